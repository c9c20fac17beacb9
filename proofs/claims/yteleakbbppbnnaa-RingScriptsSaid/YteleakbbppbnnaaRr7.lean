/-
  A ring beside the document's (Mix); within a turn of a walk.
-/
import Derived.Test.YteleakbbppbnnaaRr6
namespace Go.Proofs.Yteleakbbppbnnaa
open Go.RowKit
set_option linter.unusedVariables false
/-- A ring and the document's, that stand apart. -/
structure Mix (w : World) (p : Nat) (g : Option Nat) (q : Nat) (lg : Option Nat) (room : Nat) (xs ys : List Int) : Prop where
  a : RI w p g room xs
  b : RefI w q lg room ys
  ap : ∀ b, foot p g b → ¬ rfoot q lg b
def mfoot (p : Nat) (g : Option Nat) (q : Nat) (lg : Option Nat) : Nat → Prop := fun b => foot p g b ∨ rfoot q lg b
/-- The two behind a call. -/
def MixOut (w : World) (p : Nat) (g : Option Nat) (q : Nat) (lg : Option Nat) (room : Nat) (xs ys : List Int) (w' : World) : Prop :=
  ∃ g' lg', Mix w' p g' q lg' room xs ys ∧ Fr (mfoot p g q lg) w w' ∧ ∀ b, b < w.heap.size → mfoot p g' q lg' b → mfoot p g q lg b
section
variable {w w' w1 w2 : World} {p : Nat} {g g1 : Option Nat} {q : Nat} {lg lg1 : Option Nat} {room : Nat} {xs ys xs' ys' : List Int}
theorem Mix.fr {S : Nat → Prop} (h : Mix w p g q lg room xs ys) (hf : Fr S w w') (hS : ∀ b, mfoot p g q lg b → ¬ S b) : Mix w' p g q lg room xs ys :=
  ⟨h.a.fr hf (fun b hb => hS b (.inl hb)), h.b.fr hf (fun b hb => hS b (.inr hb)), h.ap⟩
theorem Mix.quiet (h : Mix w p g q lg room xs ys) (hf : Fr (fun _ => False) w w') : Mix w' p g q lg room xs ys := h.fr hf (fun _ _ => id)
theorem Mix.lt (h : Mix w p g q lg room xs ys) {b : Nat} (hb : mfoot p g q lg b) : b < w.heap.size := hb.elim h.a.lt h.b.lt
theorem Mix.left (h : Mix w p g q lg room xs ys) (ho : ROut w p g room xs' w') : MixOut w p g q lg room xs' ys w' := by
  obtain ⟨g', hI, hf, hg⟩ := ho
  have hn := foot_new (room := room) (xs := xs) hf hg
  refine ⟨g', lg, ⟨hI, h.b.fr hf (fun b hb e => h.ap b e hb), fun b h1 h2 => ?_⟩, hf.mono fun _ _ e => .inl e, fun b hb e => ?_⟩
  · exact h.ap b (hn b (h.b.lt h2) h1) h2
  · rcases e with e | e
    · exact .inl (hn b hb e)
    · exact .inr e
theorem Mix.right (h : Mix w p g q lg room xs ys) (ho : RefOut w q lg room ys' w') : MixOut w p g q lg room xs ys' w' := by
  obtain ⟨lg', hI, hf, hg⟩ := ho
  have hn : ∀ b, b < w.heap.size → rfoot q lg' b → rfoot q lg b := fun b hb hf => Newer.foot hg hb hf
  refine ⟨g, lg', ⟨h.a.fr hf (fun b hb e => h.ap b hb e), hI, fun b h1 h2 => ?_⟩, hf.mono fun _ _ e => .inr e, fun b hb e => ?_⟩
  · exact h.ap b h1 (hn b (h.a.lt h1) h2)
  · rcases e with e | e
    · exact .inl e
    · exact .inr (hn b hb e)
theorem MixOut.refl (h : Mix w p g q lg room xs ys) (hf : Fr (fun _ => False) w w') : MixOut w p g q lg room xs ys w' := ⟨g, lg, h.quiet hf, hf.weak _, fun _ _ e => e⟩
theorem MixOut.more (hf : Fr (mfoot p g q lg) w w1) (hn : ∀ b, b < w.heap.size → mfoot p g1 q lg1 b → mfoot p g q lg b) (h : MixOut w1 p g1 q lg1 room xs ys w2) : MixOut w p g q lg room xs ys w2 := by
  obtain ⟨g2, lg2, h, hf2, hn2⟩ := h
  exact ⟨g2, lg2, h, hf.comp hf2 hn, fun b hb e => hn b hb (hn2 b (Nat.lt_of_lt_of_le hb hf.size) e)⟩
theorem MixOut.then_ (h : MixOut w p g q lg room xs ys w1) (h2 : ∀ g1 lg1, Mix w1 p g1 q lg1 room xs ys → MixOut w1 p g1 q lg1 room xs' ys' w2) : MixOut w p g q lg room xs' ys' w2 := by
  obtain ⟨g1, lg1, a, b, c⟩ := h
  exact MixOut.more b c (h2 g1 lg1 a)
theorem MixOut.quiet (h : MixOut w p g q lg room xs ys w1) (hf : Fr (fun _ => False) w1 w2) : MixOut w p g q lg room xs ys w2 := h.then_ fun _ _ hm => MixOut.refl hm hf
end
/-- What a turn of a walk leaves. -/
def withinF (x : Int) (room : Nat) (xs : List Int) : List Int := if x = 1 then xs.drop 1 else if x = 2 then xs.set 0 2 else if x = 3 then (if xs.length + 1 ≤ room then xs ++ [3] else xs) else xs
section
variable {p : Nat} {g : Option Nat} {q : Nat} {lg : Option Nat} {room : Nat} {xs : List Int}
set_option maxHeartbeats 2000000 in
set_option maxRecDepth 4000 in
theorem within_any (w : World) (h : Mix w p g q lg room xs xs) (x : Int) :
    Calls Try.prog 44 #[.pointer (some ⟨p, 0, none⟩), .pointer (some ⟨q, 0, none⟩), .int .i64 x] w fun e w' => e = .returned (.bool true) ∧ MixOut w p g q lg room (withinF x room xs) (withinF x room xs) w' := by
  have hbd := h.a.bounds
  have hb : xs.length ≤ 65536 := by omega
  by_cases x1 : x = 1
  · subst x1
    have hw : withinF 1 room xs = xs.drop 1 := rfl
    rw [hw]
    have hp := pop_any w h.a
    have H := hide h
    obtain ⟨v, hv⟩ : ∃ v, xs.headD 0 = v := ⟨_, rfl⟩
    obtain ⟨bb, hbb⟩ : ∃ bb, decide (0 < xs.length) = bb := ⟨_, rfl⟩
    rw [hv, hbb] at hp
    have HV := hide (And.intro hv hbb)
    clear h hv hbb
    go_enter Try.func44, Try.ntmps44
    go_wp2_with fail
    refine hp.mono ?_
    rintro e w1 ⟨rfl, hk⟩
    have hO := H.out.left hk.out
    obtain ⟨g1, lg1, hM, hF, hN⟩ := hO
    have hr := rpop_any w1 hM.b hb
    rw [HV.out.1, HV.out.2] at hr
    have HM := hide (And.intro hM (And.intro hF hN))
    clear hp hk hM hF hN
    go_wp2_with fail
    refine hr.mono ?_
    rintro e w2 ⟨rfl, hk2⟩
    have HR := hide (MixOut.more HM.out.2.1 HM.out.2.2 (HM.out.1.right (RefKeep.out hk2)))
    clear hr hk2
    go_wp2_with fail
    go_ret
    exact ⟨rfl, HR.out⟩
  · by_cases x2 : x = 2
    · subst x2
      have hw : withinF 2 room xs = xs.set 0 2 := rfl
      rw [hw]
      have H := hide h
      by_cases h0 : 0 < xs.length
      · have hp := put_in w h.a 0 2 h0
        have Hb := hide hb
        have H0 := hide h0
        clear h x1 h0 hb hbd
        go_enter Try.func44, Try.ntmps44
        go_wp2_with fail
        refine hp.mono ?_
        rintro e w1 ⟨rfl, hk⟩
        obtain ⟨g1, lg1, hM, hF, hN⟩ := H.out.left hk.out
        have hr := rput_in w1 hM.b 0 2 H0.out Hb.out
        have HM := hide (And.intro hM (And.intro hF hN))
        clear hp hk hM hF hN
        go_wp2_with fail
        refine hr.mono ?_
        rintro e w2 ⟨rfl, hk2⟩
        have HR := hide (MixOut.more HM.out.2.1 HM.out.2.2 (HM.out.1.right (RefKeep.out hk2)))
        clear hr hk2
        go_wp2_with fail
        go_ret
        exact ⟨rfl, HR.out⟩
      · have hnil : xs = [] := List.eq_nil_of_length_eq_zero (by omega)
        subst hnil
        have hp := put_out w h.a 0 2 (.inr (by simp))
        have hr := rput_out w h.b 0 2 (.inr (by simp))
        clear h x1 h0 hb hbd
        go_enter Try.func44, Try.ntmps44
        go_wp2_with fail
        refine hp.mono ?_
        rintro e w1 ⟨rfl, rfl⟩
        go_wp2_with fail
        refine hr.mono ?_
        rintro e w2 ⟨rfl, rfl⟩
        go_wp2_with fail
        go_ret
        exact ⟨rfl, MixOut.refl H.out (Fr.refl _ _)⟩
    · by_cases x3 : x = 3
      · subst x3
        have H := hide h
        have hal : Fr (fun _ => False) w (w.alloc (.cells #[.int .i64 3] 3)) := (Fr.refl _ _).alloc _
        have hM0 := h.quiet hal
        by_cases hfit : xs.length + 1 ≤ room
        · have hw : withinF 3 room xs = xs ++ [3] := if_pos hfit
          rw [hw]
          have hp := push_ok _ hM0.a (some ⟨w.heap.size, 0, none⟩) 1 1 [3] (sl_one w _ _) (fun _ b ⟨o, e⟩ hb hf => by have := h.a.lt hf; cases e; omega) hfit
          have HF := hide (And.intro hal (And.intro hfit hbd.2.1))
          have HM0 := hide hM0
          clear h x1 x2 hb hbd hw hal hM0 hfit
          go_enter Try.func44, Try.ntmps44
          go_wp2_with fail
          refine hp.mono ?_
          rintro e w1 ⟨rfl, hk⟩
          obtain ⟨g1, lg1, hM, hF, hN⟩ := HM0.out.left hk
          have hal1 : Fr (fun _ => False) w1 (w1.alloc (.cells #[.int .i64 3] 3)) := (Fr.refl _ _).alloc _
          have hM1 := hM.quiet hal1
          have hr := rpush_ok _ hM1.b (some ⟨w1.heap.size, 0, none⟩) 1 1 [3] (sl_one w1 _ _) HF.out.2.1 HF.out.2.2
          have HM := hide (And.intro hM1 (And.intro hF (And.intro hN hal1)))
          clear hp hk hM hF hN hal1 hM1
          go_wp2_with fail
          refine hr.mono ?_
          rintro e w2 ⟨rfl, hk2⟩
          have HR := hide (MixOut.more (HF.out.1.weak _) (fun _ _ e => e) (MixOut.more HM.out.2.1 HM.out.2.2.1 (MixOut.more (HM.out.2.2.2.weak _) (fun _ _ e => e) (HM.out.1.right hk2))))
          clear hr hk2
          go_wp2_with fail
          go_ret
          exact ⟨rfl, HR.out⟩
        · have hw : withinF 3 room xs = xs := if_neg hfit
          rw [hw]
          have hp := push_full _ hM0.a (some ⟨w.heap.size, 0, none⟩) 1 1 hfit
          have HF := hide (And.intro hal (And.intro hfit (And.intro hb hbd.2.1)))
          have HM0 := hide hM0
          clear h x1 x2 hb hbd hw hal hM0 hfit
          go_enter Try.func44, Try.ntmps44
          go_wp2_with fail
          refine hp.mono ?_
          rintro e w1 ⟨rfl, hk⟩
          have hal1 : Fr (fun _ => False) w1 (w1.alloc (.cells #[.int .i64 3] 3)) := (Fr.refl _ _).alloc _
          have hr := rpush_full _ ((HM0.out.quiet hk).quiet hal1).b (some ⟨w1.heap.size, 0, none⟩) 1 1 HF.out.2.1 HF.out.2.2.1 (by decide) HF.out.2.2.2
          have HK := hide ((HF.out.1.trans hk).trans hal1)
          clear hp hk hal1
          go_wp2_with fail
          refine hr.mono ?_
          rintro e w2 ⟨rfl, hk2⟩
          have HR := hide (MixOut.refl H.out (HK.out.trans hk2))
          clear hr hk2
          go_wp2_with fail
          go_ret
          exact ⟨rfl, HR.out⟩
      · have hw : withinF x room xs = xs := by unfold withinF; rw [if_neg x1, if_neg x2, if_neg x3]
        rw [hw]
        have d1 : (x == 1) = false := beq_eq_false_iff_ne.2 x1
        have d2 : (x == 2) = false := beq_eq_false_iff_ne.2 x2
        have d3 : (x == 3) = false := beq_eq_false_iff_ne.2 x3
        have H := hide h
        clear h hw hb hbd
        go_enter Try.func44, Try.ntmps44
        go_wp2_with fail
        go_ret
        exact ⟨rfl, MixOut.refl H.out (Fr.refl _ _)⟩
end
end Go.Proofs.Yteleakbbppbnnaa
