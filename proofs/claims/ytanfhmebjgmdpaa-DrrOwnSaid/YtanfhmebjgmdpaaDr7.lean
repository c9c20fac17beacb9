/-
  drr's law: awake.
-/
import Derived.Test.YtanfhmebjgmdpaaDr6
namespace Go.Proofs.Ytanfhmebjgmdpaa
open Go.RowKit Go.Shelf
set_option linter.unusedVariables false
set_option linter.unusedSimpArgs false
attribute [local go_sem] Oper.semAt_some

/-- A block of cells is none that is no cells. -/
theorem row_ne {W W' : World} {row : Option Nat} {b : Nat} {t : TypeId} {cs : Array Value} (hb : Bl W b t cs) (hr : ∀ r, row = some r → ∃ o : Obj, W.heap[r]? = some o ∧ o.isCells = false) : ¬ some b = row := fun e => by
  obtain ⟨o, ho, hc⟩ := hr b e.symm
  unfold Bl at hb
  rw [hb] at ho; cases ho; cases hc
section
variable {X : Type} {T : DT} {sz : Nat} {enc : X → List Value} {cost : X → Int} {d L : Nat} {D : Int} {s : DS X} {W W' : World}
theorem DrAt.own {row : Option Nat} (h : DrAt T sz enc cost W d L D s) (hg : W.grownBy W' row) (hr : ∀ r, row = some r → ∃ o : Obj, W.heap[r]? = some o ∧ o.isCells = false) : DrAt T sz enc cost W' d L D s :=
  h.fr (Fr.ofGrown hg) fun x hx e => by
    obtain ⟨t, cs, hb, _⟩ := h.ty hx
    exact row_ne (W' := W') hb hr e
theorem DrAt.keeps (h : DrAt T sz enc cost W d L D s) (hf : Fr (drfoot d L s) W W') (B : Nat) : KeepsFrom B W W' := hf.keepsFrom fun k hk => by
  obtain ⟨t, cs, hb, _⟩ := h.ty hk
  exact .inr ⟨cs, t, (0, 0), hb⟩
end
theorem Bl.own {W W' : World} {row : Option Nat} {b : Nat} {t : TypeId} {cs : Array Value} (h : Bl W b t cs) (hg : W.grownBy W' row) (hr : ∀ r, row = some r → ∃ o : Obj, W.heap[r]? = some o ∧ o.isCells = false) : Bl W' b t cs :=
  h.fr (Fr.ofGrown hg) (row_ne (W' := W') h hr)
theorem Fr.ownFrom {W0 W W' : World} {row : Option Nat} {n B : Nat} (h : Fr (fun x => n ≤ x) W0 W) (hg : W.grownBy W' row) (hB : n ≤ B) (hr : ∀ r, row = some r → B ≤ r ∧ ∃ o : Obj, W.heap[r]? = some o ∧ o.isCells = false) : Fr (fun x => n ≤ x) W0 W' :=
  h.trans ((Fr.ofGrown hg).mono fun k _ e => by have := (hr k e.symm).1; omega)
namespace Qj
/-- The server of awake: line by line. -/
def aw0 (p0 p1 : Nat) (g0 g1 : Option Nat) : DS X := ⟨8, 3, [⟨p0, g0, [((1, 5), 5), ((2, 5), 5)], 0⟩, ⟨p1, g1, [((3, 3), 3)], 0⟩], false⟩
def awN (p0 p1 : Nat) (g0 g1 : Option Nat) : Nat → RSt X
  | 0 => ⟨⟨8, 3, [⟨p0, g0, [((1, 5), 5), ((2, 5), 5)], 0⟩, ⟨p1, g1, [((3, 3), 3)], 0⟩], false⟩, 0, false, none, false⟩
  | 1 => ⟨⟨8, 3, [⟨p0, g0, [((2, 5), 5)], 3⟩, ⟨p1, g1, [((3, 3), 3)], 0⟩], true⟩, 0, true, some (0, ((1, 5), 5)), false⟩
  | 2 => ⟨⟨8, 3, [⟨p0, g0, [((2, 5), 5)], 3⟩, ⟨p1, g1, [((3, 3), 3)], 0⟩], true⟩, 0, true, none, false⟩
  | 3 => ⟨⟨8, 3, [⟨p0, g0, [((2, 5), 5)], 3⟩, ⟨p1, g1, [], 0⟩], true⟩, 1, true, some (1, ((3, 3), 3)), false⟩
  | 4 => ⟨⟨8, 3, [⟨p0, g0, [((2, 5), 5)], 3⟩, ⟨p1, g1, [], 0⟩], true⟩, 1, true, none, false⟩
  | _ => ⟨⟨8, 3, [⟨p0, g0, [((2, 5), 5)], 3⟩, ⟨p1, g1, [], 0⟩], false⟩, 2, false, none, true⟩
def awS : Nat → Int | 0 => 0 | 1 => 0 | 2 => 1 | 3 => 1 | _ => 14
section
variable (p0 p1 : Nat) (g0 g1 : Option Nat)
theorem aw1 : (awN p0 p1 g0 g1 0).go xc = awN p0 p1 g0 g1 1 := by rfl
theorem aw3 : (awN p0 p1 g0 g1 2).go xc = awN p0 p1 g0 g1 3 := by rfl
theorem aw5 : (awN p0 p1 g0 g1 4).go xc = awN p0 p1 g0 g1 5 := by rfl
end
/-- The round's invariant. -/
def AJ (w0 : World) (bx d L so p0 p1 : Nat) (g0 g1 : Option Nat) (r : RSt X) (W : World) : Prop :=
  RH bx d L 100 r W ∧ (∃ k, k ≤ 5 ∧ r = awN p0 p1 g0 g1 k ∧ Bl W so 3 #[.int .i64 (awS k)]) ∧ Fr (fun x => w0.heap.size ≤ x) w0 W ∧ ∀ x, drfoot d L (aw0 p0 p1 g0 g1) x → w0.heap.size ≤ x
theorem addout {w w' : World} {d L : Nat} {D : Int} {s : DS X} {i : Nat} {l : LN X} {x : X} {n : Nat} (hl : s.lines[i]? = some l) (h : AddOut w d L D s i l x w') (hft : ∀ y, drfoot d L s y → n ≤ y) (hn : n ≤ w.heap.size) :
    ∃ g', DrrAt w' d L D (s.put i { l with things := l.things ++ [x], g := g' }) ∧ Fr (fun y => n ≤ y) w w' ∧ ∀ y, drfoot d L (s.put i { l with things := l.things ++ [x], g := g' }) y → n ≤ y := by
  obtain ⟨g', hat, hf, hg⟩ := h
  have hi : i < s.lines.length := (List.getElem?_eq_some_iff.1 hl).1
  refine ⟨g', hat, hf.mono fun y _ hy => hft y hy, fun y hy => ?_⟩
  rcases hy with rfl | rfl | ⟨b, hb, hx⟩
  · exact hft _ (.inl rfl)
  · exact hft _ (.inr (.inl rfl))
  · obtain ⟨k, hk⟩ := List.mem_iff_getElem?.1 hb
    by_cases hki : k = i
    · subst hki
      have h2 : (s.lines.set k { l with things := l.things ++ [x], g := g' })[k]? = some b := hk
      rw [List.getElem?_set_self hi] at h2
      cases h2
      rcases hx with hx | hx
      · exact hft y (.inr (.inr ⟨l, List.mem_of_getElem? hl, .inl hx⟩))
      · rcases hg with e | ⟨b, e, hb⟩
        · exact hft y (.inr (.inr ⟨l, List.mem_of_getElem? hl, .inr (hx.trans e)⟩))
        · have h5 : some y = some b := hx.trans e
          cases h5; omega
    · have h2 : (s.lines.set i { l with things := l.things ++ [x], g := g' })[k]? = some b := hk
      rw [List.getElem?_set_ne (fun e => hki e.symm)] at h2
      exact hft y (.inr (.inr ⟨b, List.mem_of_getElem? h2, hx⟩))
theorem aw_foot (d L p0 p1 : Nat) (g0 g1 : Option Nat) : ∀ k, k ≤ 5 → ∀ x, drfoot d L (awN p0 p1 g0 g1 k).s x → drfoot d L (aw0 p0 p1 g0 g1) x := by
  intro k hk x hx
  have h : ∀ (a b : LN X) q r z, a.p = p0 → a.g = g0 → b.p = p1 → b.g = g1 → drfoot d L (⟨q, r, [a, b], z⟩ : DS X) x → drfoot d L (aw0 p0 p1 g0 g1) x := by
    rintro a b q r z rfl rfl rfl rfl (h | h | ⟨l, hl, h⟩)
    · exact .inl h
    · exact .inr (.inl h)
    · simp only [List.mem_cons, List.not_mem_nil, or_false] at hl
      rcases hl with rfl | rfl
      · exact .inr (.inr ⟨_, List.mem_cons_self, h⟩)
      · exact .inr (.inr ⟨_, List.mem_cons_of_mem _ List.mem_cons_self, h⟩)
  match k, hk with
  | 0, _ => exact hx
  | 1, _ => exact h _ _ _ _ _ rfl rfl rfl rfl hx
  | 2, _ => exact h _ _ _ _ _ rfl rfl rfl rfl hx
  | 3, _ => exact h _ _ _ _ _ rfl rfl rfl rfl hx
  | 4, _ => exact h _ _ _ _ _ rfl rfl rfl rfl hx
  | 5, _ => exact h _ _ _ _ _ rfl rfl rfl rfl hx
theorem so_ne {w : World} {d L so : Nat} {D : Int} {s : DS X} {cs : Array Value} (h : DrrAt w d L D s) (hb : Bl w so 3 cs) : ¬ drfoot d L s so := fun e => by
  obtain ⟨t, cs', hc, ht⟩ := h.ty e
  have := (hb.same hc).2
  subst this
  revert ht
  decide
theorem AJ.turn {w0 : World} {bx d L so p0 p1 : Nat} {g0 g1 : Option Nat} {r r' : RSt X} {W W' : World} (h : AJ w0 bx d L so p0 p1 g0 g1 r W) (ht : TnY bx d L 100 r W r' W') (B : Nat) : AJ w0 bx d L so p0 p1 g0 g1 r' W' ∧ KeepsFrom B W W' := by
  obtain ⟨hrh, ⟨k, hk, rfl, hso⟩, hf, hft⟩ := h
  obtain ⟨hp, hfin, rfl, hrh', hfr⟩ := ht
  have hne := so_ne hrh.at_ hso
  refine ⟨⟨hrh', ?_, hf.trans (hfr.mono fun x _ hx => hft x (aw_foot d L p0 p1 g0 g1 k hk x hx)), hft⟩, hrh.at_.keeps hfr _⟩
  have hso' := hso.fr hfr hne
  match k, hk with
  | 0, _ => exact ⟨1, by omega, aw1 _ _ _ _, hso'⟩
  | 1, _ => cases hp
  | 2, _ => exact ⟨3, by omega, aw3 _ _ _ _, hso'⟩
  | 3, _ => cases hp
  | 4, _ => exact ⟨5, by omega, aw5 _ _ _ _, hso'⟩
  | 5, _ => cases hfin
theorem AJ.own {w0 : World} {bx d L so p0 p1 : Nat} {g0 g1 : Option Nat} {B : Nat} (hB : w0.heap.size ≤ B) : OwnFrom B (AJ w0 bx d L so p0 p1 g0 g1) := by
  rintro s W W' row ⟨hrh, ⟨k, hk, rfl, hso⟩, hf, hft⟩ hg hr
  have hr' : ∀ r, row = some r → ∃ o : Obj, W.heap[r]? = some o ∧ o.isCells = false := fun r e => (hr r e).2
  exact ⟨⟨hrh.at_.own hg hr', hrh.box.own hg hr', hrh.ok, hrh.busy⟩, ⟨k, hk, rfl, hso.own hg hr'⟩, hf.ownFrom hg hB hr, hft⟩
theorem AJ.body {w0 : World} {bx d L so p0 p1 : Nat} {g0 g1 : Option Nat} {k : Nat} {W : World} (hk : k < 5) (h : AJ w0 bx d L so p0 p1 g0 g1 (awN p0 p1 g0 g1 k) W) (hso : Bl W so 3 #[.int .i64 (awS k)]) (hp : (awN p0 p1 g0 g1 k).pend ≠ none) (hw : w0.heap.size ≤ so) {B : Nat} (hB : so < B) :
    KeepsFrom B W (W.setCell ⟨so, 0, none⟩ (.int .i64 (awS (k + 1)))) ∧ KpY W (W.setCell ⟨so, 0, none⟩ (.int .i64 (awS (k + 1)))) ∧ ∃ s', AfY (awN p0 p1 g0 g1 k) (0, zeroX) s' ∧ AJ w0 bx d L so p0 p1 g0 g1 s' (W.setCell ⟨so, 0, none⟩ (.int .i64 (awS (k + 1)))) := by
  obtain ⟨hrh, -, hf, hft⟩ := h
  have hF : Fr (fun x => x = so) W (W.setCell ⟨so, 0, none⟩ (.int .i64 (awS (k + 1)))) := (Fr.refl _ _).setAt _
  have hne := so_ne hrh.at_ hso
  have hbx : bx ≠ so := hrh.box.apart hso (by decide)
  refine ⟨hF.keepsFrom fun x hx => .inl (by omega), fun b cs hb => hb.far (hb.apart hso (by decide)) _, _, rfl, ⟨hrh.at_.fr hF fun x hx e => hne (e ▸ hx), hrh.box.far hbx _, ⟨hrh.ok.small⟩, hrh.busy⟩, ⟨k + 1, by omega, ?_, hso.set 0 _⟩, hf.setIn (.inl hw) _, hft⟩
  match k, hk with
  | 0, _ => exact absurd rfl hp
  | 1, _ => rfl
  | 2, _ => exact absurd rfl hp
  | 3, _ => rfl
  | 4, _ => exact absurd rfl hp
theorem func_nil (fn : Fn) (x y : Array Value) (W : World) : (binOp .eql 48 (.func fn x y) .nilFunc).run Try.prog W = .ok (.bool false) W := by
  kernel_rfl
set_option maxHeartbeats 4000000 in
set_option maxRecDepth 100000 in
theorem awake_any (w : World) : Calls Try.prog 8 #[] w fun e w' => e = .returned (.bool true) ∧ Fr (fun _ => False) w w' := by
  refine (callsIn_wide (n := 5)).1 ?_
  refine callsIn_of_wp_marks Try.func8 rfl trivial ?_ rfl
  simp only [Try.ntmps8, List.size_toArray, List.length_nil, Nat.reduceSub, Array.replicate_succ, Array.replicate_zero, List.push_toArray, List.append_toArray, List.nil_append, List.cons_append]
  refine wpIn_wide.2 ?_
  go_wp2_with fail
  refine (New_ok w 2 3 8 (by omega) (by omega) (by omega) (by omega) (by omega) (by omega)).mono ?_
  rintro e w1 ⟨d, L, s, rfl, hm⟩
  obtain ⟨hat, hq, hrm, hbz, hlen, hfe, hf1, hft⟩ := hm
  obtain ⟨l0, l1, hls⟩ : ∃ l0 l1, s.lines = [l0, l1] := by
    match h : s.lines, hlen with
    | [a, b], _ => exact ⟨a, b, rfl⟩
  have h0 := hfe l0 (by rw [hls]; simp)
  have h1 := hfe l1 (by rw [hls]; simp)
  obtain ⟨q, room, lines, busy⟩ := s
  obtain ⟨p0, g0, t0, f0⟩ := l0
  obtain ⟨p1, g1, t1, f1⟩ := l1
  simp only at hq hrm hbz hls h0 h1
  obtain ⟨rfl, rfl⟩ := h0
  obtain ⟨rfl, rfl⟩ := h1
  subst hq hrm hbz hls
  have hat := hat 101 (by omega) (by omega)
  have HF1 := hide hf1
  have HFt := hide hft
  have HAt := hide hat
  clear hf1 hft hat hfe hlen
  go_wp2_with fail
  refine (Add_ok w1 HAt.out 0 ⟨p0, g0, [], 0⟩ ((1, 5), 5) rfl rfl (by decide) (by show 0 < 3; omega)).mono ?_
  rintro e w2 ⟨rfl, ha2⟩
  obtain ⟨g0', hat2, hf2, hft2⟩ := addout rfl ha2 HFt.out HF1.out.size
  have HA2 : Hid (DrrAt w2 d L 101 ⟨8, 3, [⟨p0, g0', [((1, 5), 5)], 0⟩, ⟨p1, g1, [], 0⟩], false⟩ ∧ Fr (fun y => w.heap.size ≤ y) w w2 ∧ ∀ y, drfoot d L (⟨8, 3, [⟨p0, g0', [((1, 5), 5)], 0⟩, ⟨p1, g1, [], 0⟩], false⟩ : DS X) y → w.heap.size ≤ y) := ⟨hat2, (HF1.out.weak _).trans hf2, hft2⟩
  clear ha2 hat2 hf2 hft2 HAt HFt HF1 hat
  go_wp2_with fail
  refine (Add_ok w2 HA2.out.1 0 ⟨p0, g0', [((1, 5), 5)], 0⟩ ((2, 5), 5) rfl rfl (by decide) (by show 1 < 3; omega)).mono ?_
  rintro e w3 ⟨rfl, ha3⟩
  obtain ⟨g0'', hat3, hf3, hft3⟩ := addout rfl ha3 HA2.out.2.2 HA2.out.2.1.size
  have HA3 : Hid (DrrAt w3 d L 101 ⟨8, 3, [⟨p0, g0'', [((1, 5), 5), ((2, 5), 5)], 0⟩, ⟨p1, g1, [], 0⟩], false⟩ ∧ Fr (fun y => w.heap.size ≤ y) w w3 ∧ ∀ y, drfoot d L (⟨8, 3, [⟨p0, g0'', [((1, 5), 5), ((2, 5), 5)], 0⟩, ⟨p1, g1, [], 0⟩], false⟩ : DS X) y → w.heap.size ≤ y) := ⟨hat3, HA2.out.2.1.trans hf3, hft3⟩
  clear ha3 hat3 hf3 hft3 HA2
  go_wp2_with fail
  refine (Add_ok w3 HA3.out.1 1 ⟨p1, g1, [], 0⟩ ((3, 3), 3) rfl rfl (by decide) (by show 0 < 3; omega)).mono ?_
  rintro e w4 ⟨rfl, ha4⟩
  obtain ⟨g1', hat4, hf4, hft4⟩ := addout rfl ha4 HA3.out.2.2 HA3.out.2.1.size
  have HA4 : Hid (DrrAt w4 d L 101 (aw0 p0 p1 g0'' g1') ∧ Fr (fun y => w.heap.size ≤ y) w w4 ∧ ∀ y, drfoot d L (aw0 p0 p1 g0'' g1') y → w.heap.size ≤ y) := ⟨hat4, HA3.out.2.1.trans hf4, hft4⟩
  clear ha4 hat4 hf4 hft4 HA3
  go_wp2_with fail
  refine (Round_any _ _ ⟨_, rfl⟩).mono ?_
  rintro e w5 ⟨rfl, hw5⟩
  have HF5 : Hid (Fr (fun _ => False) w4 w5) := by show Fr _ _ _; rw [← hw5]; exact ((Fr.refl _ _).alloc _).alloc _
  have hso : Bl w5 w4.heap.size 3 #[.int .i64 0] := by rw [← hw5]; exact (Bl.new _ _ _).alloc _
  have hbx : Bl w5 (w4.heap.size + 1) tPD #[.pointer (some ⟨d, 0, none⟩)] := by rw [← hw5]; exact Bl.newAt (by simp)
  have HB := hide (And.intro hso hbx)
  have hsz5 : w.heap.size ≤ w4.heap.size := HA4.out.2.1.size
  clear hso hbx hw5
  have hfn := func_nil
  go_wp2_with fail
  clear hfn
  have hat5 : DrrAt w5 d L 1124 (aw0 p0 p1 g0'' g1') := (HA4.out.1.quiet HF5.out).up (by omega) (by omega)
  have hF5w : Fr (fun y => w.heap.size ≤ y) w w5 := HA4.out.2.1.trans (HF5.out.weak _)
  have hRH0 : RH (w4.heap.size + 1) d L 100 ⟨aw0 p0 p1 g0'' g1', 0, false, none, false⟩ w5 := ⟨hat5, HB.out.2, ⟨fun j l hl _ => by
    have hm : l ∈ (aw0 p0 p1 g0'' g1').lines := List.mem_of_getElem? hl
    simp only [aw0, List.mem_cons, List.not_mem_nil, or_false] at hm
    rcases hm with rfl | rfl <;> (show (0 : Int) ≤ 100; omega)⟩, fun e => by cases e⟩
  have hJ0 : AJ w (w4.heap.size + 1) d L w4.heap.size p0 p1 g0'' g1' ⟨aw0 p0 p1 g0'' g1', 0, false, none, false⟩ w5 := ⟨hRH0, ⟨0, by omega, rfl, HB.out.1⟩, hF5w, HA4.out.2.2⟩
  have HJ0 := hide hJ0
  have hs56 : w4.heap.size + 2 ≤ w5.heap.size := by have := HB.out.2.lt; omega
  clear hat5 hF5w hRH0 hJ0
  obtain ⟨so, hso⟩ : ∃ so, w4.heap.size = so := ⟨_, rfl⟩
  rw [hso] at HJ0 hs56 HB hsz5
  simp only [hso]
  clear hso HF5 HA4
  refine (wpIn_wide (n := 5)).1 ?_
  refine wpIn_rangeFunc_J rfl (by omega) (gf := 32) (lb := #[.pointer (some ⟨so + 1, 0, none⟩)]) rfl trivial (enters_of Try.func32 (by kernel_rfl) rfl)
    (round_seq (bx := so + 1) (d := d) (L := L) (D := 100) 4 (aw0 p0 p1 g0'' g1') rfl (by omega)) (fun x => rfl) (fun h k b cs hb => k b cs (h b cs hb)) (fun W l o o' hl ho b cs hb => hb.own (grownBy_putObj' W l o') (fun r e => by cases e; exact ⟨o, hl, ho⟩))
    (AJ w (so + 1) d L so p0 p1 g0'' g1') (fun _ _ _ => False) (fun _ _ h => h.1) (fun _ _ _ h => h.elim) ?turn (fun _ _ _ _ _ h => h.elim) ?own (fun _ _ _ _ _ h => h.elim) HJ0.out
    (fun x a' W => ∃ B, a' = { tmps := #[.bool false, .pointer (some ⟨d, 0, none⟩), .int .i64 0, .int .i64 0, .int .i64 0, .int .i64 0, .pointer (some ⟨so, 0, none⟩), .func (.func 32) #[] #[.pointer (some ⟨so + 1, 0, none⟩)], .int .i64 (x.1 : Int), .pointer (some ⟨B, 0, none⟩),
      .tuple #[.pointer (some ⟨d, 0, none⟩), .int .i64 0], .tuple #[.pointer (some ⟨d, 0, none⟩), .int .i64 0], .pointer (some ⟨d, 0, none⟩), .int .i64 0, .int .i64 0, .bool false, .bool false, .pointer (some ⟨d, 0, none⟩), .bool false, .bool false, .pointer (some ⟨d, 0, none⟩), .agg #[.int .i64 1, .int .i64 5], .int .i64 0,
      .pointer (some ⟨d, 0, none⟩), .agg #[.int .i64 2, .int .i64 5], .int .i64 0, .pointer (some ⟨d, 0, none⟩), .agg #[.int .i64 3, .int .i64 3], .int .i64 0, .pointer (some ⟨d, 0, none⟩), .func (.func 32) #[] #[.pointer (some ⟨so + 1, 0, none⟩)], .func (.func 32) #[] #[.pointer (some ⟨so + 1, 0, none⟩)], .bool false, .func (.func 32) #[] #[.pointer (some ⟨so + 1, 0, none⟩)],
      .int .i64 (x.1 : Int), .agg #[.int .i64 x.2.1.1, .int .i64 x.2.1.2], undef, undef, undef, undef, undef, undef, undef, undef, undef, undef, undef, undef, undef, undef, undef, undef, undef, undef, undef, undef, undef, undef, undef, undef, undef, undef, undef, undef, undef, undef, undef], defers := [] } ∧ Bl W B 39 #[.int .i64 x.2.1.1, .int .i64 x.2.1.2])
    (fun x a' _ W W' row ⟨B, e, hb⟩ hg hr => ⟨B, e, hb.own hg (fun r e => (hr r e).2)⟩) ?assign ?body ?done (fun _ _ _ _ _ _ h => h.elim)
  case turn => exact fun s W s' W' hj ht => AJ.turn hj ht _
  case own => exact AJ.own (by omega)
  case assign =>
    intro l s x W K hJ hR hK
    simp only [encY, tv]
    gi_wp2
    refine hK _ _ ((KeepsOthers.alloc W _).from _) (fun b cs hb => hb.alloc _) ?_ ⟨_, rfl, Bl.new _ _ _⟩
    exact (AJ.own (B := w5.heap.size) (by omega)).alloc _ hJ
  case body =>
    rintro l s x a' W hl - hJ ⟨B, rfl, hB⟩ hR
    have hJ' := hide hJ
    obtain ⟨hrh, ⟨k, hk, rfl, hso⟩, hf, hft⟩ := hJ
    obtain ⟨hp, -, -⟩ := hR
    have hso' := hide hso
    have c0 : W.cell? ⟨so, 0, none⟩ = some (.int .i64 (awS k)) := hso.cell' rfl
    have z0 := hso.free 0
    have b0 : W.cell? ⟨B, 0, none⟩ = some (.int .i64 x.2.1.1) := hB.cell' rfl
    have hsl : so < w5.heap.size := by omega
    clear hrh hf hft hso hB
    match k, hk with
    | 0, _ => cases hp
    | 2, _ => cases hp
    | 4, _ => cases hp
    | 5, _ => cases hp
    | 1, _ =>
      obtain rfl : x = (0, ((1, 5), 5)) := by cases hp; rfl
      have c0' : W.cell? ⟨so, 0, none⟩ = some (.int .i64 0) := c0
      have b0' : W.cell? ⟨B, 0, none⟩ = some (.int .i64 1) := b0
      have fin := hide (AJ.body (by omega) hJ'.out hso'.out (by rw [hp]; simp) hsz5 hsl)
      clear c0 b0 hJ' hso' hp
      gi_wp2
      exact fin.out
    | 3, _ =>
      obtain rfl : x = (1, ((3, 3), 3)) := by cases hp; rfl
      have c0' : W.cell? ⟨so, 0, none⟩ = some (.int .i64 1) := c0
      have b0' : W.cell? ⟨B, 0, none⟩ = some (.int .i64 3) := b0
      have fin := hide (AJ.body (by omega) hJ'.out hso'.out (by rw [hp]; simp) hsz5 hsl)
      clear c0 b0 hJ' hso' hp
      gi_wp2
      exact fin.out
  case done =>
    intro D s W hD hfin hJ hW
    obtain ⟨hrh, ⟨k, hk, rfl, hso⟩, hf, hft⟩ := hJ
    obtain rfl : k = 5 := by
      match k, hk with
      | 0, _ => cases hfin
      | 1, _ => cases hfin
      | 2, _ => cases hfin
      | 3, _ => cases hfin
      | 4, _ => cases hfin
      | 5, _ => rfl
    have c0 : W.cell? ⟨so, 0, none⟩ = some (.int .i64 14) := hso.cell' rfl
    have hd0 := Deficit_in W hrh.at_ 0 ⟨p0, g0'', [((2, 5), 5)], 3⟩ rfl
    have hd1 := Deficit_in W hrh.at_ 1 ⟨p1, g1', [], 0⟩ rfl
    have HF := hide hf
    have HW := hide hW
    clear hrh hso hf hft hW hfin hk
    go_wp2_with fail
    refine hd0.mono ?_
    rintro e w6 ⟨rfl, rfl⟩
    go_wp2_with fail
    refine hd1.mono ?_
    rintro e w6 ⟨rfl, rfl⟩
    go_wp2_with fail
    refine ⟨by simp, .inl ⟨_, _, rfl, run_takeDeferred HW.out, ?_⟩⟩
    exact ⟨_, results_tmp rfl _ _ _, rfl, (HF.out.trans ((Fr.ofGrown (grownBy_putObj' W D _)).mono fun x _ e => by cases e; omega)).mono fun x hx e => by omega⟩
end Qj
end Go.Proofs.Ytanfhmebjgmdpaa
