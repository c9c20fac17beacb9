/-
  ring.Ring[int]: Pop; the ring's words for its callers (RI, ROut).
-/
import Derived.Test.YteleakbbppbnnaaRg2
namespace Go.Proofs.Yteleakbbppbnnaa
open Go.RowKit
set_option linter.unusedVariables false

/-- Block p is a ring of that room that holds xs; its cells are in block g. -/
def RI (w : World) (p : Nat) (g : Option Nat) (room : Nat) (xs : List Int) : Prop := ∃ C cc s, s.room = room ∧ s.xs = xs ∧ RingAt w p C cc g s
/-- The ring behind a call that may turn it. -/
def ROut (w : World) (p : Nat) (g : Option Nat) (room : Nat) (xs : List Int) (w' : World) : Prop :=
  ∃ g', RI w' p g' room xs ∧ Fr (foot p g) w w' ∧ (g' = g ∨ ∃ b, g' = some b ∧ w.heap.size ≤ b)
theorem RI.fr {w w' : World} {p : Nat} {g : Option Nat} {room : Nat} {xs : List Int} {S : Nat → Prop} (h : RI w p g room xs) (hf : Fr S w w') (hS : ∀ b, foot p g b → ¬ S b) : RI w' p g room xs := by
  obtain ⟨C, cc, s, e1, e2, h⟩ := h
  exact ⟨C, cc, s, e1, e2, h.fr hf (hS p (.inl rfl)) (fun b hb => hS b (.inr hb.symm))⟩
theorem RI.lt {w : World} {p : Nat} {g : Option Nat} {room : Nat} {xs : List Int} (h : RI w p g room xs) {b : Nat} (hb : foot p g b) : b < w.heap.size := by
  obtain ⟨C, cc, s, e1, e2, h⟩ := h
  rcases hb with rfl | hb
  · exact h.bl.lt
  · exact h.ow.lt b hb.symm
theorem RI.bounds {w : World} {p : Nat} {g : Option Nat} {room : Nat} {xs : List Int} (h : RI w p g room xs) : 1 ≤ room ∧ room ≤ 65536 ∧ xs.length ≤ room := by
  obtain ⟨C, cc, s, rfl, rfl, h⟩ := h
  have := h.ok.r1; have := h.ok.r2; have := h.ok.l1; have := h.ok.l2
  omega
theorem ROut.refl {w w' : World} {p : Nat} {g : Option Nat} {room : Nat} {xs : List Int} (h : RI w p g room xs) (hf : Fr (fun _ => False) w w') : ROut w p g room xs w' :=
  ⟨g, h.fr hf (fun _ _ => id), hf.weak _, .inl rfl⟩
/-- The ring behind a call that may turn it, but not where it lies. -/
def RKeep (w : World) (p : Nat) (g : Option Nat) (room : Nat) (xs : List Int) (w' : World) : Prop := RI w' p g room xs ∧ Fr (foot p g) w w'
theorem RKeep.out {w w' : World} {p : Nat} {g : Option Nat} {room : Nat} {xs : List Int} (h : RKeep w p g room xs w') : ROut w p g room xs w' := ⟨g, h.1, h.2, .inl rfl⟩
theorem RKeep.ofDrop {w w' : World} {p : Nat} {C : Option Addr} {cc : Nat} {g : Option Nat} {s : RS} {k : Nat} (h : DropOut w p C cc g s k w') : RKeep w p g s.room (s.xs.drop k) w' := by
  obtain ⟨s', e1, e2, e3, h, hf⟩ := h
  exact ⟨⟨C, cc, s', e1, e2, h⟩, hf⟩
theorem foot_new {w w1 : World} {p : Nat} {g g1 : Option Nat} {room : Nat} {xs : List Int} (h : Fr (foot p g) w w1) (hg : g1 = g ∨ ∃ b, g1 = some b ∧ w.heap.size ≤ b) : ∀ i, i < w.heap.size → foot p g1 i → foot p g i := by
  intro i hi h1
  rcases h1 with rfl | h1
  · exact .inl rfl
  · rcases hg with rfl | ⟨b, rfl, hb⟩
    · exact .inr h1
    · cases h1; omega
theorem ROut.trans {w w1 w2 : World} {p : Nat} {g g1 : Option Nat} {room : Nat} {xs ys : List Int} (hf : Fr (foot p g) w w1) (hg : g1 = g ∨ ∃ b, g1 = some b ∧ w.heap.size ≤ b) (h : ROut w1 p g1 room ys w2) : ROut w p g room ys w2 := by
  obtain ⟨g2, h2, f2, k2⟩ := h
  refine ⟨g2, h2, hf.comp f2 (foot_new (room := room) (xs := xs) hf hg), ?_⟩
  rcases k2 with rfl | ⟨b, rfl, hb⟩
  · exact hg
  · exact .inr ⟨b, rfl, Nat.le_trans hf.size hb⟩
set_option maxHeartbeats 400000 in
theorem pop_any {p : Nat} {g : Option Nat} {room : Nat} {xs : List Int} (w : World) (h : RI w p g room xs) :
    Calls Try.prog 15 #[.pointer (some ⟨p, 0, none⟩)] w fun e w' => e = .returned (.tuple #[.int .i64 (xs.headD 0), .bool (decide (0 < xs.length))]) ∧ RKeep w p g room (xs.drop 1) w' := by
  obtain ⟨C, cc, s, rfl, rfl, h⟩ := h
  by_cases h0 : 0 < s.xs.length
  · have hat := at_in w h 0 h0
    have hx : s.xs.headD 0 = s.xs[0] := by
      obtain ⟨a, l, hh⟩ := List.exists_cons_of_ne_nil (List.ne_nil_of_length_pos h0)
      simp [hh]
    rw [decide_eq_true h0, hx]
    clear hx
    obtain ⟨x, hx⟩ : ∃ x, s.xs[0] = x := ⟨_, rfl⟩
    rw [hx] at hat ⊢
    have h1 : Hid (1 = if (1 : Int) < 1 then 0 else min (1 : Int).toNat s.xs.length) := by show _ = _; rw [if_neg (by omega)]; simp; omega
    clear hx h0
    go_enter Try.func15, Try.ntmps15
    go_wp2_with fail
    refine hat.mono ?_
    rintro e w' ⟨rfl, m, rfl⟩
    clear hat
    have hr : RingAt (w.drewN m) p C cc g s := h.fr ((Fr.refl (fun _ => False) w).drewN m) id (fun _ _ => id)
    go_wp2_with fail
    refine (drop_any _ hr 1 1 h1.out).mono ?_
    rintro e w' ⟨rfl, hd⟩
    go_wp2_with fail
    go_ret2
    have hd' := RKeep.ofDrop hd
    exact ⟨rfl, hd'.1, ((Fr.refl _ _).drewN m).trans hd'.2⟩
  · have h00 : s.xs = [] := List.eq_nil_of_length_eq_zero (by omega)
    have hat := at_out w 0 h.bl (.inr (by omega))
    rw [decide_eq_false h0, h00]
    have h1 : Hid (0 = if (1 : Int) < 1 then 0 else min (1 : Int).toNat s.xs.length) := by show _ = _; rw [if_neg (by omega)]; simp; omega
    clear h0
    go_enter Try.func15, Try.ntmps15
    go_wp2_with fail
    refine hat.mono ?_
    rintro e w' ⟨rfl, rfl⟩
    clear hat
    go_wp2_with fail
    refine (drop_any _ h 1 0 h1.out).mono ?_
    rintro e w' ⟨rfl, hd⟩
    go_wp2_with fail
    go_ret2
    refine ⟨rfl, ?_⟩
    have := RKeep.ofDrop hd
    rwa [h00] at this
set_option maxHeartbeats 400000 in
theorem dropR_any {p : Nat} {g : Option Nat} {room : Nat} {xs : List Int} (w : World) (n : Int) (h : RI w p g room xs) :
    Calls Try.prog 16 #[.pointer (some ⟨p, 0, none⟩), .int .i64 n] w fun e w' => e = .returned (.int .i64 ((if n < 1 then 0 else min n.toNat xs.length : Nat) : Int)) ∧ RKeep w p g room (xs.drop (if n < 1 then 0 else min n.toNat xs.length)) w' := by
  obtain ⟨C, cc, s, rfl, rfl, h⟩ := h
  exact (drop_any w h n _ rfl).mono fun e w' ⟨he, hd⟩ => ⟨he, RKeep.ofDrop hd⟩
theorem lenR_any {p : Nat} {g : Option Nat} {room : Nat} {xs : List Int} (w : World) (h : RI w p g room xs) :
    Calls Try.prog 13 #[.pointer (some ⟨p, 0, none⟩)] w fun e w' => e = .returned (.int .i64 (xs.length : Int)) ∧ w = w' := by
  obtain ⟨C, cc, s, rfl, rfl, h⟩ := h
  exact len_any w h.bl
theorem roomR_any {p : Nat} {g : Option Nat} {room : Nat} {xs : List Int} (w : World) (h : RI w p g room xs) :
    Calls Try.prog 12 #[.pointer (some ⟨p, 0, none⟩)] w fun e w' => e = .returned (.int .i64 (room : Int)) ∧ w = w' := by
  obtain ⟨C, cc, s, rfl, rfl, h⟩ := h
  exact room_any w h.bl
end Go.Proofs.Yteleakbbppbnnaa
