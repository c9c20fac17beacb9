/-
  bazaarref10.Ring: the document's ring: a list.
-/
import Derived.Test.YteleakbbppbnnaaRo1
import Derived.Deep.CutBlock
namespace Go.Proofs.Yteleakbbppbnnaa
open Go.RowKit
set_option linter.unusedVariables false
abbrev tRef : TypeId := 68
/-- A slice of one's own without its first cell, and the empty one at its end. -/
theorem Ow.tl {w : World} {e : TypeId} {n c b o : Nat} {xs : List Value} {g : Option Nat} (h : Ow w e 1 (some ⟨b, o, none⟩) n c xs g) {k : Nat} (hk : k ≤ n) : Ow w e 1 (some ⟨b, o + k, none⟩) (n - k) (c - k) (xs.drop k) g := by
  have hl := h.1
  rcases h.2 with ⟨h0, _⟩ | ⟨b', o', cur, hA, hg, hh, h1, h2, h3, h4⟩
  · cases h0
  · cases hA
    refine ⟨by simp; omega, .inr ⟨b, o + k, cur, rfl, hg, hh, by omega, by omega, by omega, fun j hj => ?_⟩⟩
    rw [List.getElem?_drop, Nat.add_assoc]
    exact h4 (k + j) (by omega)
theorem Ow.nought {w : World} {e : TypeId} {n c b o : Nat} {xs : List Value} {g : Option Nat} (h : Ow w e 1 (some ⟨b, o, none⟩) n c xs g) : Ow w e 1 (some ⟨b, o, none⟩) 0 0 [] g := by
  rcases h.2 with ⟨h0, _⟩ | ⟨b', o', cur, hA, hg, hh, h1, h2, h3, h4⟩
  · cases h0
  · cases hA
    exact ⟨rfl, .inr ⟨b, o, cur, rfl, hg, hh, by omega, Nat.le_refl _, by unfold maxLen; omega, fun j hj => by omega⟩⟩
/-- Block q is a document's ring of that room that holds xs; its list is in block lg. -/
def RefI (w : World) (q : Nat) (lg : Option Nat) (room : Nat) (xs : List Int) : Prop :=
  ∃ LA c, Bl w q tRef #[.int .i64 (room : Int), .slice LA xs.length c] ∧ Ow w 3 1 LA xs.length c (xs.map iv) lg
def rfoot (q : Nat) (lg : Option Nat) : Nat → Prop := fun x => x = q ∨ some x = lg
section
variable {w w' : World} {q : Nat} {lg : Option Nat} {room : Nat} {xs : List Int}
theorem RefI.fr {S : Nat → Prop} (h : RefI w q lg room xs) (hf : Fr S w w') (hS : ∀ b, rfoot q lg b → ¬ S b) : RefI w' q lg room xs := by
  obtain ⟨LA, c, h1, h2⟩ := h
  exact ⟨LA, c, h1.fr hf (hS q (.inl rfl)), h2.fr hf fun b hb => hS b (.inr hb.symm)⟩
theorem RefI.lt (h : RefI w q lg room xs) {b : Nat} (hb : rfoot q lg b) : b < w.heap.size := by
  obtain ⟨LA, c, h1, h2⟩ := h
  rcases hb with rfl | hb
  · exact h1.lt
  · exact h2.lt b hb.symm
theorem RefI.ne (h : RefI w q lg room xs) : lg ≠ some q := by
  intro e
  obtain ⟨LA, c, h1, h2⟩ := h
  rw [e] at h2
  obtain ⟨cs, hc⟩ := h2.ty
  exact absurd (h1.same hc).2 (by decide)
/-- The ring behind a call that may turn it. -/
def RefOut (w : World) (q : Nat) (lg : Option Nat) (room : Nat) (xs : List Int) (w' : World) : Prop :=
  ∃ lg', RefI w' q lg' room xs ∧ Fr (rfoot q lg) w w' ∧ (lg' = lg ∨ lg' = none ∨ ∃ b, lg' = some b ∧ w.heap.size ≤ b)
theorem RefOut.same (h : RefI w q lg room xs) (hf : Fr (fun _ => False) w w') : RefOut w q lg room xs w' := ⟨lg, h.fr hf (fun _ _ => id), hf.weak _, .inl rfl⟩
theorem RefOut.trans {w1 w2 : World} {xs ys : List Int} (h1 : RefOut w q lg room xs w1) (h2 : ∀ lg1, RefI w1 q lg1 room xs → RefOut w1 q lg1 room ys w2) : RefOut w q lg room ys w2 := by
  obtain ⟨lg1, a1, a2, a3⟩ := h1
  obtain ⟨lg2, b1, b2, b3⟩ := h2 lg1 a1
  refine ⟨lg2, b1, a2.comp b2 fun i hi e => ?_, ?_⟩
  · rcases e with e | e
    · exact .inl e
    · rcases a3 with rfl | rfl | ⟨b, rfl, hb⟩
      · exact .inr e
      · cases e
      · cases e; omega
  · rcases b3 with rfl | rfl | ⟨b, rfl, hb⟩
    · exact a3
    · exact .inr (.inl rfl)
    · exact .inr (.inr ⟨b, rfl, Nat.le_trans a2.size hb⟩)
end
set_option maxHeartbeats 400000 in
theorem rnew_ok (w : World) (room : Nat) (h1 : 1 ≤ room) (h2 : room ≤ 65536) :
    Calls Try.prog 17 #[.int .i64 (room : Int)] w fun e w' => e = .returned (.tuple #[.pointer (some ⟨w.heap.size, 0, none⟩), .int .i64 0]) ∧ RefI w' w.heap.size none room [] ∧ Fr (fun _ => False) w w' ∧ w.heap.size < w'.heap.size := by
  go_enter Try.func17, Try.ntmps17
  go_wp2
  go_ret2
  exact ⟨rfl, ⟨none, 0, Bl.new _ _ _, Ow.nil_ _ _ _⟩, (Fr.refl _ _).alloc _, by simp⟩
set_option maxHeartbeats 400000 in
theorem rnew_bad (w : World) (room : Int) (h : room < 1 ∨ 65536 < room) :
    Calls Try.prog 17 #[.int .i64 room] w fun e w' => e = .returned (.tuple #[.pointer none, .int .i64 2]) ∧ w = w' := by
  rcases h with h | h
  · go_enter Try.func17, Try.ntmps17
    go_wp2
    go_ret2
    exact ⟨rfl, rfl⟩
  · have h0 : 1 ≤ room := by omega
    go_enter Try.func17, Try.ntmps17
    go_wp2
    go_ret2
    exact ⟨rfl, rfl⟩
section
variable {q : Nat} {lg : Option Nat} {room : Nat} {xs : List Int}
theorem rlen_any (w : World) (h : RefI w q lg room xs) :
    Calls Try.prog 34 #[.pointer (some ⟨q, 0, none⟩)] w fun e w' => e = .returned (.int .i64 (xs.length : Int)) ∧ w = w' := by
  obtain ⟨LA, c, h1, h2⟩ := h
  obtain ⟨n, hn⟩ : ∃ n, xs.length = n := ⟨_, rfl⟩
  rw [hn] at h1 ⊢
  have c1 : w.cell? ⟨q, 1, none⟩ = some (.slice LA n c) := h1.cell' rfl
  clear h1 h2 hn
  go_enter Try.func34, Try.ntmps34
  go_wp2
  go_ret
  exact ⟨rfl, rfl⟩
theorem rroom_any (w : World) (h : RefI w q lg room xs) :
    Calls Try.prog 35 #[.pointer (some ⟨q, 0, none⟩)] w fun e w' => e = .returned (.int .i64 (room : Int)) ∧ w = w' := by
  obtain ⟨LA, c, h1, h2⟩ := h
  have c0 : w.cell? ⟨q, 0, none⟩ = some (.int .i64 (room : Int)) := h1.cell' rfl
  clear h1 h2
  go_enter Try.func35, Try.ntmps35
  go_wp2
  go_ret
  exact ⟨rfl, rfl⟩
theorem rlen_nil (w : World) : Calls Try.prog 34 #[.pointer none] w fun e w' => e = .returned (.int .i64 0) ∧ w = w' := by
  go_enter Try.func34, Try.ntmps34
  go_wp2
  go_ret
  exact ⟨rfl, rfl⟩
theorem rroom_nil (w : World) : Calls Try.prog 35 #[.pointer none] w fun e w' => e = .returned (.int .i64 0) ∧ w = w' := by
  go_enter Try.func35, Try.ntmps35
  go_wp2
  go_ret
  exact ⟨rfl, rfl⟩
set_option maxHeartbeats 400000 in
theorem rat_in (w : World) (h : RefI w q lg room xs) (i : Nat) (hi : i < xs.length) (hb : xs.length ≤ 65536) :
    Calls Try.prog 30 #[.pointer (some ⟨q, 0, none⟩), .int .i64 (i : Int)] w fun e w' => e = .returned (.tuple #[.int .i64 xs[i], .bool true]) ∧ Fr (fun _ => False) w w' := by
  obtain ⟨LA, c, h1, h2⟩ := h
  obtain ⟨x, hx⟩ : ∃ x, xs[i] = x := ⟨_, rfl⟩
  obtain ⟨b, o, rfl, -, hc, -⟩ := h2.look (j := i) (u := .int .i64 x) (by rw [List.getElem?_map, List.getElem?_eq_getElem hi, hx]; rfl)
  rw [hx]
  obtain ⟨n, hn⟩ : ∃ n, xs.length = n := ⟨_, rfl⟩
  rw [hn] at h1 hi hb
  have c1 : w.cell? ⟨q, 1, none⟩ = some (.slice (some ⟨b, o, none⟩) n c) := h1.cell' rfl
  have i0 : (0 : Int) ≤ (i : Int) := by omega
  have i1 : (i : Int) < (n : Int) := by omega
  clear h1 h2 hn hx
  go_enter Try.func30, Try.ntmps30
  go_wp2
  go_ret2
  exact ⟨rfl, Fr.refl _ _⟩
set_option maxHeartbeats 400000 in
theorem rat_out (w : World) (h : RefI w q lg room xs) (i : Int) (hi : i < 0 ∨ (xs.length : Int) ≤ i) :
    Calls Try.prog 30 #[.pointer (some ⟨q, 0, none⟩), .int .i64 i] w fun e w' => e = .returned (.tuple #[.int .i64 0, .bool false]) ∧ w = w' := by
  obtain ⟨LA, c, h1, h2⟩ := h
  obtain ⟨n, hn⟩ : ∃ n, xs.length = n := ⟨_, rfl⟩
  rw [hn] at h1 hi
  have c1 : w.cell? ⟨q, 1, none⟩ = some (.slice LA n c) := h1.cell' rfl
  clear h1 h2 hn
  by_cases h0 : i < 0
  · clear hi
    go_enter Try.func30, Try.ntmps30
    go_wp2
    go_ret2
    exact ⟨rfl, rfl⟩
  · have h1 : (n : Int) ≤ i := by omega
    clear hi
    go_enter Try.func30, Try.ntmps30
    go_wp2
    go_ret2
    exact ⟨rfl, rfl⟩
theorem rat_nil (w : World) (i : Int) : Calls Try.prog 30 #[.pointer none, .int .i64 i] w fun e w' => e = .returned (.tuple #[.int .i64 0, .bool false]) ∧ w = w' := by
  go_enter Try.func30, Try.ntmps30
  go_wp2
  go_ret2
  exact ⟨rfl, rfl⟩
end
end Go.Proofs.Yteleakbbppbnnaa
