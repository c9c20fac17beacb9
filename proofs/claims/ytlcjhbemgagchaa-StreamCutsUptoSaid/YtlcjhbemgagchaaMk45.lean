/-
  Texts merged into one, to keep the claim small: Su8, St1.
-/
import Derived.Test.YtlcjhbemgagchaaMk44
import Derived.Test.YtlcjhbemgagchaaMc2
section
/-
  stream: the reference's Stream: New, Feed, Waiting, Deaf.
-/
namespace Go.Proofs.Ytlcjhbemgagchaa
open Go.RowKit
set_option linter.unusedVariables false
abbrev tRs : TypeId := 100
theorem Ow.tailS {w : World} {e : TypeId} {s n c b o : Nat} {xs : List Value} {g : Option Nat} (h : Ow w e s (some ⟨b, o, none⟩) n c xs g) {k : Nat} (hk : k ≤ n) : Ow w e s (some ⟨b, o + k * s, none⟩) (n - k) (c - k) (xs.drop (k * s)) g := by
  have hl := h.1
  rcases h.2 with ⟨h0, _⟩ | ⟨b', o', cur, hA, hg, hh, h1, h2, h3, h4⟩
  · cases h0
  · cases hA
    have e1 := Nat.sub_mul n k s
    have e2 := Nat.sub_mul c k s
    have e3 := Nat.mul_le_mul_right s hk
    have e4 := Nat.mul_le_mul_right s h2
    refine ⟨by rw [List.length_drop]; omega, .inr ⟨b, o + k * s, cur, rfl, hg, hh, by omega, by omega, by omega, fun j hj => ?_⟩⟩
    rw [List.getElem?_drop, Nat.add_assoc]
    exact h4 (k * s + j) (by omega)
theorem Ow.zeroS {w : World} {e : TypeId} {s n c b o : Nat} {xs : List Value} {g : Option Nat} (h : Ow w e s (some ⟨b, o, none⟩) n c xs g) : Ow w e s (some ⟨b, o, none⟩) 0 0 [] g := by
  rcases h.2 with ⟨h0, _⟩ | ⟨b', o', cur, hA, hg, hh, h1, h2, h3, h4⟩
  · cases h0
  · cases hA
    exact ⟨by simp, .inr ⟨b, o, cur, rfl, hg, hh, by omega, Nat.le_refl _, by unfold maxLen; omega, fun j hj => by omega⟩⟩
theorem flat_drop (l : List PC) : ∀ k, (l.flatMap pcells).drop (k * 25) = (l.drop k).flatMap pcells := by
  induction l with
  | nil => intro k; simp
  | cons a l ih =>
    intro k
    rcases k with _ | k
    · simp
    · rw [List.flatMap_cons, List.drop_append, pcells_len, List.drop_of_length_le (by rw [pcells_len]; omega), show (k + 1) * 25 - 25 = k * 25 by omega, ih k]; simp
theorem Pcr.tail {W w : World} {l : List PC} {t : TypeId} {b o n c : Nat} {g : Option Nat} (h : Pcr W w l t (some ⟨b, o, none⟩) n c g) {k : Nat} (hk : k ≤ n) : Pcr W w (l.drop k) t (some ⟨b, o + k * 25, none⟩) (n - k) (c - k) g :=
  ⟨by rw [List.length_drop, h.len], by rw [← flat_drop]; exact h.ow.tailS hk, h.new, fun p hp => h.rt p (List.mem_of_mem_drop hp)⟩
theorem Pcr.zero {W w : World} {l : List PC} {t : TypeId} {b o n c : Nat} {g : Option Nat} (h : Pcr W w l t (some ⟨b, o, none⟩) n c g) {k : Nat} (hk : l.length ≤ k) : Pcr W w (l.drop k) t (some ⟨b, o, none⟩) 0 0 g := by
  rw [List.drop_of_length_le hk]
  exact ⟨rfl, h.ow.zeroS, h.new, fun p hp => by cases hp⟩
theorem Pcr.base {W w W' : World} {l : List PC} {t : TypeId} {A : Option Addr} {n c : Nat} {g : Option Nat} (h : Pcr W w l t A n c g) (hs : W'.heap.size ≤ W.heap.size) : Pcr W' w l t A n c g := ⟨h.len, h.ow, fun b e => Nat.le_trans hs (h.new b e), h.rt⟩
/-- What was told, and what is told now: what is told of all. -/
theorem FedP.all {T ds : List Nat} {u : Nat} {d : Bool} {L l : List PC} {u2 : Nat} {d2 : Bool} (h : Pcs T 0 L u d) (hf : FedP (T ++ ds) u d l u2 d2) : Pcs (T ++ ds) 0 (L ++ l) u2 d2 := by
  rcases hf with ⟨rfl, h1⟩ | ⟨rfl, rfl, rfl, rfl⟩
  · exact h.more ds rfl h1
  · rw [List.append_nil]; exact h.deaf ds rfl
theorem LikeP.tail {l L M : List PC} (h : LikeP (L ++ l) M) : LikeP l (M.drop L.length) := by
  have := h.drop L.length
  rwa [List.drop_left] at this
/-- The reference's stream. -/
structure RSF (w : World) (r : Nat) (T : List Nat) (u : Nat) (d : Bool) (lg : Option Nat) (LA : Option Addr) (lc : Nat) (L : List PC) : Prop where
  bl : Bl w r tRs #[.slice LA T.length lc, .int .i64 (L.length : Int)]
  ow : Ow w 5 1 LA T.length lc (T.map bn) lg
  ps : Pcs T 0 L u d
def RSM (w : World) (r : Nat) (T : List Nat) (u : Nat) (d : Bool) (lg : Option Nat) : Prop := ∃ LA lc L, RSF w r T u d lg LA lc L
theorem RSM.fr {w w' : World} {r : Nat} {T : List Nat} {u : Nat} {d : Bool} {lg : Option Nat} {S : Nat → Prop} (h : RSM w r T u d lg) (hf : Fr S w w') (h1 : ¬ S r) (h2 : ∀ x, lg = some x → ¬ S x) : RSM w' r T u d lg := by
  obtain ⟨LA, lc, L, h⟩ := h
  exact ⟨LA, lc, L, h.bl.fr hf h1, h.ow.fr hf h2, h.ps⟩
theorem RSM.typed {w : World} {r : Nat} {T : List Nat} {u : Nat} {d : Bool} {lg : Option Nat} (h : RSM w r T u d lg) : Typed w r tRs ∧ ∀ x, lg = some x → Typed w x 5 := by
  obtain ⟨LA, lc, L, h⟩ := h
  exact ⟨Bl.typed h.bl, fun x e => h.ow.typed x e⟩
end Go.Proofs.Ytlcjhbemgagchaa
end

section
/-
  stream: Frame, the program's and the reference's.
-/
namespace Go.Proofs.Ytlcjhbemgagchaa
open Go.RowKit
set_option linter.unusedVariables false

end Go.Proofs.Ytlcjhbemgagchaa
end
