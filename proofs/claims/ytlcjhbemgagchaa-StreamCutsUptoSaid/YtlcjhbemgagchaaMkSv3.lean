/-
  Texts merged into one, to keep the claim small: Sv3.
-/
import Derived.Test.YtlcjhbemgagchaaMkSv1
import Derived.Test.YtlcjhbemgagchaaMkSv2
/-
  StreamCuts: plain laws; many rows appended at once.
-/
namespace Go.Proofs.Ytlcjhbemgagchaa
open Go.RowKit
set_option linter.unusedVariables false
theorem Pcs.wait {T : List Nat} {l : List PC} {u : Nat} {d : Bool} (h : Pcs T 0 l u d) : waitN T u d ≤ 514 := by
  rcases h.end_ with ⟨rfl, _⟩ | ⟨rfl, h1⟩
  · show (0 : Nat) ≤ 514; omega
  · show T.length - u ≤ 514
    rcases h1 with h1 | ⟨h1, h2, h3⟩ <;> omega
/-- One byte more tells one piece at most. -/
theorem FedP.one {T : List Nat} {x : Nat} {L l : List PC} {u u' : Nat} {d d' : Bool} (h : Pcs T 0 L u d) (hf : FedP (T ++ [x]) u d l u' d') : l.length ≤ 1 := by
  rcases hf with ⟨rfl, h1⟩ | ⟨rfl, rfl, _⟩
  · have hal : (T ++ [x]).length = T.length + 1 := by simp
    have he : T.length < u + 3 ∨ u + 3 ≤ T.length ∧ longS (T.drop u) ≤ 512 ∧ T.length < u + 3 + longS (T.drop u) := by
      rcases h.end_ with ⟨e, _⟩ | ⟨_, h2⟩
      · cases e
      · exact h2
    have key : ∀ {l' : List PC}, u + 3 + longS ((T ++ [x]).drop u) ≤ (T ++ [x]).length → Pcs (T ++ [x]) (u + 3 + longS ((T ++ [x]).drop u)) l' u' d' → l' = [] := fun hL hp => by
      have hge : (T ++ [x]).length ≤ u + 3 + longS ((T ++ [x]).drop u) := by
        rcases he with h2 | ⟨h2, h3, h4⟩
        · omega
        · rw [longS_app h2]; omega
      cases hp with
      | short => rfl
      | long => omega
      | half => rfl
      | bad _ h3 => omega
      | one _ h3 => omega
    cases h1 with
    | short => simp
    | long => simp
    | half => simp
    | bad h2 h3 h4 h5 h6 => rw [key h3 h6]; simp
    | one h2 h3 h4 h5 => rw [key h3 h5]; simp
  · simp
theorem FedP.same {T : List Nat} {u : Nat} {d : Bool} {l l' : List PC} {u1 u2 : Nat} {d1 d2 : Bool} (h : FedP T u d l u1 d1) (h' : FedP T u d l' u2 d2) : u1 = u2 ∧ d1 = d2 ∧ LikeP l l' := by
  rcases h with ⟨rfl, h⟩ | ⟨rfl, rfl, rfl, rfl⟩
  · rcases h' with ⟨_, h'⟩ | ⟨e, _⟩
    · exact h.same h'
    · cases e
  · rcases h' with ⟨e, _⟩ | ⟨_, rfl, rfl, rfl⟩
    · cases e
    · exact ⟨rfl, rfl, .nil⟩
theorem pflat_one (l : List PC) : ∀ u ∈ l.flatMap pcells, u.oneCell' = true := fun u hu => by
  obtain ⟨p, -, hp⟩ := List.mem_flatMap.1 hu
  exact pcells_one p u hp
/-- Rows behind rows. -/
theorem Pcr.appL {W w w' : World} {l l' : List PC} {t : TypeId} {A : Option Addr} {n n' c : Nat} {g : Option Nat} {A3 : Option Addr} {c3 : Nat} {g3 : Option Nat} (h : Pcr W w l t A n c g) (hn : n' = l'.length) (hq : ∀ q ∈ l', KT w q.c) (hO : Ow w' t 25 A3 (n + n') c3 (l.flatMap pcells ++ l'.flatMap pcells) g3) (hf : Fr (fun x => some x = g) w w') (hg : g3 = g ∨ ∃ b, g3 = some b ∧ W.heap.size ≤ b) (t1 : t ≠ tEnt) (t2 : t ≠ 3) : Pcr W w' (l ++ l') t A3 (n + n') c3 g3 := by
  have k1 : ∀ x, Typed w x tEnt → ¬ some x = g := fun x hx e => t1 ((hx.same (h.ow.typed x e.symm))).symm
  have k2 : ∀ x, Typed w x 3 → ¬ some x = g := fun x hx e => t2 ((hx.same (h.ow.typed x e.symm))).symm
  refine ⟨by rw [h.len, hn]; simp, by rw [List.flatMap_append]; exact hO, fun b e => ?_, fun p hp => ?_⟩
  · rcases hg with rfl | ⟨b', rfl, hb⟩
    · exact h.new b e
    · cases e; exact hb
  · rcases List.mem_append.1 hp with hp | hp
    · exact (h.rt p hp).frt hf k1 k2
    · exact (hq p hp).frt hf k1 k2
/-- Rows stay, where streams and bytes turn. -/
theorem Pcr.keepS {W w w' : World} {l : List PC} {A : Option Addr} {n c : Nat} {g : Option Nat} {S : Nat → Prop} (h : Pcr W w l tPc A n c g) (hf : Fr S w w') (hS : ∀ x, S x → Typed w x tStm ∨ Typed w x 5) : Pcr W w' l tPc A n c g := by
  have key : ∀ {x : Nat} {t : TypeId}, Typed w x t → t ≠ tStm → t ≠ 5 → ¬ S x := fun {x t} hx h1 h2 hs => by
    rcases hS x hs with h3 | h3
    · exact h1 (hx.same h3)
    · exact h2 (hx.same h3)
  exact ⟨h.len, h.ow.fr hf fun b e => key (h.ow.typed b e) (by decide) (by decide), h.new, fun q hq => (h.rt q hq).frt hf (fun x hx => key hx (by decide) (by decide)) (fun x hx => key hx (by decide) (by decide))⟩
end Go.Proofs.Ytlcjhbemgagchaa
