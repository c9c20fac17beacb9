/-
  Texts merged into one, to keep the claim small: TlvAwake.
-/
import Derived.Test.YtahhecendjfenaaMr26
import Derived.Test.YtahhecendjfenaaMr12
/-
  awake.
-/
namespace Go.Proofs.Ytahhecendjfenaa
open Go.RowKit
set_option linter.unusedVariables false

def WS.fresh : WS := ⟨[], 0, 0⟩
theorem WS.fresh_ok : WS.fresh.ok := ⟨Nat.zero_le _, Nat.zero_le _⟩
def wcell : Array Value := #[.slice none 0 0, .int .i64 0, .int .i64 0]
def wat (p : Nat) : Option WO := some ⟨p, none, 0, 0, none⟩
theorem wat_at {w : World} {ty : TypeId} {p : Nat} (h : Bl w p ty wcell) : TAt w ty (wat p) WS.fresh := ⟨h, Ow.nil_ _ _ _, WS.fresh_ok⟩
theorem wat_foot {p b : Nat} (h : foot (wat p) b) : b = p := by
  obtain ⟨r, e, h⟩ := h
  cases e
  rcases h with h | h
  · exact h
  · cases h

theorem short300 : short 300 = [172, 2] := by rw [short_big (by omega), short_small (by omega)]
theorem short2 : short 2 = [2] := short_small (by omega)
def awakeBytes : List Nat := [1, 2, 172, 2, 3, 2, 97, 98]
theorem awake1 : WS.fresh.number 1 300 = ⟨[1, 2, 172, 2], 1, 0⟩ := by
  rw [WS.number, if_neg (by decide), short300]
  simp [WS.put, WS.fresh, formF, short2]
theorem awake2 : (⟨[1, 2, 172, 2], 1, 0⟩ : WS).put 2 [] = ⟨[1, 2, 172, 2], 1, 0⟩ := WS.put_nil
theorem awake3 : (⟨[1, 2, 172, 2], 1, 0⟩ : WS).put 3 [97, 98] = ⟨awakeBytes, 3, 0⟩ := by
  simp [WS.put, formF, short2, awakeBytes]
def awakeD (tk : List Bool) : RD := ⟨awakeBytes, 0, [⟨1, 0, 2, 4⟩, ⟨3, 4, 6, 8⟩], tk⟩
theorem awakeGet : getAll awakeBytes = ([⟨1, 0, 2, 4⟩, ⟨3, 4, 6, 8⟩], 0, 0) := by
  have h0 : getS awakeBytes 0 0 = ([⟨1, 0, 2, 4⟩, ⟨3, 4, 6, 8⟩], 0, 0) := by
    rw [getS_one (F := ⟨1, 0, 2, 4⟩) (by decide) (by rfl) (by decide), getS_one (F := ⟨3, 4, 6, 8⟩) (by decide) (by rfl) (by decide), getS_end (by decide)]
  rw [getAll, if_neg (by decide), h0]; rfl
theorem awakeRead : readS ⟨0, 0⟩ 0 awakeBytes = (awakeD [false, false], ⟨0, 0⟩) := by
  rw [readS, if_neg (by decide)]
  simp only [awakeGet]
  rfl

end Go.Proofs.Ytahhecendjfenaa
