/-
  disk.Disk: Crash.
-/
import Derived.Test.YtchajbiloaiekaaDk8
namespace Go.Proofs.Ytchajbiloaiekaa
open Go.RowKit
set_option linter.unusedVariables false
set_option linter.unusedSimpArgs false
theorem setCells_drewN (b : Nat) : ∀ (vs : List Value) (o n : Nat) (w : World), (w.drewN n).setCells b o vs = (w.setCells b o vs).drewN n
  | [], _, _, _ => rfl
  | v :: vs, o, n, w => by
    simp only [World.setCells]
    rw [show (w.drewN n).setCell ⟨b, o, none⟩ v = (w.setCell ⟨b, o, none⟩ v).drewN n from rfl]
    exact setCells_drewN b vs _ n _
theorem putSec_self {sf : List Nat} {k n : Nat} (h : sf.length = n * 64) (hk : k < n) : putSec sf k ((sf.drop (k * 64)).take 64) = sf := by
  unfold putSec
  have e : sf.take (k * 64) ++ (sf.drop (k * 64)).take 64 = sf.take (k * 64 + 64) := (List.take_add ..).symm
  rw [e, List.take_append_drop]
theorem u8size : (Try.prog.info? 5).map (·.size) = some 1 := by kernel_rfl
theorem mayNewSd {w : World} : MayRow (w.alloc (.cells secZ.toArray 67)).drew w.heap.size 0 64 := MayRow.new (w := w) secZ_len
theorem setNewSd {w : World} {cs : List Value} (h : Row64 cs) : (w.alloc (.cells secZ.toArray 67)).drew.setCells w.heap.size 0 cs = (w.alloc (.cells cs.toArray 67)).drew := by
  rw [← setNewS h]
  exact setCells_drewN _ _ _ 1 _
attribute [local go_sem ↓] opstill_loadS opstill_min opstill_max opwp_loadS opwp_loadW opwp_storeS opwp_storeW opwp_allocS opwp_allocW sem_array
attribute [local go_sem] loadS_eq loadW_eq storeS_row storeW_row allocS_eq allocW_eq mayNewS mayNewW setNewS setNewW mayNewC setNewC mayNewSd setNewSd minIn_eq maxIn_eq
structure CrAt (w : World) (n : Nat) (SA : Option Addr) (sc : Nat) (gs : Option Nat) (s : DS) (keep : List Bool) (tn cut : Int) (j : Nat) (wr : World) : Prop where
  ow : Ow wr tSec 64 SA n sc ((crashTo keep tn cut s.sf s.row j).map bn) gs
  fr : Fr (fun k => gs = some k) w wr
/-- A sector's store, behind a draw, in the midst of the loop: the relation at the next round. -/
theorem CrAt.put {w wr w1 : World} {n sc b o : Nat} {s : DS} {keep : List Bool} {tn cut : Int} {j k : Nat} {d x : List Nat} (h : CrAt w n (some ⟨b, o, none⟩) sc (some b) s keep tn cut j wr) (hr : s.row[j]? = some (k, d)) (hk : k < n) (hx : x.length = 64)
    (he : crash1 keep tn cut (crashTo keep tn cut s.sf s.row j) j (k, d) = putSec (crashTo keep tn cut s.sf s.row j) k x) (hf : Fr (fun _ => False) wr w1) :
    CrAt w n (some ⟨b, o, none⟩) sc (some b) s keep tn cut (j + 1) (w1.setCells b (o + k * 64) (x.map bn)) := by
  have hO : Ow w1 tSec 64 (some ⟨b, o, none⟩) n sc ((crashTo keep tn cut s.sf s.row j).map bn) (some b) := h.ow.fr hf (fun _ _ => id)
  have e : crashTo keep tn cut s.sf s.row (j + 1) = putSec (crashTo keep tn cut s.sf s.row j) k x := by
    show crash1 keep tn cut _ j (s.row.getD j (0, [])) = _
    rw [List.getD_eq_getElem?_getD, hr]
    exact he
  refine ⟨?_, ?_⟩
  · rw [e, putSec_map _ _ _ hx]
    refine hO.setRow (k * 64) (x.map bn) ?_
    rw [List.length_map, hx]
    have := Nat.mul_le_mul_right 64 (show k + 1 ≤ n by omega)
    omega
  · exact (h.fr.trans (hf.weak _)).trans ((fr_setCells b (x.map bn) _ w1).mono fun x _ e => by rw [e])
theorem CrAt.same {w wr w1 : World} {n sc : Nat} {s : DS} {keep : List Bool} {tn cut : Int} {j : Nat} {r : Nat × List Nat} {A : Option Addr} {g : Option Nat} (h : CrAt w n A sc g s keep tn cut j wr) (hr : s.row[j]? = some r)
    (he : crash1 keep tn cut (crashTo keep tn cut s.sf s.row j) j r = crashTo keep tn cut s.sf s.row j) (hf : Fr (fun _ => False) wr w1) :
    CrAt w n A sc g s keep tn cut (j + 1) w1 := by
  have e : crashTo keep tn cut s.sf s.row (j + 1) = crashTo keep tn cut s.sf s.row j := by
    show crash1 keep tn cut _ j (s.row.getD j (0, [])) = _
    rw [List.getD_eq_getElem?_getD, hr]
    exact he
  refine ⟨?_, ?_⟩
  · rw [e]; exact h.ow.fr hf (fun _ _ => id)
  · exact h.fr.trans (hf.weak _)
end Go.Proofs.Ytchajbiloaiekaa
