/-
  does: one kind.
-/
import Derived.Test.YteleakbbppbnnaaRrc
namespace Go.Proofs.Yteleakbbppbnnaa
open Go.RowKit
set_option linter.unusedVariables false
attribute [local go_sem ↓] Go.wp_at_zero Go.wp_at_succ
section
variable {B0 wb : Nat} {L : List (Option RE)} {A1 : Option Addr} {c1 : Nat} {g1 : Option Nat} {A2 : Option Addr} {c2 : Nat} {g2 : Option Nat} {w wA w2 w3 w4 : World} {k : Nat} {e : Option RE}
set_option maxHeartbeats 4000000 in
set_option maxRecDepth 4000 in
theorem does_pop (hW : PW B0 wb L A1 c1 g1 A2 c2 g2 w) (hI : RW B0 w L) (hE : Even L) (hB : B0 ≤ w.heap.size) (m : Nat) (Hm : Hid (L.length = m)) (hL1 : 1 ≤ m) (hL2 : m ≤ 20) (wh tt n x : Int) (k : Nat) (Hk : Hid (wh % (m : Int) = (k : Int))) (hkm : k < m) (e : Option RE) (he : L[k]? = some e) (kt : Nat) (Hkt : Hid (tt % (m : Int) = (kt : Int))) (hktm : kt < m) (AL : Option Addr) (nl cl : Nat) :
    Calls Try.prog 18 #[.pointer (some ⟨wb, 0, none⟩), .agg #[.int .i64 2, .int .i64 wh, .int .i64 tt, .int .i64 n, .int .i64 x, .slice AL nl cl]] w fun r w' => r = .returned (.bool true) ∧ DoesOut B0 wb L w w' := by
  (obtain ⟨b1, o1, rfl, hg1, hc1, -⟩ := hW.o1.look (j := k) (u := ptrP e) (by rw [List.getElem?_map, he]; rfl)); (obtain ⟨b2, o2, rfl, hg2, hc2, -⟩ := hW.o2.look (j := k) (u := ptrQ e) (by rw [List.getElem?_map, he]; rfl)); (have hl1 := hW.o1.lt b1 hg1); (have hl2 := hW.o2.lt b2 hg2); (have hlw := hW.bl.lt); (have w0 : w.cell? ⟨wb, 0, none⟩ = some (.slice (some ⟨b1, o1, none⟩) m c1) := by rw [← Hm.out]; exact hW.bl.cell' rfl); (have w1 : w.cell? ⟨wb, 1, none⟩ = some (.slice (some ⟨b2, o2, none⟩) m c2) := by rw [← Hm.out]; exact hW.bl.cell' rfl); (have He := hide he); (have HE := hide hE); (have HW := hide hW); (have HI := hide hI); clear he hE hW hI hg1 hg2
  obtain ⟨v, b, hv⟩ := popV_is (e.map RE.xs)
  have Hv := hide hv
  clear hv
  go_enter Try.func18, Try.ntmps18
  (go_wp2_with fail); (go_quiet ((go_at_call 26; exact quiet_left (round_nat _ wh m k (by omega) (by omega) Hk.out)))); (have hobq := (Bl.new w tOp #[.int .i64 2, .int .i64 wh, .int .i64 tt, .int .i64 n, .int .i64 x, .slice AL nl cl]).drewN nq); (have hfq := ((Fr.refl (fun _ => False) w).alloc (.cells #[.int .i64 2, .int .i64 wh, .int .i64 tt, .int .i64 n, .int .i64 x, .slice AL nl cl] tOp)).drewN nq); (generalize hwq : (w.alloc (.cells #[.int .i64 2, .int .i64 wh, .int .i64 tt, .int .i64 n, .int .i64 x, .slice AL nl cl] tOp)).drewN nq = wq at hobq hfq ⊢); clear hwq; (have w0q := (hfq.cell hlw id).trans w0); (have w1q := (hfq.cell hlw id).trans w1); (have hc1q := (hfq.cell hl1 id).trans hc1); (have hc2q := (hfq.cell hl2 id).trans hc2); (have p0q : wq.cell? ⟨w.heap.size, 0, none⟩ = some (.int .i64 2) := hobq.cell' rfl); (have p2q : wq.cell? ⟨w.heap.size, 2, none⟩ = some (.int .i64 tt) := hobq.cell' rfl); (have p3q : wq.cell? ⟨w.heap.size, 3, none⟩ = some (.int .i64 n) := hobq.cell' rfl); (have p4q : wq.cell? ⟨w.heap.size, 4, none⟩ = some (.int .i64 x) := hobq.cell' rfl); (have p5q : wq.cell? ⟨w.heap.size, 5, none⟩ = some (.slice AL nl cl) := hobq.cell' rfl); (go_wp2_with fail); (go_quiet ((go_at_call 26; exact quiet_left (round_nat _ tt m kt (by omega) (by omega) Hkt.out)))); (have hob := hobq.drewN nq); (have hfA := hfq.drewN nq); (generalize hwA : wq.drewN nq = wA at hob hfA ⊢); clear hwA hobq hfq w0q w1q hc1q hc2q p0q p2q p3q p4q p5q; (have w0A := (hfA.cell hlw id).trans w0); (have w1A := (hfA.cell hlw id).trans w1); (have hc1A := (hfA.cell hl1 id).trans hc1); (have hc2A := (hfA.cell hl2 id).trans hc2); (have p0A : wA.cell? ⟨w.heap.size, 0, none⟩ = some (.int .i64 2) := hob.cell' rfl); (have p2A : wA.cell? ⟨w.heap.size, 2, none⟩ = some (.int .i64 tt) := hob.cell' rfl); (have p3A : wA.cell? ⟨w.heap.size, 3, none⟩ = some (.int .i64 n) := hob.cell' rfl); (have p4A : wA.cell? ⟨w.heap.size, 4, none⟩ = some (.int .i64 x) := hob.cell' rfl); (have p5A : wA.cell? ⟨w.heap.size, 5, none⟩ = some (.slice AL nl cl) := hob.cell' rfl); (go_wp2_with fail)
  have hp := pop_ent wA (HI.out.quiet hfA) (by have := hfA.size; omega) He.out
  rw [Hv.out] at hp
  refine hp.mono ?_
  rintro r w2 ⟨rfl, e1, t1, hR2, hf2, hn2⟩
  have hq := rpop_ent w2 hR2 (by have := hfA.size; have := hf2.size; omega) (set_at He.out e1) (t1.few (HE.out.few HI.out He.out))
  rw [t1.ptrs.2, t1.ys_, ← HE.out.at_ He.out, Hv.out] at hq
  have H1 := hide (And.intro t1 (And.intro hR2 hf2))
  clear hp t1 hR2 hf2
  go_wp2_with fail
  refine hq.mono ?_
  rintro r w4 ⟨rfl, e2, t2, hR4, hf4, hn4⟩
  have hfin := DoesOut.two HW.out HI.out HE.out He.out hfA hB H1.out.1 H1.out.2.2 H1.out.2.1 (Fr.refl _ _) t2 hR4 hf4
  have HF := hide hfin
  clear hfin t2 hR4 hf4 hq
  go_wp2_with fail
  go_ret
  exact ⟨rfl, HF.out⟩
end
end Go.Proofs.Yteleakbbppbnnaa
