/-
  does: Walk.
-/
import Derived.Test.YteleakbbppbnnaaRrc
import Derived.Test.YteleakbbppbnnaaRri
namespace Go.Proofs.Yteleakbbppbnnaa
open Go.RowKit
set_option linter.unusedVariables false
attribute [local go_sem ↓] Go.wp_at_zero Go.wp_at_succ
section
variable {B0 wb : Nat} {L : List (Option RE)} {A1 : Option Addr} {c1 : Nat} {g1 : Option Nat} {A2 : Option Addr} {c2 : Nat} {g2 : Option Nat} {w wA w2 w3 w4 : World} {k : Nat} {e : Option RE}
/-- One of them turned as the document's did. -/
theorem DoesIs.one {a : RE} {xs' : List Int} (hW : PW B0 wb L A1 c1 g1 A2 c2 g2 w) (hI : RW B0 w L) (hE : Even L) (hk : L[k]? = some (some a)) (hA : Fr (fun _ => False) w wA)
    (hB : B0 ≤ w.heap.size) (ho : MixOut wA a.p a.g a.q a.lg a.room xs' xs' w2) : ∃ L', DoesIs B0 wb L L' w w2 := by
  have hl : k < L.length := (List.getElem?_eq_some_iff.1 hk).1
  have hIA := hI.quiet hA
  obtain ⟨a', h1, h2, h3, h4, h5, hR, hf, hn⟩ := hIA.turn (by have := hA.size; omega) hk ho
  have s1 : Small (efoot (some a)) wA := hIA.small (List.mem_of_getElem? hk)
  have hP := (hW.quiet hA).fr hf s1
  refine ⟨L.set k (some a'), ⟨_, _, _, _, _, _, hP.alike (by simp) (map_set_same hk ?_) (map_set_same hk ?_), hR, ?_⟩, by simp, ?_, ?_⟩
  · simp only [ptrP, h1]
  · simp only [ptrQ, h2]
  · intro c hc
    obtain ⟨i, hi⟩ := List.mem_iff_getElem?.1 hc
    by_cases hik : k = i
    · subst hik
      rw [List.getElem?_set_self hl] at hi
      cases hi
      rw [h4, h5]
    · rw [List.getElem?_set_ne hik] at hi
      exact hE c (List.mem_of_getElem? hi)
  · intro i hi
    by_cases hik : k = i
    · subst hik
      rw [hk] at hi; cases hi
    · rw [List.getElem?_set_ne hik]; exact hi
  · refine (hA.weak _).comp hf ?_
    rintro i - hb
    exact feet_lo hI hk hb
set_option maxHeartbeats 4000000 in
set_option maxRecDepth 4000 in
theorem does_walk0 (hW : PW B0 wb L A1 c1 g1 A2 c2 g2 w) (hI : RW B0 w L) (hE : Even L) (hB : B0 ≤ w.heap.size) (m : Nat) (Hm : Hid (L.length = m)) (hL1 : 1 ≤ m) (hL2 : m ≤ 20) (wh tt n x : Int) (k : Nat) (Hk : Hid (wh % (m : Int) = (k : Int))) (hkm : k < m) (he : L[k]? = some none) (kt : Nat) (Hkt : Hid (tt % (m : Int) = (kt : Int))) (hktm : kt < m) (AL : Option Addr) (nl cl : Nat) :
    Calls Try.prog 18 #[.pointer (some ⟨wb, 0, none⟩), .agg #[.int .i64 7, .int .i64 wh, .int .i64 tt, .int .i64 n, .int .i64 x, .slice AL nl cl]] w fun r w' => r = .returned (.bool true) ∧ DoesOut B0 wb L w w' := by
  (obtain ⟨b1, o1, rfl, hg1, hc1, -⟩ := hW.o1.look (j := k) (u := ptrP (none)) (by rw [List.getElem?_map, he]; rfl)); (obtain ⟨b2, o2, rfl, hg2, hc2, -⟩ := hW.o2.look (j := k) (u := ptrQ (none)) (by rw [List.getElem?_map, he]; rfl)); (have hl1 := hW.o1.lt b1 hg1); (have hl2 := hW.o2.lt b2 hg2); (have hlw := hW.bl.lt); (have w0 : w.cell? ⟨wb, 0, none⟩ = some (.slice (some ⟨b1, o1, none⟩) m c1) := by rw [← Hm.out]; exact hW.bl.cell' rfl); (have w1 : w.cell? ⟨wb, 1, none⟩ = some (.slice (some ⟨b2, o2, none⟩) m c2) := by rw [← Hm.out]; exact hW.bl.cell' rfl); (have He := hide he); (have HE := hide hE); (have HW := hide hW); (have HI := hide hI); clear he hE hW hI hg1 hg2
  (replace hc1 : w.cell? ⟨b1, o1 + k, none⟩ = some (.pointer none) := hc1); (replace hc2 : w.cell? ⟨b2, o2 + k, none⟩ = some (.pointer none) := hc2)
  go_enter Try.func18, Try.ntmps18
  (go_wp2_with fail); (go_quiet ((go_at_call 26; exact quiet_left (round_nat _ wh m k (by omega) (by omega) Hk.out)))); (have hobq := (Bl.new w tOp #[.int .i64 7, .int .i64 wh, .int .i64 tt, .int .i64 n, .int .i64 x, .slice AL nl cl]).drewN nq); (have hfq := ((Fr.refl (fun _ => False) w).alloc (.cells #[.int .i64 7, .int .i64 wh, .int .i64 tt, .int .i64 n, .int .i64 x, .slice AL nl cl] tOp)).drewN nq); (generalize hwq : (w.alloc (.cells #[.int .i64 7, .int .i64 wh, .int .i64 tt, .int .i64 n, .int .i64 x, .slice AL nl cl] tOp)).drewN nq = wq at hobq hfq ⊢); clear hwq; (have w0q := (hfq.cell hlw id).trans w0); (have w1q := (hfq.cell hlw id).trans w1); (have hc1q := (hfq.cell hl1 id).trans hc1); (have hc2q := (hfq.cell hl2 id).trans hc2); (have p0q : wq.cell? ⟨w.heap.size, 0, none⟩ = some (.int .i64 7) := hobq.cell' rfl); (have p2q : wq.cell? ⟨w.heap.size, 2, none⟩ = some (.int .i64 tt) := hobq.cell' rfl); (have p3q : wq.cell? ⟨w.heap.size, 3, none⟩ = some (.int .i64 n) := hobq.cell' rfl); (have p4q : wq.cell? ⟨w.heap.size, 4, none⟩ = some (.int .i64 x) := hobq.cell' rfl); (have p5q : wq.cell? ⟨w.heap.size, 5, none⟩ = some (.slice AL nl cl) := hobq.cell' rfl); (go_wp2_with fail); (go_quiet ((go_at_call 26; exact quiet_left (round_nat _ tt m kt (by omega) (by omega) Hkt.out)))); (have hob := hobq.drewN nq); (have hfA := hfq.drewN nq); (generalize hwA : wq.drewN nq = wA at hob hfA ⊢); clear hwA hobq hfq w0q w1q hc1q hc2q p0q p2q p3q p4q p5q; (have w0A := (hfA.cell hlw id).trans w0); (have w1A := (hfA.cell hlw id).trans w1); (have hc1A := (hfA.cell hl1 id).trans hc1); (have hc2A := (hfA.cell hl2 id).trans hc2); (have p0A : wA.cell? ⟨w.heap.size, 0, none⟩ = some (.int .i64 7) := hob.cell' rfl); (have p2A : wA.cell? ⟨w.heap.size, 2, none⟩ = some (.int .i64 tt) := hob.cell' rfl); (have p3A : wA.cell? ⟨w.heap.size, 3, none⟩ = some (.int .i64 n) := hob.cell' rfl); (have p4A : wA.cell? ⟨w.heap.size, 4, none⟩ = some (.int .i64 x) := hob.cell' rfl); (have p5A : wA.cell? ⟨w.heap.size, 5, none⟩ = some (.slice AL nl cl) := hob.cell' rfl)
  have p1A : wA.cell? ⟨w.heap.size, 1, none⟩ = some (.int .i64 wh) := hob.cell' rfl
  go_wp2_with fail
  refine (walk_nil wA _ ⟨7, wh, tt, n, x, AL, nl, cl, rfl⟩).mono ?_
  rintro r w2 ⟨rfl, hf2⟩
  go_wp2_with fail
  go_ret
  exact ⟨rfl, DoesOut.same HW.out HI.out HE.out (hfA.trans hf2)⟩
set_option maxHeartbeats 4000000 in
set_option maxRecDepth 4000 in
theorem does_walk1 (hW : PW B0 wb L A1 c1 g1 A2 c2 g2 w) (hI : RW B0 w L) (hE : Even L) (hB : B0 ≤ w.heap.size) (m : Nat) (Hm : Hid (L.length = m)) (hL1 : 1 ≤ m) (hL2 : m ≤ 20) (wh tt n x : Int) (k : Nat) (Hk : Hid (wh % (m : Int) = (k : Int))) (hkm : k < m) (a : RE) (he : L[k]? = some (some a)) (kt : Nat) (Hkt : Hid (tt % (m : Int) = (kt : Int))) (hktm : kt < m) (AL : Option Addr) (nl cl : Nat) :
    Calls Try.prog 18 #[.pointer (some ⟨wb, 0, none⟩), .agg #[.int .i64 7, .int .i64 wh, .int .i64 tt, .int .i64 n, .int .i64 x, .slice AL nl cl]] w fun r w' => r = .returned (.bool true) ∧ DoesOut B0 wb L w w' := by
  (obtain ⟨b1, o1, rfl, hg1, hc1, -⟩ := hW.o1.look (j := k) (u := ptrP (some a)) (by rw [List.getElem?_map, he]; rfl)); (obtain ⟨b2, o2, rfl, hg2, hc2, -⟩ := hW.o2.look (j := k) (u := ptrQ (some a)) (by rw [List.getElem?_map, he]; rfl)); (have hl1 := hW.o1.lt b1 hg1); (have hl2 := hW.o2.lt b2 hg2); (have hlw := hW.bl.lt); (have w0 : w.cell? ⟨wb, 0, none⟩ = some (.slice (some ⟨b1, o1, none⟩) m c1) := by rw [← Hm.out]; exact hW.bl.cell' rfl); (have w1 : w.cell? ⟨wb, 1, none⟩ = some (.slice (some ⟨b2, o2, none⟩) m c2) := by rw [← Hm.out]; exact hW.bl.cell' rfl); (have He := hide he); (have HE := hide hE); (have HW := hide hW); (have HI := hide hI); clear he hE hW hI hg1 hg2
  (replace hc1 : w.cell? ⟨b1, o1 + k, none⟩ = some (.pointer (some ⟨a.p, 0, none⟩)) := hc1); (replace hc2 : w.cell? ⟨b2, o2 + k, none⟩ = some (.pointer (some ⟨a.q, 0, none⟩)) := hc2)
  go_enter Try.func18, Try.ntmps18
  (go_wp2_with fail); (go_quiet ((go_at_call 26; exact quiet_left (round_nat _ wh m k (by omega) (by omega) Hk.out)))); (have hobq := (Bl.new w tOp #[.int .i64 7, .int .i64 wh, .int .i64 tt, .int .i64 n, .int .i64 x, .slice AL nl cl]).drewN nq); (have hfq := ((Fr.refl (fun _ => False) w).alloc (.cells #[.int .i64 7, .int .i64 wh, .int .i64 tt, .int .i64 n, .int .i64 x, .slice AL nl cl] tOp)).drewN nq); (generalize hwq : (w.alloc (.cells #[.int .i64 7, .int .i64 wh, .int .i64 tt, .int .i64 n, .int .i64 x, .slice AL nl cl] tOp)).drewN nq = wq at hobq hfq ⊢); clear hwq; (have w0q := (hfq.cell hlw id).trans w0); (have w1q := (hfq.cell hlw id).trans w1); (have hc1q := (hfq.cell hl1 id).trans hc1); (have hc2q := (hfq.cell hl2 id).trans hc2); (have p0q : wq.cell? ⟨w.heap.size, 0, none⟩ = some (.int .i64 7) := hobq.cell' rfl); (have p2q : wq.cell? ⟨w.heap.size, 2, none⟩ = some (.int .i64 tt) := hobq.cell' rfl); (have p3q : wq.cell? ⟨w.heap.size, 3, none⟩ = some (.int .i64 n) := hobq.cell' rfl); (have p4q : wq.cell? ⟨w.heap.size, 4, none⟩ = some (.int .i64 x) := hobq.cell' rfl); (have p5q : wq.cell? ⟨w.heap.size, 5, none⟩ = some (.slice AL nl cl) := hobq.cell' rfl); (go_wp2_with fail); (go_quiet ((go_at_call 26; exact quiet_left (round_nat _ tt m kt (by omega) (by omega) Hkt.out)))); (have hob := hobq.drewN nq); (have hfA := hfq.drewN nq); (generalize hwA : wq.drewN nq = wA at hob hfA ⊢); clear hwA hobq hfq w0q w1q hc1q hc2q p0q p2q p3q p4q p5q; (have w0A := (hfA.cell hlw id).trans w0); (have w1A := (hfA.cell hlw id).trans w1); (have hc1A := (hfA.cell hl1 id).trans hc1); (have hc2A := (hfA.cell hl2 id).trans hc2); (have p0A : wA.cell? ⟨w.heap.size, 0, none⟩ = some (.int .i64 7) := hob.cell' rfl); (have p2A : wA.cell? ⟨w.heap.size, 2, none⟩ = some (.int .i64 tt) := hob.cell' rfl); (have p3A : wA.cell? ⟨w.heap.size, 3, none⟩ = some (.int .i64 n) := hob.cell' rfl); (have p4A : wA.cell? ⟨w.heap.size, 4, none⟩ = some (.int .i64 x) := hob.cell' rfl); (have p5A : wA.cell? ⟨w.heap.size, 5, none⟩ = some (.slice AL nl cl) := hob.cell' rfl)
  have p1A : wA.cell? ⟨w.heap.size, 1, none⟩ = some (.int .i64 wh) := hob.cell' rfl
  go_wp2_with fail
  have hmix : Mix wA a.p a.g a.q a.lg a.room a.xs a.xs := by
    have h := (HI.out.quiet hfA).look He.out
    have h2 := HE.out a (List.mem_of_getElem? He.out)
    unfold MixE at h
    rw [← h2] at h
    exact h
  refine (walk_any wA a.p a.q a.room a.g a.lg a.xs 7 wh tt n x (.slice AL nl cl) hmix).mono ?_
  rintro r w2 ⟨rfl, xs', ho⟩
  have hfin := DoesIs.one HW.out HI.out HE.out He.out hfA hB ho
  have HF := hide hfin
  clear hfin ho hmix
  go_wp2_with fail
  go_ret
  exact ⟨rfl, HF.out⟩
end
end Go.Proofs.Yteleakbbppbnnaa
