/-
  does: Move.
-/
import Derived.Test.YteleakbbppbnnaaRrl
namespace Go.Proofs.Yteleakbbppbnnaa
open Go.RowKit
set_option linter.unusedVariables false
attribute [local go_sem ↓] Go.wp_at_zero Go.wp_at_succ
section
variable {B0 wb : Nat} {L : List (Option RE)} {A1 : Option Addr} {c1 : Nat} {g1 : Option Nat} {A2 : Option Addr} {c2 : Nat} {g2 : Option Nat} {w wA w2 w3 w4 : World} {k : Nat} {e : Option RE}
/-- Behind both Moves. -/
theorem DoesIs.moved {L1 L2 : List (Option RE)} {kt : Nat} {n : Int} {rq : Nat} (hW : PW B0 wb L A1 c1 g1 A2 c2 g2 w) (hI : RW B0 w L) (hE : Even L) (hA : Fr (fun _ => False) w wA) (hB : B0 ≤ w.heap.size)
    (hM1 : Moves B0 wA L k kt w2 L1) (hx1 : xsOf L1 = mvX k kt n rq (xsOf L)) (hy1 : ysOf L1 = ysOf L) (hq : Fr (fun _ => False) w2 w3) (hM2 : Moves B0 w3 L1 k kt w4 L2) (hy2 : ysOf L2 = mvX k kt n rq (ysOf L1)) (hx2 : xsOf L2 = xsOf L1) : DoesIs B0 wb L L2 w w4 := by
  obtain ⟨p1, r1, f1⟩ := hM1
  obtain ⟨p2, r2, f2⟩ := hM2
  have pp := p2.trans p1
  obtain ⟨hl, h1, h2⟩ := places_ptrs pp
  have s1 : Small (feet L fun i => i = k ∨ i = kt) wA := (hI.quiet hA).small_ _
  have s2 : Small (feet L1 fun i => i = k ∨ i = kt) w3 := (r1.quiet hq).small_ _
  refine ⟨⟨_, _, _, _, _, _, ((((hW.quiet hA).fr f1 s1).quiet hq).fr f2 s2).alike hl h1 h2, r2, ?_⟩, hl, ?_, ?_⟩
  · rw [even_iff, hx2, hx1, hy2, hy1, even_iff.1 hE]
  · intro i hi
    obtain ⟨e1, h3, -, -, -, h4⟩ := places_get pp hi
    rw [h3, h4.1 rfl]
  · exact ((((hA.weak _).comp f1 fun i _ hb => hI.lo_ _ hb)).trans (hq.weak _)).comp f2 fun i _ hb => r1.lo_ _ hb
theorem few_of {e e1 : Option RE} (h : e1.map RE.ys = e.map RE.ys) (hf : few e) : few e1 := by
  rintro a rfl
  cases e with
  | none => cases h
  | some b =>
    have h1 : a.ys = b.ys := Option.some.inj h
    rw [h1]; exact hf b rfl
set_option maxHeartbeats 4000000 in
set_option maxRecDepth 4000 in
theorem does_move (hW : PW B0 wb L A1 c1 g1 A2 c2 g2 w) (hI : RW B0 w L) (hE : Even L) (hB : B0 ≤ w.heap.size) (m : Nat) (Hm : Hid (L.length = m)) (hL1 : 1 ≤ m) (hL2 : m ≤ 20) (wh tt n x : Int) (k : Nat) (Hk : Hid (wh % (m : Int) = (k : Int))) (hkm : k < m) (e : Option RE) (he : L[k]? = some e) (kt : Nat) (Hkt : Hid (tt % (m : Int) = (kt : Int))) (hktm : kt < m) (f : Option RE) (hft : L[kt]? = some f) (AL : Option Addr) (nl cl : Nat) :
    Calls Try.prog 18 #[.pointer (some ⟨wb, 0, none⟩), .agg #[.int .i64 8, .int .i64 wh, .int .i64 tt, .int .i64 n, .int .i64 x, .slice AL nl cl]] w fun r w' => r = .returned (.bool true) ∧ DoesOut B0 wb L w w' := by
  (obtain ⟨b1, o1, rfl, hg1, hc1, -⟩ := hW.o1.look (j := k) (u := ptrP e) (by rw [List.getElem?_map, he]; rfl)); (obtain ⟨b2, o2, rfl, hg2, hc2, -⟩ := hW.o2.look (j := k) (u := ptrQ e) (by rw [List.getElem?_map, he]; rfl)); (have hl1 := hW.o1.lt b1 hg1); (have hl2 := hW.o2.lt b2 hg2); (have hlw := hW.bl.lt); (have w0 : w.cell? ⟨wb, 0, none⟩ = some (.slice (some ⟨b1, o1, none⟩) m c1) := by rw [← Hm.out]; exact hW.bl.cell' rfl); (have w1 : w.cell? ⟨wb, 1, none⟩ = some (.slice (some ⟨b2, o2, none⟩) m c2) := by rw [← Hm.out]; exact hW.bl.cell' rfl); (have He := hide he); (have HE := hide hE); (have HW := hide hW); (have HI := hide hI); clear he hE hW hI hg1 hg2
  have hd1 : w.cell? ⟨b1, o1 + kt, none⟩ = some (ptrP f) := by
    obtain ⟨b, o, h1, -, h2, -⟩ := HW.out.o1.look (j := kt) (u := ptrP f) (by rw [List.getElem?_map, hft]; rfl)
    cases h1; exact h2
  have hd2 : w.cell? ⟨b2, o2 + kt, none⟩ = some (ptrQ f) := by
    obtain ⟨b, o, h1, -, h2, -⟩ := HW.out.o2.look (j := kt) (u := ptrQ f) (by rw [List.getElem?_map, hft]; rfl)
    cases h1; exact h2
  obtain ⟨v1, v2, hv⟩ : ∃ v1 v2, mvV (decide (k = kt)) n (roomOf f) (e.map RE.xs) (f.map RE.xs) = (v1, v2) := ⟨_, _, rfl⟩
  have Hv := hide hv
  have Hft := hide hft
  clear hv hft
  go_enter Try.func18, Try.ntmps18
  (go_wp2_with fail); (go_quiet ((go_at_call 26; exact quiet_left (round_nat _ wh m k (by omega) (by omega) Hk.out)))); (have hobq := (Bl.new w tOp #[.int .i64 8, .int .i64 wh, .int .i64 tt, .int .i64 n, .int .i64 x, .slice AL nl cl]).drewN nq); (have hfq := ((Fr.refl (fun _ => False) w).alloc (.cells #[.int .i64 8, .int .i64 wh, .int .i64 tt, .int .i64 n, .int .i64 x, .slice AL nl cl] tOp)).drewN nq); (generalize hwq : (w.alloc (.cells #[.int .i64 8, .int .i64 wh, .int .i64 tt, .int .i64 n, .int .i64 x, .slice AL nl cl] tOp)).drewN nq = wq at hobq hfq ⊢); clear hwq; (have w0q := (hfq.cell hlw id).trans w0); (have w1q := (hfq.cell hlw id).trans w1); (have hc1q := (hfq.cell hl1 id).trans hc1); (have hc2q := (hfq.cell hl2 id).trans hc2); (have p0q : wq.cell? ⟨w.heap.size, 0, none⟩ = some (.int .i64 8) := hobq.cell' rfl); (have p2q : wq.cell? ⟨w.heap.size, 2, none⟩ = some (.int .i64 tt) := hobq.cell' rfl); (have p3q : wq.cell? ⟨w.heap.size, 3, none⟩ = some (.int .i64 n) := hobq.cell' rfl); (have p4q : wq.cell? ⟨w.heap.size, 4, none⟩ = some (.int .i64 x) := hobq.cell' rfl); (have p5q : wq.cell? ⟨w.heap.size, 5, none⟩ = some (.slice AL nl cl) := hobq.cell' rfl); (go_wp2_with fail); (go_quiet ((go_at_call 26; exact quiet_left (round_nat _ tt m kt (by omega) (by omega) Hkt.out)))); (have hob := hobq.drewN nq); (have hfA := hfq.drewN nq); (generalize hwA : wq.drewN nq = wA at hob hfA ⊢); clear hwA hobq hfq w0q w1q hc1q hc2q p0q p2q p3q p4q p5q; (have w0A := (hfA.cell hlw id).trans w0); (have w1A := (hfA.cell hlw id).trans w1); (have hc1A := (hfA.cell hl1 id).trans hc1); (have hc2A := (hfA.cell hl2 id).trans hc2); (have p0A : wA.cell? ⟨w.heap.size, 0, none⟩ = some (.int .i64 8) := hob.cell' rfl); (have p2A : wA.cell? ⟨w.heap.size, 2, none⟩ = some (.int .i64 tt) := hob.cell' rfl); (have p3A : wA.cell? ⟨w.heap.size, 3, none⟩ = some (.int .i64 n) := hob.cell' rfl); (have p4A : wA.cell? ⟨w.heap.size, 4, none⟩ = some (.int .i64 x) := hob.cell' rfl); (have p5A : wA.cell? ⟨w.heap.size, 5, none⟩ = some (.slice AL nl cl) := hob.cell' rfl)
  have hd1A := (hfA.cell hl1 id).trans hd1
  go_wp2_with fail
  have hfB := hfA.drew
  have hobB := hob.drew
  have hp := move_ent wA.drew (HI.out.quiet hfB) (by have := hfB.size; omega) He.out Hft.out n
  rw [Hv.out] at hp
  have i1 : (0 : Int) ≤ (kt : Int) := by omega
  go_region_held3 (fun w' => w'.cell? ⟨w.heap.size, 3, none⟩ = some (.int .i64 n) ∧ w'.cell? ⟨wb, 0, none⟩ = some (.slice (some ⟨b1, o1, none⟩) m c1) ∧ w'.cell? ⟨b1, o1 + kt, none⟩ = some (ptrP f)) (go_keep)
    (first
      | (go_at_call 14; refine hp.mono ?_; rintro r w2 ⟨rfl, L1, hM1, hx1, hy1⟩; have hP2 := (HW.out.quiet hfB).fr hM1.2.2 (RW.small_ (HI.out.quiet hfB) _); have hob2 := hobB.fr hM1.2.2 (fun hb => by obtain ⟨k0, e0, -, he0, hb0⟩ := hb; exact feet_old HI.out he0 (Nat.le_refl _) hb0); have q2 : w2.cell? ⟨w.heap.size, 3, none⟩ = some (.int .i64 n) ∧ w2.cell? ⟨wb, 0, none⟩ = some (.slice (some ⟨b1, o1, none⟩) m c1) ∧ w2.cell? ⟨b1, o1 + kt, none⟩ = some (ptrP f) := ⟨hob2.cell' rfl, by rw [← Hm.out]; exact hP2.bl.cell' rfl, by (obtain ⟨b, o, h1, -, h2, -⟩ := hP2.o1.look (j := kt) (u := ptrP f) (by rw [List.getElem?_map, Hft.out]; rfl)); cases h1; exact h2⟩))
  have Hq2 := hide q2
  clear q2
  obtain ⟨e1, he1, -, hqe, -, -⟩ := places_get hM1.1 He.out
  obtain ⟨f1, hf1, -, hqf, hrf, hnf⟩ := places_get hM1.1 Hft.out
  have hye : e1.map RE.ys = e.map RE.ys := by
    have h := congrArg (fun l => l[k]?) hy1
    simp only [ysOf_get he1, ysOf_get He.out] at h
    exact Option.some.inj h
  have hyf : f1.map RE.ys = f.map RE.ys := by
    have h := congrArg (fun l => l[kt]?) hy1
    simp only [ysOf_get hf1, ysOf_get Hft.out] at h
    exact Option.some.inj h
  have hfewe : few e1 := few_of hye (HE.out.few HI.out He.out)
  have hroom : ∀ c, f1 = some c → c.ys.length ≤ c.room := by
    rintro c rfl
    cases f with
    | none => exact absurd (hnf.1 rfl) (by simp)
    | some c0 =>
      have h1 := (HI.out.look Hft.out).a.bounds
      have h2 := HE.out c0 (List.mem_of_getElem? Hft.out)
      have h3 : c.room = c0.room := hrf
      have h4 : c.ys = c0.ys := Option.some.inj hyf
      rw [h4, h3, ← h2]; omega
  have hq := rmove_ent w2.drew (hM1.2.1.quiet (Fr.refl _ _).drew) (by have := hfB.size; have := hM1.2.2.size; show B0 ≤ w2.heap.size; omega) he1 hf1 hfewe hroom n
  rw [hqe, hqf, hrf, hye, hyf, ← HE.out.at_ He.out, ← HE.out.at_ Hft.out, Hv.out] at hq
  have r1 : w2.cell? ⟨w.heap.size, 3, none⟩ = some (.int .i64 n) := hob2.cell' rfl
  have r2 : w2.cell? ⟨wb, 1, none⟩ = some (.slice (some ⟨b2, o2, none⟩) m c2) := by rw [← Hm.out]; exact hP2.bl.cell' rfl
  have r3 : w2.cell? ⟨b2, o2 + kt, none⟩ = some (ptrQ f) := by
    obtain ⟨b, o, h1, -, h2, -⟩ := hP2.o2.look (j := kt) (u := ptrQ f) (by rw [List.getElem?_map, Hft.out]; rfl)
    cases h1; exact h2
  have hl22 := hP2.o2.lt b2 (by obtain ⟨b, o, h1, h3, -, -⟩ := hP2.o2.look (j := kt) (u := ptrQ f) (by rw [List.getElem?_map, Hft.out]; rfl); cases h1; exact h3)
  have hob2B := hob2.drew
  have hfq : Fr (fun _ => False) w2 w2.drew := (Fr.refl _ _).drew
  have HM1 := hide (And.intro hM1 (And.intro hx1 (And.intro hy1 hP2)))
  clear hp hM1 hx1 hy1 hP2 hye hyf hfewe hroom hnf hqe hqf hrf hc1A hc2A w0A w1A hd1A p0A p2A p3A p4A p5A
  go_wp2_with fail
  go_region_held3 (fun w' => w'.cell? ⟨w.heap.size, 3, none⟩ = some (.int .i64 n) ∧ w'.cell? ⟨wb, 1, none⟩ = some (.slice (some ⟨b2, o2, none⟩) m c2) ∧ w'.cell? ⟨b2, o2 + kt, none⟩ = some (ptrQ f)) (go_keep)
    (first
      | (go_at_call 37; refine hq.mono ?_; rintro r w4 ⟨rfl, L2, hM2, hy2, hx2⟩; have hP4 := (HM1.out.2.2.2.quiet hfq).fr hM2.2.2 (RW.small_ (HM1.out.1.2.1.quiet hfq) _); have hob4 := hob2B.fr hM2.2.2 (fun hb => by obtain ⟨k0, e0, -, he0, hb0⟩ := hb; exact feet_ty (HM1.out.1.2.1.quiet hfq) he0 hob2B (by decide) hb0); have q4 : w4.cell? ⟨w.heap.size, 3, none⟩ = some (.int .i64 n) ∧ w4.cell? ⟨wb, 1, none⟩ = some (.slice (some ⟨b2, o2, none⟩) m c2) ∧ w4.cell? ⟨b2, o2 + kt, none⟩ = some (ptrQ f) := ⟨hob4.cell' rfl, by rw [← Hm.out]; exact hP4.bl.cell' rfl, by (obtain ⟨b, o, h1, -, h2, -⟩ := hP4.o2.look (j := kt) (u := ptrQ f) (by rw [List.getElem?_map, Hft.out]; rfl)); cases h1; exact h2⟩))
  have hfin := DoesIs.moved HW.out HI.out HE.out hfB hB HM1.out.1 HM1.out.2.1 HM1.out.2.2.1 hfq hM2 hy2 hx2
  have HF := hide hfin
  clear hfin hM2 hy2 hx2 hP4 hob4 q4 hq
  go_wp2_with fail
  go_ret
  exact ⟨rfl, _, HF.out⟩
end
end Go.Proofs.Yteleakbbppbnnaa
