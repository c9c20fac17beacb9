/-
  does: Push; kept.
-/
import Derived.Test.YteleakbbppbnnaaRrc
namespace Go.Proofs.Yteleakbbppbnnaa
open Go.RowKit
set_option linter.unusedVariables false
attribute [local go_sem ↓] Go.wp_at_zero Go.wp_at_succ
section
variable {B0 wb : Nat} {L : List (Option RE)} {A1 : Option Addr} {c1 : Nat} {g1 : Option Nat} {A2 : Option Addr} {c2 : Nat} {g2 : Option Nat} {w wA w2 w3 w4 : World} {k : Nat} {e : Option RE}
theorem marks_get (l : List Int) (n j : Nat) (hn : l.length = n) (hj : j < 40) : ((l ++ imarks 40).map iv)[n + j]? = some (.int .i64 (-771 - (j : Int))) := by
  rw [List.getElem?_map, List.getElem?_append_right (by omega), show n + j - l.length = j by omega]
  unfold imarks
  rw [List.getElem?_map, List.getElem?_range hj]; rfl
set_option maxHeartbeats 2000000 in
set_option maxRecDepth 4000 in
theorem kept_any (w : World) (l : List Int) (A B : Option Addr) (n c d : Nat) (g : Nat) (hn : n * 8 ≤ 140737488351232) (hA : Ow w tInt 1 A (n + 40) c ((l ++ imarks 40).map iv) (some g)) (hB : Sl w 1 B n (l.map iv)) :
    Calls Try.prog 28 #[.slice A n c, .slice B n d] w fun e w' => e = .returned (.bool true) ∧ Fr (fun _ => False) w w' := by
  have hl : l.length = n := by have := hB.1; simpa using this
  have hcap := hA.cap
  have hc2 : c ≤ 9223372036854775807 := by have := hcap.2; unfold maxLen at this; exact this
  have hc1 := hcap.1
  have h1 := hA.take (k := n) (by omega)
  have e1 : ((l ++ imarks 40).map iv).take (n * 1) = l.map iv := by
    rw [List.map_append, List.take_append_of_le_length (by simp; omega), List.take_of_length_le (by simp; omega)]
  rw [e1] at h1
  have hs := same_int w l A B c d n hl.symm (by omega) h1.sl hB
  obtain ⟨b, o, rfl, hg, -, -⟩ := hA.look (marks_get l n 0 hl (by omega))
  have HA := hide hA
  have Hl := hide hl
  clear hcap hA hl h1 e1 hB hg
  go_enter Try.func28, Try.ntmps28
  go_wp2_with fail
  refine hs.mono ?_
  rintro e w2 ⟨rfl, hf⟩
  clear hs
  go_wp2_with fail
  go_loopw [6] (fun i wr => ∃ j : Nat, i = .int .i64 (j : Int) ∧ j ≤ 40 ∧ Fr (fun _ => False) w2 wr) (fun i _ => 40 - (intOf i).toNat)
  case atStart => exact ⟨0, rfl, by omega, Fr.refl _ _⟩
  case round =>
    obtain ⟨j, rfl, hj, hfj⟩ := hrel
    by_cases hlt : j < 40
    · obtain ⟨b', o', hA', -, hc, -⟩ := (HA.out.fr (hf.trans hfj) (fun _ _ => id)).look (marks_get l n j Hl.out hlt)
      cases hA'
      have i1 : IntKind.i64.wrap ((n : Int) + (j : Int)) = ((n + j : Nat) : Int) := by rw [IntWalk.i64_in _ (by omega)]; rfl
      have i2 : IntKind.i64.wrap (-771 - (j : Int)) = -771 - (j : Int) := IntWalk.i64_in _ (by omega)
      obtain ⟨nj, hnj⟩ : ∃ nj, n + j = nj := ⟨_, rfl⟩
      rw [hnj] at i1 hc
      have i3 : (0 : Int) ≤ (nj : Int) := by omega
      have i4 : (nj : Int) < ((n + 40 : Nat) : Int) := by omega
      clear hnj
      go_wp2_with fail
      exact ⟨⟨j + 1, by go_num, hlt, hfj⟩, by simp [intOf]; omega⟩
    · obtain rfl : j = 40 := by omega
      go_wp2_with fail
      go_ret
      exact ⟨rfl, hf.trans hfj⟩
set_option maxHeartbeats 4000000 in
set_option maxRecDepth 4000 in
theorem does_push (hW : PW B0 wb L A1 c1 g1 A2 c2 g2 w) (hI : RW B0 w L) (hE : Even L) (hB : B0 ≤ w.heap.size) (m : Nat) (Hm : Hid (L.length = m)) (hL1 : 1 ≤ m) (hL2 : m ≤ 20) (wh tt n x : Int) (k : Nat) (Hk : Hid (wh % (m : Int) = (k : Int))) (hkm : k < m) (e : Option RE) (he : L[k]? = some e) (kt : Nat) (Hkt : Hid (tt % (m : Int) = (kt : Int))) (hktm : kt < m) (AL : Option Addr) (nl cl : Nat) (l : List Int) (hn : nl * 8 ≤ 140737488351232) (hAL : SlB w B0 AL nl (l.map iv)) :
    Calls Try.prog 18 #[.pointer (some ⟨wb, 0, none⟩), .agg #[.int .i64 1, .int .i64 wh, .int .i64 tt, .int .i64 n, .int .i64 x, .slice AL nl cl]] w fun r w' => r = .returned (.bool true) ∧ DoesOut B0 wb L w w' := by
  (obtain ⟨b1, o1, rfl, hg1, hc1, -⟩ := hW.o1.look (j := k) (u := ptrP e) (by rw [List.getElem?_map, he]; rfl)); (obtain ⟨b2, o2, rfl, hg2, hc2, -⟩ := hW.o2.look (j := k) (u := ptrQ e) (by rw [List.getElem?_map, he]; rfl)); (have hl1 := hW.o1.lt b1 hg1); (have hl2 := hW.o2.lt b2 hg2); (have hlw := hW.bl.lt); (have w0 : w.cell? ⟨wb, 0, none⟩ = some (.slice (some ⟨b1, o1, none⟩) m c1) := by rw [← Hm.out]; exact hW.bl.cell' rfl); (have w1 : w.cell? ⟨wb, 1, none⟩ = some (.slice (some ⟨b2, o2, none⟩) m c2) := by rw [← Hm.out]; exact hW.bl.cell' rfl); (have He := hide he); (have HE := hide hE); (have HW := hide hW); (have HI := hide hI); clear he hE hW hI hg1 hg2
  have hll : l.length = nl := by have := hAL.1; simpa using this
  obtain ⟨v, hv⟩ : ∃ v, pushV nl (pairOf RE.xs e) = v := ⟨_, rfl⟩
  have Hv := hide hv
  have HAL := hide hAL
  have Hll := hide hll
  clear hv hAL hll
  go_enter Try.func18, Try.ntmps18
  (go_wp2_with fail); (go_quiet ((go_at_call 26; exact quiet_left (round_nat _ wh m k (by omega) (by omega) Hk.out)))); (have hobq := (Bl.new w tOp #[.int .i64 1, .int .i64 wh, .int .i64 tt, .int .i64 n, .int .i64 x, .slice AL nl cl]).drewN nq); (have hfq := ((Fr.refl (fun _ => False) w).alloc (.cells #[.int .i64 1, .int .i64 wh, .int .i64 tt, .int .i64 n, .int .i64 x, .slice AL nl cl] tOp)).drewN nq); (generalize hwq : (w.alloc (.cells #[.int .i64 1, .int .i64 wh, .int .i64 tt, .int .i64 n, .int .i64 x, .slice AL nl cl] tOp)).drewN nq = wq at hobq hfq ⊢); clear hwq; (have w0q := (hfq.cell hlw id).trans w0); (have w1q := (hfq.cell hlw id).trans w1); (have hc1q := (hfq.cell hl1 id).trans hc1); (have hc2q := (hfq.cell hl2 id).trans hc2); (have p0q : wq.cell? ⟨w.heap.size, 0, none⟩ = some (.int .i64 1) := hobq.cell' rfl); (have p2q : wq.cell? ⟨w.heap.size, 2, none⟩ = some (.int .i64 tt) := hobq.cell' rfl); (have p3q : wq.cell? ⟨w.heap.size, 3, none⟩ = some (.int .i64 n) := hobq.cell' rfl); (have p4q : wq.cell? ⟨w.heap.size, 4, none⟩ = some (.int .i64 x) := hobq.cell' rfl); (have p5q : wq.cell? ⟨w.heap.size, 5, none⟩ = some (.slice AL nl cl) := hobq.cell' rfl); (go_wp2_with fail); (go_quiet ((go_at_call 26; exact quiet_left (round_nat _ tt m kt (by omega) (by omega) Hkt.out)))); (have hob := hobq.drewN nq); (have hfA := hfq.drewN nq); (generalize hwA : wq.drewN nq = wA at hob hfA ⊢); clear hwA hobq hfq w0q w1q hc1q hc2q p0q p2q p3q p4q p5q; (have w0A := (hfA.cell hlw id).trans w0); (have w1A := (hfA.cell hlw id).trans w1); (have hc1A := (hfA.cell hl1 id).trans hc1); (have hc2A := (hfA.cell hl2 id).trans hc2); (have p0A : wA.cell? ⟨w.heap.size, 0, none⟩ = some (.int .i64 1) := hob.cell' rfl); (have p2A : wA.cell? ⟨w.heap.size, 2, none⟩ = some (.int .i64 tt) := hob.cell' rfl); (have p3A : wA.cell? ⟨w.heap.size, 3, none⟩ = some (.int .i64 n) := hob.cell' rfl); (have p4A : wA.cell? ⟨w.heap.size, 4, none⟩ = some (.int .i64 x) := hob.cell' rfl); (have p5A : wA.cell? ⟨w.heap.size, 5, none⟩ = some (.slice AL nl cl) := hob.cell' rfl); (go_wp2_with fail)
  have hALA := HAL.out.fr hfA hB (fun _ e => e.elim)
  refine (lentI_any wA l AL nl cl hn hALA.sl).mono ?_
  rintro r w2 ⟨A, c, g, rfl, hO, hg, hf2⟩
  have hI2 := HI.out.quiet (hfA.trans hf2)
  have hs2 : w.heap.size ≤ g ∧ w.heap.size ≤ w2.heap.size := by have := hfA.size; have := hf2.size; omega
  have hg2 : g < w2.heap.size := hO.lt g rfl
  have hOt := hO.take (k := nl) (by omega)
  have e1 : ((l ++ imarks 40).map iv).take (nl * 1) = l.map iv := by
    have := Hll.out
    rw [List.map_append, List.take_append_of_le_length (by simp; omega), List.take_of_length_le (by simp; omega)]
  rw [e1] at hOt
  have hp := push_ent w2 hI2 (by omega) He.out A nl c l hOt.sl (fun h0 b ⟨o, hA⟩ hb => by
    rcases hOt.2 with ⟨h1, -⟩ | ⟨b', o', cur, hA', hg', -⟩
    · rw [h1] at hA; cases hA
    · rw [hA'] at hA; cases hA; cases hg'
      exact feet_old HI.out He.out hs2.1)
  rw [Hv.out] at hp
  have HO := hide hO
  have Hf2 := hide hf2
  have HI2 := hide hI2
  clear hO hf2 hOt e1 hI2
  go_wp2_with fail
  refine hp.mono ?_
  rintro r w3 ⟨rfl, e1, t1, hR3, hf3, hn3⟩
  have hng : ¬ efoot e g := feet_old HI.out He.out hs2.1
  have hO3 := HO.out.fr hf3 (fun b hb hfo => by cases hb; exact hng hfo)
  have hz3 := hf3.size
  have hAL3 := (HAL.out.fr (hfA.trans Hf2.out) hB (fun _ e => e.elim)).fr hf3 (by omega) (fun x hx => feet_lo HI.out He.out hx)
  have hq := rpush_ent w3 hR3 (by omega) (set_at He.out e1) (t1.few (HE.out.few HI.out He.out)) AL nl cl (by omega) l hAL3.sl
  rw [t1.ptrs.2, t1.pair, ← HE.out.pair He.out, Hv.out] at hq
  have hob3 := (hob.fr Hf2.out id).fr hf3 (feet_old HI.out He.out (Nat.le_refl _))
  have p5B : w3.cell? ⟨w.heap.size, 5, none⟩ = some (.slice AL nl cl) := hob3.cell' rfl
  have H3 := hide (And.intro t1 (And.intro hR3 (And.intro hf3 (And.intro hn3 (And.intro hO3 (And.intro hAL3 hob3))))))
  clear hp t1 hR3 hf3 hn3 hO3 hAL3 hob3
  go_wp2_with fail
  refine hq.mono ?_
  rintro r w4 ⟨rfl, e2, t2, hR4, hf4, hn4⟩
  have hng1 : ¬ efoot e1 g := fun hh => hng (H3.out.2.2.2.1 g hg2 hh)
  have hng2 : ¬ efoot e2 g := fun hh => hng1 (hn4 g (by omega) hh)
  have hO4 := H3.out.2.2.2.2.1.fr hf4 (fun b hb hfo => by cases hb; exact hng1 hfo)
  have hAL4 := H3.out.2.2.2.2.2.1.fr hf4 (by omega) (fun x hx => feet_lo H3.out.2.1 (set_at He.out e1) hx)
  have hob4 := H3.out.2.2.2.2.2.2.fr hf4 (feet_ty H3.out.2.1 (set_at He.out e1) H3.out.2.2.2.2.2.2 (by decide))
  have p5C : w4.cell? ⟨w.heap.size, 5, none⟩ = some (.slice AL nl cl) := hob4.cell' rfl
  have hD := DoesIs.two HW.out HI.out HE.out He.out (hfA.trans Hf2.out) hB H3.out.1 H3.out.2.2.1 H3.out.2.1 (Fr.refl _ _) t2 hR4 hf4
  have hno : ∀ a, some a ∈ L.set k e2 → ¬ a.foot g := by
    intro a ha hfo
    obtain ⟨i, hi⟩ := List.mem_iff_getElem?.1 ha
    by_cases hik : k = i
    · subst hik
      rw [set_at He.out e2] at hi
      cases hi
      exact hng2 ⟨a, rfl, hfo⟩
    · rw [List.getElem?_set_ne hik] at hi
      have := HI.out.lt (List.mem_of_getElem? hi) hfo
      omega
  have hk := kept_any w4 l A AL nl c cl g hn hO4 hAL4.sl
  have H4 := hide (And.intro hD (And.intro hno hO4))
  clear hq t2 hR4 hf4 hn4 hAL4 hob4 hD hno hO4 hob
  go_wp2_with fail
  refine hk.mono ?_
  rintro r w5 ⟨rfl, hf5⟩
  have Hf5 := hide hf5
  clear hk hf5 hng hng1 hng2 hALA
  go_wp2_with fail
  go_loopw [13] (fun i wr => ∃ (j : Nat) (ys : List Int), i = .int .i64 (j : Int) ∧ j ≤ nl ∧ ys.length = nl + 40 ∧ Ow wr tInt 1 A (nl + 40) c (ys.map iv) (some g) ∧ Fr (fun x => x = g) w4 wr) (fun i _ => nl - (intOf i).toNat)
  case atStart =>
    exact ⟨0, l ++ imarks 40, rfl, by omega, by rw [List.length_append, imarks_len, Hll.out], H4.out.2.2.fr Hf5.out (fun _ _ => id), Hf5.out.weak _⟩
  case round =>
    obtain ⟨j, ys, rfl, hj, hys, hOj, hfj⟩ := hrel
    by_cases hlt : j < nl
    · obtain ⟨b, o, rfl, hbg, hc, hz⟩ := hOj.look (j := j) (u := .int .i64 (ys.getD j 0)) (iv_get (by omega))
      cases hbg
      have hO5 := hOj.put (j := j) (by omega) (.int .i64 (-1))
      have e5 : (ys.map iv).set j (.int .i64 (-1)) = (ys.set j (-1)).map iv := by rw [List.map_set]; rfl
      rw [e5] at hO5
      have hf6 := hfj.trans (((Fr.refl (fun x => x = g) wr).setAt (i := o + j) (.int .i64 (-1))))
      have HO5 := hide hO5
      have Hf6 := hide hf6
      have Hys := hide hys
      have i1 : (0 : Int) ≤ (j : Int) := by omega
      clear hO5 hf6 hOj hfj hys e5
      go_wp2_with fail
      exact ⟨⟨j + 1, ys.set j (-1), by go_num, hlt, by rw [List.length_set]; exact Hys.out, HO5.out, Hf6.out⟩, by simp [intOf]; omega⟩
    · obtain rfl : j = nl := by omega
      have hbl : ∃ cs, Bl w4 g tInt cs := Ow.ty H4.out.2.2
      obtain ⟨cs, hbl⟩ := hbl
      have hfin : DoesOut B0 wb L w wr := ⟨_, DoesIs.far H4.out.1 hbl hs2.1 hB H4.out.2.1 hfj⟩
      have HF := hide hfin
      clear hfin hOj hfj hys
      go_wp2_with fail
      go_ret
      exact ⟨rfl, HF.out⟩
end
end Go.Proofs.Yteleakbbppbnnaa
