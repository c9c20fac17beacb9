/-
  does: the kinds that call one bucket.
-/
import Derived.Test.YtgogagapapdlgaaBkW1
import Derived.Test.YtgogagapapdlgaaReg
namespace Go.Proofs.Ytgogagapapdlgaa
open Go.RowKit
set_option linter.unusedVariables false
attribute [local go_sem ↓] Go.wp_at_zero Go.wp_at_succ

def DoesOut (B0 wb : Nat) (w w' : World) : Prop :=
  ∃ L' σ' A1 c1 g1 A2 c2 g2, WP B0 wb L' A1 c1 g1 A2 c2 g2 w' ∧ BI B0 L' σ' w' ∧ 1 ≤ L'.length ∧ L'.length ≤ 20 ∧ Fr (fun k => B0 ≤ k) w w'

theorem round_nat (w : World) (wh : Int) (m k : Nat) (h1 : 1 ≤ m) (h2 : m ≤ 1000) (hk : wh % (m : Int) = (k : Int)) :
    Calls Try.prog 13 #[.int .i64 wh, .int .i64 (m : Int)] w fun e w' => e = .returned (.int .i64 (k : Int)) ∧ w = w' := by
  rw [← hk]; exact round_any w wh m (by omega) (by omega)

abbrev tOp : TypeId := 31
theorem Turn.old {t : TypeId} {sel : Nat × Nat → Nat} {L : List Ent} {σ : Nat → St} {w : World} {e : Ent} (h : InvS t sel L σ w) (he : e ∈ L) {x : Nat} (hx : w.heap.size ≤ x) : ¬ Turn sel e x := by
  rintro ⟨pq, rfl, rfl⟩
  have := (h pq he).1.lt
  omega
section
variable {B0 wb : Nat} {L : List Ent} {σ : Nat → St} {A1 : Option Addr} {c1 : Nat} {g1 : Option Nat} {A2 : Option Addr} {c2 : Nat} {g2 : Option Nat} {w : World}
theorem BI.fr {S : Nat → Prop} {w' : World} (h : BI B0 L σ w) (hf : Fr S w w') (h1 : ∀ x, ¬ S x) : BI B0 L σ w' :=
  ⟨h.b.fr hf fun _ _ => h1 _, h.m.fr hf fun _ _ => h1 _, h.sep, h.new⟩
theorem WP.fr0 {S : Nat → Prop} {w' : World} (h : WP B0 wb L A1 c1 g1 A2 c2 g2 w) (hf : Fr S w w') (h1 : ∀ x, ¬ S x) : WP B0 wb L A1 c1 g1 A2 c2 g2 w' :=
  ⟨h.bl.fr hf (h1 _), h.o1.fr hf fun _ _ => h1 _, h.o2.fr hf fun _ _ => h1 _, h.n0, h.n1, h.n2⟩
theorem DoesOut.same {w' : World} (hW : WP B0 wb L A1 c1 g1 A2 c2 g2 w) (hI : BI B0 L σ w) (hL1 : 1 ≤ L.length) (hL2 : L.length ≤ 20) (hf : Fr (fun _ => False) w w') : DoesOut B0 wb w w' :=
  ⟨L, σ, A1, c1, g1, A2, c2, g2, hW.fr0 hf (fun _ => id), hI.fr hf (fun _ => id), hL1, hL2, hf.weak _⟩

theorem DoesOut.step {wA w2 w3 : World} {σ' : Nat → St} {e : Ent} (hW : WP B0 wb L A1 c1 g1 A2 c2 g2 w) (hI : BI B0 L σ w) (hL1 : 1 ≤ L.length) (hL2 : L.length ≤ 20) (he : e ∈ L) (hfA : Fr (fun _ => False) w wA)
    (hb2 : InvS tB Prod.fst L σ' w2) (hf2 : Fr (Turn Prod.fst e) wA w2) (hm3 : InvS tM Prod.snd L σ' w3) (hf3 : Fr (Turn Prod.snd e) w2 w3) : DoesOut B0 wb w w3 := by
  have hIA := hI.fr hfA (fun _ => id)
  have o1 := Turn.only hIA.b he
  have hm2 := hIA.m.frT hf2 o1 (by decide)
  have o2 := Turn.only hm2 he
  refine ⟨L, σ', A1, c1, g1, A2, c2, g2, ((hW.fr0 hfA (fun _ => id)).fr hf2 o1 (by decide) (by decide) (by decide)).fr hf3 o2 (by decide) (by decide) (by decide), ⟨hb2.frT hf3 o2 (by decide), hm3, hI.sep, hI.new⟩, hL1, hL2, ?_⟩
  refine ((hfA.weak _).comp hf2 ?_).comp hf3 ?_
  · rintro i - ⟨pq, rfl, rfl⟩; exact (hI.new pq he).1
  · rintro i - ⟨pq, rfl, rfl⟩; exact (hI.new pq he).2

set_option maxHeartbeats 4000000 in
set_option maxRecDepth 4000 in
theorem does_when (hW : WP B0 wb L A1 c1 g1 A2 c2 g2 w) (hI : BI B0 L σ w) (m : Nat) (Hm : Hid (L.length = m)) (hL1 : 1 ≤ m) (hL2 : m ≤ 20) (wh n : Int) (k : Nat) (Hk : Hid (wh % (m : Int) = (k : Int))) (hkm : k < m) (e : Ent) (he : L[k]? = some e) (AL : Option Addr) (nl cl : Nat) :
    Calls Try.prog 18 #[.pointer (some ⟨wb, 0, none⟩), .agg #[.int .i64 3, .int .i64 wh, .int .i64 n, .slice AL nl cl]] w fun r w' => r = .returned (.bool true) ∧ DoesOut B0 wb w w' := by
  (obtain ⟨b1, o1, rfl, hg1, hc1, -⟩ := hW.o1.look (j := k) (u := ptr Prod.fst e) (by rw [List.getElem?_map, he]; rfl)); (obtain ⟨b2, o2, rfl, hg2, hc2, -⟩ := hW.o2.look (j := k) (u := ptr Prod.snd e) (by rw [List.getElem?_map, he]; rfl)); (have hl1 := hW.o1.lt b1 hg1); (have hl2 := hW.o2.lt b2 hg2); (have hlw := hW.bl.lt); (have he' : e ∈ L := List.mem_of_getElem? he); (have w0 : w.cell? ⟨wb, 0, none⟩ = some (.slice (some ⟨b1, o1, none⟩) m c1) := by rw [← Hm.out]; exact hW.bl.cell' rfl); (have w1 : w.cell? ⟨wb, 1, none⟩ = some (.slice (some ⟨b2, o2, none⟩) m c2) := by rw [← Hm.out]; exact hW.bl.cell' rfl); (have He := hide he); clear he
  go_enter Try.func18, Try.ntmps18
  (go_wp2_with fail); (go_quiet ((go_at_call 13; exact quiet_left (round_nat _ wh m k (by omega) (by omega) Hk.out)))); (go_wp2_with fail)
  have hob := (Bl.new w tOp #[.int .i64 3, .int .i64 wh, .int .i64 n, .slice AL nl cl]).drewN nq
  have hfA := ((Fr.refl (fun _ => False) w).alloc (.cells #[.int .i64 3, .int .i64 wh, .int .i64 n, .slice AL nl cl] tOp)).drewN nq
  refine (when_ent _ n L σ e he' (hI.b.fr hfA (fun _ _ => id))).mono ?_
  rintro r wB ⟨rfl, hfB⟩
  have q2 : wB.cell? ⟨w.heap.size, 2, none⟩ = some (.int .i64 n) := (hob.fr hfB id).cell' rfl
  go_wp2_with fail
  refine (rwhen_ent _ n L σ e he' (hI.m.fr (hfA.trans hfB) (fun _ _ => id))).mono ?_
  rintro r wC ⟨rfl, hfC⟩
  go_wp2_with fail
  go_ret
  exact ⟨rfl, DoesOut.same hW hI (by rw [Hm.out]; exact hL1) (by rw [Hm.out]; exact hL2) ((hfA.trans hfB).trans hfC)⟩
set_option maxHeartbeats 4000000 in
set_option maxRecDepth 4000 in
theorem does_tell (hW : WP B0 wb L A1 c1 g1 A2 c2 g2 w) (hI : BI B0 L σ w) (m : Nat) (Hm : Hid (L.length = m)) (hL1 : 1 ≤ m) (hL2 : m ≤ 20) (wh n : Int) (k : Nat) (Hk : Hid (wh % (m : Int) = (k : Int))) (hkm : k < m) (e : Ent) (he : L[k]? = some e) (AL : Option Addr) (nl cl : Nat) :
    Calls Try.prog 18 #[.pointer (some ⟨wb, 0, none⟩), .agg #[.int .i64 4, .int .i64 wh, .int .i64 n, .slice AL nl cl]] w fun r w' => r = .returned (.bool true) ∧ DoesOut B0 wb w w' := by
  (obtain ⟨b1, o1, rfl, hg1, hc1, -⟩ := hW.o1.look (j := k) (u := ptr Prod.fst e) (by rw [List.getElem?_map, he]; rfl)); (obtain ⟨b2, o2, rfl, hg2, hc2, -⟩ := hW.o2.look (j := k) (u := ptr Prod.snd e) (by rw [List.getElem?_map, he]; rfl)); (have hl1 := hW.o1.lt b1 hg1); (have hl2 := hW.o2.lt b2 hg2); (have hlw := hW.bl.lt); (have he' : e ∈ L := List.mem_of_getElem? he); (have w0 : w.cell? ⟨wb, 0, none⟩ = some (.slice (some ⟨b1, o1, none⟩) m c1) := by rw [← Hm.out]; exact hW.bl.cell' rfl); (have w1 : w.cell? ⟨wb, 1, none⟩ = some (.slice (some ⟨b2, o2, none⟩) m c2) := by rw [← Hm.out]; exact hW.bl.cell' rfl); (have He := hide he); clear he
  go_enter Try.func18, Try.ntmps18
  (go_wp2_with fail); (go_quiet ((go_at_call 13; exact quiet_left (round_nat _ wh m k (by omega) (by omega) Hk.out)))); (go_wp2_with fail)
  have hfA := ((Fr.refl (fun _ => False) w).alloc (.cells #[.int .i64 4, .int .i64 wh, .int .i64 n, .slice AL nl cl] tOp)).drewN nq
  refine (told_ent _ L σ e he' (hI.b.fr hfA (fun _ _ => id)) (hI.m.fr hfA (fun _ _ => id))).mono ?_
  rintro r wB ⟨rfl, hfB⟩
  go_wp2_with fail
  go_ret
  exact ⟨rfl, DoesOut.same hW hI (by rw [Hm.out]; exact hL1) (by rw [Hm.out]; exact hL2) (hfA.trans hfB)⟩
set_option maxHeartbeats 4000000 in
set_option maxRecDepth 4000 in
theorem does_made (hW : WP B0 wb L A1 c1 g1 A2 c2 g2 w) (hI : BI B0 L σ w) (m : Nat) (Hm : Hid (L.length = m)) (hL1 : 1 ≤ m) (hL2 : m ≤ 20) (wh n : Int) (k : Nat) (Hk : Hid (wh % (m : Int) = (k : Int))) (hkm : k < m) (e : Ent) (he : L[k]? = some e) (AL : Option Addr) (nl cl : Nat) :
    Calls Try.prog 18 #[.pointer (some ⟨wb, 0, none⟩), .agg #[.int .i64 7, .int .i64 wh, .int .i64 n, .slice AL nl cl]] w fun r w' => r = .returned (.bool true) ∧ DoesOut B0 wb w w' := by
  (obtain ⟨b1, o1, rfl, hg1, hc1, -⟩ := hW.o1.look (j := k) (u := ptr Prod.fst e) (by rw [List.getElem?_map, he]; rfl)); (obtain ⟨b2, o2, rfl, hg2, hc2, -⟩ := hW.o2.look (j := k) (u := ptr Prod.snd e) (by rw [List.getElem?_map, he]; rfl)); (have hl1 := hW.o1.lt b1 hg1); (have hl2 := hW.o2.lt b2 hg2); (have hlw := hW.bl.lt); (have he' : e ∈ L := List.mem_of_getElem? he); (have w0 : w.cell? ⟨wb, 0, none⟩ = some (.slice (some ⟨b1, o1, none⟩) m c1) := by rw [← Hm.out]; exact hW.bl.cell' rfl); (have w1 : w.cell? ⟨wb, 1, none⟩ = some (.slice (some ⟨b2, o2, none⟩) m c2) := by rw [← Hm.out]; exact hW.bl.cell' rfl); (have He := hide he); clear he
  go_enter Try.func18, Try.ntmps18
  (go_wp2_with fail); (go_quiet ((go_at_call 13; exact quiet_left (round_nat _ wh m k (by omega) (by omega) Hk.out)))); (go_wp2_with fail)
  have hfA := ((Fr.refl (fun _ => False) w).alloc (.cells #[.int .i64 7, .int .i64 wh, .int .i64 n, .slice AL nl cl] tOp)).drewN nq
  refine (unmade_any _ n).mono ?_
  rintro r wB ⟨rfl, hfB⟩
  go_wp2_with fail
  go_ret
  exact ⟨rfl, DoesOut.same hW hI (by rw [Hm.out]; exact hL1) (by rw [Hm.out]; exact hL2) (hfA.trans hfB)⟩
set_option maxHeartbeats 4000000 in
set_option maxRecDepth 4000 in
theorem does_none (hW : WP B0 wb L A1 c1 g1 A2 c2 g2 w) (hI : BI B0 L σ w) (m : Nat) (Hm : Hid (L.length = m)) (hL1 : 1 ≤ m) (hL2 : m ≤ 20) (wh n : Int) (k : Nat) (Hk : Hid (wh % (m : Int) = (k : Int))) (hkm : k < m) (e : Ent) (he : L[k]? = some e) (AL : Option Addr) (nl cl : Nat) (kd : Int) (hkd : kd < 1 ∨ 7 < kd) :
    Calls Try.prog 18 #[.pointer (some ⟨wb, 0, none⟩), .agg #[.int .i64 kd, .int .i64 wh, .int .i64 n, .slice AL nl cl]] w fun r w' => r = .returned (.bool true) ∧ DoesOut B0 wb w w' := by
  (obtain ⟨b1, o1, rfl, hg1, hc1, -⟩ := hW.o1.look (j := k) (u := ptr Prod.fst e) (by rw [List.getElem?_map, he]; rfl)); (obtain ⟨b2, o2, rfl, hg2, hc2, -⟩ := hW.o2.look (j := k) (u := ptr Prod.snd e) (by rw [List.getElem?_map, he]; rfl)); (have hl1 := hW.o1.lt b1 hg1); (have hl2 := hW.o2.lt b2 hg2); (have hlw := hW.bl.lt); (have he' : e ∈ L := List.mem_of_getElem? he); (have w0 : w.cell? ⟨wb, 0, none⟩ = some (.slice (some ⟨b1, o1, none⟩) m c1) := by rw [← Hm.out]; exact hW.bl.cell' rfl); (have w1 : w.cell? ⟨wb, 1, none⟩ = some (.slice (some ⟨b2, o2, none⟩) m c2) := by rw [← Hm.out]; exact hW.bl.cell' rfl); (have He := hide he); clear he
  have d1 : (kd == 1) = false := beq_eq_false_iff_ne.2 (by omega)
  have d2 : (kd == 2) = false := beq_eq_false_iff_ne.2 (by omega)
  have d3 : (kd == 3) = false := beq_eq_false_iff_ne.2 (by omega)
  have d4 : (kd == 4) = false := beq_eq_false_iff_ne.2 (by omega)
  have d5 : (kd == 5) = false := beq_eq_false_iff_ne.2 (by omega)
  have d6 : (kd == 6) = false := beq_eq_false_iff_ne.2 (by omega)
  have d7 : (kd == 7) = false := beq_eq_false_iff_ne.2 (by omega)
  clear hkd
  go_enter Try.func18, Try.ntmps18
  (go_wp2_with fail); (go_quiet ((go_at_call 13; exact quiet_left (round_nat _ wh m k (by omega) (by omega) Hk.out)))); (go_wp2_with fail)
  have hfA := ((Fr.refl (fun _ => False) w).alloc (.cells #[.int .i64 kd, .int .i64 wh, .int .i64 n, .slice AL nl cl] tOp)).drewN nq
  go_ret
  exact ⟨rfl, DoesOut.same hW hI (by rw [Hm.out]; exact hL1) (by rw [Hm.out]; exact hL2) hfA⟩
set_option maxHeartbeats 4000000 in
set_option maxRecDepth 4000 in
theorem does_refill (hW : WP B0 wb L A1 c1 g1 A2 c2 g2 w) (hI : BI B0 L σ w) (m : Nat) (Hm : Hid (L.length = m)) (hL1 : 1 ≤ m) (hL2 : m ≤ 20) (wh n : Int) (k : Nat) (Hk : Hid (wh % (m : Int) = (k : Int))) (hkm : k < m) (e : Ent) (he : L[k]? = some e) (AL : Option Addr) (nl cl : Nat) :
    Calls Try.prog 18 #[.pointer (some ⟨wb, 0, none⟩), .agg #[.int .i64 1, .int .i64 wh, .int .i64 n, .slice AL nl cl]] w fun r w' => r = .returned (.bool true) ∧ DoesOut B0 wb w w' := by
  (obtain ⟨b1, o1, rfl, hg1, hc1, -⟩ := hW.o1.look (j := k) (u := ptr Prod.fst e) (by rw [List.getElem?_map, he]; rfl)); (obtain ⟨b2, o2, rfl, hg2, hc2, -⟩ := hW.o2.look (j := k) (u := ptr Prod.snd e) (by rw [List.getElem?_map, he]; rfl)); (have hl1 := hW.o1.lt b1 hg1); (have hl2 := hW.o2.lt b2 hg2); (have hlw := hW.bl.lt); (have he' : e ∈ L := List.mem_of_getElem? he); (have w0 : w.cell? ⟨wb, 0, none⟩ = some (.slice (some ⟨b1, o1, none⟩) m c1) := by rw [← Hm.out]; exact hW.bl.cell' rfl); (have w1 : w.cell? ⟨wb, 1, none⟩ = some (.slice (some ⟨b2, o2, none⟩) m c2) := by rw [← Hm.out]; exact hW.bl.cell' rfl); (have He := hide he); clear he
  have nT := Turn.old hI.b he' (Nat.le_refl _)
  have nT2 := Turn.old hI.m he' (Nat.le_refl _)
  go_enter Try.func18, Try.ntmps18
  (go_wp2_with fail); (go_quiet ((go_at_call 13; exact quiet_left (round_nat _ wh m k (by omega) (by omega) Hk.out)))); (go_wp2_with fail)
  have hob := (Bl.new w tOp #[.int .i64 1, .int .i64 wh, .int .i64 n, .slice AL nl cl]).drewN nq
  have hfA := ((Fr.refl (fun _ => False) w).alloc (.cells #[.int .i64 1, .int .i64 wh, .int .i64 n, .slice AL nl cl] tOp)).drewN nq
  have hfB := hfA.drew
  have hIB := hI.fr hfB (fun _ => id)
  have hobB := hob.drew
  go_region_held3 (fun w' => w'.cell? ⟨w.heap.size, 2, none⟩ = some (.int .i64 n)) (go_keep)
    (first
      | (go_at_call 9; refine (refill_ent _ n L σ e he' hIB.b).mono ?_; rintro r w2 ⟨rfl, hb2, hf2⟩; have hm2 := hIB.m.frT hf2 (Turn.only hIB.b he') (by decide); have hob2 := hobB.fr hf2 nT; have q2 : w2.cell? ⟨w.heap.size, 2, none⟩ = some (.int .i64 n) := hob2.cell' rfl)
      | (go_at_call 24; refine (rrefill_ent _ n L σ hI.sep e he' hm2).mono ?_; rintro r w3 ⟨rfl, hm3, hf3⟩; have q3 : w3.cell? ⟨w.heap.size, 2, none⟩ = some (.int .i64 n) := (hob2.fr hf3 nT2).cell' rfl))
  all_goals go_wp2_with fail
  all_goals go_ret
  all_goals exact ⟨rfl, DoesOut.step hW hI (by rw [Hm.out]; exact hL1) (by rw [Hm.out]; exact hL2) he' hfB hb2 hf2 hm3 hf3⟩
set_option maxHeartbeats 4000000 in
set_option maxRecDepth 4000 in
theorem does_take (hW : WP B0 wb L A1 c1 g1 A2 c2 g2 w) (hI : BI B0 L σ w) (m : Nat) (Hm : Hid (L.length = m)) (hL1 : 1 ≤ m) (hL2 : m ≤ 20) (wh n : Int) (k : Nat) (Hk : Hid (wh % (m : Int) = (k : Int))) (hkm : k < m) (e : Ent) (he : L[k]? = some e) (AL : Option Addr) (nl cl : Nat) :
    Calls Try.prog 18 #[.pointer (some ⟨wb, 0, none⟩), .agg #[.int .i64 2, .int .i64 wh, .int .i64 n, .slice AL nl cl]] w fun r w' => r = .returned (.bool true) ∧ DoesOut B0 wb w w' := by
  (obtain ⟨b1, o1, rfl, hg1, hc1, -⟩ := hW.o1.look (j := k) (u := ptr Prod.fst e) (by rw [List.getElem?_map, he]; rfl)); (obtain ⟨b2, o2, rfl, hg2, hc2, -⟩ := hW.o2.look (j := k) (u := ptr Prod.snd e) (by rw [List.getElem?_map, he]; rfl)); (have hl1 := hW.o1.lt b1 hg1); (have hl2 := hW.o2.lt b2 hg2); (have hlw := hW.bl.lt); (have he' : e ∈ L := List.mem_of_getElem? he); (have w0 : w.cell? ⟨wb, 0, none⟩ = some (.slice (some ⟨b1, o1, none⟩) m c1) := by rw [← Hm.out]; exact hW.bl.cell' rfl); (have w1 : w.cell? ⟨wb, 1, none⟩ = some (.slice (some ⟨b2, o2, none⟩) m c2) := by rw [← Hm.out]; exact hW.bl.cell' rfl); (have He := hide he); clear he
  have nT := Turn.old hI.b he' (Nat.le_refl _)
  have nT2 := Turn.old hI.m he' (Nat.le_refl _)
  go_enter Try.func18, Try.ntmps18
  (go_wp2_with fail); (go_quiet ((go_at_call 13; exact quiet_left (round_nat _ wh m k (by omega) (by omega) Hk.out)))); (go_wp2_with fail)
  have hob := (Bl.new w tOp #[.int .i64 2, .int .i64 wh, .int .i64 n, .slice AL nl cl]).drewN nq
  have hfA := ((Fr.refl (fun _ => False) w).alloc (.cells #[.int .i64 2, .int .i64 wh, .int .i64 n, .slice AL nl cl] tOp)).drewN nq
  have hfB := hfA.drew
  have hIB := hI.fr hfB (fun _ => id)
  have hobB := hob.drew
  go_region_held3 (fun w' => w'.cell? ⟨w.heap.size, 2, none⟩ = some (.int .i64 n)) (go_keep)
    (first
      | (go_at_call 10; refine (take_ent _ n L σ e he' hIB.b).mono ?_; rintro r w2 ⟨rfl, hO2⟩; obtain ⟨hb2, hf2⟩ := takeOut_upd hIB.b hO2; clear hO2; have hm2 := hIB.m.frT hf2 (Turn.only hIB.b he') (by decide); have hob2 := hobB.fr hf2 nT; have q2 : w2.cell? ⟨w.heap.size, 2, none⟩ = some (.int .i64 n) := hob2.cell' rfl)
      | (go_at_call 25; refine (rtake_ent _ n L σ hI.sep e he' hm2).mono ?_; rintro r w3 ⟨rfl, hO3⟩; obtain ⟨hm3, hf3⟩ := takeOut_upd hm2 hO3; clear hO3; have q3 : w3.cell? ⟨w.heap.size, 2, none⟩ = some (.int .i64 n) := (hob2.fr hf3 nT2).cell' rfl))
  all_goals go_wp2_with fail
  all_goals go_ret
  all_goals exact ⟨rfl, DoesOut.step hW hI (by rw [Hm.out]; exact hL1) (by rw [Hm.out]; exact hL2) he' hfB hb2 hf2 hm3 hf3⟩
end
end Go.Proofs.Ytgogagapapdlgaa
