/-
  does: All over a list of buckets, some of them the same.
-/
import Derived.Test.YtgogagapapdlgaaBkW3
namespace Go.Proofs.Ytgogagapapdlgaa
open Go.RowKit
set_option linter.unusedVariables false
attribute [local go_sem ↓] Go.wp_at_zero Go.wp_at_succ

theorem cnt_zero {x : Nat} : ∀ {js : List Ent}, (∀ y, some y ∈ js → y.1 ≠ x) → cnt x js = 0
  | [], _ => rfl
  | none :: r, h => cnt_zero (js := r) fun y hy => h y (List.mem_cons_of_mem _ hy)
  | some p :: r, h => by
    rw [cnt, if_neg (h p (List.mem_cons_self ..)), cnt_zero (js := r) fun y hy => h y (List.mem_cons_of_mem _ hy)]
theorem allS_off {n : Int} {σ : Nat → St} {js : List Ent} {x : Nat} (h : ∀ y, some y ∈ js → y.1 ≠ x) : allS n σ js x = σ x := by
  unfold allS
  split
  · rw [lev, cnt_zero h]; simp [St.at_]
  · rfl
theorem InvS.wide {t : TypeId} {sel : Nat × Nat → Nat} {L js : List Ent} {σ : Nat → St} {w w' : World} {n : Int} (h : InvS t sel L σ w) (hS : Sep sel L) (hjs : ∀ e ∈ js, e ∈ L) (h' : InvS t sel js (allS n σ js) w') (hf : Fr (Of sel js) w w') : InvS t sel L (allS n σ js) w' := by
  intro x hx
  by_cases hy : ∃ y, some y ∈ js ∧ y.1 = x.1
  · obtain ⟨y, hy, e⟩ := hy
    have := h' y hy
    rw [e, (hS y x (hjs _ hy) hx).2 e] at this
    exact this
  · rw [allS_off fun y hy' e => hy ⟨y, hy', e⟩]
    refine ⟨(h x hx).1.fr hf ?_, (h x hx).2⟩
    rintro ⟨y, hy', e⟩
    exact hy ⟨y, hy', ((hS x y hx (hjs _ hy')).1 e).symm⟩

theorem Ow.blk {w : World} {e : TypeId} {size n c b o : Nat} {xs : List Value} {g : Option Nat} (h : Ow w e size (some ⟨b, o, none⟩) n c xs g) : g = some b := by
  rcases h.2 with ⟨h, _⟩ | ⟨b', o', cur, hA, hg, _⟩
  · cases h
  · cases hA; exact hg
section
variable {B0 wb : Nat} {L : List Ent} {σ : Nat → St} {A1 : Option Addr} {c1 : Nat} {g1 : Option Nat} {A2 : Option Addr} {c2 : Nat} {g2 : Option Nat} {w : World}
/-- 'so many were picked'. -/
def Picked (L : List Ent) (nl : Nat) (w0 : World) (l r i : Value) (w : World) : Prop :=
  ∃ (j : Nat) (js : List Ent) (P : Option Addr) (cP : Nat) (gP : Option Nat) (R : Option Addr) (cR : Nat) (gR : Option Nat), i = .int .i64 (j : Int) ∧ l = .slice P j cP ∧ r = .slice R j cR ∧ Hid (js.length = j) ∧ Hid (∀ e ∈ js, e ∈ L) ∧
    Hid (Ow w tPB 1 P j cP (js.map (ptr Prod.fst)) gP) ∧ Hid (Ow w tPM 1 R j cR (js.map (ptr Prod.snd)) gR) ∧ Hid (∀ b, gP = some b → w0.heap.size ≤ b) ∧ Hid (∀ b, gR = some b → w0.heap.size ≤ b) ∧ j ≤ nl ∧ Fr (fun _ => False) w0 w

set_option maxHeartbeats 8000000 in
set_option maxRecDepth 4000 in
theorem does_all (hW : WP B0 wb L A1 c1 g1 A2 c2 g2 w) (hI : BI B0 L σ w) (m : Nat) (Hm : Hid (L.length = m)) (hL1 : 1 ≤ m) (hL2 : m ≤ 20) (wh n : Int) (k : Nat) (Hk : Hid (wh % (m : Int) = (k : Int))) (hkm : k < m) (e : Ent) (he : L[k]? = some e) (AL : Option Addr) (nl cl : Nat) (hB : B0 ≤ w.heap.size) (hnl : nl * 8 ≤ 140737488355328) (kl : Nat → Int) (hAL : Cells w B0 AL nl 1 (fun j _ => .int .i64 (kl j))) :
    Calls Try.prog 18 #[.pointer (some ⟨wb, 0, none⟩), .agg #[.int .i64 6, .int .i64 wh, .int .i64 n, .slice AL nl cl]] w fun r w' => r = .returned (.bool true) ∧ DoesOut B0 wb w w' := by
  obtain ⟨j0, hj, hj0, hj1, hj2⟩ := info_parts infoPB
  obtain ⟨q0, hq, hq0, hq1, hq2⟩ := info_parts infoPM
  (obtain ⟨b1, o1, rfl, hg1, hc1, -⟩ := hW.o1.look (j := k) (u := ptr Prod.fst e) (by rw [List.getElem?_map, he]; rfl)); (obtain ⟨b2, o2, rfl, hg2, hc2, -⟩ := hW.o2.look (j := k) (u := ptr Prod.snd e) (by rw [List.getElem?_map, he]; rfl)); (have hl1 := hW.o1.lt b1 hg1); (have hl2 := hW.o2.lt b2 hg2); (have hlw := hW.bl.lt); (have he' : e ∈ L := List.mem_of_getElem? he); (have w0 : w.cell? ⟨wb, 0, none⟩ = some (.slice (some ⟨b1, o1, none⟩) m c1) := by rw [← Hm.out]; exact hW.bl.cell' rfl); (have w1 : w.cell? ⟨wb, 1, none⟩ = some (.slice (some ⟨b2, o2, none⟩) m c2) := by rw [← Hm.out]; exact hW.bl.cell' rfl); (have He := hide he); (have Hg1 := hide hg1); (have Hg2 := hide hg2); clear he hg1 hg2
  have hQ := hide (hW.toQ Hm.out)
  have HAL := hide hAL
  clear hAL
  go_enter Try.func18, Try.ntmps18
  (go_wp2_with fail); (go_quiet ((go_at_call 13; exact quiet_left (round_nat _ wh m k (by omega) (by omega) Hk.out)))); (go_wp2_with fail)
  have hob := (Bl.new w tOp #[.int .i64 6, .int .i64 wh, .int .i64 n, .slice AL nl cl]).drewN nq
  have hfA := ((Fr.refl (fun _ => False) w).alloc (.cells #[.int .i64 6, .int .i64 wh, .int .i64 n, .slice AL nl cl] tOp)).drewN nq
  generalize hwA : (w.alloc (.cells #[.int .i64 6, .int .i64 wh, .int .i64 n, .slice AL nl cl] tOp)).drewN nq = wA at hob hfA ⊢
  clear hwA hc1 hc2 w0 w1
  have hsA := hfA.size
  go_loopw [14, 15, 16] (fun l r i wr => Picked L nl wA l r i wr) (fun _ _ i _ => nl - (intOf i).toNat)
  case atStart => exact ⟨0, [], none, 0, none, none, 0, none, rfl, rfl, rfl, rfl, hide (fun e he => by simp at he), Ow.nil_ _ _ _, Ow.nil_ _ _ _, hide (fun b h => by cases h), hide (fun b h => by cases h), Nat.zero_le _, Fr.refl _ _⟩
  case round =>
    obtain ⟨j, js, P, cP, gP, R, cR, gR, rfl, rfl, rfl, hjl, hjs, hP, hR, hgP, hgR, hjn, hfr⟩ := hrel
    have q3 : wr.cell? ⟨w.heap.size, 3, none⟩ = some (.slice AL nl cl) := (hob.fr hfr id).cell' rfl
    have q2 : wr.cell? ⟨w.heap.size, 2, none⟩ = some (.int .i64 n) := (hob.fr hfr id).cell' rfl
    have hfw := hfA.trans hfr
    have Q := hQ.out.fr0 hfw
    have hIr := hI.fr hfw (fun _ => id)
    by_cases hlt : j < nl
    · obtain ⟨bL, oL, rfl, hbL, hLc⟩ := HAL.out (by omega)
      have cL : wr.cell? ⟨bL, oL + j, none⟩ = some (.int .i64 (kl j)) := by
        have h0 := hLc j 0 hlt (by omega)
        rw [Nat.mul_one, Nat.add_zero] at h0
        exact (hfw.cell (p := ⟨bL, oL + j, none⟩) (by simp only; omega) id).trans h0
      obtain ⟨t, ht⟩ : ∃ t : Nat, kl j % (m : Int) = (t : Int) := ⟨(kl j % (m : Int)).toNat, by have := Int.emod_nonneg (kl j) (show (m : Int) ≠ 0 by omega); omega⟩
      have htm : t < m := by have := Int.emod_lt_of_pos (kl j) (show (0 : Int) < (m : Int) by omega); omega
      obtain ⟨e2, he2⟩ : ∃ e2, L[t]? = some e2 := ⟨_, List.getElem?_eq_getElem (by rw [Hm.out]; exact htm)⟩
      have he2' : e2 ∈ L := List.mem_of_getElem? he2
      obtain ⟨x1, hx1⟩ : ∃ x1, ptr Prod.fst e2 = .pointer x1 := ⟨_, rfl⟩
      obtain ⟨x2, hx2⟩ : ∃ x2, ptr Prod.snd e2 = .pointer x2 := ⟨_, rfl⟩
      have Hx1 := hide hx1
      have Hx2 := hide hx2
      clear hx1 hx2
      have Ht := hide ht
      have He2 := hide he2
      have w0 : wr.cell? ⟨wb, 0, none⟩ = some (.slice (some ⟨b1, o1, none⟩) m c1) := Q.bl.cell' rfl
      obtain ⟨b1', o1', hA1, -, cB, -⟩ := Q.o1.look (j := t) (u := .pointer x1) (by rw [List.getElem?_map, he2, ← Hx1.out]; rfl)
      cases hA1
      have hcap := hP.out.cap.1
      have hcapR := hR.out.cap.1
      clear ht he2 hLc
      go_wp2_with fail
      go_quiet ((go_at_call 13; exact quiet_left (round_nat _ (kl j) m t (by omega) (by omega) Ht.out)))
      go_wp2_with (first | (at_builtin; go_loud (refine wpList_append_ow _ rfl _ _ 44 rfl 25 j0 (.pointer none) 1 8 Try.underlying44 hj hj0 hj1 hj2 rfl (by decide) _ _ _ _ _ rfl (hP.out.fr (S := fun _ => False) (((Fr.refl _ _).drewN _).alloc _) (fun _ _ => id)) _ _ _ [.pointer x1] rfl (Sl.oneAt (by simp)) (by intro u hu; simp at hu; subst hu; rfl) (by unfold maxLen; omega) (by omega) ?_)) | go_in)
      intro P3 cP3 w3 gP3 hP3 hf3 hgP3
      have hF3 : Fr (fun _ => False) wA w3 := ((hfr.drewN _).alloc _).comp hf3 (fun i hi e => by have := hgP.out i e.symm; omega)
      have Q3 := hQ.out.fr0 (hfA.trans hF3)
      have w1 : w3.cell? ⟨wb, 1, none⟩ = some (.slice (some ⟨b2, o2, none⟩) m c2) := Q3.bl.cell' rfl
      obtain ⟨b2', o2', hA2, -, cM, -⟩ := Q3.o2.look (j := t) (u := .pointer x2) (by rw [List.getElem?_map, He2.out, ← Hx2.out]; rfl)
      cases hA2
      have hR3 := hide ((hR.out.fr (S := fun _ => False) (((Fr.refl _ _).drewN _).alloc _) (fun _ _ => id)).fr hf3 (fun b hb e => by
        have x1 := hR.out
        have x2 := hP.out
        rw [hb] at x1
        rw [← e] at x2
        obtain ⟨cs, x3⟩ := x1.ty
        obtain ⟨cs', x4⟩ := x2.ty
        exact absurd (x3.same x4).2 (by decide)))
      have HP3 := hide hP3
      have hgP3' : Hid (∀ b, gP3 = some b → wA.heap.size ≤ b) := by
        show ∀ b, _
        intro b hb
        rcases hgP3 with h | ⟨b', h, h2⟩
        · exact hgP.out b (h ▸ hb)
        · rw [hb] at h; cases h; have := hfr.size; first | omega | (simp at h2; omega)
      clear hP3 hf3 hgP3 cL cB w0
      go_wp2_with (first | (at_builtin; go_loud (refine wpList_append_ow _ rfl _ _ 45 rfl 50 q0 (.pointer none) 1 8 Try.underlying45 hq hq0 hq1 hq2 rfl (by decide) _ _ _ _ _ rfl (hR3.out.fr (S := fun _ => False) ((Fr.refl _ _).alloc _) (fun _ _ => id)) _ _ _ [.pointer x2] rfl (Sl.oneAt (by simp)) (by intro u hu; simp at hu; subst hu; rfl) (by unfold maxLen; omega) (by omega) ?_)) | go_in)
      intro R3 cR3 w4 gR3 hR4 hf4 hgR3
      have hF4 : Fr (fun _ => False) wA w4 := (hF3.alloc _).comp hf4 (fun i hi e => by have := hgR.out i e.symm; omega)
      have hP4 := hide ((HP3.out.fr (S := fun _ => False) ((Fr.refl _ _).alloc _) (fun _ _ => id)).fr hf4 (fun b hb e => by
        have x1 := HP3.out
        have x2 := hR3.out
        rw [hb] at x1
        rw [← e] at x2
        obtain ⟨cs, x3⟩ := x1.ty
        obtain ⟨cs', x4⟩ := x2.ty
        exact absurd (x3.same x4).2 (by decide)))
      have HR4 := hide hR4
      have hgR3' : Hid (∀ b, gR3 = some b → wA.heap.size ≤ b) := by
        show ∀ b, _
        intro b hb
        rcases hgR3 with h | ⟨b', h, h2⟩
        · exact hgR.out b (h ▸ hb)
        · rw [hb] at h; cases h; have := hF3.size; first | omega | (simp at h2; omega)
      have hjs3 : Hid (∀ e ∈ js ++ [e2], e ∈ L) := by
        show ∀ e ∈ _, _
        intro e he
        rcases List.mem_append.1 he with he | he
        · exact hjs.out e he
        · rw [List.mem_singleton.1 he]; exact he2'
      have hjl3 : Hid ((js ++ [e2]).length = j + 1) := by show _ = _; rw [List.length_append, hjl.out]; rfl
      have HP5 : Hid (Ow w4 tPB 1 P3 (j + 1) cP3 ((js ++ [e2]).map (ptr Prod.fst)) gP3) := by show Ow _ _ _ _ _ _ _ _; rw [List.map_append, List.map_singleton, Hx1.out]; exact hP4.out
      have HR5 : Hid (Ow w4 tPM 1 R3 (j + 1) cR3 ((js ++ [e2]).map (ptr Prod.snd)) gR3) := by show Ow _ _ _ _ _ _ _ _; rw [List.map_append, List.map_singleton, Hx2.out]; exact HR4.out
      clear hR4 hf4 hgR3 w1 cM
      go_wp2_with fail
      exact ⟨⟨j + 1, js ++ [e2], P3, cP3, gP3, R3, cR3, gR3, by go_num, rfl, rfl, hjl3, hjs3, HP5, HR5, hgP3', hgR3', hlt, hF4⟩, by simp [intOf]; omega⟩
    · obtain rfl : j = nl := by omega
      have hcap := hP.out.cap.1
      have hcapR := hR.out.cap.1
      go_wp2_with fail
      refine (all_any wr n P j cP js σ hjl.out.symm (by omega) (by omega) hP.out.sl (hIr.b.sub hjs.out) ?_).mono ?_
      · rintro b ⟨o, ho⟩ hb ⟨pq, hp, rfl⟩
        have h1 := hP.out
        rw [ho] at h1
        rw [h1.blk] at h1
        obtain ⟨cs, h2⟩ := h1.ty
        exact absurd (h2.same (hIr.b pq (hjs.out _ hp)).1).2 (by decide)
      rintro r w2 ⟨rfl, hA2, hfA2⟩
      have ho2 := Of.only hIr.b hjs.out
      have hb2 := hIr.b.wide (sep_fst _) hjs.out hA2 hfA2
      have hm2 := hIr.m.frT hfA2 ho2 (by decide)
      have q2' : w2.cell? ⟨w.heap.size, 2, none⟩ = some (.int .i64 n) := by
        refine Bl.cell' (t := tOp) (cs := #[.int .i64 6, .int .i64 wh, .int .i64 n, .slice AL j cl]) ((hob.fr hfr id).fr hfA2 ?_) rfl
        rintro ⟨pq, hp, e⟩
        have := (hIr.b pq (hjs.out _ hp)).1
        rw [← e] at this
        exact absurd ((hob.fr hfr id).same this).2 (by decide)
      have HA2 := hide hA2
      have HR2 := hide (hR.out.fr hfA2 (fun b hb => by
        rintro ⟨pq, hp, rfl⟩
        have h1 := hR.out
        rw [hb] at h1
        obtain ⟨cs, h2⟩ := h1.ty
        exact absurd (h2.same (hIr.b pq (hjs.out _ hp)).1).2 (by decide)))
      go_wp2_with fail
      refine (rall_any w2 n R j cR js σ hjl.out.symm (by omega) (by omega) ?_ (hI.sep.sub hjs.out) (hm2.sub hjs.out) ?_).mono ?_
      · exact HR2.out.sl
      · rintro b ⟨o, ho⟩ hb ⟨pq, hp, rfl⟩
        have h1 := HR2.out
        rw [ho] at h1
        rw [h1.blk] at h1
        obtain ⟨cs, h2⟩ := h1.ty
        exact absurd (h2.same (hm2 pq (hjs.out _ hp)).1).2 (by decide)
      rintro r w3 ⟨rfl, hA3, hfA3⟩
      have ho3 := Of.only hm2 hjs.out
      have hm3 := hm2.wide hI.sep hjs.out hA3 hfA3
      have hP3 := ((hW.fr0 hfw (fun _ => id)).fr hfA2 ho2 (by decide) (by decide) (by decide)).fr hfA3 ho3 (by decide) (by decide) (by decide)
      have hF : Fr (fun k => B0 ≤ k) w w3 := ((hfw.weak _).comp hfA2 (fun i _ e => by obtain ⟨pq, hp, rfl⟩ := e; exact (hI.new pq (hjs.out _ hp)).1)).comp hfA3 (fun i _ e => by obtain ⟨pq, hp, rfl⟩ := e; exact (hI.new pq (hjs.out _ hp)).2)
      go_wp2_with fail
      go_ret
      exact ⟨rfl, L, allS n σ js, _, _, _, _, _, _, hP3, ⟨hb2.frT hfA3 ho3 (by decide), hm3, hI.sep, hI.new⟩, by rw [Hm.out]; exact hL1, by rw [Hm.out]; exact hL2, hF⟩
end
end Go.Proofs.Ytgogagapapdlgaa
