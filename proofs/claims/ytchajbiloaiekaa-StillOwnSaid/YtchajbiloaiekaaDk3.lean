/-
  disk.Disk: Write.
-/
import Derived.Test.YtchajbiloaiekaaDk2
import Derived.Test.YtchajbiloaiekaaReg
import Derived.Deep.RegionLaw
namespace Go.Proofs.Ytchajbiloaiekaa
open Go.RowKit
set_option linter.unusedVariables false
attribute [local go_sem ↓] sem_array opwp_loadS opwp_loadW opwp_storeS opwp_storeW
attribute [local go_sem] loadS_eq loadW_eq storeS_eq storeW_eq

theorem lastOf_snoc (d : List Nat) (a : Nat) : ∀ (row : List (Nat × List Nat)) (k : Nat), lastOf (row ++ [(a, d)]) k = if a = k then some row.length else lastOf row k
  | [], k => by simp [lastOf]
  | r :: l, k => by
    rw [List.cons_append, lastOf, lastOf_snoc d a l k]
    by_cases h : a = k
    · simp [h]
    · simp [h, lastOf]
theorem lastOf_lt : ∀ {row : List (Nat × List Nat)} {k j : Nat}, lastOf row k = some j → ∃ (h : j < row.length), (row[j]).1 = k
  | [], k, j, h => by simp [lastOf] at h
  | r :: l, k, j, h => by
    rw [lastOf] at h
    cases hl : lastOf l k with
    | some i =>
      rw [hl] at h; simp at h; subst h
      obtain ⟨h1, h2⟩ := lastOf_lt hl
      exact ⟨by simpa using h1, by simpa using h2⟩
    | none =>
      rw [hl] at h
      by_cases hr : r.1 = k
      · simp [hr] at h; subst h; exact ⟨by simp, by simpa using hr⟩
      · simp [hr] at h
theorem key_ok (k : Nat) (hk : k < 65536) : keyOf Try.prog 3 (.int .i64 (k : Int)) = some (.int .i64 (k : Int)) :=
  Maps.keyOf_int_mk Try.underlying3 (by simp [Lit.wf, IntKind.min, IntKind.max, IntKind.signed, IntKind.bits]; omega)
theorem elem_ok (k : Nat) (hk : k < 9000000000000000000) : plainElem (H := Unit) Try.prog 3 (.int .i64 (k : Int)) = some (.lit (.int .i64 (k : Int)), []) :=
  plainElem_int Try.underlying3 (by simp [Lit.wf, IntKind.min, IntKind.max, IntKind.signed, IntKind.bits]; omega)
theorem LastAt.snoc {w w' : World} {b : Nat} {row : List (Nat × List Nat)} {a : Nat} {d : List Nat} (ha : a < 65536) {D : DataW Unit} {m : Nat} (hD : w.ownsMap Try.prog 3 (plainElem Try.prog 3) b m D) (hm : m ≤ row.length)
    (hk : ∀ k : Nat, k < 65536 → Maps.has D (.int .i64 (k : Int)) = (lastOf row k).isSome ∧ ∀ j, lastOf row k = some j → D.atKey (.int .i64 (k : Int)) (.lit (.int .i64 0)) = .lit (.int .i64 (j : Int)))
    (hD' : w'.ownsMap Try.prog 3 (plainElem Try.prog 3) b (m + 1) (D.put (.int .i64 (a : Int)) (.lit (.int .i64 (row.length : Int))))) : LastAt w' b (row ++ [(a, d)]) := by
  refine ⟨_, _, hD', by rw [List.length_append]; exact Nat.succ_le_succ hm, fun k hk2 => ?_⟩
  rw [lastOf_snoc]
  by_cases h : a = k
  · subst h
    rw [if_pos rfl]
    refine ⟨Maps.has_put_same hD.isMap (kLast.key (key_ok a ha)) _, fun j hj => ?_⟩
    cases hj
    exact Maps.atKey_put_same hD.isMap (kLast.key (key_ok a ha)) _ _
  · rw [if_neg h]
    have hne : (Lit.int .i64 (k : Int)) ≠ Lit.int .i64 (a : Int) := by intro e; injection e with _ e; omega
    rw [Maps.has_put_other hne, Maps.atKey_put_other hne]
    exact hk k hk2
/-- What Write answers, and what the disk is behind it. -/
def writeN (n : Nat) (s : DS) (at_ : Int) (m : Nat) : Int := if s.fuse = 0 then 80 else if at_ < 0 ∨ (n : Int) ≤ at_ then 81 else if m ≠ 64 then 82 else 0
def DS.write (s : DS) (at_ : Nat) (d : List Nat) : DS := { s with row := s.row ++ [(at_, d)], wr := s.wr + 1, fuse := spend s.fuse }
theorem write_bad {w : World} {p n : Nat} {F : Nat → Prop} {s : DS} (h : DI w p n F s) (at_ : Int) (A : Option Addr) (m c : Nat) (hw : writeN n s at_ m ≠ 0) :
    Calls Try.prog 36 #[.pointer (some ⟨p, 0, none⟩), .int .i64 at_, .slice A m c] w fun e w' => e = .returned (.int .i64 (writeN n s at_ m)) ∧ w = w' := by
  have ha := asked_any h
  obtain ⟨SA, sc, RA, rc, mb, hb⟩ := h.bl
  have c0 : w.cell? ⟨p, 0, none⟩ = some (.slice SA n sc) := hb.cell' rfl
  unfold writeN at hw ⊢
  unfold askN at ha
  by_cases h0 : s.fuse = 0
  · rw [if_pos h0] at ha ⊢
    clear hw
    go_enter Try.func36, Try.ntmps36
    go_wp2_with fail
    refine ha.mono ?_
    rintro e w' ⟨rfl, rfl⟩
    go_wp2_with fail
    go_ret
    exact ⟨rfl, rfl⟩
  · rw [if_neg h0] at ha hw ⊢
    by_cases h1 : at_ < 0
    · rw [if_pos (.inl h1)]
      clear hw
      go_enter Try.func36, Try.ntmps36
      go_wp2_with fail
      refine ha.mono ?_
      rintro e w' ⟨rfl, rfl⟩
      go_wp2_with fail
      go_ret
      exact ⟨rfl, rfl⟩
    · by_cases h2 : (n : Int) ≤ at_
      · rw [if_pos (.inr h2)]
        clear hw
        go_enter Try.func36, Try.ntmps36
        go_wp2_with fail
        refine ha.mono ?_
        rintro e w' ⟨rfl, rfl⟩
        go_wp2_with fail
        go_ret
        exact ⟨rfl, rfl⟩
      · rw [if_neg (by omega)] at hw ⊢
        by_cases h3 : m ≠ 64
        · rw [if_pos h3]
          have h4 : ¬ (m : Int) = 64 := by omega
          clear hw h3
          go_enter Try.func36, Try.ntmps36
          go_wp2_with fail
          refine ha.mono ?_
          rintro e w' ⟨rfl, rfl⟩
          go_wp2_with fail
          go_ret
          exact ⟨rfl, rfl⟩
        · rw [if_neg h3] at hw; exact absurd rfl hw
/-- The disk behind the stores of a write. -/
theorem write_end {w w2 w3 : World} {p n : Nat} {SA : Option Addr} {sc : Nat} {gs : Option Nat} {RA : Option Addr} {rc : Nat} {gr : Option Nat} {mb : Nat} {s : DS} (h : DAt w p n SA sc gs RA rc gr mb s) (k : Nat) (d : List Nat) (hk : k < n) (hdl : d.length = 64) (hwr : s.wr < 8000000000000000000)
    {D : DataW Unit} {m : Nat} (hD : w.ownsMap Try.prog 3 (plainElem Try.prog 3) mb m D) (hm : m ≤ s.row.length)
    (hk2 : ∀ k : Nat, k < 65536 → Maps.has D (.int .i64 (k : Int)) = (lastOf s.row k).isSome ∧ ∀ j, lastOf s.row k = some j → D.atKey (.int .i64 (k : Int)) (.lit (.int .i64 0)) = .lit (.int .i64 (j : Int)))
    (hf2 : Fr (fun x => x = mb) w w2) (hD2 : w2.ownsMap Try.prog 3 (plainElem Try.prog 3) mb (m + 1) (D.put (.int .i64 (k : Int)) (.lit (.int .i64 (s.row.length : Int)))))
    (hf3 : Fr (fun x => some x = gr) w2 w3) {R3 : Option Addr} {rc3 : Nat} {g3 : Option Nat} (hR3 : Ow w3 70 65 R3 (s.row.length + 1) rc3 (s.row.flatMap wcells ++ (.int .i64 (k : Int) :: d.map bn)) g3)
    (hg3 : g3 = gr ∨ ∃ b, g3 = some b ∧ w2.heap.size ≤ b) :
    DAt ((w3.setCell ⟨p, 1, none⟩ (.slice R3 (s.row.length + 1) rc3)).setCell ⟨p, 4, none⟩ (.int .i64 ((s.wr : Int) + 1))) p n SA sc gs R3 rc3 g3 mb { s with row := s.row ++ [(k, d)], wr := s.wr + 1 } ∧
    Fr (dfoot p gs gr mb) w ((w3.setCell ⟨p, 1, none⟩ (.slice R3 (s.row.length + 1) rc3)).setCell ⟨p, 4, none⟩ (.int .i64 ((s.wr : Int) + 1))) ∧
    ∀ j, j < w.heap.size → dfoot p gs g3 mb j → dfoot p gs gr mb j := by
  have hmp := h.nmp
  have f13 : Fr (fun x => x = mb ∨ some x = gr) w w3 := (hf2.mono fun x _ e => .inl e).trans (hf3.mono fun x _ e => .inr e)
  have hF : Fr (fun x => x = p) w3 ((w3.setCell ⟨p, 1, none⟩ (.slice R3 (s.row.length + 1) rc3)).setCell ⟨p, 4, none⟩ (.int .i64 ((s.wr : Int) + 1))) := ((Fr.refl _ _).setAt _).setAt _
  have hb3 : Bl w3 p tDisk _ := h.bl.fr f13 (fun e => e.elim (fun e => hmp e.symm) (fun e => h.npr e.symm))
  have hplt := h.bl.lt
  have hsz := hf2.size
  refine ⟨⟨?_, ?_, ?_, ?_, ?_⟩, ?_, ?_⟩
  · have := (hb3.set 1 (.slice R3 (s.row.length + 1) rc3)).set 4 (.int .i64 ((s.wr : Int) + 1))
    simpa using this
  · exact (h.safe.fr f13 (fun b e e' => e'.elim (fun e2 => h.nms (by rw [e, e2])) (fun e2 => h.nsr e e2.symm))).fr hF (fun b e e' => h.nps (by rw [e, e']))
  · have : (s.row ++ [(k, d)]).flatMap wcells = s.row.flatMap wcells ++ (.int .i64 (k : Int) :: d.map bn) := by rw [List.flatMap_append]; simp [wcells]
    rw [this]
    show Ow _ _ _ _ (s.row ++ [(k, d)]).length _ _ _
    rw [List.length_append]
    exact hR3.fr hF (fun b e e' => by
      subst e'
      rcases hg3 with e2 | ⟨b2, e2, hb2⟩
      · exact h.npr (by rw [← e2, e])
      · rw [e] at e2; cases e2; omega)
  · have hl2 : LastAt w2 mb (s.row ++ [(k, d)]) := LastAt.snoc (w := w) (w' := w2) (D := D) (m := m) (by have := h.ok.n2; omega) hD hm hk2 hD2
    exact (hl2.fr hf3 (fun e => h.nmr e.symm)).fr hF hmp
  · refine ⟨h.ok.n1, h.ok.n2, h.ok.len, ?_, h.ok.f1, h.ok.f2, ?_, ?_, h.ok.c3⟩
    · intro r hr
      rcases List.mem_append.1 hr with hr | hr
      · exact h.ok.row r hr
      · rw [List.mem_singleton] at hr; subst hr; exact ⟨hk, hdl⟩
    · have := h.ok.c1
      show (s.row ++ [(k, d)]).length ≤ s.wr + 1
      rw [List.length_append]; simpa using this
    · show s.wr + 1 ≤ _
      omega
  · exact (f13.mono fun x _ e => e.elim (fun e => .inr (.inr (.inr e))) (fun e => .inr (.inr (.inl e.symm)))).trans (hF.mono fun x _ e => .inl e)
  · rintro j hj (e | e | e | e)
    · exact .inl e
    · exact .inr (.inl e)
    · rcases hg3 with e2 | ⟨b2, e2, hb2⟩
      · exact .inr (.inr (.inl (by rw [← e2, e])))
      · rw [e] at e2; cases e2; omega
    · exact .inr (.inr (.inr e))
set_option maxHeartbeats 2000000 in
set_option maxRecDepth 4000 in
theorem write_ok {w : World} {p n : Nat} {F : Nat → Prop} {s : DS} (h : DI w p n F s) (k : Nat) (A : Option Addr) (c : Nat) (d : List Nat) (hd : Sl w 1 A 64 (d.map bn)) (hf : s.fuse ≠ 0) (hk : k < n) (hr : (s.row.length + 1) * 72 ≤ 140737488355328) (hwr : s.wr < 8000000000000000000)
    (hap : ∀ b, (∃ o, A = some ⟨b, o, none⟩) → ¬ F b) :
    Calls Try.prog 36 #[.pointer (some ⟨p, 0, none⟩), .int .i64 (k : Int), .slice A 64 c] w fun e w' => e = .returned (.int .i64 0) ∧ DOut w p n F (s.write k d) w' := by
  have ha := asked_any h
  unfold askN at ha
  rw [if_neg hf] at ha
  obtain ⟨SA, sc, gs, RA, rc, gr, mb, h, rfl⟩ := h
  have hn2 := h.ok.n2
  have c0 : w.cell? ⟨p, 0, none⟩ = some (.slice SA n sc) := h.bl.cell' rfl
  have c1 : w.cell? ⟨p, 1, none⟩ = some (.slice RA s.row.length rc) := h.bl.cell' rfl
  have c2 : w.cell? ⟨p, 2, none⟩ = some (.map (some mb)) := h.bl.cell' rfl
  obtain ⟨D, m, hD, hm, hkk⟩ := h.last
  obtain ⟨nr, hnr⟩ : ∃ nr, s.row.length = nr := ⟨_, rfl⟩
  rw [hnr] at c1 hm hr
  have Hnr := hide hnr
  have H := hide h
  have Hkk := hide hkk
  have HD1 := hide hD
  have Hm1 := hide hm
  have c4 : w.cell? ⟨p, 4, none⟩ = some (.int .i64 (s.wr : Int)) := h.bl.cell' rfl
  have c3 : w.cell? ⟨p, 3, none⟩ = some (.int .i64 s.fuse) := h.bl.cell' rfl
  have HA := hide ha
  have key := key_ok k (by omega)
  have hel := elem_ok nr (by omega)
  have i1 : ¬ (k : Int) < 0 := by omega
  have i2 : ¬ (n : Int) ≤ (k : Int) := by omega
  clear hnr h ha
  go_enter Try.func36, Try.ntmps36
  go_wp2_with fail
  refine HA.out.mono ?_
  rintro e w' ⟨rfl, rfl⟩
  go_wp2_with fail
  have hmp := H.out.nmp
  have hpm := hmp.symm
  obtain ⟨b, o, rfl, hcd⟩ := hd.2 (by omega)
  have hdl : (d.map bn).length = 64 := by have := hd.1; omega
  have hcd1 := hide hcd
  have hbF := hap b ⟨o, rfl⟩
  obtain ⟨cs, hcs⟩ : ∃ cs, d.map bn = cs := ⟨_, rfl⟩
  rw [hcs] at hdl hcd
  have Hcs := hide hcs
  have hbm : b ≠ mb := fun e => hbF (.inr (.inr (.inr e)))
  have Hdl := hide hdl
  have HbF := hide hbF
  clear hd hkk hcs hcd1 hap hdl hbF
  have hone : cs.toArray.all (·.oneCell') = true := all_oneCell_toArray (by rw [← Hcs.out]; exact bn_one d)
  refine region_tail 10 (by kernel_rfl) (by kernel_rfl) ?_
  intro w1 Hw1 hcw1 hzw1 hsw1
  simp only [List.take_succ_cons, List.take_zero, List.drop_succ_cons, List.drop_zero]
  repeat still_step
  refine wpStill_nil ?_
  refine wpList_mapUpdate_own _ rfl _ _ _ 50 rfl 3 3 kLast Try.underlying50 _ mb m D rfl (by rw [Hw1.out]; exact hD.drew) (by unfold maxLen; omega) _ _ (.int .i64 (k : Int)) rfl rfl key (.lit (.int .i64 (nr : Int))) [] hel ?_
  intro w2 hD2 hg2
  have hf2 : Fr (fun x => x = mb) w w2 := by
    have h1 : Fr (fun x => x = mb) w w1 := by rw [Hw1.out]; exact (Fr.refl _ _).drew
    exact h1.trans ((Fr.ofGrown hg2).mono fun x _ e => by cases e; rfl)
  have e1 := (hf2.cell (World.block_lt_of_cell? w _ c1) hpm).trans c1
  have hbl2 := H.out.bl.fr hf2 hpm
  have z1 := hbl2.free 1
  have r2 : w2.rangeAt b o cs := fun j v hv => (hf2.cell (p := ⟨b, o + j, none⟩) (World.block_lt_of_cell? w _ (hcd j v hv)) hbm).trans (hcd j v hv)
  have e4 := (hf2.cell (World.block_lt_of_cell? w _ c4) hpm).trans c4
  have z4 := hbl2.free 4
  have hwrap : IntKind.i64.wrap ((s.wr : Int) + 1) = (s.wr : Int) + 1 := IntWalk.i64_in _ (by omega)
  clear c0 c1 c2 c3 c4 hcd hD
  go_wp2_with fail
  obtain ⟨j0, jz, hj, hj0, hj1, hj2, hjz⟩ := parts3 wrInfo
  have hdl := Hdl.out
  have hlc : (Value.int .i64 (k : Int) :: cs).length = 1 * 65 := by rw [List.length_cons, hdl]
  have hmx : nr + 1 ≤ maxLen := by unfold maxLen; omega
  have hby : (nr + 1) * 72 ≤ 140737488355328 := hr
  have hone' : ∀ u ∈ (.int .i64 (k : Int) :: cs), u.oneCell' = true := by
    intro u hu
    rcases List.mem_cons.1 hu with rfl | hu
    · rfl
    · rw [← Hcs.out] at hu; exact bn_one d u hu
  have hRw : Ow w2 70 65 RA nr rc (s.row.flatMap wcells) gr := by
    have := H.out.rows.fr hf2 (fun x e e' => H.out.nmr (by rw [e, e']))
    rwa [Hnr.out] at this
  have hRw4 : Ow (w2.alloc (.cells (.int .i64 (k : Int) :: cs).toArray 70)).drew 70 65 RA nr rc (s.row.flatMap wcells) gr := hRw.fr (S := fun _ => False) (Fr.drew (Fr.alloc (Fr.refl _ _) _)) (fun _ _ => id)
  have hSl4 : Sl (w2.alloc (.cells (.int .i64 (k : Int) :: cs).toArray 70)).drew 65 (some ⟨w2.heap.size, 0, none⟩) 1 (.int .i64 (k : Int) :: cs) := (Sl.row w2 _ 70 65 1 hlc).below (S := fun _ => False) (Fr.drew (Fr.refl _ _)) (fun _ _ => id)
  have hgp : ¬ some p = gr := fun e => H.out.npr e.symm
  have hgb : ¬ some b = gr := fun e => HbF.out (.inr (.inr (.inl e.symm)))
  have HD2 := hide hD2
  have hpb : p ≠ b := fun e => HbF.out (.inl e.symm)
  have hf24 : Fr (fun k => some k = gr) w2 (w2.alloc (.cells (.int .i64 (k : Int) :: cs).toArray 70)).drew := Fr.drew (Fr.alloc (Fr.refl _ _) _)
  have hT : ∀ (ops : Array Oper) (o : Oper) (a : Act) (K : Act → World → Prop) (Q : Exit → Act → World → Prop) (E : Prop), o.guard = none → o.op = .call { callee := .builtin .append, args := #[.tmp 41, .tmp 47], argTypes := #[51, 51] } →
      a.eval (.tmp 41) = .slice RA nr rc → a.eval (.tmp 47) = .slice (some ⟨w2.heap.size, 0, none⟩) 1 1 →
      (∀ A2 c2 w' g2, Ow w' 70 65 A2 (nr + 1) c2 (s.row.flatMap wcells ++ (.int .i64 (k : Int) :: cs)) g2 → Fr (fun k => some k = gr) (w2.alloc (.cells (.int .i64 (k : Int) :: cs).toArray 70)).drew w' → (g2 = gr ∨ ∃ b, g2 = some b ∧ w2.heap.size ≤ b) → K (a.put o.dst (.slice A2 (nr + 1) c2)) w') →
      if Region.wanted o (yielded ops a.tmps) = true then Oper.wp Try.prog o a (w2.alloc (.cells (.int .i64 (k : Int) :: cs).toArray 70)).drew K Q else E := fun ops o a K Q E hgd ho h41 h47 hK =>
    step_append_ow _ hgd _ _ 51 ho 70 j0 jz 65 72 Try.underlying51 hj hj0 hj1 hj2 hjz (by decide) RA nr rc (s.row.flatMap wcells) gr h41 hRw4 _ 1 1 _ h47 hSl4 hone' hmx hby (fun A2 c2 w' g2 h1 h2 h3 => hK A2 c2 w' g2 h1 h2 (h3.imp id fun ⟨b, e, h⟩ => ⟨b, e, by simp at h; omega⟩))
  obtain ⟨z, hz75, hzs⟩ := wr_zero
  have hzn : ¬ z = #[] := by intro e; rw [e] at hzs; simp at hzs
  have hfo := fold_wr z hzs (.int .i64 (k : Int)) cs hdl
  have hfo2 := fun (a : Array Value) (ha : a.size = 65) (h0 : a[0]? = some (.int .i64 (k : Int))) => fold_row a ha _ h0 cs hdl
  have hrow1 : HasRow w2.drew b o 64 := HasRow.of (w := w2) r2 hdl
  have hrow2 : rowAt w2.drew b o 64 = cs := rowAt_of (w := w2) r2 hdl
  have e1a : (w2.alloc (.cells (.int .i64 (k : Int) :: cs).toArray 70)).cell? ⟨p, 1, none⟩ = some (.slice RA nr rc) := ((Fr.alloc (Fr.refl (fun _ => False) w2) _).cell (World.block_lt_of_cell? w2 _ e1) id).trans e1
  simp only [Act.put]
  clear hD2 hg2 hbl2 hcw1 hzw1 hsw1
  go_region_law (refine hT _ _ _ _ _ _ (by rfl) (by rfl) (by rfl) (by rfl) ?_; intro R3 rc3 w3 g3 hR3 hf3 hg3; have hf13 : Fr (fun k => some k = gr) w2 w3 := Fr.comp hf24 hf3 (fun _ _ e => e); have kd0 := (hf13.cell (World.block_lt_of_cell? w2 _ e1) hgp).trans e1; have kz := (hf13.frozen (World.block_lt_of_cell? w2 _ e1) hgp).trans z1; have kd4 := (hf13.cell (World.block_lt_of_cell? w2 _ e4) hgp).trans e4; have kz4 := (hf13.frozen (World.block_lt_of_cell? w2 _ e4) hgp).trans z4)
  all_goals go_wp2_with fail
  all_goals (
    have hnr := Hnr.out; subst hnr
    have hcs := Hcs.out; subst hcs
    obtain ⟨q1, q2, q3⟩ := write_end H.out k d hk (by have := Hdl.out; simpa using this) hwr HD1.out Hm1.out Hkk.out hf2 HD2.out hf13 hR3 hg3
    refine (act_any q1).mono ?_
    rintro e w5 ⟨rfl, q4, q5⟩
    go_wp2_with fail
    go_ret
    refine ⟨rfl, _, ⟨_, _, _, _, _, _, _, q4, rfl⟩, q2.trans (q5.mono fun x _ e => .inl e), q3⟩)
#print axioms write_ok
end Go.Proofs.Ytchajbiloaiekaa
