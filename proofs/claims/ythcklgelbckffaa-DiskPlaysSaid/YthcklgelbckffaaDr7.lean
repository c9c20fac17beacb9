/-
  bazaarref08.Disk: Write.
-/
import Derived.Test.YthcklgelbckffaaDr6
import Derived.Deep.RegionLaw
namespace Go.Proofs.Ythcklgelbckffaa
open Go.RowKit
set_option linter.unusedVariables false
set_option linter.unusedSimpArgs false
theorem rwrite_nil (w : World) (at_ : Int) (A : Option Addr) (n c : Nat) : Calls Try.prog 36 #[.pointer none, .int .i64 at_, .slice A n c] w fun e w' => e = .returned (.int .i64 1) ∧ w = w' := by
  go_enter Try.func36, Try.ntmps36
  go_wp2_with fail
  go_ret
  exact ⟨rfl, rfl⟩
theorem rwrite_bad {w : World} {q n : Nat} {G : Nat → Prop} {s : DS} (h : RI w q n G s) (at_ : Int) (A : Option Addr) (m c : Nat) (hw : writeN n s at_ m ≠ 0) :
    Calls Try.prog 36 #[.pointer (some ⟨q, 0, none⟩), .int .i64 at_, .slice A m c] w fun e w' => e = .returned (.int .i64 (writeN n s at_ m)) ∧ w = w' := by
  obtain ⟨SA, sc, RA, rc, hb⟩ := h.bl
  have hsec := rsectors_any h
  have c2 : w.cell? ⟨q, 2, none⟩ = some (.int .i64 s.fuse) := hb.cell' rfl
  unfold writeN at hw ⊢
  by_cases h0 : s.fuse = 0
  · rw [if_pos h0]
    rw [h0] at c2
    clear hw hb h h0 hsec
    go_enter Try.func36, Try.ntmps36
    go_wp2_with fail
    go_ret
    exact ⟨rfl, rfl⟩
  · have hfb : (s.fuse == 0) = false := by simpa using h0
    rw [if_neg h0] at hw ⊢
    by_cases h1 : at_ < 0
    · rw [if_pos (.inl h1)]
      clear hw hb h h0 hsec
      go_enter Try.func36, Try.ntmps36
      go_wp2_with fail
      go_ret
      exact ⟨rfl, rfl⟩
    · have Hsec := hide hsec
      clear hsec
      by_cases h2 : (n : Int) ≤ at_
      · rw [if_pos (.inr h2)]
        clear hw hb h h0
        go_enter Try.func36, Try.ntmps36
        go_wp2_with fail
        refine Hsec.out.mono ?_
        rintro e w' ⟨rfl, rfl⟩
        go_wp2_with fail
        go_ret
        exact ⟨rfl, rfl⟩
      · rw [if_neg (by omega)] at hw ⊢
        by_cases h3 : m ≠ 64
        · rw [if_pos h3]
          have h4 : ¬ (m : Int) = 64 := by omega
          clear hw h3 hb h h0
          go_enter Try.func36, Try.ntmps36
          go_wp2_with fail
          refine Hsec.out.mono ?_
          rintro e w' ⟨rfl, rfl⟩
          go_wp2_with fail
          go_ret
          exact ⟨rfl, rfl⟩
        · rw [if_neg h3] at hw; exact absurd rfl hw
theorem infoWait : (Try.prog.info? tWait).map (fun i => (i.zero, i.size, i.bytes)) = some (some (.agg #[.int .i64 0, .slice none 0 0]), 2, 32) := by kernel_rfl
/-- The disk behind the stores of a write. -/
theorem rwrite_end {w w2 w3 : World} {q n : Nat} {SA : Option Addr} {sc : Nat} {gs : Option Nat} {RA : Option Addr} {rc : Nat} {gr : Option Nat} {vs : List (Nat × Nat × Nat)} {s : DS} (h : RAt w q n SA sc gs RA rc gr vs s) (k : Nat) (d : List Nat) (hk : k < n) (hdl : d.length = 64) (hwr : s.wr < 8000000000000000000)
    (hf2 : Fr (fun _ => False) w w2) {b1 o1 c1 : Nat} (hx : Ow w2 5 1 (some ⟨b1, o1, none⟩) 64 c1 (d.map bn) (some b1)) (hb1 : w.heap.size ≤ b1)
    (hf3 : Fr (fun x => some x = gr) w2 w3) {R3 : Option Addr} {rc3 : Nat} {g3 : Option Nat} (hR3 : Ow w3 tWait 2 R3 (s.row.length + 1) rc3 (lcells s.row vs ++ [.int .i64 (k : Int), .slice (some ⟨b1, o1, none⟩) 64 c1]) g3)
    (hg3 : g3 = gr ∨ ∃ b, g3 = some b ∧ w2.heap.size ≤ b) :
    RAt ((w3.setCell ⟨q, 1, none⟩ (.slice R3 (s.row.length + 1) rc3)).setCell ⟨q, 3, none⟩ (.int .i64 ((s.wr : Int) + 1))) q n SA sc gs R3 rc3 g3 (vs ++ [(b1, o1, c1)]) { s with row := s.row ++ [(k, d)], wr := s.wr + 1 } ∧
    Fr (rfoot q gs gr vs) w ((w3.setCell ⟨q, 1, none⟩ (.slice R3 (s.row.length + 1) rc3)).setCell ⟨q, 3, none⟩ (.int .i64 ((s.wr : Int) + 1))) ∧
    ∀ j, j < w.heap.size → rfoot q gs g3 (vs ++ [(b1, o1, c1)]) j → rfoot q gs gr vs j := by
  have f13 : Fr (fun x => some x = gr) w w3 := (hf2.weak _).trans hf3
  have hF : Fr (fun x => x = q) w3 ((w3.setCell ⟨q, 1, none⟩ (.slice R3 (s.row.length + 1) rc3)).setCell ⟨q, 3, none⟩ (.int .i64 ((s.wr : Int) + 1))) := ((Fr.refl _ _).setAt _).setAt _
  have hb3 : Bl w3 q tRef _ := h.bl.fr f13 (fun e => h.nqr e.symm)
  have hqlt := h.bl.lt
  have hsz := hf2.size
  have hxr : gr ≠ some b1 := fun e => by have := h.rows.lt b1 e; omega
  have hx3 := hx.fr hf3 (fun b hb => by cases hb; exact fun e => hxr e.symm)
  refine ⟨⟨?_, ?_, ?_, ?_, ?_, ?_, ?_⟩, ?_, ?_⟩
  · have e : (s.row ++ [(k, d)]).length = s.row.length + 1 := by rw [List.length_append]; rfl
    show Bl _ _ _ #[_, .slice R3 (s.row ++ [(k, d)]).length rc3, _, _, _]
    rw [e]
    have := (hb3.set 1 (.slice R3 (s.row.length + 1) rc3)).set 3 (.int .i64 ((s.wr : Int) + 1))
    simpa using this
  · exact (h.safe.fr f13 (fun b e e' => h.nsr e e'.symm)).fr hF (fun b e e' => h.nqs (by rw [e, e']))
  · have e : lcells (s.row ++ [(k, d)]) (vs ++ [(b1, o1, c1)]) = lcells s.row vs ++ [.int .i64 (k : Int), .slice (some ⟨b1, o1, none⟩) 64 c1] := by
      unfold lcells
      rw [List.zip_append h.len.symm, List.flatMap_append]; rfl
    show Ow _ _ _ _ (s.row ++ [(k, d)]).length _ (lcells (s.row ++ [(k, d)]) (vs ++ [(b1, o1, c1)])) _
    rw [e, List.length_append]
    exact hR3.fr hF (fun b e e' => by
      subst e'
      rcases hg3 with e2 | ⟨b2, e2, hb2⟩
      · exact h.nqr (by rw [← e2, e])
      · rw [e] at e2; cases e2; omega)
  · show (vs ++ [(b1, o1, c1)]).length = (s.row ++ [(k, d)]).length
    rw [List.length_append, List.length_append, h.len]; rfl
  · intro i r v hr hv
    have hr : (s.row ++ [(k, d)])[i]? = some r := hr
    by_cases hi : i < s.row.length
    · rw [List.getElem?_append_left hi] at hr
      rw [List.getElem?_append_left (by rw [h.len]; exact hi)] at hv
      have hvm := List.mem_of_getElem? hv
      exact ((h.data i r v hr hv).fr f13 (fun y hy e => by cases hy; exact h.nvr hvm e.symm)).fr hF (fun y hy e => by cases hy; exact h.nvq hvm e)
    · rw [List.getElem?_append_right (by omega)] at hr
      rw [List.getElem?_append_right (by rw [h.len]; omega), h.len] at hv
      have e0 : i - s.row.length = 0 := by have := (List.getElem?_eq_some_iff.1 hr).1; simp at this; omega
      rw [e0] at hr hv
      cases hr; cases hv
      exact hx3.fr hF (fun y hy e => by cases hy; omega)
  · intro v hv
    rcases List.mem_append.1 hv with hv | hv
    · exact h.off v hv
    · rw [List.mem_singleton] at hv; subst hv
      intro e; have := h.safe.lt b1 e; omega
  · refine ⟨h.ok.n1, h.ok.n2, h.ok.len, ?_, h.ok.f1, h.ok.f2, ?_, ?_, h.ok.c3⟩
    · intro r hr
      rcases List.mem_append.1 hr with hr | hr
      · exact h.ok.row r hr
      · rw [List.mem_singleton] at hr; subst hr; exact ⟨hk, hdl⟩
    · have := h.ok.c1
      show (s.row ++ [(k, d)]).length ≤ s.wr + 1
      rw [List.length_append]; simpa using this
    · show s.wr + 1 ≤ _
      omega
  · exact (f13.mono fun x _ e => .inr (.inr (.inl e.symm))).trans (hF.mono fun x _ e => .inl e)
  · rintro j hj (e | e | e | ⟨v, hv, rfl⟩)
    · exact .inl e
    · exact .inr (.inl e)
    · rcases hg3 with e2 | ⟨b2, e2, hb2⟩
      · exact .inr (.inr (.inl (by rw [← e2, e])))
      · rw [e] at e2; cases e2; omega
    · rcases List.mem_append.1 hv with hv | hv
      · exact .inr (.inr (.inr ⟨v, hv, rfl⟩))
      · rw [List.mem_singleton] at hv; subst hv; simp only at hj; omega
set_option maxHeartbeats 4000000 in
set_option maxRecDepth 8000 in
theorem rwrite_ok {w : World} {q n : Nat} {G : Nat → Prop} {s : DS} (h : RI w q n G s) (k : Nat) (A : Option Addr) (c : Nat) (d : List Nat) (hd : Sl w 1 A 64 (d.map bn)) (hf : s.fuse ≠ 0) (hk : k < n) (hr : (s.row.length + 1) * 32 ≤ 140737488355328) (hwr : s.wr < 8000000000000000000) :
    Calls Try.prog 36 #[.pointer (some ⟨q, 0, none⟩), .int .i64 (k : Int), .slice A 64 c] w fun e w' => e = .returned (.int .i64 0) ∧ ROut w q n G (s.write k d) w' := by
  obtain ⟨i0, hi, hz0, hz1, hz2⟩ := info_parts infoU8
  obtain ⟨j0, jj, jj0, jj1, jj2⟩ := info_parts infoWait
  have hsec := rsectors_any h
  obtain ⟨SA, sc, gs, RA, rc, gr, vs, h, rfl⟩ := h
  have hn2 := h.ok.n2
  have c2 : w.cell? ⟨q, 2, none⟩ = some (.int .i64 s.fuse) := h.bl.cell' rfl
  obtain ⟨m, hm⟩ : ∃ m, s.row.length = m := ⟨_, rfl⟩
  rw [hm] at hr
  have hfb : (s.fuse == 0) = false := by simpa using hf
  have i1 : ¬ (k : Int) < 0 := by omega
  have i2 : ¬ (n : Int) ≤ (k : Int) := by omega
  have H := hide h
  have Hm := hide hm
  have Hsec := hide hsec
  have HD := hide hd
  have hdl : d.length = 64 := by have := hd.1; simpa using this
  have Hdl := hide hdl
  clear h hm hsec hf hd hdl
  go_enter Try.func36, Try.ntmps36
  go_wp2_with fail
  refine Hsec.out.mono ?_
  rintro e w' ⟨rfl, rfl⟩
  go_wp2_with (at_builtin; refine wpList_append_ow _ rfl _ _ 34 rfl 5 i0 (.int .u8 0) 1 1 Try.underlying34 hi hz0 hz1 hz2 rfl (by decide) _ _ _ _ _ rfl (Ow.nil_ _ _ _) _ _ _ _ rfl (HD.out.below (S := fun _ => False) ((Fr.refl _ _).alloc _) (fun _ _ => id)) (bn_one _) (by unfold maxLen; omega) (by omega) ?_)
  intro A1 c1 w1 g1 hO1 hf1 hg1
  obtain ⟨hl1, h0 | ⟨b1, o1, cur1, rfl, rfl, hrest1⟩⟩ := id hO1
  · exact absurd h0.2.1 (by omega)
  have hb1 : w.heap.size + 1 ≤ b1 := by
    rcases hg1 with e | ⟨b, e, h⟩
    · cases e
    · cases e; simpa using h
  obtain ⟨bx, hbx⟩ : ∃ bx, w.heap.size = bx := ⟨_, rfl⟩
  rw [hbx] at hb1 ⊢
  have hf01 : Fr (fun _ => False) w w1 := ((Fr.refl _ _).alloc _).trans (hf1.mono fun x _ e => by cases e)
  have hbx1 : Bl w1 bx tWait #[.int .i64 (k : Int), .slice none 0 0] := by
    rw [← hbx]
    exact (Bl.new w tWait _).fr hf1 (fun e => by cases e)
  have zx := hbx1.free 1
  have y0 : w1.cell? ⟨bx, 1, none⟩ = some (.slice none 0 0) := hbx1.cell' rfl
  have HO : Hid (Ow w1 5 1 (some ⟨b1, o1, none⟩) 64 c1 (d.map bn) (some b1)) := by
    have := hO1; first | exact this | (simp at this; exact this)
  have HB1 := hide hbx1
  have Hf01 := hide hf01
  have Hb1 := hide hb1
  clear hO1 hf1 hg1 hl1 hrest1 hbx1 hf01 c2 hfb
  go_wp2_with fail
  obtain ⟨w2, Hw2⟩ : ∃ w2, Hid (w2 = w1.setCell ⟨bx, 1, none⟩ (.slice (some ⟨b1, o1, none⟩) 64 c1)) := ⟨_, rfl⟩
  rw [← Hw2.out]
  have hf12 : Fr (fun x => x = bx) w1 w2 := by rw [Hw2.out]; exact (Fr.refl _ _).setAt _
  have hf02 : Fr (fun _ => False) w w2 := Hf01.out.comp hf12 (fun i hi e => by omega)
  have hB2 : Bl w2 bx tWait #[.int .i64 (k : Int), .slice (some ⟨b1, o1, none⟩) 64 c1] := by
    have := HB1.out.set 1 (.slice (some ⟨b1, o1, none⟩) 64 c1)
    rw [Hw2.out]; simpa using this
  have hO2 := HO.out.fr hf12 (fun b hb => by cases hb; have := Hb1.out; omega)
  have x0 : w2.cell? ⟨bx, 0, none⟩ = some (.int .i64 (k : Int)) := hB2.cell' rfl
  have x1 : w2.cell? ⟨bx, 1, none⟩ = some (.slice (some ⟨b1, o1, none⟩) 64 c1) := hB2.cell' rfl
  have hbl2 := H.out.bl.fr hf02 id
  have e1 : w2.cell? ⟨q, 1, none⟩ = some (.slice RA s.row.length rc) := hbl2.cell' rfl
  rw [Hm.out] at e1
  have e3 : w2.cell? ⟨q, 3, none⟩ = some (.int .i64 (s.wr : Int)) := hbl2.cell' rfl
  have z1 := hbl2.free 1
  have z3 := hbl2.free 3
  have hwrap : IntKind.i64.wrap ((s.wr : Int) + 1) = (s.wr : Int) + 1 := IntWalk.i64_in _ (by omega)
  have hRw : Ow w2 tWait 2 RA m rc (lcells s.row vs) gr := by
    have := H.out.rows.fr hf02 (fun _ _ => id)
    rwa [Hm.out] at this
  have hmx : m + 1 ≤ maxLen := by unfold maxLen; omega
  have hone' : ∀ u ∈ [Value.int .i64 (k : Int), .slice (some ⟨b1, o1, none⟩) 64 c1], u.oneCell' = true := by intro u hu; simp at hu; rcases hu with rfl | rfl <;> rfl
  have hRw4 : Ow (w2.alloc (.cells #[.int .i64 (k : Int), .slice (some ⟨b1, o1, none⟩) 64 c1] tWait)).drew tWait 2 RA m rc (lcells s.row vs) gr := hRw.fr (S := fun _ => False) (Fr.drew (Fr.alloc (Fr.refl _ _) _)) (fun _ _ => id)
  have hSl4 : Sl (w2.alloc (.cells #[.int .i64 (k : Int), .slice (some ⟨b1, o1, none⟩) 64 c1] tWait)).drew 2 (some ⟨w2.heap.size, 0, none⟩) 1 [.int .i64 (k : Int), .slice (some ⟨b1, o1, none⟩) 64 c1] := (Sl.row w2 [.int .i64 (k : Int), .slice (some ⟨b1, o1, none⟩) 64 c1] tWait 2 1 rfl).below (S := fun _ => False) (Fr.drew (Fr.refl _ _)) (fun _ _ => id)
  have hgq : ¬ some q = gr := fun e => H.out.nqr e.symm
  have hf24 : Fr (fun k => some k = gr) w2 (w2.alloc (.cells #[.int .i64 (k : Int), .slice (some ⟨b1, o1, none⟩) 64 c1] tWait)).drew := Fr.drew (Fr.alloc (Fr.refl _ _) _)
  have hgx : ¬ some bx = gr := fun e => by have := H.out.rows.lt bx e.symm; omega
  have hT : ∀ (ops : Array Oper) (o : Oper) (a : Act) (K : Act → World → Prop) (Q : Exit → Act → World → Prop) (E : Prop), o.guard = none → o.op = .call { callee := .builtin .append, args := #[.tmp 37, .tmp 39], argTypes := #[77, 77] } →
      a.eval (.tmp 37) = .slice RA m rc → a.eval (.tmp 39) = .slice (some ⟨w2.heap.size, 0, none⟩) 1 1 →
      (∀ A2 c2 w' g2, Ow w' tWait 2 A2 (m + 1) c2 (lcells s.row vs ++ [.int .i64 (k : Int), .slice (some ⟨b1, o1, none⟩) 64 c1]) g2 → Fr (fun k => some k = gr) (w2.alloc (.cells #[.int .i64 (k : Int), .slice (some ⟨b1, o1, none⟩) 64 c1] tWait)).drew w' → (g2 = gr ∨ ∃ b, g2 = some b ∧ w2.heap.size ≤ b) → K (a.put o.dst (.slice A2 (m + 1) c2)) w') →
      if Region.wanted o (yielded ops a.tmps) = true then Oper.wp Try.prog o a (w2.alloc (.cells #[.int .i64 (k : Int), .slice (some ⟨b1, o1, none⟩) 64 c1] tWait)).drew K Q else E := fun ops o a K Q E hgd ho h41 h47 hK =>
    step_append_ow _ hgd _ _ 77 ho tWait j0 _ 2 32 Try.underlying77 jj jj0 jj1 jj2 rfl (by decide) RA m rc (lcells s.row vs) gr h41 hRw4 _ 1 1 _ h47 hSl4 hone' hmx hr (fun A2 c2 w' g2 h1 h2 h3 => hK A2 c2 w' g2 h1 h2 (h3.imp id fun ⟨b, e, h⟩ => ⟨b, e, by simp at h; omega⟩))
  have e1a : (w2.alloc (.cells #[.int .i64 (k : Int), .slice (some ⟨b1, o1, none⟩) 64 c1] tWait)).cell? ⟨q, 1, none⟩ = some (.slice RA m rc) := ((Fr.alloc (Fr.refl (fun _ => False) w2) _).cell (World.block_lt_of_cell? w2 _ e1) id).trans e1
  have HO2 := hide hO2
  have Hf02 := hide hf02
  clear hbl2 hB2 hf12 hO2 hf02 y0 zx
  try simp only [Act.put]
  go_region_law (refine hT _ _ _ _ _ _ (by rfl) (by rfl) (by rfl) (by rfl) ?_; intro R3 rc3 w3 g3 hR3 hf3 hg3; have hf13 : Fr (fun k => some k = gr) w2 w3 := Fr.comp hf24 hf3 (fun _ _ e => e); have kd0 := (hf13.cell (World.block_lt_of_cell? w2 _ e1) hgq).trans e1; have kz := (hf13.frozen (World.block_lt_of_cell? w2 _ e1) hgq).trans z1; have kd4 := (hf13.cell (World.block_lt_of_cell? w2 _ e3) hgq).trans e3; have kz4 := (hf13.frozen (World.block_lt_of_cell? w2 _ e3) hgq).trans z3)
  all_goals go_wp2_with fail
  all_goals (
    have hmm := Hm.out
    subst hmm
    obtain ⟨q1, q2, q3⟩ := rwrite_end H.out k d hk Hdl.out hwr Hf02.out HO2.out (by have := Hb1.out; omega) hf13 hR3 hg3
    refine (spent_any q1).mono ?_
    rintro e w5 ⟨rfl, q4, q5⟩
    go_wp2_with fail
    go_ret
    refine ⟨rfl, _, ⟨_, _, _, _, _, _, _, q4, rfl⟩, q2.trans (q5.mono fun x _ e => .inl e), q3⟩)
theorem rwrite_any {w : World} {q n : Nat} {G : Nat → Prop} {s : DS} (h : RI w q n G s) (at_ : Int) (A : Option Addr) (m c : Nat) (d : List Nat) (hm : m = d.length) (hd : Sl w 1 A m (d.map bn)) (hr : (s.row.length + 1) * 32 ≤ 140737488355328) (hwr : s.wr < 8000000000000000000) :
    Calls Try.prog 36 #[.pointer (some ⟨q, 0, none⟩), .int .i64 at_, .slice A m c] w fun e w' => e = .returned (.int .i64 (writeN n s at_ m)) ∧ ROut w q n G (s.writeS n at_ d) w' := by
  subst hm
  unfold DS.writeS
  by_cases h0 : writeN n s at_ d.length = 0
  · rw [h0, if_pos rfl]
    have hf : s.fuse ≠ 0 := fun e => by rw [writeN, if_pos e] at h0; omega
    rw [writeN, if_neg hf] at h0
    have hq : ¬ (at_ < 0 ∨ (n : Int) ≤ at_) := fun e => by rw [if_pos e] at h0; omega
    rw [if_neg hq] at h0
    have hl : d.length = 64 := by
      by_cases q : d.length = 64
      · exact q
      · rw [if_pos q] at h0; omega
    obtain ⟨k, rfl⟩ : ∃ k : Nat, at_ = (k : Int) := ⟨at_.toNat, by omega⟩
    rw [Int.toNat_natCast]
    rw [hl] at hd ⊢
    exact rwrite_ok h k A c d hd hf (by omega) hr hwr
  · rw [if_neg h0]
    refine (rwrite_bad h at_ A d.length c h0).mono ?_
    rintro e w' ⟨rfl, rfl⟩
    exact ⟨rfl, ROut.refl h (Fr.refl _ _)⟩
end Go.Proofs.Ythcklgelbckffaa
