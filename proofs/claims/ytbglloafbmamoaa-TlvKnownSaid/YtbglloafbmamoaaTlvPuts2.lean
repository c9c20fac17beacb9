/-
  TlvPuts: the walk.
-/
import Derived.Test.YtbglloafbmamoaaTlvPuts1
import Derived.Test.YtbglloafbmamoaaTlvQuiet
namespace Go.Proofs.Ytbglloafbmamoaa
open Go.RowKit
set_option linter.unusedVariables false
attribute [local go_sem ↓] Go.wp_at_zero Go.wp_at_succ

theorem info40 : (Try.prog.info? 40).map (fun i => (i.zero, i.size, i.bytes)) = some (some (.agg #[.int .i64 0, .slice none 0 0]), 2, 32) := by kernel_rfl
theorem info42 : (Try.prog.info? 42).map (fun i => (i.zero, i.size, i.bytes)) = some (some (.agg #[.int .i64 0, .slice none 0 0, .int .i64 0, .int .i64 0, .bool false]), 5, 56) := by kernel_rfl

theorem Sl.row (w : World) (cs : Array Value) (t : TypeId) (s n : Nat) (h : cs.size = n * s) : Sl (w.alloc (.cells cs t)) s (some ⟨w.heap.size, 0, none⟩) n cs.toList :=
  ⟨by simpa using h, fun _ => ⟨w.heap.size, 0, rfl, fun j u hu => by
    have h := (Bl.new w t cs).cell j
    simp only [Nat.zero_add]
    rw [h]; simpa using hu⟩⟩

theorem Lent.ow {w : World} {A : Option Addr} {n c : Nat} {xs : List Nat} {g : Nat} (h : Lent w A n c xs g) (hl : n = xs.length) : Ow w 5 1 A n c (xs.map bn) (some g) := by
  have := Ow.take h (k := n) (by omega)
  rwa [Nat.mul_one, List.map_append, List.take_left' (by simp [hl])] at this

/-- The first loop's words. -/
def Puts1 (w0 : World) (fs : List (Int × List Nat)) (k : Nat) (vin vwant : Value) (w : World) : Prop :=
  ∃ (rs : List PR) (A B : Option Addr) (c d : Nat) (g h : Option Nat), vin = .slice A k c ∧ vwant = .slice B k d ∧ PRs w0 w rs (fs.take k) ∧
    Ow w 40 2 A k c (rs.flatMap PR.inCells) g ∧ Ow w 42 5 B k d (rs.flatMap PR.wantCells) h ∧ (∀ b, g = some b → w0.heap.size ≤ b) ∧ (∀ b, h = some b → w0.heap.size ≤ b) ∧
    (∀ r ∈ rs, ∀ b o, r.V = some ⟨b, o, none⟩ → 0 < r.m → b < w0.heap.size) ∧ Fr (fun _ => False) w0 w

set_option maxHeartbeats 8000000 in
set_option maxRecDepth 100000 in
theorem puts_walk (w : World) (fs : List (Int × List Nat)) (A : Option Addr) (n c : Nat) (hn : n ≤ 1048576) (hA : FAt w 2 A n fs) (hM : (putAll fs).length ≤ 100000000000) (hM2 : ∀ (i : Nat) (hi : i < fs.length), fs[i].2.length ≤ 1048576) :
    Calls Try.prog 4 #[.slice A n c] w fun e w' => e = .returned (.bool true) ∧ Below w.heap.size w w' := by
  obtain ⟨j0, hj, hj0, hj1, hj2⟩ := info_parts info40
  obtain ⟨q0, hq, hq0, hq1, hq2⟩ := info_parts info42
  have Hl := hide hA.1
  have HA := hide hA
  clear hA
  go_enter Try.func4, Try.ntmps4
  go_wp2_with fail
  go_loopw [3, 4, 5] (fun u v i wr => ∃ k : Nat, k ≤ n ∧ i = .int .i64 k ∧ Puts1 w fs k u v wr) (fun _ _ i _ => n - (intOf i).toNat)
  case atStart => exact ⟨0, by omega, rfl, [], none, none, 0, 0, none, none, rfl, rfl, ⟨rfl, (fun r h => by cases h), (fun r h => by cases h), List.Pairwise.nil⟩, Ow.nil_ _ _ _, Ow.nil_ _ _ _, (fun b h => by cases h), (fun b h => by cases h), (fun r h => by cases h), Fr.refl _ _⟩
  case round =>
    obtain ⟨k, hk, rfl, rs, I, B, ci, cb, gi, gb, rfl, rfl, hR, hI, hB, hgi, hgb, hV0, hf⟩ := hrel
    by_cases hlt : k < n
    · have hkl : k < fs.length := by rw [← Hl.out]; exact hlt
      obtain ⟨b, o, rfl, hcc⟩ := HA.out.2 (by omega)
      obtain ⟨V, m, d, c0w, c1w, hVw⟩ := hcc k hkl
      have hbw : b < w.heap.size := World.block_lt_of_cell? w _ c0w
      have c0 := (hf.cell (World.block_lt_of_cell? w _ c0w) id).trans c0w
      have c1 := (hf.cell (World.block_lt_of_cell? w _ c1w) id).trans c1w
      have hV := hVw.below hf (fun _ _ => id)
      have hVl := hVw.lt
      have hm : m ≤ 1048576 := by rw [hV.len]; exact hM2 k hkl
      obtain ⟨T, hT⟩ : ∃ T, fs[k].1 = T := ⟨_, rfl⟩
      have HT := hide hT
      rw [hT] at c0
      clear hcc hT c0w c1w hVw
      have hib : ¬ some b = gi := fun e => by have := hgi b e.symm; omega
      have i1 : (0 : Int) ≤ (k : Int) := by omega
      have i2 : (k : Int) < (n : Int) := by omega
      go_wp2_with fail
      go_region_held3 (fun w' => w'.cell? ⟨b, o + k * 2, none⟩ = some (.int .i64 T) ∧ w'.cell? ⟨b, o + k * 2 + 1, none⟩ = some (.slice V m d)) (go_keep)
        (first
          | (go_at_call 19; refine (lent_any _ fs[k].2 V m d (by omega) (by exact hV)).mono ?_; rintro e w2 ⟨A2, c2, g2, rfl, hL2, hg2, hf2⟩; have kc0 := (hf2.cell (World.block_lt_of_cell? wr _ c0) id).trans c0; have kc1 := (hf2.cell (World.block_lt_of_cell? wr _ c1) id).trans c1)
          | (refine step_append_ow _ (by rfl) _ _ 36 (by rfl) 40 j0 _ 2 32 Try.underlying36 hj hj0 hj1 hj2 rfl (by decide) _ _ _ _ _ (by rfl) (hI.fr (Fr.alloc (Fr.trans (by exact (Fr.refl _ _).drew) hf2) _) (fun _ _ => id)) _ _ _ [.int .i64 T, .slice A2 m c2] (by rfl) (Sl.row _ _ _ 2 1 rfl) (by intro u hu; simp at hu; rcases hu with rfl | rfl <;> rfl) (by unfold maxLen; omega) (by omega) ?_; intro I3 ci3 w3 g3 hI3 hf3 hg3; have hf23 := Fr.comp (Fr.alloc (Fr.refl (fun k => some k = gi) w2) _) hf3 (fun _ _ e => e); have kd0 := (hf23.cell (World.block_lt_of_cell? w2 _ kc0) hib).trans kc0; have kd1 := (hf23.cell (World.block_lt_of_cell? w2 _ kc1) hib).trans kc1))
      have hf13 : Fr (fun k => some k = gi) wr w3 := ((Fr.refl _ wr).drew.comp hf2 (fun _ _ e => e.elim)).comp hf23 (fun _ _ e => e)
      have hig : ∀ x, gb = some x → ¬ some x = gi := fun x e1 e2 => by
        subst e1; subst e2; exact Ow.ne hI hB (by decide) rfl
      have hB3 := hB.fr hf13 hig
      have hbb : ¬ some b = gb := fun e => by have := hgb b e.symm; omega
      go_wp2_with fail
      go_region_held3 (fun w' => w'.cell? ⟨b, o + k * 2, none⟩ = some (.int .i64 T) ∧ w'.cell? ⟨b, o + k * 2 + 1, none⟩ = some (.slice V m d)) (go_keep)
        ((refine step_append_ow _ (by rfl) _ _ 37 (by rfl) 42 q0 _ 5 56 Try.underlying37 hq hq0 hq1 hq2 rfl (by decide) _ _ _ _ _ (by rfl) (hB3.fr (S := fun _ => False) (Fr.alloc (by exact (Fr.refl (fun _ => False) w3).drew) _) (fun _ _ => id)) _ _ _ [.int .i64 T, .slice V m d, .int .i64 0, .int .i64 0, .bool false] (by rfl) (Sl.row _ _ _ 5 1 rfl) (by intro u hu; simp at hu; rcases hu with rfl | rfl | rfl | rfl | rfl <;> rfl) (by unfold maxLen; omega) (by omega) ?_; intro B4 cb4 w4 g4 hB4 hf4 hg4; have hf34 := Fr.comp (Fr.alloc (Fr.drew (Fr.refl (fun k => some k = gb) w3)) _) hf4 (fun _ _ e => e); have ke0 := (hf34.cell (World.block_lt_of_cell? w3 _ kd0) hbb).trans kd0; have ke1 := (hf34.cell (World.block_lt_of_cell? w3 _ kd1) hbb).trans kd1))
      go_wp2_with fail
      refine ⟨⟨k + 1, by omega, by go_num, rs ++ [⟨T, fs[k].2, V, m, d, A2, c2, g2⟩], I3, B4, ci3, cb4, g3, g4, rfl, rfl, ?_, ?_, ?_, ?_, ?_, ?_, ?_⟩, by simp [intOf]; omega⟩
      · have hf14 : Fr (fun x => some x = gi ∨ some x = gb) wr w4 := (hf13.mono fun _ _ e => .inl e).trans (hf34.mono fun _ _ e => .inr e)
        have hI2 := hI.fr ((Fr.refl (fun _ => False) wr).drew.trans hf2) (fun _ _ => id)
        have hB2 := hB.fr ((Fr.refl (fun _ => False) wr).drew.trans hf2) (fun _ _ => id)
        have hgg : ∀ x, (some x = gi ∨ some x = gb) → x ≠ g2 := fun x e => by
          rcases e with e | e
          · rw [← e] at hI2; exact Ow.ne hI2 hL2 (by decide)
          · rw [← e] at hB2; exact Ow.ne hB2 hL2 (by decide)
        have hL3 : Lent w3 A2 m c2 fs[k].2 g2 := Ow.fr hL2 hf23 fun x e1 e2 => by cases e1; exact hgg g2 (.inl e2) rfl
        have hL4 : Lent w4 A2 m c2 fs[k].2 g2 := Ow.fr hL3 hf34 fun x e1 e2 => by cases e1; exact hgg g2 (.inr e2) rfl
        have hsz : wr.heap.size ≤ g2 := by simpa using hg2
        have h1 : PRs w w4 rs (fs.take k) := hR.step hf14 (fun x hx e r hr => by
            rcases e with e | e
            · rw [← e] at hI; exact Ow.ne hI (hR.lent r hr).1 (by decide)
            · rw [← e] at hB; exact Ow.ne hB (hR.lent r hr).1 (by decide)) fun r hr hv => Sl.fr' hf14 hv fun x o' hA h0 e => by
              have := hV0 r hr x o' hA h0
              rcases e with e | e
              · have := hgi x e.symm; omega
              · have := hgb x e.symm; omega
        refine ⟨?_, ?_, ?_, ?_⟩
        · rw [List.map_append, h1.eq, List.take_succ_eq_append_getElem hkl, ← HT.out]; rfl
        · intro r hr
          rcases List.mem_append.1 hr with hr | hr
          · exact h1.val r hr
          · simp at hr; subst hr
            exact ⟨hV.len, Sl.fr' hf14 hV fun x o' hA h0 e => by
              have := hVl x o' hA h0
              rcases e with e | e
              · have := hgi x e.symm; omega
              · have := hgb x e.symm; omega⟩
        · intro r hr
          rcases List.mem_append.1 hr with hr | hr
          · exact h1.lent r hr
          · simp at hr; subst hr
            exact ⟨hL4, Nat.le_trans hf.size hsz⟩
        · rw [List.pairwise_append]
          refine ⟨h1.ord, by simp, fun r hr r' hr' => ?_⟩
          simp at hr'; subst hr'
          have := (hR.lent r hr).1.lt _ rfl
          show r.g < g2
          omega
      · rw [List.flatMap_append]
        have := hI3.fr hf34 (fun x e1 e2 => by
          have hB3' := hB3
          rw [← e2] at hB3'
          rw [e1] at hI3
          exact Ow.ne hI3 hB3' (by decide) rfl)
        simpa [PR.inCells] using this
      · rw [List.flatMap_append]
        simpa [PR.wantCells] using hB4
      · intro x e
        rcases hg3 with h | ⟨b2, h, hb2⟩
        · exact hgi x (h ▸ e)
        · rw [h] at e; cases e
          have h5 := hf.size
          have h6 := hf2.size
          simp at h6 hb2; omega
      · intro x e
        rcases hg4 with h | ⟨b2, h, hb2⟩
        · exact hgb x (h ▸ e)
        · rw [h] at e; cases e
          have h5 := hf.size
          have h6 := hf13.size
          simp at hb2; omega
      · intro r hr x o' hA h0
        rcases List.mem_append.1 hr with hr | hr
        · exact hV0 r hr x o' hA h0
        · simp at hr; subst hr
          exact hVl x o' hA h0
      · exact (hf.comp hf13 fun x hx e => by have := hgi x e.symm; omega).comp hf34 fun x hx e => by have := hgb x e.symm; omega
    · obtain rfl : k = n := by omega
      have hfull : fs.take k = fs := List.take_of_length_le (by rw [← Hl.out]; exact Nat.le_refl _)
      rw [hfull] at hR
      have hrl : Hid (rs.length = k) := by rw [hR.len]; exact Hl.out.symm
      clear hfull hlt
      go_wp2_with (at_builtin; refine wpList_append_ow _ rfl _ _ 36 rfl 40 j0 _ 2 32 Try.underlying36 hj hj0 hj1 hj2 rfl (by decide) _ _ _ _ _ rfl (hI.fr ((Fr.refl (fun _ => False) _).alloc _) (fun _ _ => id)) _ _ _ [.int .i64 77, .slice none 0 0, .int .i64 78, .slice none 0 0] rfl (Sl.row _ _ _ 2 2 rfl) (by intro u hu; simp at hu; rcases hu with rfl | rfl | rfl | rfl <;> rfl) (by unfold maxLen; omega) (by omega) ?_)
      intro I2 c2 w2 g2 hI2 hf2 hg2
      have hf02 : Fr (fun x => some x = gi) wr w2 := ((Fr.refl _ _).alloc _).comp hf2 (fun _ _ e => e)
      have hR2 : PRs w w2 rs fs := hR.step hf02 (fun x hx e r hr => by rw [← e] at hI; exact Ow.ne hI (hR.lent r hr).1 (by decide)) fun r hr hv => Sl.fr' hf02 hv fun x o' hA h0 e => by
        have := hV0 r hr x o' hA h0
        have := hgi x e.symm; omega
      have hB2 := hB.fr hf02 (fun x e1 e2 => by subst e1; rw [← e2] at hI; exact Ow.ne hI hB (by decide) rfl)
      have hfw2 : Fr (fun _ => False) w w2 := hf.comp hf02 fun x hx e => by have := hgi x e.symm; omega
      have hcc := hI2.cap
      have hc1 := hcc.1
      have hc2 : c2 ≤ 9223372036854775807 := by have := hcc.2; unfold maxLen at this; exact this
      have HI := hide hI2
      clear hcc hI2
      go_wp2_with fail
      refine (rput_any _ fs B k cb (by omega) (hR2.fatw hB2) (by omega) (fun i hi => by have := hM2 i hi; omega)).mono ?_
      rintro e w3 ⟨P3, n3, c3, g3, rfl, hP3, hg3, hf3⟩
      have hR3 := hR2.quiet hf3
      have hI3 := HI.out.fr hf3 (fun _ _ => id)
      go_wp2_with fail
      refine (put_any _ fs I2 k c2 (by omega) (hR3.fat hrl.out.symm hI3) (fun i hi => by have := hM2 i hi; omega)).mono ?_
      rintro e w4 ⟨P4, n4, c4, g4, rfl, hP4, hg4, hf4⟩
      have hR4 := hR3.quiet hf4
      have hI4 := hI3.fr hf4 (fun _ _ => id)
      have hP34 := hP3.fr hf4 (fun _ _ => id)
      go_wp2_with fail
      refine (put_any _ fs I2 k c2 (by omega) (hR4.fat hrl.out.symm hI4) (fun i hi => by have := hM2 i hi; omega)).mono ?_
      rintro e w5 ⟨P5, n5, c5, g5, rfl, hP5, hg5, hf5⟩
      have hR5 := hR4.quiet hf5
      have hI5 := hI4.fr hf5 (fun _ _ => id)
      have hP35 := hP34.fr hf5 (fun _ _ => id)
      have hP45 := hP4.fr hf5 (fun _ _ => id)
      have e4 : n4 = n3 := by rw [hP45.len, hP35.len]
      have e5 : n5 = n3 := by rw [hP5.len, hP35.len]
      subst e4 e5
      go_wp2_with fail
      refine (num_any _ _).mono ?_
      rintro e w6 ⟨rfl, rfl⟩
      go_wp2_with fail
      refine (num_any _ _).mono ?_
      rintro e w6 ⟨rfl, rfl⟩
      go_wp2_with fail
      have hnb : n5 ≤ 100000000000 := by
        rw [hP5.len]; unfold putBytes; split
        · exact hM
        · simp
      refine (same_q _ (putBytes fs) P4 P3 c4 c3 n5 hP45.len (by omega) hP45.sl hP35.sl).mono ?_
      rintro e w6 ⟨rfl, hd6⟩
      have hf6 := fr_of_drewN hd6
      clear hd6
      have hR6 := hR5.quiet hf6
      have hI6 := hI5.fr hf6 (fun _ _ => id)
      have hP36 := hP35.fr hf6 (fun _ _ => id)
      have hP46 := hP45.fr hf6 (fun _ _ => id)
      have hP56 := hP5.fr hf6 (fun _ _ => id)
      go_wp2_with fail
      refine (same_q _ (putBytes fs) P5 P3 c5 c3 n5 hP56.len (by omega) hP56.sl hP36.sl).mono ?_
      rintro e w7 ⟨rfl, hd7⟩
      have hf7 := fr_of_drewN hd7
      clear hd7
      have hR7 := hR6.quiet hf7
      have hI7 := hI6.fr hf7 (fun _ _ => id)
      have hP37 := hP36.fr hf7 (fun _ _ => id)
      have hP47 := hP46.fr hf7 (fun _ _ => id)
      have hP57 := hP56.fr hf7 (fun _ _ => id)
      have hrow := rows_len PR.inCells 2 PR.inCells_len rs
      rw [hrl.out] at hrow
      obtain ⟨bi, oi, hIe, -, t77, -⟩ := hI7.look (j := k * 2) (u := .int .i64 77) (by rw [List.getElem?_append_right (by omega), hrow, Nat.sub_self]; rfl)
      obtain ⟨bi', oi', hIe', -, t78, -⟩ := hI7.look (j := (k + 1) * 2) (u := .int .i64 78) (by rw [List.getElem?_append_right (by omega), hrow, show (k + 1) * 2 - k * 2 = 2 by omega]; rfl)
      rw [hIe] at hIe'; cases hIe'
      subst hIe
      clear hrow
      go_wp2_with fail
      have hgl : ∀ r ∈ rs, r.g < w2.heap.size := fun r hr => (hR2.lent r hr).1.lt _ rfl
      have HR := hide hR7
      have HgI := hide hI7
      clear hR7 hI7 t77 t78
      go_loopw [13] (fun i wr => ∃ j : Nat, j ≤ k ∧ i = .int .i64 j ∧ (∀ r ∈ rs.drop j, Lent wr r.A r.m r.c r.xs r.g) ∧ Ow wr 40 2 (some ⟨bi, oi, none⟩) (k + 2) c2 (rs.flatMap PR.inCells ++ [.int .i64 77, .slice none 0 0, .int .i64 78, .slice none 0 0]) g2 ∧
        Fr (fun x => w.heap.size ≤ x ∧ x < w2.heap.size) w7 wr) (fun i _ => k - (intOf i).toNat)
      case atStart => exact ⟨0, by omega, rfl, fun r hr => (HR.out.lent r (by simpa using hr)).1, HgI.out, Fr.refl _ _⟩
      case round =>
        obtain ⟨j, hj, rfl, hLs, hIr, hfr⟩ := hrel
        by_cases hlt : j < k
        · have hkl : j < fs.length := by rw [← Hl.out]; exact hlt
          have hjr : j < rs.length := by rw [hrl.out]; exact hlt
          obtain ⟨ba, oa, rfl, hcc⟩ := HA.out.2 (by omega)
          obtain ⟨V, m, d, c0w, c1w, hVw⟩ := hcc j hkl
          have hall : Fr (fun x => w.heap.size ≤ x) w wr := ((((((hfw2.weak _).comp hf3 (fun _ _ e => e.elim)).comp hf4 (fun _ _ e => e.elim)).comp hf5 (fun _ _ e => e.elim)).comp hf6 (fun _ _ e => e.elim)).comp hf7 (fun _ _ e => e.elim)).comp hfr fun x _ e => e.1
          have hba := World.block_lt_of_cell? w _ c0w
          have a0 := (hall.cell hba (by simp at hba ⊢; omega)).trans c0w
          have a1 := (hall.cell (p := ⟨ba, oa + j * 2 + 1, none⟩) hba (by simp at hba ⊢; omega)).trans c1w
          have hV := Sl.fr' hall hVw fun x o' hA h0 e => by have := hVw.lt x o' hA h0; omega
          have hget : ∀ y, y < 2 → (rs.flatMap PR.inCells ++ [.int .i64 77, .slice none 0 0, .int .i64 78, .slice none 0 0])[j * 2 + y]? = (PR.inCells rs[j])[y]? := fun y hy => by
            rw [List.getElem?_append_left (by rw [rows_len PR.inCells 2 PR.inCells_len]; omega), rows_get PR.inCells 2 PR.inCells_len rs j y hjr hy]
          obtain ⟨b1, o1, e1, -, i0, -⟩ := hIr.look (hget 0 (by omega))
          obtain ⟨b2, o2, e2, -, i1, -⟩ := hIr.look (hget 1 (by omega))
          cases e1; cases e2
          have hfe : fs[j] = (rs[j].T, rs[j].xs) := by
            have : (rs.map fun r => (r.T, r.xs))[j]'(by simpa using hjr) = (rs[j].T, rs[j].xs) := by simp
            rw [← this]; congr 1; exact hR2.eq.symm
          have hmem : rs[j] ∈ rs := List.getElem_mem hjr
          obtain ⟨r, hr⟩ : ∃ r, rs[j] = r := ⟨_, rfl⟩
          rw [hr] at i0 i1 hfe hmem
          rw [hfe] at a0 hV
          have hm1 := (hR2.val r hmem).1
          have hmm : m = r.m := by rw [hV.len, hm1]
          subst hmm
          have hm2 : r.m ≤ 1048576 := by have := hM2 j hkl; rw [hfe] at this; rw [hm1]; exact this
          have hdr : rs.drop j = r :: rs.drop (j + 1) := by rw [List.drop_eq_getElem_cons hjr, hr]
          have hL := hLs r (by rw [hdr]; simp)
          have Hdr := hide hdr
          have Hm1 := hide hm1
          have hgr := hgl r hmem
          have hgw := (hR2.lent r hmem).2
          rw [Nat.add_zero] at i0
          rw [← Nat.add_assoc] at i1
          clear hcc c0w c1w hVw hba hget hfe hr hdr hm1
          have u1 : (0 : Int) ≤ (j : Int) := by omega
          have u2 : (j : Int) < (k : Int) := by omega
          go_wp2_with fail
          go_quiet ((go_at_call 23; exact quiet_ex (kept_q _ r.xs r.A V r.m r.c d r.g (by omega) Hm1.out (by exact hL) (by exact hV))))
          go_wp2_with fail
          refine (over_any _ r.xs r.A r.m r.c (some r.g) ((Lent.ow hL Hm1.out).fr ((Fr.refl (fun _ => False) _).drewN _) (fun _ _ => id)) (by omega)).mono ?_
          rintro e w8 ⟨rfl, hf8⟩
          have hf8' : Fr (fun x => x = r.g) wr w8 := ((Fr.refl _ wr).drewN _).comp hf8 fun x _ e => by cases e; rfl
          go_wp2_with fail
          refine ⟨⟨j + 1, by omega, by go_num, fun r' hr' => ?_, ?_, ?_⟩, by simp [intOf]; omega⟩
          · have hne : r.g < r'.g := by
              have h1 : (rs.drop j).Pairwise fun a b => a.g < b.g := hR2.ord.sublist (List.drop_sublist _ _)
              rw [Hdr.out, List.pairwise_cons] at h1
              exact h1.1 r' hr'
            exact Ow.fr (hLs r' (by rw [Hdr.out]; simp [hr'])) hf8' fun b e1 e2 => by cases e1; omega
          · exact hIr.fr hf8' fun b e1 e2 => by
              subst e1
              exact Ow.ne hIr hL (by decide) e2
          · exact hfr.trans (hf8'.mono fun x _ e => by subst e; exact ⟨hgw, hgr⟩)
        · obtain rfl : j = k := by omega
          have hs23 := hf3.size
          have hs34 := hf4.size
          have hs45 := hf5.size
          have hs56 := hf6.size
          have hs67 := hf7.size
          have hP4r := hP47.fr hfr (fun b e h => by have := hg4 b e; omega)
          have hP5r := hP57.fr hfr (fun b e h => by have := hg5 b e; omega)
          have hP3r := hP37.fr hfr (fun b e h => by have := hg3 b e; omega)
          have hP4l := hP4.lt
          have hP3l := hP3.lt
          clear hlt hs56 hs67
          go_wp2_with fail
          refine (over_any _ _ _ _ _ _ hP4r (by omega)).mono ?_
          rintro e w8 ⟨rfl, hf8⟩
          have hP58 := hP5r.fr hf8 (fun b e h => by have := hg5 b e; have := hP4l b h.symm; omega)
          have hP38 := hP3r.fr hf8 (fun b e h => by have := hP3l b e; have := hg4 b h.symm; omega)
          go_wp2_with fail
          refine (same_q _ (putBytes fs) P5 P3 c5 c3 n5 hP58.len (by omega) hP58.sl hP38.sl).mono ?_
          rintro e w9 ⟨rfl, hd9⟩
          have hf9 := fr_of_drewN hd9
          clear hd9
          go_wp2_with fail
          go_ret
          have hall : Fr (fun x => w.heap.size ≤ x) w w9 := ((((((((hfw2.weak _).comp hf3 (fun _ _ e => e.elim)).comp hf4 (fun _ _ e => e.elim)).comp hf5 (fun _ _ e => e.elim)).comp hf6 (fun _ _ e => e.elim)).comp hf7 (fun _ _ e => e.elim)).comp hfr fun x _ e => e.1).comp hf8 fun x hx e => by have := hg4 x e.symm; have := hfw2.size; omega).comp hf9 (fun _ _ e => e.elim)
          exact ⟨rfl, hall.toBelow (Nat.le_refl _) (fun k hk => by omega)⟩
end Go.Proofs.Ytbglloafbmamoaa
