/-
  Texts merged into one, to keep the claim small: Dr5, Dr5i.
-/
import Derived.Test.YtanfhmebjgmdpaaDr0
import Derived.Laws.MakeOwn
import Derived.Test.YtanfhmebjgmdpaaDr4i
section
/-
  drr: a server that is made line by line (plain).
-/
namespace Go.Proofs.Ytanfhmebjgmdpaa
open Go.RowKit
set_option linter.unusedVariables false
def blank (_ : Unit) : List Value := [.pointer none, .int .i64 0, .int .i64 0]
theorem blank_len (u : Unit) : (blank u).length = 3 := rfl
section
variable {X : Type} (cost : X → Int)
/-- The lines that are made, and those that are not yet. -/
def making (ls : List (LN X)) (m : Nat) : Array Value := (cellsOf (lcells cost) ls ++ cellsOf blank (List.replicate m ())).toArray
def fresh (p : Nat) : LN X := ⟨p, none, [], 0⟩
theorem making_zero (n : Nat) : madeCells #[.pointer none, .int .i64 0, .int .i64 0] (n * 3) = making cost [] n := by
  have := madeCells_of (enc := blank) (sz := 3) blank_len (by omega) () n
  apply Array.toList_inj.1
  rw [show (#[.pointer none, .int .i64 0, .int .i64 0] : Array Value) = (blank ()).toArray from rfl, this]
  simp [making, cellsOf]
theorem making_next (ls : List (LN X)) (m p : Nat) : (making cost ls (m + 1)).setIfInBounds (ls.length * 3) (.pointer (some ⟨p, 0, none⟩)) = making cost (ls ++ [fresh p]) m := by
  have hl := cellsOf_length (enc := lcells cost) (lcells_len cost) ls
  apply Array.toList_inj.1
  unfold making
  rw [Array.toList_setIfInBounds]
  simp only []
  rw [List.set_append_right _ _ (by omega), hl, Nat.sub_self, List.replicate_succ, cellsOf_append]
  simp [cellsOf, blank, lcells, fresh, csum]
theorem making_done (ls : List (LN X)) : making cost ls 0 = (cellsOf (lcells cost) ls).toArray := by simp [making, cellsOf]
theorem making_cell (ls : List (LN X)) (m : Nat) (hm : 0 < m) : (making cost ls m)[ls.length * 3]? = some (.pointer none) := by
  have hl := cellsOf_length (enc := lcells cost) (lcells_len cost) ls
  obtain ⟨m, rfl⟩ : ∃ k, m = k + 1 := ⟨m - 1, by omega⟩
  unfold making
  rw [List.getElem?_toArray, List.getElem?_append_right (by omega), hl, Nat.sub_self, List.replicate_succ]
  simp [cellsOf, blank]
end
end Go.Proofs.Ytanfhmebjgmdpaa
end

section
/-
  bazaar/drr.Drr[int]: New, Round.
-/
namespace Go.Proofs.Ytanfhmebjgmdpaa.Qi
open Go.RowKit Go.Shelf
set_option linter.unusedVariables false
attribute [local go_sem ↓] storeJ_

theorem infoLine : (Try.prog.info? tLine).map (fun i => (i.zero, i.size, i.bytes)) = some (some (.agg #[.pointer none, .int .i64 0, .int .i64 0]), 3, 24) := by kernel_rfl
/-- A server just made. -/
def Made (w : World) (queues room quantum : Nat) (d L : Nat) (s : DS X) (w' : World) : Prop :=
  (∀ D, 0 ≤ D → D ≤ 4611686018427387904 → DrrAt w' d L D s) ∧ s.quantum = quantum ∧ s.room = room ∧ s.busy = false ∧ s.lines.length = queues ∧ (∀ l ∈ s.lines, l.things = [] ∧ l.df = 0) ∧ Fr (fun _ => False) w w' ∧ ∀ x, drfoot d L s x → w.heap.size ≤ x
/-- So many lines have their rings. -/
def Building (w : World) (n room quantum d L k : Nat) (ls : List (LN X)) (wr : World) : Prop :=
  ls.length = k ∧ Bl wr d tDrr #[.int .i64 (quantum : Int), .slice (some ⟨L, 0, none⟩) n n, .bool false] ∧ Bl wr L tLine (making xc ls (n - k)) ∧
  (∀ l ∈ ls, RI wr l.p l.g room l.things ∧ l.g = none ∧ l.things = [] ∧ l.df = 0 ∧ w.heap.size ≤ l.p) ∧ ls.Pairwise (fun a b => a.p < b.p) ∧ Fr (fun _ => False) w wr ∧ w.heap.size ≤ d ∧ w.heap.size ≤ L
set_option maxHeartbeats 2000000 in
set_option maxRecDepth 20000 in
theorem New_ok (w : World) (queues room quantum : Nat) (h1 : 1 ≤ queues) (h2 : queues ≤ 1024) (h3 : 1 ≤ room) (h4 : room ≤ 65536) (h5 : 8 ≤ quantum) (h6 : quantum ≤ 1024) :
    Calls Try.prog 15 #[.int .i64 (queues : Int), .int .i64 (room : Int), .int .i64 (quantum : Int)] w fun e w' => ∃ (d L : Nat) (s : DS X), e = .returned (.tuple #[.pointer (some ⟨d, 0, none⟩), .int .i64 0]) ∧ Made w queues room quantum d L s w' := by
  obtain ⟨j0, hj, hj0, hj1, hj2⟩ := info_parts infoLine
  have hmk : (Instr.makeSlice 92 (.int .i64 (queues : Int)) (.int .i64 (queues : Int))).run Try.prog w = .ok (.slice (some ⟨w.heap.size, 0, none⟩) queues queues) (w.alloc (.cells (making xc [] queues) tLine)) := by
    have := run_make (P := Try.prog) w 92 tLine j0 _ Try.underlying92 hj hj0 .i64 .i64 (queues : Int) (queues : Int) (by omega) (Int.le_refl _) (by rw [hj2]; omega) (by omega)
    rw [hj1] at this
    simp only [Int.toNat_natCast] at this
    rw [this, ← making_zero xc queues]
    rfl
  have i1 : ¬ (queues : Int) < 1 := by omega
  have i2 : ¬ (1024 : Int) < (queues : Int) := by omega
  have i3 : ¬ (room : Int) < 1 := by omega
  have i4 : ¬ (65536 : Int) < (room : Int) := by omega
  have i5 : ¬ (quantum : Int) < 8 := by omega
  have i6 : ¬ (1024 : Int) < (quantum : Int) := by omega
  clear hj hj0 hj1 hj2
  go_enter Try.func15, Try.ntmps15
  go_wp2_with fail
  obtain ⟨L, hL⟩ : ∃ L, w.heap.size = L := ⟨_, rfl⟩
  have H0 : Hid (Building w queues room quantum (L + 1) L 0 [] ((w.alloc (.cells (making xc [] queues) tLine)).alloc (.cells #[.int .i64 (quantum : Int), .slice (some ⟨L, 0, none⟩) queues queues, .bool false] tDrr))) :=
    ⟨rfl, Bl.newAt (by simp [hL]), (Bl.newAt hL.symm).alloc _, (fun l h => by cases h), List.Pairwise.nil, ((Fr.refl _ _).alloc _).alloc _, by omega, by omega⟩
  simp only [hL]
  have HL := hide hL
  clear hL hmk
  go_loopw [42] (fun i wr => ∃ (k : Nat) (ls : List (LN X)), i = .int .i64 (k : Int) ∧ k ≤ queues ∧ Building w queues room quantum (L + 1) L k ls wr) (fun i _ => queues - (intOf i).toNat)
  case atStart => exact ⟨0, [], rfl, Nat.zero_le _, H0.out⟩
  case round =>
    obtain ⟨k, ls, rfl, hk, hB⟩ := hrel
    clear H0
    by_cases hlt : k < queues
    · obtain ⟨hkl, hbd, hbl, hri, hap, hfr, hd, hL⟩ := hB
      subst hkl
      have c1 : wr.cell? ⟨L + 1, 1, none⟩ = some (.slice (some ⟨L, 0, none⟩) queues queues) := hbd.cell' rfl
      have cL : wr.cell? ⟨L, ls.length * 3, none⟩ = some (.pointer none) := hbl.cell' (making_cell xc ls _ (by omega))
      have zL := hbl.free (ls.length * 3)
      have i7 : (0 : Int) ≤ (ls.length : Int) := by omega
      have i8 : (ls.length : Int) < (queues : Int) := by omega
      have HP := hide (And.intro hbd (And.intro hbl (And.intro hri (And.intro hap (And.intro hfr (And.intro hd hL))))))
      clear hbd hbl hri hap hfr hd hL
      go_wp2_with fail
      go_region_held3 (fun w' => w'.cell? ⟨L + 1, 1, none⟩ = some (.slice (some ⟨L, 0, none⟩) queues queues)) (go_keep)
        ((go_at_call 35; refine (new_ok _ room h3 h4).mono ?_; rintro e w4 ⟨rfl, hRI4, hf4, hlt4⟩; have kf4 : Fr (fun _ => False) wr w4 := (Fr.drew (by exact Fr.refl _ _)).trans hf4; have k0 := (kf4.cell (World.block_lt_of_cell? wr _ c1) id).trans c1; have k1 := (kf4.cell (World.block_lt_of_cell? wr _ cL) id).trans cL; have k2 := (kf4.frozen (World.block_lt_of_cell? wr _ cL) id).trans zL))
      have hRI5 : RI w4 wr.heap.size none room [] := hRI4
      obtain ⟨hbd, hbl, hri, hap, hfr, hd, hL⟩ := HP.out
      have hF5 : Fr (fun x => x = L) w4 (w4.setCell ⟨L, ls.length * 3, none⟩ (.pointer (some ⟨wr.heap.size, 0, none⟩))) := (Fr.refl _ _).setAt _
      have hLt := hbl.lt
      have HB5 : Hid (Building w queues room quantum (L + 1) L (ls.length + 1) (ls ++ [fresh wr.heap.size]) (w4.setCell ⟨L, ls.length * 3, none⟩ (.pointer (some ⟨wr.heap.size, 0, none⟩)))) := by
        refine ⟨by simp, (hbd.fr kf4 id).fr hF5 (by omega), ?_, fun l hl => ?_, ?_, (hfr.trans kf4).setIn (.inr hL) _, hd, hL⟩
        · have h7 := (hbl.fr kf4 id).set (ls.length * 3) (.pointer (some ⟨wr.heap.size, 0, none⟩))
          rw [show queues - ls.length = (queues - (ls.length + 1)) + 1 by omega, making_next] at h7
          exact h7
        · rcases List.mem_append.1 hl with hl | hl
          · obtain ⟨r1, r2, r3, r4, r5⟩ := hri l hl
            refine ⟨(r1.fr kf4 (fun _ _ => id)).fr hF5 (fun x hx e => ?_), r2, r3, r4, r5⟩
            subst e
            rcases hx with e | e
            · obtain ⟨cs, hc⟩ := r1.ty.1
              exact absurd e ((hbl.apart hc (by decide)))
            · rw [r2] at e; cases e
          · rw [List.mem_singleton] at hl
            subst hl
            refine ⟨hRI5.fr hF5 (fun x hx e => ?_), rfl, rfl, rfl, hfr.size⟩
            subst e
            rcases hx with e | e
            · have e2 : x = wr.heap.size := e
              omega
            · cases e
        · rw [List.pairwise_append]
          refine ⟨hap, by simp, fun l hl b hb => ?_⟩
          rw [List.mem_singleton] at hb
          subst hb
          exact (hri l hl).1.lt (.inl rfl)
      clear hbd hbl hri hap hfr hd hL k0 k1 k2 hRI4 hRI5 hF5 HP
      go_wp2_with fail
      exact ⟨⟨ls.length + 1, _, by go_num, hlt, HB5.out⟩, by simp [intOf]; omega⟩
    · obtain rfl : k = queues := by omega
      have HB := hide hB
      clear hB
      go_wp2_with fail
      go_ret2
      obtain ⟨hkl, hbd, hbl, hri, hap, hfr, hd, hL⟩ := HB.out
      rw [Nat.sub_self, making_done] at hbl
      have hap2 : ls.Pairwise (fun a b => ∀ x, qfoot a.p a.g x → ¬ qfoot b.p b.g x) := by
        rw [List.pairwise_iff_getElem] at hap ⊢
        intro i j hi hj hij x hx hx'
        have h9 := hap i j hi hj hij
        have ei := (hri _ (List.getElem_mem hi)).2.1
        have ej := (hri _ (List.getElem_mem hj)).2.1
        rcases hx with hx | hx
        · rcases hx' with hx' | hx'
          · omega
          · rw [ej] at hx'; cases hx'
        · rw [ei] at hx; cases hx
      refine ⟨L + 1, L, ⟨quantum, room, ls, false⟩, rfl, fun D hD0 hD1 => ⟨?_, hbl, fun l hl => (hri l hl).1, hap2, ⟨h5, h6, ?_, ?_, hD0, hD1, fun l hl x hx => ?_, fun l hl => ?_⟩⟩, rfl, rfl, rfl, hkl, fun l hl => ⟨(hri l hl).2.2.1, (hri l hl).2.2.2.1⟩, hfr, fun x hx => ?_⟩
      · show Bl wr (L + 1) tDrr #[.int .i64 (quantum : Int), .slice (some ⟨L, 0, none⟩) ls.length ls.length, .bool false]
        rw [hkl]; exact hbd
      · show 1 ≤ ls.length; omega
      · show ls.length ≤ 1024; omega
      · rw [(hri l hl).2.2.1] at hx; cases hx
      · rw [(hri l hl).2.2.2.1]; exact ⟨Int.le_refl _, hD0⟩
      · rcases hx with rfl | rfl | ⟨l, hl, hx⟩
        · exact hd
        · exact hL
        · rcases hx with rfl | hx
          · exact (hri l hl).2.2.2.2
          · rw [(hri l hl).2.1] at hx; cases hx
set_option maxHeartbeats 1000000 in
theorem Round_any (w : World) (v : Value) (hv : ∃ p, v = .pointer p) :
    Calls Try.prog 71 #[v] w fun e w' => e = .returned (.func (.func 80) #[] #[.pointer (some ⟨w.heap.size, 0, none⟩)]) ∧ w.alloc (.cells #[v] tPD) = w' := by
  obtain ⟨p, rfl⟩ := hv
  go_enter Try.func71, Try.ntmps71
  go_wp2
  go_ret
  exact ⟨rfl, rfl⟩
end Go.Proofs.Ytanfhmebjgmdpaa.Qi
end
