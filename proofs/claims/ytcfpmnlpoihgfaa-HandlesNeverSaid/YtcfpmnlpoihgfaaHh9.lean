/-
  handles.New[int].
-/
import Derived.Test.YtcfpmnlpoihgfaaHh8
namespace Go.Proofs.Ytcfpmnlpoihgfaa
open Go.RowKit
set_option linter.unusedVariables false
set_option linter.unusedSimpArgs false
theorem hinfoC : (Try.prog.info? tCel).map (fun i => (i.zero, i.size, i.bytes)) = some (some (.agg #[.int .i64 0, .int .i64 0, .bool false]), 3, 24) := by kernel_rfl
theorem new_bad (w : World) (room most : Int) (h : room < 1 ∨ 65536 < room ∨ most < 1 ∨ 4294967296 < most) :
    Calls Try.prog 9 #[.int .i64 room, .int .i64 most] w fun e w' => e = .returned (.tuple #[.pointer none, .int .i64 2]) ∧ w = w' := by
  by_cases h1 : room < 1
  · clear h
    go_enter Try.func9, Try.ntmps9
    go_wp2_with fail
    go_ret2
    exact ⟨rfl, rfl⟩
  · by_cases h2 : 65536 < room
    · clear h
      go_enter Try.func9, Try.ntmps9
      go_wp2_with fail
      go_ret2
      exact ⟨rfl, rfl⟩
    · by_cases h3 : most < 1
      · clear h
        go_enter Try.func9, Try.ntmps9
        go_wp2_with fail
        go_ret2
        exact ⟨rfl, rfl⟩
      · have h4 : 4294967296 < most := by omega
        clear h
        go_enter Try.func9, Try.ntmps9
        go_wp2_with fail
        go_ret2
        exact ⟨rfl, rfl⟩
theorem made_cells (n : Nat) : (madeCells (Value.agg #[.int .i64 0, .int .i64 0, .bool false]).cells (n * 3)).toList = tcells (List.replicate n (0, 0, false)) := by
  apply List.ext_getElem?
  intro k
  by_cases hk : k < n * 3
  · have h1 := tcells_at (List.replicate n (0, 0, false)) (k / 3) (0, 0, false) (by rw [List.getElem?_replicate, if_pos (by omega)])
    have hl : (madeCells (Value.agg #[.int .i64 0, .int .i64 0, .bool false]).cells (n * 3)).toList[k]? = some ((#[Value.int .i64 0, .int .i64 0, .bool false] : Array Value)[k % 3]!) := by
      unfold madeCells
      rw [Array.toList_map, Array.toList_range, List.getElem?_map, List.getElem?_range hk]
      rfl
    rw [hl]
    rcases (by omega : k % 3 = 0 ∨ k % 3 = 1 ∨ k % 3 = 2) with e | e | e
    · rw [e, show k = k / 3 * 3 by omega, h1.1]; rfl
    · rw [e, show k = k / 3 * 3 + 1 by omega, h1.2.1]; rfl
    · rw [e, show k = k / 3 * 3 + 2 by omega, h1.2.2]; rfl
  · rw [List.getElem?_eq_none (by unfold madeCells; simp; omega), List.getElem?_eq_none (by rw [tcells_len]; simp; omega)]
def fill (room j : Nat) : List Nat := List.range j ++ List.replicate (room - j) 0
theorem fill_len {room j : Nat} (h : j ≤ room) : (fill room j).length = room := by unfold fill; simp; omega
theorem fill_set {room j : Nat} (h : j < room) : (fill room j).set j j = fill room (j + 1) := by
  unfold fill
  obtain ⟨d, hd⟩ : ∃ d, room - j = d + 1 := ⟨room - j - 1, by omega⟩
  rw [hd, show room - (j + 1) = d by omega, List.range_succ, List.set_append_right _ _ (by simp), List.append_assoc]
  simp [List.replicate_succ]
theorem fill_at {room j : Nat} (h : j < room) : (fill room j)[j]? = some 0 := by
  unfold fill
  rw [List.getElem?_append_right (by simp), List.getElem?_replicate]
  simp; omega
theorem fill_end (room : Nat) : fill room room = List.range room := by unfold fill; simp
/-- New's table, j places filled in. -/
structure NewAt (w : World) (room most cb fb p j : Nat) (wr : World) : Prop where
  bl : Bl wr p tTab #[.int .i64 (most : Int), .slice (some ⟨cb, 0, none⟩) room room, .slice (some ⟨fb, 0, none⟩) room room, .int .i64 0, .int .i64 ((room : Int) * (most : Int))]
  ow : Ow wr tCel 3 (some ⟨cb, 0, none⟩) room room (tcells (List.replicate room (0, 0, false))) (some cb)
  fr : Ow wr 3 1 (some ⟨fb, 0, none⟩) room room ((fill room j).map ix) (some fb)
  new : Fr (fun _ => False) w wr
  i1 : w.heap.size ≤ cb
  i2 : w.heap.size ≤ fb
  i3 : w.heap.size ≤ p
  i4 : ¬ p = fb
  i5 : ¬ cb = fb
def newT (room most : Nat) : TS := ⟨List.replicate room (0, 0, false), List.range room, most, 0, room * most⟩
theorem range_heap (n : Nat) : HeapN (List.range n) (List.range n).length := fun k h0 hk => by
  rw [List.length_range] at hk
  have hg : ∀ i, i < n → (List.range n).getD i 0 = i := fun i hi => by rw [List.getD_eq_getElem?_getD, List.getElem?_range hi]; rfl
  rw [hg k hk, hg _ (by omega)]
  omega
theorem newT_ok {room most : Nat} (h1 : 1 ≤ room) (h2 : room ≤ 65536) (h3 : 1 ≤ most) (h4 : most ≤ 4294967296) : (newT room most).Ok room :=
  ⟨h2, h4, by simp [newT], fun x hx => by rw [List.eq_of_mem_replicate hx]; exact Nat.zero_le _, range_heap _, List.nodup_range, fun z hz => ⟨(0, 0, false), by show (List.replicate _ _)[z]? = _; rw [List.getElem?_replicate, if_pos (List.mem_range.1 hz)], h3, rfl⟩, by show (List.range room).length ≤ _; simp, Nat.zero_le _, by show room * most ≤ _; have := Nat.mul_le_mul h2 h4; omega⟩
theorem start1 (w : World) (room most : Nat) (ZC ZI : Array Value) (hC : ∀ W : World, Ow (W.alloc (.cells ZC tCel)) tCel 3 (some ⟨W.heap.size, 0, none⟩) room room (tcells (List.replicate room (0, 0, false))) (some W.heap.size)) (hI : ∀ W : World, Ow (W.alloc (.cells ZI 3)) 3 1 (some ⟨W.heap.size, 0, none⟩) room room ((fill room 0).map ix) (some W.heap.size)) :
    Hid (NewAt w room most w.heap.size (w.heap.size + 1) (w.heap.size + 1 + 1) 0 (((w.alloc (.cells ZC tCel)).alloc (.cells ZI 3)).alloc (.cells #[.int .i64 (most : Int), .slice (some ⟨w.heap.size, 0, none⟩) room room, .slice (some ⟨w.heap.size + 1, 0, none⟩) room room, .int .i64 0, .int .i64 ((room : Int) * (most : Int))] tTab)).drew) := by
  have s1 : (w.alloc (.cells ZC tCel)).heap.size = w.heap.size + 1 := by simp
  have s2 : ((w.alloc (.cells ZC tCel)).alloc (.cells ZI 3)).heap.size = w.heap.size + 1 + 1 := by simp
  have f2 : ∀ (W : World) (o : Obj), Fr (fun _ => False) W (W.alloc o) := fun W o => Fr.alloc (Fr.refl (fun _ => False) W) o
  have hC1 := (hC w).fr (f2 (w.alloc (.cells ZC tCel)) (.cells ZI 3)) (fun _ _ => id)
  have hI1 := hI (w.alloc (.cells ZC tCel))
  rw [s1] at hI1
  exact ⟨Bl.newAt s2.symm, hC1.fr (f2 _ _).drew (fun _ _ => id), hI1.fr (f2 _ _).drew (fun _ _ => id), (((f2 _ _).trans (f2 _ _)).trans (f2 _ _)).drew, by omega, by omega, by omega, by omega, by omega⟩
theorem start2 (w : World) (room most : Nat) (ZC ZI : Array Value) (hC : ∀ W : World, Ow (W.alloc (.cells ZC tCel)) tCel 3 (some ⟨W.heap.size, 0, none⟩) room room (tcells (List.replicate room (0, 0, false))) (some W.heap.size)) (hI : ∀ W : World, Ow (W.alloc (.cells ZI 3)) 3 1 (some ⟨W.heap.size, 0, none⟩) room room ((fill room 0).map ix) (some W.heap.size)) :
    Hid (NewAt w room most (w.heap.size + 1) w.heap.size (w.heap.size + 1 + 1) 0 (((w.alloc (.cells ZI 3)).alloc (.cells ZC tCel)).alloc (.cells #[.int .i64 (most : Int), .slice (some ⟨w.heap.size + 1, 0, none⟩) room room, .slice (some ⟨w.heap.size, 0, none⟩) room room, .int .i64 0, .int .i64 ((room : Int) * (most : Int))] tTab)).drew) := by
  have s1 : (w.alloc (.cells ZI 3)).heap.size = w.heap.size + 1 := by simp
  have s2 : ((w.alloc (.cells ZI 3)).alloc (.cells ZC tCel)).heap.size = w.heap.size + 1 + 1 := by simp
  have f2 : ∀ (W : World) (o : Obj), Fr (fun _ => False) W (W.alloc o) := fun W o => Fr.alloc (Fr.refl (fun _ => False) W) o
  have hI1 := (hI w).fr (f2 (w.alloc (.cells ZI 3)) (.cells ZC tCel)) (fun _ _ => id)
  have hC1 := hC (w.alloc (.cells ZI 3))
  rw [s1] at hC1
  exact ⟨Bl.newAt s2.symm, hC1.fr (f2 _ _).drew (fun _ _ => id), hI1.fr (f2 _ _).drew (fun _ _ => id), (((f2 _ _).trans (f2 _ _)).trans (f2 _ _)).drew, by omega, by omega, by omega, by omega, by omega⟩
theorem NewAt.next {w wr : World} {room most cb fb p j : Nat} (h : NewAt w room most cb fb p j wr) (hlt : j < room) : Hid (NewAt w room most cb fb p (j + 1) (wr.setCell ⟨fb, j, none⟩ (.int .i64 (j : Int)))) := by
  have h1 := h.fr.put (j := j) (by omega) (.int .i64 (j : Int))
  rw [Nat.zero_add] at h1
  have e : ((fill room j).map ix).set j (.int .i64 (j : Int)) = (fill room (j + 1)).map ix := by rw [← fill_set hlt, List.map_set]; rfl
  rw [e] at h1
  exact ⟨h.bl.far h.i4 _, h.ow.fr (S := fun k => k = fb) ((Fr.refl _ _).setAt _) (fun b hb e => by cases hb; exact h.i5 e), h1, Fr.set (S := fun _ => False) h.new (.inr h.i2) _, h.i1, h.i2, h.i3, h.i4, h.i5⟩
theorem NewAt.foot {w wr : World} {room most cb fb p j : Nat} (h : NewAt w room most cb fb p j wr) : ∀ k, tfoot p (some cb) (some fb) k → w.heap.size ≤ k := by
  rintro k (e | e | e)
  · rw [e]; exact h.i3
  · cases e; exact h.i1
  · cases e; exact h.i2
theorem NewAt.ti {w wr : World} {room most cb fb p : Nat} (h : NewAt w room most cb fb p room wr) (hok : (newT room most).Ok room) : TI wr p room (tfoot p (some cb) (some fb)) (newT room most) := by
  refine ⟨some ⟨cb, 0, none⟩, room, some cb, some ⟨fb, 0, none⟩, room, some fb, ⟨?_, h.ow, ?_, hok⟩, rfl⟩
  · have := h.bl
    show Bl _ _ _ #[.int .i64 (most : Int), .slice (some ⟨cb, 0, none⟩) room room, .slice (some ⟨fb, 0, none⟩) (List.range room).length room, .int .i64 ((0 : Nat) : Int), .int .i64 ((room * most : Nat) : Int)]
    rw [List.length_range, Int.natCast_mul]
    exact this
  · have := h.fr
    rw [fill_end] at this
    show Ow _ _ _ _ (List.range room).length _ _ _
    rw [List.length_range]
    exact this
def TNew (w : World) (room most : Nat) (e : Ending) (w' : World) : Prop :=
  ∃ p F, e = .returned (.tuple #[.pointer (some ⟨p, 0, none⟩), .int .i64 0]) ∧ TI w' p room F (newT room most) ∧ (∀ k, F k → w.heap.size ≤ k) ∧ Fr (fun _ => False) w w'
set_option maxHeartbeats 2000000 in
set_option maxRecDepth 8000 in
theorem new_ok (w : World) (room most : Nat) (h1 : 1 ≤ room) (h2 : room ≤ 65536) (h3 : 1 ≤ most) (h4 : most ≤ 4294967296) :
    Calls Try.prog 9 #[.int .i64 (room : Int), .int .i64 (most : Int)] w (TNew w room most) := by
  obtain ⟨ic, hc1, hc2, hc3, hc4⟩ := info_parts hinfoC
  obtain ⟨ii, hi1, hi2, hi3, hi4⟩ := info_parts infoI
  obtain ⟨ZC, hZC⟩ : ∃ ZC, madeCells (Value.agg #[.int .i64 0, .int .i64 0, .bool false]).cells (room * 3) = ZC := ⟨_, rfl⟩
  obtain ⟨ZI, hZI⟩ : ∃ ZI, madeCells (Value.int .i64 0).cells (room * 1) = ZI := ⟨_, rfl⟩
  have hm1 : ∀ W : World, (Instr.makeSlice 76 (.int .i64 (room : Int)) (.int .i64 (room : Int))).run Try.prog W = .ok (.slice (some ⟨W.heap.size, 0, none⟩) room room) (W.alloc (.cells ZC tCel)) := fun W => by
    have := run_make (P := Try.prog) W 76 tCel ic _ Try.underlying76 hc1 hc2 .i64 .i64 (room : Int) (room : Int) (by omega) (by omega) (by rw [hc4]; omega) (by omega)
    rw [Int.toNat_natCast, hc3, hZC] at this
    exact this
  have hm2 : ∀ W : World, (Instr.makeSlice 45 (.int .i64 (room : Int)) (.int .i64 (room : Int))).run Try.prog W = .ok (.slice (some ⟨W.heap.size, 0, none⟩) room room) (W.alloc (.cells ZI 3)) := fun W => by
    have := run_make (P := Try.prog) W 45 3 ii _ Try.underlying45 hi1 hi2 .i64 .i64 (room : Int) (room : Int) (by omega) (by omega) (by rw [hi4]; omega) (by omega)
    rw [Int.toNat_natCast, hi3, hZI] at this
    exact this
  have hsz : room * most ≤ 65536 * 4294967296 := Nat.mul_le_mul h2 h4
  have q1 : IntKind.i64.wrap ((room : Int) * (most : Int)) = ((room * most : Nat) : Int) := by
    rw [← Int.natCast_mul, IntWalk.i64_in _ (by omega)]
  have r1 : ¬ (room : Int) < 1 := by omega
  have r2 : ¬ 65536 < (room : Int) := by omega
  have r3 : ¬ (most : Int) < 1 := by omega
  have r4 : ¬ 4294967296 < (most : Int) := by omega
  have Hok := hide (newT_ok h1 h2 h3 h4)
  have hcl : ZC.toList = tcells (List.replicate room (0, 0, false)) := by rw [← hZC]; exact made_cells room
  have hil : ZI.toList = (fill room 0).map ix := by
    rw [← hZI]
    have := toList_madeCells_one (.int .i64 0) (room * 1)
    rw [Nat.mul_one] at this ⊢
    have e0 : fill room 0 = List.replicate room 0 := by unfold fill; simp
    rw [e0, List.map_replicate]
    exact this
  have hC0 : ∀ W : World, Ow (W.alloc (.cells ZC tCel)) tCel 3 (some ⟨W.heap.size, 0, none⟩) room room (tcells (List.replicate room (0, 0, false))) (some W.heap.size) := fun W =>
    Ow.made W tCel 3 room room ZC _ (by rw [← Array.length_toList, hcl, tcells_len]; simp) (Nat.le_refl _) (by unfold maxLen; omega) (by rw [hcl, List.take_of_length_le (by rw [tcells_len]; simp)])
  have hI0 : ∀ W : World, Ow (W.alloc (.cells ZI 3)) 3 1 (some ⟨W.heap.size, 0, none⟩) room room ((fill room 0).map ix) (some W.heap.size) := fun W =>
    Ow.made W 3 1 room room ZI _ (by rw [← Array.length_toList, hil]; simp [fill]) (Nat.le_refl _) (by unfold maxLen; omega) (by rw [hil, List.take_of_length_le (by simp [fill])])
  have HC0 := hide hC0
  have HI0 := hide hI0
  have H2 := hide h2
  clear hZC hZI hsz hcl hil hC0 hI0 hc1 hc2 hc3 hc4 hi1 hi2 hi3 hi4 h1 h2 h3 h4
  go_enter Try.func9, Try.ntmps9
  go_wp2_with fail
  go_region
  all_goals go_wp2_with fail
  all_goals
    go_loopw [37] (fun i wr => ∃ (j cb fb : Nat), j ≤ room ∧ i = .int .i64 (j : Int) ∧ Hid (NewAt w room most cb fb (w.heap.size + 1 + 1) j wr)) (fun i _ => room - (intOf i).toNat)
  all_goals first
    | (
      have hn := start1 w room most ZC ZI HC0.out HI0.out
      exact ⟨0, _, _, Nat.zero_le _, rfl, hn⟩)
    | (
      have hn := start2 w room most ZC ZI HC0.out HI0.out
      exact ⟨0, _, _, Nat.zero_le _, rfl, hn⟩)
    | (
      obtain ⟨j, cb, fb, hj, rfl, hN⟩ := hrel
      by_cases hlt : j < room
      · have p2 : wr.cell? ⟨w.heap.size + 1 + 1, 2, none⟩ = some (.slice (some ⟨fb, 0, none⟩) room room) := hN.out.bl.cell' rfl
        obtain ⟨b', o', e4, -, k0, z0⟩ := hN.out.fr.look (j := j) (u := ix 0) (by rw [List.getElem?_map, fill_at hlt]; rfl)
        cases e4
        rw [Nat.zero_add] at k0 z0
        have i0 : (0 : Int) ≤ (j : Int) := by omega
        have i1 : (j : Int) < (room : Int) := by omega
        have hroom := H2.out
        have hwb : IntKind.i64.wrap ((j : Int) + 1) = ((j + 1 : Nat) : Int) := by rw [IntWalk.i64_in _ (by omega)]; omega
        go_wp2_with fail
        refine ⟨⟨j + 1, cb, fb, by omega, by first | rfl | go_num, ?_⟩, by simp [intOf]; omega⟩
        exact hN.out.next hlt
      · obtain rfl : j = room := by omega
        go_wp2_with fail
        go_ret2
        exact ⟨w.heap.size + 1 + 1, _, rfl, hN.out.ti Hok.out, hN.out.foot, hN.out.new⟩)
end Go.Proofs.Ytcfpmnlpoihgfaa
