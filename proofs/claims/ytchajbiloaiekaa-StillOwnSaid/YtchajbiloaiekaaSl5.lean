/-
  A Still reads and writes a sector of its disk.
-/
import Derived.Test.YtchajbiloaiekaaSl4
import Derived.Test.YtchajbiloaiekaaDkQ
namespace Go.Proofs.Ytchajbiloaiekaa
open Go.RowKit
set_option linter.unusedVariables false
theorem told_write (s : DS) (k j : Nat) (d : List Nat) : (s.write k d).told j = if k = j then d else s.told j := by
  unfold DS.told DS.write
  simp only [lastOf_snoc]
  by_cases h : k = j
  · rw [if_pos h, if_pos h]
    simp
  · rw [if_neg h, if_neg h]
    cases hq : lastOf s.row j with
    | none => rfl
    | some i =>
      obtain ⟨hi, -⟩ := lastOf_lt hq
      simp only [List.getD_eq_getElem?_getD]
      rw [List.getElem?_append_left hi]
theorem told_sync {s : DS} {n : Nat} (h : s.Ok n) {j : Nat} (hj : j < n) : s.sync.told j = s.told j := by
  rw [told_sf j rfl]
  exact told_laid h hj
theorem semk_array {w : World} {a : Option Addr} {m c : Nat} (h : 64 ≤ m) : (Instr.arrayAt 61 (.slice a m c)).run Try.prog w = .ok (.pointer a) w := by
  have h2 : ¬ m < 64 := by omega
  simp [Instr.arrayAt, run_underlying Try.underlying61, h2]
def zeroS : List Value := List.replicate 64 (.int .u8 0)
section
variable {w : World} {q p fr n t0 t1 N : Nat} {F : Nat → Prop} {s : DS}
set_option maxHeartbeats 2000000 in
theorem sread_any (h : SAt w q p fr n t0 t1) (hd : DI w p N F s) (hf : s.fuse = -1) (k : Nat) (hk : k < N) :
    Calls Try.prog 29 #[.pointer (some ⟨q, 0, none⟩), .int .i64 (k : Int)] w fun e w' => e = .returned (.agg ((s.told k).map bn).toArray) ∧ Fr (fun _ => False) w w' := by
  obtain ⟨h1, h2⟩ := readS_at (s := s) (n := N) (k := k) (by omega) hk
  have hlen := told_len hd.ok hk
  obtain ⟨xs, hxs⟩ : ∃ xs, s.told k = xs := ⟨_, rfl⟩
  have hw1 : Fr (fun _ => False) w (w.alloc (.cells zeroS.toArray tSk)) := (Fr.refl _ _).alloc _
  have hq := h.fr hw1 id
  have hd1 := hd.fr hw1 (fun _ _ => id)
  have hrd := read_any hd1 (k : Int)
  rw [h1, h2, hxs] at hrd
  rw [hxs] at hlen ⊢
  obtain ⟨vN, HN0⟩ : ∃ vN, xs.map bn = vN := ⟨_, rfl⟩
  rw [HN0]
  have HN : Hid (vN = xs.map bn) := HN0.symm
  clear HN0
  obtain ⟨s0, hs0⟩ : ∃ s0, w.heap.size = s0 := ⟨_, rfl⟩
  have hB0 : Bl (w.alloc (.cells zeroS.toArray tSk)) s0 tSk zeroS.toArray := Bl.newAt hs0.symm
  have hz : Hid ((#[.int .u8 0, .int .u8 0, .int .u8 0, .int .u8 0, .int .u8 0, .int .u8 0, .int .u8 0, .int .u8 0, .int .u8 0, .int .u8 0, .int .u8 0, .int .u8 0, .int .u8 0, .int .u8 0, .int .u8 0, .int .u8 0, .int .u8 0, .int .u8 0, .int .u8 0, .int .u8 0, .int .u8 0, .int .u8 0, .int .u8 0, .int .u8 0, .int .u8 0, .int .u8 0, .int .u8 0, .int .u8 0, .int .u8 0, .int .u8 0, .int .u8 0, .int .u8 0, .int .u8 0, .int .u8 0, .int .u8 0, .int .u8 0, .int .u8 0, .int .u8 0, .int .u8 0, .int .u8 0, .int .u8 0, .int .u8 0, .int .u8 0, .int .u8 0, .int .u8 0, .int .u8 0, .int .u8 0, .int .u8 0, .int .u8 0, .int .u8 0, .int .u8 0, .int .u8 0, .int .u8 0, .int .u8 0, .int .u8 0, .int .u8 0, .int .u8 0, .int .u8 0, .int .u8 0, .int .u8 0, .int .u8 0, .int .u8 0, .int .u8 0, .int .u8 0] : Array Value) = zeroS.toArray) := rfl
  rw [← hz.out] at hrd hq hw1 hB0
  have HS0 := hide hs0
  have c0 := hq.cell' (i := 0) (v := .pointer (some ⟨p, 0, none⟩)) rfl
  clear hd hd1 h h1 h2 hxs hq
  go_enter Try.func29, Try.ntmps29
  go_wp2_with fail
  generalize hwz : w.alloc (.cells #[.int .u8 0, .int .u8 0, .int .u8 0, .int .u8 0, .int .u8 0, .int .u8 0, .int .u8 0, .int .u8 0, .int .u8 0, .int .u8 0, .int .u8 0, .int .u8 0, .int .u8 0, .int .u8 0, .int .u8 0, .int .u8 0, .int .u8 0, .int .u8 0, .int .u8 0, .int .u8 0, .int .u8 0, .int .u8 0, .int .u8 0, .int .u8 0, .int .u8 0, .int .u8 0, .int .u8 0, .int .u8 0, .int .u8 0, .int .u8 0, .int .u8 0, .int .u8 0, .int .u8 0, .int .u8 0, .int .u8 0, .int .u8 0, .int .u8 0, .int .u8 0, .int .u8 0, .int .u8 0, .int .u8 0, .int .u8 0, .int .u8 0, .int .u8 0, .int .u8 0, .int .u8 0, .int .u8 0, .int .u8 0, .int .u8 0, .int .u8 0, .int .u8 0, .int .u8 0, .int .u8 0, .int .u8 0, .int .u8 0, .int .u8 0, .int .u8 0, .int .u8 0, .int .u8 0, .int .u8 0, .int .u8 0, .int .u8 0, .int .u8 0, .int .u8 0] 61) = w1 at hrd c0 hw1 hB0 ⊢
  clear hwz
  have HW := hide (And.intro hw1 hB0)
  clear hw1 hB0
  refine hrd.mono ?_
  rintro e w2 ⟨⟨A, g, e0, rfl, hO, hg⟩, hf2⟩
  clear hrd c0
  rw [hlen] at hO ⊢
  go_wp2_with fail
  refine (must_ok w2).mono ?_
  rintro e w' ⟨rfl, rfl⟩
  have hB2 := HW.out.2.fr hf2 id
  have hW2 := HW.out.1.trans hf2
  obtain ⟨hN, hhN⟩ : ∃ hN, xs.map bn = hN := ⟨_, rfl⟩
  have Ho : Hid (hN.all (·.oneCell') = true) := by show _ = true; rw [← hhN]; simp [bn, Value.oneCell']
  have Hl : Hid (hN.length = 64) := by show _ = 64; rw [← hhN, List.length_map, hlen]
  have Hi : Hid ((Try.prog.info? tSk).map (·.size) = some hN.toArray.size) := by show _ = _; rw [List.size_toArray, Hl.out]; kernel_rfl
  have Hz : Hid ((#[.int .u8 0, .int .u8 0, .int .u8 0, .int .u8 0, .int .u8 0, .int .u8 0, .int .u8 0, .int .u8 0, .int .u8 0, .int .u8 0, .int .u8 0, .int .u8 0, .int .u8 0, .int .u8 0, .int .u8 0, .int .u8 0, .int .u8 0, .int .u8 0, .int .u8 0, .int .u8 0, .int .u8 0, .int .u8 0, .int .u8 0, .int .u8 0, .int .u8 0, .int .u8 0, .int .u8 0, .int .u8 0, .int .u8 0, .int .u8 0, .int .u8 0, .int .u8 0, .int .u8 0, .int .u8 0, .int .u8 0, .int .u8 0, .int .u8 0, .int .u8 0, .int .u8 0, .int .u8 0, .int .u8 0, .int .u8 0, .int .u8 0, .int .u8 0, .int .u8 0, .int .u8 0, .int .u8 0, .int .u8 0, .int .u8 0, .int .u8 0, .int .u8 0, .int .u8 0, .int .u8 0, .int .u8 0, .int .u8 0, .int .u8 0, .int .u8 0, .int .u8 0, .int .u8 0, .int .u8 0, .int .u8 0, .int .u8 0, .int .u8 0, .int .u8 0] : Array Value).size = 64) := by show _ = _; kernel_rfl
  have HN2 : Hid (vN = hN) := HN.out.trans hhN
  rw [hhN] at hO
  obtain ⟨-, ⟨-, h0, -⟩ | ⟨b, o, cur, rfl, -, hh, hoc, -, -, hcur⟩⟩ := hO
  · omega
  have hsub : Hid ((cur.toList.drop o).take hN.toArray.size = hN.toArray.toList) := by
    show _ = hN
    rw [List.size_toArray, Hl.out]
    apply List.ext_getElem?
    intro j
    by_cases hj : j < 64
    · rw [List.getElem?_take_of_lt hj, List.getElem?_drop]
      have := hcur j (by omega)
      simpa using this
    · rw [List.getElem?_eq_none (by rw [List.length_take]; omega), List.getElem?_eq_none (by rw [Hl.out]; omega)]
  have ha := semk_array (w := w2) (a := some ⟨b, o, none⟩) (m := 64) (c := 64) (Nat.le_refl _)
  have HB2 := hide hB2
  have HW2 := hide hW2
  clear hW2 hf2 hhN hcur hoc
  go_wp2_with (first
    | (refine wpList_load_at rfl tSk _ rfl b o rfl e0 cur hN.toArray (0, 0) _ hh Try.underlying61 rfl Hi.out hsub.out ?_)
    | (refine wpList_store_at rfl tSk _ _ rfl s0 0 hN.toArray rfl rfl tSk _ hN.toArray hB2 Hi.out 64 64 Hz.out (by simpa using Hl.out) (by decide) Ho.out (by simp [Hl.out]) ?_))
  refine bodyPost_ret (results_cell_row rfl _ _ s0 tSk hN.toArray (0, 0) _ rfl (HB2.out.setRow _) Try.underlying61 rfl Hi.out) rfl ?_
  exact ⟨by rw [HN2.out], HW2.out.setRow (.inr (by rw [HS0.out]; exact Nat.le_refl _)) _⟩
set_option maxHeartbeats 2000000 in
theorem swrite_any (h : SAt w q p fr n t0 t1) (hd : DI w p N F s) (hf : s.fuse = -1) (k : Nat) (hk : k < N) (d : List Nat) (hdl : d.length = 64) (hr : (s.row.length + 1) * 72 ≤ 140737488355328) (hwr : s.wr < 8000000000000000000) (hq : ¬ F q) :
    Calls Try.prog 30 #[.pointer (some ⟨q, 0, none⟩), .int .i64 (k : Int), .agg (d.map bn).toArray] w fun e w' => e = .returned (.tuple #[]) ∧ DOut w p N F (s.write k d) w' := by
  obtain ⟨s0, hs0⟩ : ∃ s0, w.heap.size = s0 := ⟨_, rfl⟩
  obtain ⟨hN, hhN⟩ : ∃ hN, d.map bn = hN := ⟨_, rfl⟩
  have hNl : hN.length = 64 := by rw [← hhN, List.length_map, hdl]
  have hw1 : Fr (fun _ => False) w (w.alloc (.cells hN.toArray tSk)) := (Fr.refl _ _).alloc _
  have hS1 : Sl (w.alloc (.cells hN.toArray tSk)) 1 (some ⟨s0, 0, none⟩) 64 (d.map bn) := by rw [hhN, ← hs0]; exact Sl.row w hN tSk 1 64 (by omega)
  have c0 := (h.fr hw1 id).cell' (i := 0) (v := .pointer (some ⟨p, 0, none⟩)) rfl
  have hd1 := hd.fr hw1 (fun _ _ => id)
  have HF : Hid (∀ b, F b → b < s0) := fun b hb => by have := hd.lt hb; omega
  have h0 : writeN N s (k : Int) 64 = 0 := by unfold writeN; rw [if_neg (by omega), if_neg (by omega), if_neg (by omega)]
  have hcall : Hid (∀ W, Fr (fun _ => False) (w.alloc (.cells hN.toArray tSk)) W → Calls Try.prog 36 #[.pointer (some ⟨p, 0, none⟩), .int .i64 (k : Int), .slice (some ⟨s0, 0, none⟩) 64 64] W fun e w' => e = .returned (.int .i64 0) ∧ DOut W p N F (s.write k d) w') := fun W hW => by
    have := write_any (hd1.fr hW (fun _ _ => id)) (k : Int) (some ⟨s0, 0, none⟩) 64 64 d hdl.symm (hS1.below hW (fun _ _ => id)) hr hwr (fun b ⟨o, e⟩ hb => by cases e; have := HF.out s0 hb; omega)
    rw [h0] at this
    unfold DS.writeS at this
    rw [hdl, if_pos h0, Int.toNat_natCast] at this
    exact this
  rw [hhN]
  have Hl : Hid (hN.length = 64) := hNl
  have Hi : Hid ((Try.prog.info? tSk).map (·.size) = some hN.toArray.size) := by show _ = _; rw [List.size_toArray, Hl.out]; kernel_rfl
  clear hd hd1 h hS1 h0 hNl hhN hdl hr hwr
  go_enter Try.func30, Try.ntmps30
  go_wp2_with fail
  generalize hwz : w.alloc (.cells hN.toArray 61) = w1 at hw1 c0 hcall ⊢
  clear hwz
  have Hw1' := hide hw1
  clear hw1
  refine region_tail 6 (by kernel_rfl) (by kernel_rfl) ?_
  intro w2 Hw2 hcw2 hzw2 hsw2
  simp only [List.take_succ_cons, List.take_zero, List.drop_succ_cons, List.drop_zero]
  repeat still_step
  refine wpStill_nil ?_
  have hf2 : Fr (fun _ => False) w1 w2 := by rw [Hw2.out]; exact (Fr.refl _ _).drew
  have hc := hcall.out w2 hf2
  have Hf2 := hide (Hw1'.out.trans hf2)
  clear hcall hf2
  go_wp2_with fail
  refine hc.mono ?_
  rintro e w3 ⟨rfl, F', hD, hFr, hk'⟩
  have HD := hide (And.intro hD (And.intro hFr hk'))
  clear hc hD hFr hk'
  go_wp2_with fail
  refine (must_ok w3).mono ?_
  rintro e w' ⟨rfl, rfl⟩
  go_wp2_with fail
  ((try simp only [Exit.inBlock, Exit.then]); first | refine bodyPost_end (results_none rfl _ _ _) rfl ?_ | refine bodyPost_ret (results_none rfl _ _ _) rfl ?_)
  obtain ⟨hD, hFr, hk'⟩ := HD.out
  have hsz := Hf2.out.size
  exact ⟨rfl, F', hD, (Hf2.out.weak _).trans hFr, fun x hx => hk' x (by omega)⟩
end
end Go.Proofs.Ytchajbiloaiekaa
