/-
  disk: New, Image.
-/
import Derived.Test.YtchajbiloaiekaaDk5
import Derived.OwnWalk
namespace Go.Proofs.Ytchajbiloaiekaa
open Go.RowKit
set_option linter.unusedVariables false
set_option linter.unusedSimpArgs false
attribute [local go_sem ↓] opstill_loadS opwp_loadS opwp_loadW opwp_storeS opwp_storeW opwp_allocS opwp_allocW
attribute [local go_sem] loadS_eq loadW_eq storeS_row storeW_row allocS_eq allocW_eq mayNewS mayNewW setNewS setNewW mayNewC setNewC
theorem infoU8 : (Try.prog.info? 5).map (fun i => (i.zero, i.size, i.bytes)) = some (some (.int .u8 0), 1, 1) := by kernel_rfl
theorem infoSec : (Try.prog.info? tSec).map (fun i => (i.zero, i.size, i.bytes)) = some (some (.agg (List.replicate 64 (.int .u8 0)).toArray), 64, 64) := by kernel_rfl
def zeros (m : Nat) : List Nat := List.replicate m 0
theorem zeros_len (m : Nat) : (zeros m).length = m := by simp [zeros]
theorem made_same (N m : Nat) (h : 0 < N) (z : Value) : (madeCells (List.replicate N z).toArray m).toList = List.replicate m z := by
  unfold madeCells
  rw [Array.toList_map, Array.toList_range]
  apply List.ext_getElem (by simp)
  intro i h1 h2
  have := Nat.mod_lt i h
  simp [this]
theorem made_zero (m : Nat) : (madeCells (Value.agg (List.replicate 64 (.int .u8 0)).toArray).cells m).toList = (zeros m).map bn := by
  have := made_same 64 m (by omega) (.int .u8 0)
  unfold zeros
  rw [List.map_replicate]
  exact this
/-- A new disk. -/
def newS (n : Nat) : DS := ⟨zeros (n * 64), [], -1, 0, 0⟩
def NewOut (w : World) (n : Nat) (s : DS) (e : Ending) (w' : World) : Prop :=
  ∃ p F, e = .returned (.tuple #[.pointer (some ⟨p, 0, none⟩), .int .i64 0]) ∧ DI w' p n F s ∧ (∀ k, F k → w.heap.size ≤ k) ∧ Fr (fun _ => False) w w'
theorem mkmap_eq {P : Program} {t : TypeId} {w : World} : (Instr.makeMap t none).run P w = .ok (.map (some w.heap.size)) (w.alloc (.map #[] 0)) := rfl
attribute [local go_sem] mkmap_eq
theorem lastAt_new (w : World) : LastAt (w.alloc (.map #[] 0)) w.heap.size [] :=
  ⟨.map [], 0, World.ownsMap_made w _ _ _, Nat.le_refl _, fun k _ => ⟨rfl, fun j hj => by cases hj⟩⟩
theorem new_bad (w : World) (k : Int) (h : k < 1 ∨ 65536 < k) :
    Calls Try.prog 9 #[.int .i64 k] w fun e w' => e = .returned (.tuple #[.pointer none, .int .i64 2]) ∧ w = w' := by
  by_cases h1 : k < 1
  · clear h
    go_enter Try.func9, Try.ntmps9
    go_wp2_with fail
    go_ret2
    exact ⟨rfl, rfl⟩
  · have h2 : 65536 < k := by omega
    clear h
    go_enter Try.func9, Try.ntmps9
    go_wp2_with fail
    go_ret2
    exact ⟨rfl, rfl⟩
theorem newS_ok (n : Nat) (h1 : 1 ≤ n) (h2 : n ≤ 65536) : (newS n).Ok n :=
  ⟨h1, h2, zeros_len _, fun r hr => (by cases hr), Int.le_refl _, by show (-1 : Int) ≤ _; omega, Nat.le_refl _, Nat.zero_le _, Nat.zero_le _⟩
theorem new_ok (w : World) (n : Nat) (h1 : 1 ≤ n) (h2 : n ≤ 65536) :
    Calls Try.prog 9 #[.int .i64 (n : Int)] w (NewOut w n (newS n)) := by
  obtain ⟨i0, hi, hz0, hz1, hz2⟩ := info_parts infoSec
  have q1 : ¬ (n : Int) < 1 := by omega
  have q2 : ¬ 65536 < (n : Int) := by omega
  have hn := hide h1
  have hn2 := hide h2
  clear h1 h2
  go_enter Try.func9, Try.ntmps9
  go_wp2_with (refine wpList_make_full _ rfl _ _ 49 rfl w.heap.size 67 i0 _ 64 Try.underlying49 hi hz0 hz1 .i64 .i64 _ _ n rfl rfl rfl rfl (by rw [hz2]; have := hn2.out; omega) (by have := hn2.out; unfold maxLen; omega) (Nat.le_refl _) ?_)
  intro w1 ho hg1
  have ho2 : w1.ownsRow w.heap.size tSec 64 (.slice (some ⟨w.heap.size, 0, none⟩) n n) n ((zeros (n * 64)).map bn) := by rw [← made_zero]; exact ho
  have Ho := hide ho2
  have Hg : Hid (Fr (fun _ => False) w w1) := (Fr.ofGrown hg1).mono fun k _ e => by cases e
  clear ho hg1 ho2
  go_wp2_with fail
  go_ret2
  obtain ⟨A, c, g, e, hO, hb⟩ := Ow.ofOwns Ho.out
  cases e
  have hg := Hg.out
  have hnb : Bl ((w1.alloc (.map #[] 0)).alloc (.cells #[.slice (some ⟨w.heap.size, 0, none⟩) n n, .slice none 0 0, .map (some w1.heap.size), .int .i64 (-1), .int .i64 0, .int .i64 0] tDisk)) (w1.alloc (.map #[] 0)).heap.size tDisk _ := Bl.new _ _ _
  have f1 : Fr (fun _ => False) w1 (w1.alloc (.map #[] 0)) := Fr.alloc (Fr.refl (fun _ => False) w1) _
  have f2 : Fr (fun _ => False) (w1.alloc (.map #[] 0)) ((w1.alloc (.map #[] 0)).alloc (.cells #[.slice (some ⟨w.heap.size, 0, none⟩) n n, .slice none 0 0, .map (some w1.heap.size), .int .i64 (-1), .int .i64 0, .int .i64 0] tDisk)) := Fr.alloc (Fr.refl (fun _ => False) _) _
  refine ⟨(w1.alloc (.map #[] 0)).heap.size, dfoot (w1.alloc (.map #[] 0)).heap.size g none w1.heap.size, by simp, ⟨some ⟨w.heap.size, 0, none⟩, n, g, none, 0, none, w1.heap.size, ⟨?_, ?_, Ow.nil_ _ _ _, ?_, newS_ok n hn.out hn2.out⟩, rfl⟩, ?_, (hg.trans f1).trans f2⟩
  · exact hnb
  · exact (hO.fr f1 (fun _ _ => id)).fr f2 (fun _ _ => id)
  · exact (lastAt_new w1).fr f2 id
  · have hs := hg.size
    rintro k (e | e | e | e)
    · subst e; simp; omega
    · exact hb k e
    · cases e
    · omega

/-! Image. -/
/-- A new slice of bytes, without spare room. -/
def BytesOut (w : World) (xs : List Nat) (e : Ending) (w' : World) : Prop :=
  ∃ A g, e = .returned (.slice A xs.length xs.length) ∧ Ow w' 5 1 A xs.length xs.length (xs.map bn) g ∧ (∀ b, g = some b → w.heap.size ≤ b) ∧ Fr (fun _ => False) w w'
structure ImgAt (w : World) (sf : List Nat) (j : Nat) (A : Option Addr) (c : Nat) (wr : World) : Prop where
  ow : ∃ g, Ow wr 5 1 A (j * 64) c ((sf.take (j * 64)).map bn) g ∧ (∀ b, g = some b → w.heap.size ≤ b)
  fr : Fr (fun _ => False) w wr
theorem image_any {w : World} {p n : Nat} {F : Nat → Prop} {s : DS} (h : DI w p n F s) :
    Calls Try.prog 16 #[.pointer (some ⟨p, 0, none⟩)] w (BytesOut w s.sf) := by
  obtain ⟨i0, hi, hz0, hz1, hz2⟩ := info_parts infoU8
  obtain ⟨SA, sc, gs, RA, rc, gr, mb, h, rfl⟩ := h
  have c0 : w.cell? ⟨p, 0, none⟩ = some (.slice SA n sc) := h.bl.cell' rfl
  have q0 := h.ok.n1
  have q1 := h.ok.n2
  have ql := h.ok.len
  have hw : IntKind.i64.wrap ((n : Int) * 64) = ((n * 64 : Nat) : Int) := by rw [IntWalk.i64_in _ (by omega)]; omega
  have H := hide h
  clear h
  go_enter Try.func16, Try.ntmps16
  go_wp2_with (refine wpList_make_own _ rfl _ _ 22 rfl w.heap.size 5 i0 _ 1 Try.underlying22 hi hz0 hz1 .i64 .i64 _ (n * 64) rfl rfl rfl (by rw [hz2]; omega) (by unfold maxLen; omega) (Nat.le_refl _) ?_)
  intro w1 ho hg1
  have Ho := hide ho
  have Hg : Hid (Fr (fun _ => False) w w1) := (Fr.ofGrown hg1).mono fun k _ e => by cases e
  have c0a := (Hg.out.cell (World.block_lt_of_cell? w _ c0) id).trans c0
  clear ho hg1
  go_wp2_with fail
  go_loopw [3, 19] (fun v i wr => ∃ (j : Nat) (A : Option Addr) (c : Nat), j ≤ n ∧ v = .slice A (j * 64) c ∧ i = .int .i64 (j : Int) ∧ Hid (ImgAt w s.sf j A c wr)) (fun _ i _ => n - (intOf i).toNat)
  case atStart =>
    obtain ⟨A, c, g, e, hO, hb⟩ := Ow.ofOwns Ho.out
    cases e
    exact ⟨0, _, _, Nat.zero_le _, rfl, rfl, ⟨⟨g, by simpa using hO, hb⟩, Hg.out⟩⟩
  case round =>
    obtain ⟨j, A, c, hj, rfl, rfl, hI⟩ := hrel
    obtain ⟨⟨g, hO, hb⟩, hf⟩ := hI.out
    by_cases hlt : j < n
    · have c0b := (hf.cell (World.block_lt_of_cell? w _ c0) id).trans c0
      obtain ⟨b, o, rfl, -, hlen, hr, -⟩ := safe_at H.out.safe j hlt
      have hS : Sl wr 1 (some ⟨b, o + j * 64, none⟩) 64 (((s.sf.drop (j * 64)).take 64).map bn) := ⟨by rw [List.length_map, hlen], fun _ => ⟨_, _, rfl, fun i u hu => (hf.cell (World.block_lt_of_cell? w _ (hr i u hu)) id).trans (hr i u hu)⟩⟩
      have i1 : (0 : Int) ≤ (j : Int) := by omega
      have i2 : (j : Int) < (n : Int) := by omega
      have HO := hide hO
      have HS := hide hS
      have Hb := hide hb
      have Hf := hide hf
      have hwj : IntKind.i64.wrap ((j : Int) + 1) = ((j + 1 : Nat) : Int) := by rw [IntWalk.i64_in _ (by omega)]; omega
      clear hO hS hr hlen hb hf c0a c0 hI
      go_wp2_with (at_builtin; refine wpList_append_ow _ rfl _ _ 22 rfl 5 i0 (.int .u8 0) 1 1 Try.underlying22 hi hz0 hz1 hz2 rfl (by decide) _ _ _ _ _ rfl HO.out _ 64 _ _ rfl HS.out (bn_one _) (by unfold maxLen; omega) (by omega) ?_)
      intro A2 c2 w2 g2 hO2 hf2 hg2
      go_wp2_with fail
      refine ⟨⟨j + 1, A2, c2, by omega, by rw [Nat.add_mul, Nat.one_mul], rfl, ⟨⟨g2, ?_, ?_⟩, ?_⟩⟩, by simp [intOf]; omega⟩
      · rw [Nat.add_mul, Nat.one_mul, List.take_add, List.map_append, List.map_take, List.map_take, List.map_drop]
        exact hO2
      · intro x hx
        have := Hf.out.size
        rcases hg2 with rfl | ⟨b', rfl, h⟩
        · exact Hb.out x hx
        · cases hx; omega
      · exact Hf.out.comp hf2 (fun x hx e => by have := Hb.out x e.symm; omega)
    · obtain rfl : j = n := by omega
      have hT : s.sf.take (j * 64) = s.sf := List.take_of_length_le (by omega)
      rw [hT] at hO
      have HO := hide hO
      have Hb := hide hb
      have Hf := hide hf
      have hcap := hO.cap
      clear hO hb hf hI
      have i4 : ¬ (c : Int) < (j : Int) * 64 := by omega
      go_wp2_with fail
      go_ret
      refine ⟨A, g, ?_, ?_, Hb.out, Hf.out⟩
      · rw [ql]; rfl
      · rw [ql]; exact HO.out.clip
end Go.Proofs.Ytchajbiloaiekaa
