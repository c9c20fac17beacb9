/-
  Texts merged into one, to keep the claim small: PrC, PrD.
-/
import Derived.Test.YtahhecendjfenaaMe23
import Derived.Test.YtahhecendjfenaaMe15
import Derived.Test.YtahhecendjfenaaMe8
import Derived.Laws.Rows
section
/-
  proto's law: ints, entry, same, num; lentInts, marked.
-/
namespace Go.Proofs.Ytahhecendjfenaa
open Go.RowKit
set_option linter.unusedVariables false
set_option linter.unusedSimpArgs false
theorem infoInt : (Try.prog.info? 3).map (fun i => (i.zero, i.size, i.bytes)) = some (some (.int .i64 0), 1, 8) := by kernel_rfl
theorem iv_one (xs : List Int) : ∀ u ∈ xs.map iv, u.oneCell' = true := by
  intro u hu
  obtain ⟨x, -, rfl⟩ := List.mem_map.1 hu
  rfl
set_option maxHeartbeats 1000000 in
set_option maxRecDepth 4000 in
theorem num27law_any (w : World) (x : Int) : Calls Try.prog 13 #[.int .i64 x] w fun e w' => e = .returned (.int .i64 x) ∧ w = w' := by
  go_enter Try.func13, Try.ntmps13
  go_wp2
  go_ret
  exact ⟨rfl, rfl⟩
set_option maxHeartbeats 1000000 in
set_option maxRecDepth 4000 in
/-- ints, where the numbers are the same: true. -/
theorem ints_q (w : World) (xs : List Int) (A B : Option Addr) (c d : Nat) (n : Nat) (hn : n = xs.length) (h63 : n ≤ 9223372036854775806) (hA : Sl w 1 A n (xs.map iv)) (hB : Sl w 1 B n (xs.map iv)) :
    Calls Try.prog 47 #[.slice A n c, .slice B n d] w fun e w' => e = .returned (.bool true) ∧ ∃ m, w' = w.drewN m := by
  have Hn := hide hn
  clear hn
  go_enter Try.func47, Try.ntmps47
  go_wp2_with fail
  go_loopw [5] (fun i wr => ∃ (k m : Nat), k ≤ n ∧ i = .int .i64 k ∧ Hid (wr = w.drewN m)) (fun i _ => n - (intOf i).toNat)
  case atStart => exact ⟨0, 0, Nat.zero_le _, rfl, rfl⟩
  case round =>
    obtain ⟨k, m, hk, rfl, hw⟩ := hrel
    obtain rfl := hw.out
    clear hw
    by_cases hlt : k < n
    · have hkl : k < xs.length := by rw [← Hn.out]; exact hlt
      obtain ⟨z, hz⟩ : ∃ z, xs[k] = z := ⟨_, rfl⟩
      have hu : (xs.map iv)[k]? = some (.int .i64 z) := by rw [List.getElem?_map, List.getElem?_eq_getElem hkl, hz]; rfl
      obtain ⟨b, o, rfl, ca⟩ := hA.at_ hu
      obtain ⟨b', o', rfl, cb⟩ := hB.at_ hu
      clear hA hB hu hz hkl
      have i0 : (0 : Int) ≤ (k : Int) := by omega
      have i1 : (k : Int) < (n : Int) := by omega
      go_wp2_with fail
      go_quiet (fail)
      go_wp2_with fail
      exact ⟨⟨k + 1, _, by omega, by go_num, rfl⟩, by simp [intOf]; omega⟩
    · go_wp2_with fail
      go_ret
      exact ⟨rfl, _, rfl⟩
set_option maxHeartbeats 1000000 in
set_option maxRecDepth 4000 in
theorem same27_true (w : World) (xs : List Nat) (A B : Option Addr) (c d n : Nat) (h256 : ∀ x ∈ xs, x < 256) (hA : Sl w 1 A n (xs.map bn)) (hB : Sl w 1 B n (xs.map bn)) :
    Calls Try.prog 14 #[.slice A n c, .slice B n d] w fun e w' => e = .returned (.bool true) ∧ w = w' := by
  have c1 := conv_bs w A n c xs h256 hA
  have c2 := conv_bs w B n d xs h256 hB
  obtain ⟨str, hstr⟩ : ∃ str, strOf xs = str := ⟨_, rfl⟩
  rw [hstr] at c1 c2
  clear hA hB h256 hstr
  go_enter Try.func14, Try.ntmps14
  go_wp2_with fail
  go_ret
  exact ⟨rfl, rfl⟩
/-- Two entries that are the same, wherever their wishes lie. -/
def ER.like (a b : ER) : Prop := a.acc = b.acc ∧ a.item = b.item ∧ a.co = b.co ∧ a.pr = b.pr ∧ a.ws = b.ws
set_option maxHeartbeats 1000000 in
set_option maxRecDepth 4000 in
theorem entryLike_any (w : World) (a b : ER) (hl : a.like b) (ha : a.at_ w) (hb : b.at_ w) :
    Calls Try.prog 53 #[.agg #[.int .i64 a.acc, .int .i64 a.item, .int .u64 (a.co : Int), .int .u64 (a.pr : Int), .slice a.A a.n a.c], .agg #[.int .i64 b.acc, .int .i64 b.item, .int .u64 (b.co : Int), .int .u64 (b.pr : Int), .slice b.A b.n b.c]] w fun e w' => e = .returned (.bool true) ∧ Fr (fun _ => False) w w' := by
  have e1 := ha.sl.ilen
  have e2 := hb.sl.ilen
  have l1 := ha.le
  have S1 := hide ha.sl
  have S2 := hide hb.sl
  obtain ⟨acc, item, co, pr, A, n, c, ws⟩ := a
  obtain ⟨acc', item', co', pr', A', n', c', ws'⟩ := b
  obtain ⟨h1, h2, h3, h4, h5⟩ := hl
  simp only at h1 h2 h3 h4 h5 e1 e2 l1 S1 S2 ⊢
  subst h1 h2 h3 h4 h5
  obtain rfl : n = n' := e1.trans e2.symm
  have HC : Hid (∀ w1, Fr (fun _ => False) w w1 → Calls Try.prog 47 #[.slice A n c, .slice A' n c'] w1 fun e w' => e = .returned (.bool true) ∧ ∃ m, w' = w1.drewN m) := fun w1 hf => ints_q w1 ws A A' c c' n e1 (by omega) (S1.out.quiet hf) (S2.out.quiet hf)
  clear e1 e2 l1 S1 S2 ha hb
  go_enter Try.func53, Try.ntmps53
  go_wp2_with fail
  refine (HC.out _ (by (repeat (first | with_reducible exact Fr.refl _ _ | with_reducible assumption | with_reducible refine Fr.drew ?_ | with_reducible refine Fr.drewN ?_ _ | with_reducible refine Fr.alloc ?_ _ | with_reducible refine Fr.setIn ?_ (by first | exact Or.inl rfl | exact Or.inr (by simp; done) | exact Or.inr (by simp; omega) | exact Or.inr (by omega)) _)))).mono ?_
  rintro e w1 ⟨rfl, hd⟩
  have HF : Hid (Fr (fun _ => False) w w1) := Fr.trans (by (repeat (first | with_reducible exact Fr.refl _ _ | with_reducible assumption | with_reducible refine Fr.drew ?_ | with_reducible refine Fr.drewN ?_ _ | with_reducible refine Fr.alloc ?_ _ | with_reducible refine Fr.setIn ?_ (by first | exact Or.inl rfl | exact Or.inr (by simp; done) | exact Or.inr (by simp; omega) | exact Or.inr (by omega)) _))) (fr_of_drewN hd)
  clear hd
  go_wp2_with fail
  go_ret
  exact ⟨rfl, HF.out⟩
/-- Numbers lent: in memory of their own, two marks behind them. -/
structure LI (W w : World) (A : Option Addr) (n c : Nat) (xs : List Int) (g : Nat) : Prop where
  ow : Ow w 3 1 A (n + 2) c ((xs ++ [-77, -78]).map iv) (some g)
  len : n = xs.length
  new : W.heap.size ≤ g
set_option maxHeartbeats 1000000 in
set_option maxRecDepth 4000 in
theorem lentInts_any (w : World) (xs : List Int) (A : Option Addr) (n c : Nat) (hn : n ≤ 17592186043904) (hA : Sl w 1 A n (xs.map iv)) :
    Calls Try.prog 9 #[.slice A n c] w fun e w' => ∃ B d g, e = .returned (.slice B n d) ∧ LI w w' B n d xs g ∧ Fr (fun _ => False) w w' := by
  obtain ⟨j0, hj, hj0, hj1, hj2⟩ := info_parts infoInt
  have Hn := hide hA.ilen
  have HA := hide hA
  clear hA
  go_enter Try.func9, Try.ntmps9
  go_wp2_with (first | (at_builtin; go_loud (refine wpList_append_ow _ rfl _ _ 24 rfl 3 j0 (.int .i64 0) 1 8 Try.underlying24 hj hj0 hj1 hj2 rfl (by decide) _ _ _ _ _ rfl (Ow.made w 3 1 0 0 #[] [] rfl (by omega) (by unfold maxLen; omega) (by simp)) _ _ _ (xs.map iv) rfl (HA.out.quiet ((Fr.refl _ _).alloc _)) (iv_one xs) (by unfold maxLen; omega) (by omega) ?_)) | go_in)
  intro A2 c2 w2 g2 hO2 hf2 hg2
  have Hf2 : Hid (Fr (fun _ => False) w w2) := ((Fr.refl (fun _ => False) w).alloc (.cells #[] 3)).comp hf2 fun i hi e => by omega
  have Hg2 : Hid (∀ b, g2 = some b → w.heap.size ≤ b) := fun b e => by
    rcases hg2 with e2 | ⟨x, e2, hx⟩
    · rw [e2] at e; cases e; exact Nat.le_refl _
    · rw [e2] at e; cases e; omega
  clear hf2 hg2
  go_wp2_with (first | (at_builtin; go_loud (refine wpList_append_ow _ rfl _ _ 24 rfl 3 j0 (.int .i64 0) 1 8 Try.underlying24 hj hj0 hj1 hj2 rfl (by decide) _ _ _ _ _ rfl (hO2.fr (S := fun _ => False) ((Fr.refl _ _).alloc _) (fun _ _ => id)) _ _ _ [.int .i64 (-77), .int .i64 (-78)] rfl (Sl.row w2 #[.int .i64 (-77), .int .i64 (-78)] 3 1 2 rfl) (by intro u hu; simp at hu; rcases hu with rfl | rfl <;> rfl) (by unfold maxLen; omega) (by omega) ?_)) | go_in)
  intro A3 c3 w3 g3 hO3 hf3 hg3
  have hcap := hO3.cap
  have k1 : n + 2 ≤ c3 := hcap.1
  have k2 : c3 ≤ 9223372036854775807 := by have := hcap.2; unfold maxLen at this; exact this
  have s2 := Hf2.out.size
  have HR : Hid (∃ g, LI w w3 A3 n c3 xs g ∧ Fr (fun _ => False) w w3) := by
    obtain ⟨hl, ⟨_, h0, _⟩ | ⟨b, o, cur, hA2, hgb, r⟩⟩ := id hO3
    · omega
    · subst hgb
      refine ⟨b, ⟨?_, Hn.out, ?_⟩, ?_⟩
      · rw [List.map_append]; exact hO3
      · rcases hg3 with e | ⟨x, e, hx⟩
        · exact Hg2.out b e.symm
        · cases e; (try simp at hx); omega
      · exact (Hf2.out.alloc _).comp hf3 fun i hi e => by have := Hg2.out i e.symm; omega
  have i1 : (n : Int) ≤ (c3 : Int) := by omega
  clear hO2 hO3 hf3 hg3 hcap Hf2 Hg2
  go_wp2_with fail
  go_ret
  obtain ⟨g, h1, h2⟩ := HR.out
  exact ⟨A3, c3, g, rfl, h1, h2⟩
set_option maxHeartbeats 1000000 in
set_option maxRecDepth 4000 in
theorem marked_any {W : World} (w : World) (xs : List Int) (A : Option Addr) (n c g : Nat) (hn : n ≤ 17592186043904) (h : LI W w A n c xs g) :
    Calls Try.prog 16 #[.slice A n c] w fun e w' => e = .returned (.bool true) ∧ w = w' := by
  have hcap := h.ow.cap
  have k1 : n + 2 ≤ c := hcap.1
  have k2 : c ≤ 9223372036854775807 := by have := hcap.2; unfold maxLen at this; exact this
  have hl := h.len
  obtain ⟨b, o, rfl, -, c0, -⟩ := h.ow.look (j := n) (u := .int .i64 (-77)) (by rw [List.map_append, List.getElem?_append_right (by simp [hl])]; simp [hl]; rfl)
  obtain ⟨b', o', e, -, c1, -⟩ := h.ow.look (j := n + 1) (u := .int .i64 (-78)) (by rw [List.map_append, List.getElem?_append_right (by simp [hl])]; simp [hl]; rfl)
  cases e
  have i1 : ((n : Int) + 2) ≤ (c : Int) := by omega
  have q1 : IntKind.i64.wrap ((n : Int) + 2) = (n : Int) + 2 := IntWalk.i64_in _ (by omega)
  have q2 : IntKind.i64.wrap ((n : Int) + 1) = (n : Int) + 1 := IntWalk.i64_in _ (by omega)
  clear h hcap hl
  go_enter Try.func16, Try.ntmps16
  go_wp2_with fail
  go_ret
  exact ⟨rfl, rfl⟩
end Go.Proofs.Ytahhecendjfenaa
end

section
/-
  proto's law: lentEntry.
-/
namespace Go.Proofs.Ytahhecendjfenaa
open Go.RowKit
set_option linter.unusedVariables false
set_option linter.unusedSimpArgs false
abbrev tEnt : TypeId := 45
theorem LI.fr {W w w' : World} {A : Option Addr} {n c : Nat} {xs : List Int} {g : Nat} {S : Nat → Prop} (h : LI W w A n c xs g) (hf : Fr S w w') (hS : ¬ S g) : LI W w' A n c xs g :=
  ⟨h.ow.fr hf (fun b e hb => hS (by cases e; exact hb)), h.len, h.new⟩
theorem LI.sl {W w : World} {A : Option Addr} {n c : Nat} {xs : List Int} {g : Nat} (h : LI W w A n c xs g) : Sl w 1 A n (xs.map iv) := by
  have := (h.ow.take (k := n) (by omega)).sl
  rwa [Nat.mul_one, List.map_append, List.take_left' (by simp [h.len])] at this
theorem LI.cap {W w : World} {A : Option Addr} {n c : Nat} {xs : List Int} {g : Nat} (h : LI W w A n c xs g) : n ≤ c ∧ c ≤ 9223372036854775807 := by
  have := h.ow.cap
  exact ⟨by have := this.1; omega, by have := this.2; unfold maxLen at this; exact this⟩
set_option maxHeartbeats 2000000 in
set_option maxRecDepth 8000 in
theorem lentEntry_any (w : World) (r : ER) (h : r.at_ w) :
    Calls Try.prog 18 #[.agg #[.int .i64 r.acc, .int .i64 r.item, .int .u64 (r.co : Int), .int .u64 (r.pr : Int), .slice r.A r.n r.c]] w fun e w' => ∃ B d g, e = .returned (.agg #[.int .i64 r.acc, .int .i64 r.item, .int .u64 (r.co : Int), .int .u64 (r.pr : Int), .slice B r.n d]) ∧ LI w w' B r.n d r.ws g ∧ Fr (fun _ => False) w w' := by
  have HAt := hide h
  obtain ⟨acc, item, co, pr, A, n, c, ws⟩ := r
  simp only at HAt ⊢
  have HC : Hid (∀ w1, Fr (fun _ => False) w w1 → Calls Try.prog 9 #[.slice A n c] w1 fun e w' => ∃ B d g, e = .returned (.slice B n d) ∧ LI w1 w' B n d ws g ∧ Fr (fun _ => False) w1 w') := fun w1 hf => lentInts_any w1 ws A n c HAt.out.le (HAt.out.sl.quiet hf)
  have HB0 : Hid (Bl ((w.alloc (.cells #[.int .i64 acc, .int .i64 item, .int .u64 (co : Int), .int .u64 (pr : Int), .slice A n c] tEnt)).alloc (.cells #[.int .i64 0, .int .i64 0, .int .u64 0, .int .u64 0, .slice none 0 0] tEnt)) w.heap.size tEnt #[.int .i64 acc, .int .i64 item, .int .u64 (co : Int), .int .u64 (pr : Int), .slice A n c]) := (Bl.new _ _ _).alloc _
  have HB1 : Hid (Bl ((w.alloc (.cells #[.int .i64 acc, .int .i64 item, .int .u64 (co : Int), .int .u64 (pr : Int), .slice A n c] tEnt)).alloc (.cells #[.int .i64 0, .int .i64 0, .int .u64 0, .int .u64 0, .slice none 0 0] tEnt)) (w.heap.size + 1) tEnt #[.int .i64 0, .int .i64 0, .int .u64 0, .int .u64 0, .slice none 0 0]) := Bl.newAt (by simp)
  have HF0 : Hid (Fr (fun _ => False) w ((w.alloc (.cells #[.int .i64 acc, .int .i64 item, .int .u64 (co : Int), .int .u64 (pr : Int), .slice A n c] tEnt)).alloc (.cells #[.int .i64 0, .int .i64 0, .int .u64 0, .int .u64 0, .slice none 0 0] tEnt))) := ((Fr.refl _ _).alloc _).alloc _
  clear h
  go_enter Try.func18, Try.ntmps18
  go_wp2_with fail
  obtain ⟨w0, hw0⟩ : ∃ w0, w0 = ((w.alloc (.cells #[.int .i64 acc, .int .i64 item, .int .u64 (co : Int), .int .u64 (pr : Int), .slice A n c] tEnt)).alloc (.cells #[.int .i64 0, .int .i64 0, .int .u64 0, .int .u64 0, .slice none 0 0] tEnt)) := ⟨_, rfl⟩
  rw [← hw0] at HB0 HB1 HF0 ⊢
  clear hw0
  refine (HC.out _ HF0.out).mono ?_
  rintro e w1 ⟨B, d, g, rfl, hL, hf⟩
  have hb0 := HB0.out.fr hf id
  have hb1 := HB1.out.fr hf id
  have HF := hide (HF0.out.trans hf)
  have HL := hide hL
  have Hs : Hid (w.heap.size + 1 < w0.heap.size) := HB1.out.lt
  have c0 := hb0.cell' (i := 0) rfl
  have c1 := hb0.cell' (i := 1) rfl
  have c2 := hb0.cell' (i := 2) rfl
  have c3 := hb0.cell' (i := 3) rfl
  have c4 := hb0.cell' (i := 4) rfl
  have z4 := hb0.free 4
  have d0 := hb1.cell' (i := 0) rfl
  have d1 := hb1.cell' (i := 1) rfl
  have d2 := hb1.cell' (i := 2) rfl
  have d3 := hb1.cell' (i := 3) rfl
  have d4 := hb1.cell' (i := 4) rfl
  have y0 := hb1.free 0
  have y1 := hb1.free 1
  have y2 := hb1.free 2
  have y3 := hb1.free 3
  have y4 := hb1.free 4
  have Hb1 := hide hb1
  clear hL hf hb0 hb1 HB0 HB1 HF0 HC
  go_wp2_with fail
  have hB3 := (((((Hb1.out.far (p := ⟨w.heap.size, 4, none⟩) (by simp) (.slice B n d)).set 0 (.int .i64 acc)).set 1 (.int .i64 item)).set 2 (.int .u64 (co : Int))).set 3 (.int .u64 (pr : Int))).set 4 (.slice B n d)
  try simp only [Exit.inBlock, Exit.then]
  refine bodyPost_ret (results_cell_row rfl _ _ (w.heap.size + 1) tEnt #[.int .i64 acc, .int .i64 item, .int .u64 (co : Int), .int .u64 (pr : Int), .slice B n d] (0, 0) _ rfl hB3 Try.underlying45 rfl (by kernel_rfl)) rfl ?_
  have hg := HL.out.new
  have hs := Hs.out
  have hfs : Fr (fun x => x = w.heap.size ∨ x = w.heap.size + 1) w1 ((((((w1.setCell ⟨w.heap.size, 4, none⟩ (.slice B n d)).setCell ⟨w.heap.size + 1, 0, none⟩ (.int .i64 acc)).setCell ⟨w.heap.size + 1, 1, none⟩ (.int .i64 item)).setCell ⟨w.heap.size + 1, 2, none⟩ (.int .u64 (co : Int))).setCell ⟨w.heap.size + 1, 3, none⟩ (.int .u64 (pr : Int))).setCell ⟨w.heap.size + 1, 4, none⟩ (.slice B n d)) :=
    Fr.setIn (Fr.setIn (Fr.setIn (Fr.setIn (Fr.setIn (Fr.setIn (Fr.refl _ _) (.inl (.inl rfl)) _) (.inl (.inr rfl)) _) (.inl (.inr rfl)) _) (.inl (.inr rfl)) _) (.inl (.inr rfl)) _) (.inl (.inr rfl)) _
  have hl := HL.out.fr hfs (by omega)
  exact ⟨B, d, g, rfl, ⟨hl.ow, hl.len, by omega⟩, HF.out.comp hfs fun x hx e => by omega⟩
end Go.Proofs.Ytahhecendjfenaa
end
