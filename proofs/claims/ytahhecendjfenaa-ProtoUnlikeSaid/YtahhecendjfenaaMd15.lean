/-
  Texts merged into one, to keep the claim small: PrC, PrD, PrE.
-/
import Derived.Test.YtahhecendjfenaaMd14
import Derived.Test.YtahhecendjfenaaMd8
import Derived.Test.YtahhecendjfenaaMd4
import Derived.Laws.Rows
section
/-
  proto's law: ints, entry, same, num; lentInts, marked.
-/
namespace Go.Proofs.Ytahhecendjfenaa
open Go.RowKit
set_option linter.unusedVariables false
set_option linter.unusedSimpArgs false
theorem infoInt : (Try.prog.info? 3).map (fun i => (i.zero, i.size, i.bytes)) = some (some (.int .i64 0), 1, 8) := by kernel_rfl
theorem iv_one (xs : List Int) : ∀ u ∈ xs.map iv, u.oneCell' = true := by
  intro u hu
  obtain ⟨x, -, rfl⟩ := List.mem_map.1 hu
  rfl
set_option maxHeartbeats 1000000 in
set_option maxRecDepth 4000 in
theorem num27law_any (w : World) (x : Int) : Calls Try.prog 13 #[.int .i64 x] w fun e w' => e = .returned (.int .i64 x) ∧ w = w' := by
  go_enter Try.func13, Try.ntmps13
  go_wp2
  go_ret
  exact ⟨rfl, rfl⟩
set_option maxHeartbeats 1000000 in
set_option maxRecDepth 4000 in
/-- ints, where the numbers are the same: true. -/
theorem ints_q (w : World) (xs : List Int) (A B : Option Addr) (c d : Nat) (n : Nat) (hn : n = xs.length) (h63 : n ≤ 9223372036854775806) (hA : Sl w 1 A n (xs.map iv)) (hB : Sl w 1 B n (xs.map iv)) :
    Calls Try.prog 47 #[.slice A n c, .slice B n d] w fun e w' => e = .returned (.bool true) ∧ ∃ m, w' = w.drewN m := by
  have Hn := hide hn
  clear hn
  go_enter Try.func47, Try.ntmps47
  go_wp2_with fail
  go_loopw [5] (fun i wr => ∃ (k m : Nat), k ≤ n ∧ i = .int .i64 k ∧ Hid (wr = w.drewN m)) (fun i _ => n - (intOf i).toNat)
  case atStart => exact ⟨0, 0, Nat.zero_le _, rfl, rfl⟩
  case round =>
    obtain ⟨k, m, hk, rfl, hw⟩ := hrel
    obtain rfl := hw.out
    clear hw
    by_cases hlt : k < n
    · have hkl : k < xs.length := by rw [← Hn.out]; exact hlt
      obtain ⟨z, hz⟩ : ∃ z, xs[k] = z := ⟨_, rfl⟩
      have hu : (xs.map iv)[k]? = some (.int .i64 z) := by rw [List.getElem?_map, List.getElem?_eq_getElem hkl, hz]; rfl
      obtain ⟨b, o, rfl, ca⟩ := hA.at_ hu
      obtain ⟨b', o', rfl, cb⟩ := hB.at_ hu
      clear hA hB hu hz hkl
      have i0 : (0 : Int) ≤ (k : Int) := by omega
      have i1 : (k : Int) < (n : Int) := by omega
      go_wp2_with fail
      go_quiet (fail)
      go_wp2_with fail
      exact ⟨⟨k + 1, _, by omega, by go_num, rfl⟩, by simp [intOf]; omega⟩
    · go_wp2_with fail
      go_ret
      exact ⟨rfl, _, rfl⟩
set_option maxHeartbeats 1000000 in
set_option maxRecDepth 4000 in
theorem same27_true (w : World) (xs : List Nat) (A B : Option Addr) (c d n : Nat) (h256 : ∀ x ∈ xs, x < 256) (hA : Sl w 1 A n (xs.map bn)) (hB : Sl w 1 B n (xs.map bn)) :
    Calls Try.prog 14 #[.slice A n c, .slice B n d] w fun e w' => e = .returned (.bool true) ∧ w = w' := by
  have c1 := conv_bs w A n c xs h256 hA
  have c2 := conv_bs w B n d xs h256 hB
  obtain ⟨str, hstr⟩ : ∃ str, strOf xs = str := ⟨_, rfl⟩
  rw [hstr] at c1 c2
  clear hA hB h256 hstr
  go_enter Try.func14, Try.ntmps14
  go_wp2_with fail
  go_ret
  exact ⟨rfl, rfl⟩
/-- Two entries that are the same, wherever their wishes lie. -/
def ER.like (a b : ER) : Prop := a.acc = b.acc ∧ a.item = b.item ∧ a.co = b.co ∧ a.pr = b.pr ∧ a.ws = b.ws
set_option maxHeartbeats 1000000 in
set_option maxRecDepth 4000 in
theorem entryLike_any (w : World) (a b : ER) (hl : a.like b) (ha : a.at_ w) (hb : b.at_ w) :
    Calls Try.prog 53 #[.agg #[.int .i64 a.acc, .int .i64 a.item, .int .u64 (a.co : Int), .int .u64 (a.pr : Int), .slice a.A a.n a.c], .agg #[.int .i64 b.acc, .int .i64 b.item, .int .u64 (b.co : Int), .int .u64 (b.pr : Int), .slice b.A b.n b.c]] w fun e w' => e = .returned (.bool true) ∧ Fr (fun _ => False) w w' := by
  have e1 := ha.sl.ilen
  have e2 := hb.sl.ilen
  have l1 := ha.le
  have S1 := hide ha.sl
  have S2 := hide hb.sl
  obtain ⟨acc, item, co, pr, A, n, c, ws⟩ := a
  obtain ⟨acc', item', co', pr', A', n', c', ws'⟩ := b
  obtain ⟨h1, h2, h3, h4, h5⟩ := hl
  simp only at h1 h2 h3 h4 h5 e1 e2 l1 S1 S2 ⊢
  subst h1 h2 h3 h4 h5
  obtain rfl : n = n' := e1.trans e2.symm
  have HC : Hid (∀ w1, Fr (fun _ => False) w w1 → Calls Try.prog 47 #[.slice A n c, .slice A' n c'] w1 fun e w' => e = .returned (.bool true) ∧ ∃ m, w' = w1.drewN m) := fun w1 hf => ints_q w1 ws A A' c c' n e1 (by omega) (S1.out.quiet hf) (S2.out.quiet hf)
  clear e1 e2 l1 S1 S2 ha hb
  go_enter Try.func53, Try.ntmps53
  go_wp2_with fail
  refine (HC.out _ (by (repeat (first | with_reducible exact Fr.refl _ _ | with_reducible assumption | with_reducible refine Fr.drew ?_ | with_reducible refine Fr.drewN ?_ _ | with_reducible refine Fr.alloc ?_ _ | with_reducible refine Fr.setIn ?_ (by first | exact Or.inl rfl | exact Or.inr (by simp; done) | exact Or.inr (by simp; omega) | exact Or.inr (by omega)) _)))).mono ?_
  rintro e w1 ⟨rfl, hd⟩
  have HF : Hid (Fr (fun _ => False) w w1) := Fr.trans (by (repeat (first | with_reducible exact Fr.refl _ _ | with_reducible assumption | with_reducible refine Fr.drew ?_ | with_reducible refine Fr.drewN ?_ _ | with_reducible refine Fr.alloc ?_ _ | with_reducible refine Fr.setIn ?_ (by first | exact Or.inl rfl | exact Or.inr (by simp; done) | exact Or.inr (by simp; omega) | exact Or.inr (by omega)) _))) (fr_of_drewN hd)
  clear hd
  go_wp2_with fail
  go_ret
  exact ⟨rfl, HF.out⟩
/-- Numbers lent: in memory of their own, two marks behind them. -/
structure LI (W w : World) (A : Option Addr) (n c : Nat) (xs : List Int) (g : Nat) : Prop where
  ow : Ow w 3 1 A (n + 2) c ((xs ++ [-77, -78]).map iv) (some g)
  len : n = xs.length
  new : W.heap.size ≤ g
set_option maxHeartbeats 1000000 in
set_option maxRecDepth 4000 in
theorem lentInts_any (w : World) (xs : List Int) (A : Option Addr) (n c : Nat) (hn : n ≤ 17592186043904) (hA : Sl w 1 A n (xs.map iv)) :
    Calls Try.prog 9 #[.slice A n c] w fun e w' => ∃ B d g, e = .returned (.slice B n d) ∧ LI w w' B n d xs g ∧ Fr (fun _ => False) w w' := by
  obtain ⟨j0, hj, hj0, hj1, hj2⟩ := info_parts infoInt
  have Hn := hide hA.ilen
  have HA := hide hA
  clear hA
  go_enter Try.func9, Try.ntmps9
  go_wp2_with (first | (at_builtin; go_loud (refine wpList_append_ow _ rfl _ _ 24 rfl 3 j0 (.int .i64 0) 1 8 Try.underlying24 hj hj0 hj1 hj2 rfl (by decide) _ _ _ _ _ rfl (Ow.made w 3 1 0 0 #[] [] rfl (by omega) (by unfold maxLen; omega) (by simp)) _ _ _ (xs.map iv) rfl (HA.out.quiet ((Fr.refl _ _).alloc _)) (iv_one xs) (by unfold maxLen; omega) (by omega) ?_)) | go_in)
  intro A2 c2 w2 g2 hO2 hf2 hg2
  have Hf2 : Hid (Fr (fun _ => False) w w2) := ((Fr.refl (fun _ => False) w).alloc (.cells #[] 3)).comp hf2 fun i hi e => by omega
  have Hg2 : Hid (∀ b, g2 = some b → w.heap.size ≤ b) := fun b e => by
    rcases hg2 with e2 | ⟨x, e2, hx⟩
    · rw [e2] at e; cases e; exact Nat.le_refl _
    · rw [e2] at e; cases e; omega
  clear hf2 hg2
  go_wp2_with (first | (at_builtin; go_loud (refine wpList_append_ow _ rfl _ _ 24 rfl 3 j0 (.int .i64 0) 1 8 Try.underlying24 hj hj0 hj1 hj2 rfl (by decide) _ _ _ _ _ rfl (hO2.fr (S := fun _ => False) ((Fr.refl _ _).alloc _) (fun _ _ => id)) _ _ _ [.int .i64 (-77), .int .i64 (-78)] rfl (Sl.row w2 #[.int .i64 (-77), .int .i64 (-78)] 3 1 2 rfl) (by intro u hu; simp at hu; rcases hu with rfl | rfl <;> rfl) (by unfold maxLen; omega) (by omega) ?_)) | go_in)
  intro A3 c3 w3 g3 hO3 hf3 hg3
  have hcap := hO3.cap
  have k1 : n + 2 ≤ c3 := hcap.1
  have k2 : c3 ≤ 9223372036854775807 := by have := hcap.2; unfold maxLen at this; exact this
  have s2 := Hf2.out.size
  have HR : Hid (∃ g, LI w w3 A3 n c3 xs g ∧ Fr (fun _ => False) w w3) := by
    obtain ⟨hl, ⟨_, h0, _⟩ | ⟨b, o, cur, hA2, hgb, r⟩⟩ := id hO3
    · omega
    · subst hgb
      refine ⟨b, ⟨?_, Hn.out, ?_⟩, ?_⟩
      · rw [List.map_append]; exact hO3
      · rcases hg3 with e | ⟨x, e, hx⟩
        · exact Hg2.out b e.symm
        · cases e; (try simp at hx); omega
      · exact (Hf2.out.alloc _).comp hf3 fun i hi e => by have := Hg2.out i e.symm; omega
  have i1 : (n : Int) ≤ (c3 : Int) := by omega
  clear hO2 hO3 hf3 hg3 hcap Hf2 Hg2
  go_wp2_with fail
  go_ret
  obtain ⟨g, h1, h2⟩ := HR.out
  exact ⟨A3, c3, g, rfl, h1, h2⟩
set_option maxHeartbeats 1000000 in
set_option maxRecDepth 4000 in
theorem marked_any {W : World} (w : World) (xs : List Int) (A : Option Addr) (n c g : Nat) (hn : n ≤ 17592186043904) (h : LI W w A n c xs g) :
    Calls Try.prog 16 #[.slice A n c] w fun e w' => e = .returned (.bool true) ∧ w = w' := by
  have hcap := h.ow.cap
  have k1 : n + 2 ≤ c := hcap.1
  have k2 : c ≤ 9223372036854775807 := by have := hcap.2; unfold maxLen at this; exact this
  have hl := h.len
  obtain ⟨b, o, rfl, -, c0, -⟩ := h.ow.look (j := n) (u := .int .i64 (-77)) (by rw [List.map_append, List.getElem?_append_right (by simp [hl])]; simp [hl]; rfl)
  obtain ⟨b', o', e, -, c1, -⟩ := h.ow.look (j := n + 1) (u := .int .i64 (-78)) (by rw [List.map_append, List.getElem?_append_right (by simp [hl])]; simp [hl]; rfl)
  cases e
  have i1 : ((n : Int) + 2) ≤ (c : Int) := by omega
  have q1 : IntKind.i64.wrap ((n : Int) + 2) = (n : Int) + 2 := IntWalk.i64_in _ (by omega)
  have q2 : IntKind.i64.wrap ((n : Int) + 1) = (n : Int) + 1 := IntWalk.i64_in _ (by omega)
  clear h hcap hl
  go_enter Try.func16, Try.ntmps16
  go_wp2_with fail
  go_ret
  exact ⟨rfl, rfl⟩
end Go.Proofs.Ytahhecendjfenaa
end

section
/-
  proto's law: lentEntry.
-/
namespace Go.Proofs.Ytahhecendjfenaa
open Go.RowKit
set_option linter.unusedVariables false
set_option linter.unusedSimpArgs false
abbrev tEnt : TypeId := 45
theorem LI.fr {W w w' : World} {A : Option Addr} {n c : Nat} {xs : List Int} {g : Nat} {S : Nat → Prop} (h : LI W w A n c xs g) (hf : Fr S w w') (hS : ¬ S g) : LI W w' A n c xs g :=
  ⟨h.ow.fr hf (fun b e hb => hS (by cases e; exact hb)), h.len, h.new⟩
theorem LI.sl {W w : World} {A : Option Addr} {n c : Nat} {xs : List Int} {g : Nat} (h : LI W w A n c xs g) : Sl w 1 A n (xs.map iv) := by
  have := (h.ow.take (k := n) (by omega)).sl
  rwa [Nat.mul_one, List.map_append, List.take_left' (by simp [h.len])] at this
theorem LI.cap {W w : World} {A : Option Addr} {n c : Nat} {xs : List Int} {g : Nat} (h : LI W w A n c xs g) : n ≤ c ∧ c ≤ 9223372036854775807 := by
  have := h.ow.cap
  exact ⟨by have := this.1; omega, by have := this.2; unfold maxLen at this; exact this⟩
set_option maxHeartbeats 2000000 in
set_option maxRecDepth 8000 in
theorem lentEntry_any (w : World) (r : ER) (h : r.at_ w) :
    Calls Try.prog 18 #[.agg #[.int .i64 r.acc, .int .i64 r.item, .int .u64 (r.co : Int), .int .u64 (r.pr : Int), .slice r.A r.n r.c]] w fun e w' => ∃ B d g, e = .returned (.agg #[.int .i64 r.acc, .int .i64 r.item, .int .u64 (r.co : Int), .int .u64 (r.pr : Int), .slice B r.n d]) ∧ LI w w' B r.n d r.ws g ∧ Fr (fun _ => False) w w' := by
  have HAt := hide h
  obtain ⟨acc, item, co, pr, A, n, c, ws⟩ := r
  simp only at HAt ⊢
  have HC : Hid (∀ w1, Fr (fun _ => False) w w1 → Calls Try.prog 9 #[.slice A n c] w1 fun e w' => ∃ B d g, e = .returned (.slice B n d) ∧ LI w1 w' B n d ws g ∧ Fr (fun _ => False) w1 w') := fun w1 hf => lentInts_any w1 ws A n c HAt.out.le (HAt.out.sl.quiet hf)
  have HB0 : Hid (Bl ((w.alloc (.cells #[.int .i64 acc, .int .i64 item, .int .u64 (co : Int), .int .u64 (pr : Int), .slice A n c] tEnt)).alloc (.cells #[.int .i64 0, .int .i64 0, .int .u64 0, .int .u64 0, .slice none 0 0] tEnt)) w.heap.size tEnt #[.int .i64 acc, .int .i64 item, .int .u64 (co : Int), .int .u64 (pr : Int), .slice A n c]) := (Bl.new _ _ _).alloc _
  have HB1 : Hid (Bl ((w.alloc (.cells #[.int .i64 acc, .int .i64 item, .int .u64 (co : Int), .int .u64 (pr : Int), .slice A n c] tEnt)).alloc (.cells #[.int .i64 0, .int .i64 0, .int .u64 0, .int .u64 0, .slice none 0 0] tEnt)) (w.heap.size + 1) tEnt #[.int .i64 0, .int .i64 0, .int .u64 0, .int .u64 0, .slice none 0 0]) := Bl.newAt (by simp)
  have HF0 : Hid (Fr (fun _ => False) w ((w.alloc (.cells #[.int .i64 acc, .int .i64 item, .int .u64 (co : Int), .int .u64 (pr : Int), .slice A n c] tEnt)).alloc (.cells #[.int .i64 0, .int .i64 0, .int .u64 0, .int .u64 0, .slice none 0 0] tEnt))) := ((Fr.refl _ _).alloc _).alloc _
  clear h
  go_enter Try.func18, Try.ntmps18
  go_wp2_with fail
  obtain ⟨w0, hw0⟩ : ∃ w0, w0 = ((w.alloc (.cells #[.int .i64 acc, .int .i64 item, .int .u64 (co : Int), .int .u64 (pr : Int), .slice A n c] tEnt)).alloc (.cells #[.int .i64 0, .int .i64 0, .int .u64 0, .int .u64 0, .slice none 0 0] tEnt)) := ⟨_, rfl⟩
  rw [← hw0] at HB0 HB1 HF0 ⊢
  clear hw0
  refine (HC.out _ HF0.out).mono ?_
  rintro e w1 ⟨B, d, g, rfl, hL, hf⟩
  have hb0 := HB0.out.fr hf id
  have hb1 := HB1.out.fr hf id
  have HF := hide (HF0.out.trans hf)
  have HL := hide hL
  have Hs : Hid (w.heap.size + 1 < w0.heap.size) := HB1.out.lt
  have c0 := hb0.cell' (i := 0) rfl
  have c1 := hb0.cell' (i := 1) rfl
  have c2 := hb0.cell' (i := 2) rfl
  have c3 := hb0.cell' (i := 3) rfl
  have c4 := hb0.cell' (i := 4) rfl
  have z4 := hb0.free 4
  have d0 := hb1.cell' (i := 0) rfl
  have d1 := hb1.cell' (i := 1) rfl
  have d2 := hb1.cell' (i := 2) rfl
  have d3 := hb1.cell' (i := 3) rfl
  have d4 := hb1.cell' (i := 4) rfl
  have y0 := hb1.free 0
  have y1 := hb1.free 1
  have y2 := hb1.free 2
  have y3 := hb1.free 3
  have y4 := hb1.free 4
  have Hb1 := hide hb1
  clear hL hf hb0 hb1 HB0 HB1 HF0 HC
  go_wp2_with fail
  have hB3 := (((((Hb1.out.far (p := ⟨w.heap.size, 4, none⟩) (by simp) (.slice B n d)).set 0 (.int .i64 acc)).set 1 (.int .i64 item)).set 2 (.int .u64 (co : Int))).set 3 (.int .u64 (pr : Int))).set 4 (.slice B n d)
  try simp only [Exit.inBlock, Exit.then]
  refine bodyPost_ret (results_cell_row rfl _ _ (w.heap.size + 1) tEnt #[.int .i64 acc, .int .i64 item, .int .u64 (co : Int), .int .u64 (pr : Int), .slice B n d] (0, 0) _ rfl hB3 Try.underlying45 rfl (by kernel_rfl)) rfl ?_
  have hg := HL.out.new
  have hs := Hs.out
  have hfs : Fr (fun x => x = w.heap.size ∨ x = w.heap.size + 1) w1 ((((((w1.setCell ⟨w.heap.size, 4, none⟩ (.slice B n d)).setCell ⟨w.heap.size + 1, 0, none⟩ (.int .i64 acc)).setCell ⟨w.heap.size + 1, 1, none⟩ (.int .i64 item)).setCell ⟨w.heap.size + 1, 2, none⟩ (.int .u64 (co : Int))).setCell ⟨w.heap.size + 1, 3, none⟩ (.int .u64 (pr : Int))).setCell ⟨w.heap.size + 1, 4, none⟩ (.slice B n d)) :=
    Fr.setIn (Fr.setIn (Fr.setIn (Fr.setIn (Fr.setIn (Fr.setIn (Fr.refl _ _) (.inl (.inl rfl)) _) (.inl (.inr rfl)) _) (.inl (.inr rfl)) _) (.inl (.inr rfl)) _) (.inl (.inr rfl)) _) (.inl (.inr rfl)) _
  have hl := HL.out.fr hfs (by omega)
  exact ⟨B, d, g, rfl, ⟨hl.ow, hl.len, by omega⟩, HF.out.comp hfs fun x hx e => by omega⟩
end Go.Proofs.Ytahhecendjfenaa
end

section
/-
  proto's law: lentContract. (printed by pr_lent.py)
-/
namespace Go.Proofs.Ytahhecendjfenaa
open Go.RowKit
set_option linter.unusedVariables false
set_option linter.unusedSimpArgs false
def mk2 : List Value := [.int .i64 (-77), .int .i64 0, .int .u64 0, .int .u64 0, .slice none 0 0, .int .i64 (-78), .int .i64 0, .int .u64 0, .int .u64 0, .slice none 0 0]
/-- Entries lent: in memory of their own, each one's wishes too. -/
structure LEr (W w : World) (es : List ER) (L : Option Addr) (N cl : Nat) (rs : List ER) (g : Option Nat) (more : List Value) : Prop where
  le : rs.length ≤ es.length
  like : ∀ i (h : i < rs.length) (h' : i < es.length), (rs[i]).like es[i]
  ow : Ow w tEnt 5 L N cl (rs.flatMap ER.cells ++ more) g
  li : ∀ r ∈ rs, ∃ gi, LI W w r.A r.n r.c r.ws gi
  small : ∀ r ∈ rs, r.n ≤ 17592186043904
  new : ∀ b, g = some b → W.heap.size ≤ b
  fr : Fr (fun _ => False) W w
theorem LEr.begin {W w : World} (es : List ER) (hf : Fr (fun _ => False) W w) : LEr W w es none 0 0 [] none [] :=
  ⟨Nat.zero_le _, (fun i h => absurd h (by simp)), Ow.nil_ _ _ _, (fun r h => by cases h), (fun r h => by cases h), (fun b h => by cases h), hf⟩
theorem LI.ne {W w : World} {A : Option Addr} {n c : Nat} {xs : List Int} {gi : Nat} (h : LI W w A n c xs gi) {L : Option Addr} {N cl s : Nat} {ys : List Value} {g : Option Nat} (hO : Ow w tEnt s L N cl ys g) : ¬ some gi = g := fun e => by
  rw [← e] at hO
  exact Ow.ne hO h.ow (by decide) rfl
theorem LEr.quiet {W w w' : World} {es : List ER} {L : Option Addr} {N cl : Nat} {rs : List ER} {g : Option Nat} {more : List Value} (h : LEr W w es L N cl rs g more) (hf : Fr (fun _ => False) w w') : LEr W w' es L N cl rs g more :=
  ⟨h.le, h.like, h.ow.fr hf (fun _ _ => id), (fun r hr => by obtain ⟨gi, hi⟩ := h.li r hr; exact ⟨gi, hi.fr hf id⟩), h.small, h.new, h.fr.trans hf⟩
/-- One more. -/
theorem LEr.app {W w w2 w3 : World} {es : List ER} {L L3 : Option Addr} {j cl cl3 : Nat} {rs : List ER} {g g3 : Option Nat} (h : LEr W w es L j cl rs g []) (hj : j = rs.length) {r : ER} (hl : j < es.length) (hlike : r.like es[j]) (hf2 : Fr (fun _ => False) w w2) {gi : Nat} (hi : LI w w2 r.A r.n r.c r.ws gi) (hs : r.n ≤ 17592186043904)
    (hO : Ow w3 tEnt 5 L3 (j + 1) cl3 (rs.flatMap ER.cells ++ r.cells) g3) (hf23 : Fr (fun x => some x = g) w2 w3) (hg3 : g3 = g ∨ ∃ b, g3 = some b ∧ w2.heap.size ≤ b) : LEr W w3 es L3 (j + 1) cl3 (rs ++ [r]) g3 [] := by
  have s0 := h.fr.size
  have s2 := hf2.size
  have hO2 := h.ow.fr hf2 (fun _ _ => id)
  refine ⟨by rw [List.length_append]; show rs.length + 1 ≤ _; omega, fun i hi' h' => ?_, ?_, fun q hq => ?_, fun q hq => ?_, fun b e => ?_, ?_⟩
  · by_cases hij : i < rs.length
    · have e : (rs ++ [r])[i] = rs[i] := List.getElem_append_left hij
      rw [e]; exact h.like i hij h'
    · have hi2 : i = j := by have := hi'; rw [List.length_append] at this; have h1 : ([r] : List ER).length = 1 := rfl; omega
      subst hi2
      have e : (rs ++ [r])[i] = r := by rw [List.getElem_append_right (by omega)]; simp
      rw [e]; exact hlike
  · rw [List.flatMap_append, List.append_nil]
    have e : [r].flatMap ER.cells = r.cells := by simp
    rw [e]; exact hO
  · rcases List.mem_append.1 hq with hq | hq
    · obtain ⟨gq, hgq⟩ := h.li q hq
      exact ⟨gq, (hgq.fr hf2 id).fr hf23 ((hgq.fr hf2 id).ne hO2)⟩
    · have : q = r := by simpa using hq
      subst this
      have := hi.fr hf23 (hi.ne hO2)
      exact ⟨gi, this.ow, this.len, Nat.le_trans s0 this.new⟩
  · rcases List.mem_append.1 hq with hq | hq
    · exact h.small q hq
    · have : q = r := by simpa using hq
      subst this; exact hs
  · rcases hg3 with e3 | ⟨x, e3, hx⟩
    · exact h.new b (by rw [← e3]; exact e)
    · rw [e3] at e; cases e; omega
  · exact (h.fr.trans hf2).comp hf23 fun x hx e => by have := h.new x e.symm; omega
/-- Two blocks turn that stand ahead of all of these. -/
theorem LEr.turn {W W0 w w' : World} {es : List ER} {L : Option Addr} {N cl : Nat} {rs : List ER} {g : Option Nat} {more : List Value} {a : Nat} (hE : LEr W0 w es L N cl rs g more) (hf : Fr (fun x => x = a ∨ x = a + 1) w w') (ha : a + 1 < W0.heap.size) (hW : W.heap.size ≤ a) (hF : Fr (fun _ => False) W W0) : LEr W w' es L N cl rs g more :=
  ⟨hE.le, hE.like, hE.ow.fr hf (fun b e hb => by have := hE.new b e; omega), fun q hq => by
    obtain ⟨gq, hgq⟩ := hE.li q hq
    have hn := hgq.new
    have h1 := hgq.fr hf (by omega)
    exact ⟨gq, h1.ow, h1.len, by omega⟩, hE.small, fun b e => by have := hE.new b e; omega, (hF.trans hE.fr).comp hf fun x hx e => by omega⟩
theorem infoEnt : (Try.prog.info? tEnt).map (fun i => (i.zero, i.size, i.bytes)) = some (some (.agg #[.int .i64 0, .int .i64 0, .int .u64 0, .int .u64 0, .slice none 0 0]), 5, 56) := by kernel_rfl
set_option maxHeartbeats 4000000 in
set_option maxRecDepth 8000 in
theorem lentContract_any (w : World) (r : CR) (h : r.at_ w) :
    Calls Try.prog 10 #[.agg #[.int .i64 r.num, .int .i64 r.kind, .int .i64 r.by_, .int .i64 r.dl, .int .i64 r.to_, .int .i64 r.want, .int .u64 (r.pr : Int), .int .u64 (r.rs : Int), .int .u64 (r.st : Int), .int .i64 r.of_, .slice r.A r.n r.c]] w fun e w' => ∃ L cl rs g, e = .returned (.agg #[.int .i64 r.num, .int .i64 r.kind, .int .i64 r.by_, .int .i64 r.dl, .int .i64 r.to_, .int .i64 r.want, .int .u64 (r.pr : Int), .int .u64 (r.rs : Int), .int .u64 (r.st : Int), .int .i64 r.of_, .slice L r.n cl]) ∧ rs.length = r.n ∧ LEr w w' r.es L (r.n + 2) cl rs g mk2 := by
  obtain ⟨j0, hj, hj0, hj1, hj2⟩ := info_parts infoEnt
  have HAt := hide h
  have Hlen : Hid (r.n = r.es.length) := h.len
  have hle := h.le
  clear h
  obtain ⟨num, kind, by_, dl, to_, want, pr, rs, st, of_, A, n, c, es⟩ := r
  simp only at HAt Hlen hle ⊢
  have HB0 : Hid (Bl ((w.alloc (.cells #[.int .i64 num, .int .i64 kind, .int .i64 by_, .int .i64 dl, .int .i64 to_, .int .i64 want, .int .u64 (pr : Int), .int .u64 (rs : Int), .int .u64 (st : Int), .int .i64 of_, .slice A n c] 28)).alloc (.cells #[.int .i64 0, .int .i64 0, .int .i64 0, .int .i64 0, .int .i64 0, .int .i64 0, .int .u64 0, .int .u64 0, .int .u64 0, .int .i64 0, .slice none 0 0] 28)) w.heap.size 28 #[.int .i64 num, .int .i64 kind, .int .i64 by_, .int .i64 dl, .int .i64 to_, .int .i64 want, .int .u64 (pr : Int), .int .u64 (rs : Int), .int .u64 (st : Int), .int .i64 of_, .slice A n c]) := (Bl.new _ _ _).alloc _
  have HB1 : Hid (Bl ((w.alloc (.cells #[.int .i64 num, .int .i64 kind, .int .i64 by_, .int .i64 dl, .int .i64 to_, .int .i64 want, .int .u64 (pr : Int), .int .u64 (rs : Int), .int .u64 (st : Int), .int .i64 of_, .slice A n c] 28)).alloc (.cells #[.int .i64 0, .int .i64 0, .int .i64 0, .int .i64 0, .int .i64 0, .int .i64 0, .int .u64 0, .int .u64 0, .int .u64 0, .int .i64 0, .slice none 0 0] 28)) (w.heap.size + 1) 28 #[.int .i64 0, .int .i64 0, .int .i64 0, .int .i64 0, .int .i64 0, .int .i64 0, .int .u64 0, .int .u64 0, .int .u64 0, .int .i64 0, .slice none 0 0]) := Bl.newAt (by simp)
  have HF0 : Hid (Fr (fun _ => False) w ((w.alloc (.cells #[.int .i64 num, .int .i64 kind, .int .i64 by_, .int .i64 dl, .int .i64 to_, .int .i64 want, .int .u64 (pr : Int), .int .u64 (rs : Int), .int .u64 (st : Int), .int .i64 of_, .slice A n c] 28)).alloc (.cells #[.int .i64 0, .int .i64 0, .int .i64 0, .int .i64 0, .int .i64 0, .int .i64 0, .int .u64 0, .int .u64 0, .int .u64 0, .int .i64 0, .slice none 0 0] 28))) := ((Fr.refl _ _).alloc _).alloc _
  go_enter Try.func10, Try.ntmps10
  go_wp2_with fail
  go_loopw [3, 4] (fun u i wr => ∃ (j : Nat) (L : Option Addr) (cl : Nat), j ≤ n ∧ i = .int .i64 (j : Int) ∧ u = .slice L j cl ∧ Hid (∃ qs g, qs.length = j ∧ LEr ((w.alloc (.cells #[.int .i64 num, .int .i64 kind, .int .i64 by_, .int .i64 dl, .int .i64 to_, .int .i64 want, .int .u64 (pr : Int), .int .u64 (rs : Int), .int .u64 (st : Int), .int .i64 of_, .slice A n c] 28)).alloc (.cells #[.int .i64 0, .int .i64 0, .int .i64 0, .int .i64 0, .int .i64 0, .int .i64 0, .int .u64 0, .int .u64 0, .int .u64 0, .int .i64 0, .slice none 0 0] 28)) wr es L j cl qs g [])) (fun _ i _ => n - (intOf i).toNat)
  case atStart => exact ⟨0, none, 0, Nat.zero_le _, rfl, rfl, [], none, rfl, LEr.begin es (Fr.refl _ _)⟩
  case round =>
    obtain ⟨wo, rfl⟩ : ∃ wo, wo = wr := ⟨_, rfl⟩
    obtain ⟨j, L, cl, hjn, rfl, rfl, HL⟩ := hrel
    obtain ⟨w0, hw0⟩ : ∃ w0, w0 = ((w.alloc (.cells #[.int .i64 num, .int .i64 kind, .int .i64 by_, .int .i64 dl, .int .i64 to_, .int .i64 want, .int .u64 (pr : Int), .int .u64 (rs : Int), .int .u64 (st : Int), .int .i64 of_, .slice A n c] 28)).alloc (.cells #[.int .i64 0, .int .i64 0, .int .i64 0, .int .i64 0, .int .i64 0, .int .i64 0, .int .u64 0, .int .u64 0, .int .u64 0, .int .i64 0, .slice none 0 0] 28)) := ⟨_, rfl⟩
    rw [← hw0] at HB0 HB1 HF0 HL
    have Hw0 := hide hw0
    clear hw0
    obtain ⟨rs', g, hrl, hLE⟩ := HL.out
    have HLE := hide hLE
    have Hrl := hide hrl
    have cx := (HB0.out.fr hLE.fr id).cell' (i := 10) rfl
    have hB := hLE.ow
    clear hLE hrl HL
    by_cases hlt : j < n
    · have hjl : j < es.length := by rw [← (Hlen.out : n = es.length)]; exact hlt
      have hfo := HF0.out.trans HLE.out.fr
      obtain ⟨b, o, hA, hc⟩ := (HAt.out.quiet hfo).row hjl
      simp only at hA
      have HE : Hid ((es[j]).at_ wo) := (HAt.out.quiet hfo).es _ (List.getElem_mem hjl)
      obtain ⟨e, he⟩ : ∃ e, es[j] = e := ⟨_, rfl⟩
      simp only at hc
      rw [he] at hc HE
      have Hjl := hide hjl
      have He : Hid (∀ h : j < es.length, es[j] = e) := fun _ => he
      obtain ⟨acc, item, co, pr2, A2, n2, c2, ws⟩ := e
      have d0 := hc 0 _ rfl
      rw [Nat.add_zero] at d0
      have d1 := hc 1 _ rfl
      have d2 := hc 2 _ rfl
      have d3 := hc 3 _ rfl
      have d4 := hc 4 _ rfl
      subst hA
      have i0 : (0 : Int) ≤ (j : Int) := by omega
      have i1 : (j : Int) < (n : Int) := by omega
      have q1 : IntKind.i64.wrap ((j : Int) + 1) = ((j + 1 : Nat) : Int) := by rw [IntWalk.i64_in _ (by omega)]; omega
      have Hlt := hide hlt
      have HC := hide (lentEntry_any wo ⟨acc, item, co, pr2, A2, n2, c2, ws⟩ HE.out)
      clear hc he hjl hlt hjn hfo
      go_wp2_with fail
      refine HC.out.mono ?_
      rintro e w2 ⟨B, d, gi, rfl, hI, hf2⟩
      have hB2 := hB.fr hf2 (fun _ _ => id)
      clear d0 d1 d2 d3 d4 cx hB HC
      go_wp2_with (first | (at_builtin; go_loud (refine wpList_append_ow _ rfl _ _ 26 rfl tEnt j0 (.agg #[.int .i64 0, .int .i64 0, .int .u64 0, .int .u64 0, .slice none 0 0]) 5 56 Try.underlying26 hj hj0 hj1 hj2 rfl (by decide) _ _ _ _ _ rfl (hB2.fr (S := fun _ => False) ((Fr.refl _ _).alloc _) (fun _ _ => id)) _ _ _ [.int .i64 acc, .int .i64 item, .int .u64 (co : Int), .int .u64 (pr2 : Int), .slice B n2 d] rfl (Sl.row w2 #[.int .i64 acc, .int .i64 item, .int .u64 (co : Int), .int .u64 (pr2 : Int), .slice B n2 d] tEnt 5 1 rfl) (by intro u hu; simp at hu; rcases hu with rfl | rfl | rfl | rfl | rfl <;> rfl) (by unfold maxLen; omega) (by omega) ?_)) | go_in)
      intro L3 cl3 w3 g3 hO3 hf3 hg3
      have hf23 : Fr (fun x => some x = g) w2 w3 := ((Fr.refl _ _).alloc _).comp hf3 (fun _ _ e => e)
      have HL3 : Hid (∃ qs g, qs.length = j + 1 ∧ LEr w0 w3 es L3 (j + 1) cl3 qs g []) := by
        refine ⟨rs' ++ [⟨acc, item, co, pr2, B, n2, d, ws⟩], g3, by rw [List.length_append, Hrl.out]; rfl, ?_⟩
        exact HLE.out.app Hrl.out.symm (r := ⟨acc, item, co, pr2, B, n2, d, ws⟩) Hjl.out (by rw [He.out Hjl.out]; exact ⟨rfl, rfl, rfl, rfl, rfl⟩) hf2 hI HE.out.le hO3 hf23 (hg3.imp id fun ⟨b, e, h⟩ => ⟨b, e, by first | omega | (simp at h; omega)⟩)
      clear hO3 hf3 hg3 hf23 hI hf2 hB2 HLE
      go_wp2_with fail
      have := Hlt.out
      exact ⟨⟨j + 1, L3, cl3, by omega, by first | rfl | go_num, rfl, by rw [← Hw0.out]; exact HL3⟩, by simp [intOf]; try omega⟩
    · obtain rfl : j = n := by omega
      clear hlt hjn
      go_wp2_with (first | (at_builtin; go_loud (refine wpList_append_ow _ rfl _ _ 26 rfl tEnt j0 (.agg #[.int .i64 0, .int .i64 0, .int .u64 0, .int .u64 0, .slice none 0 0]) 5 56 Try.underlying26 hj hj0 hj1 hj2 rfl (by decide) _ _ _ _ _ rfl (hB.fr (S := fun _ => False) ((Fr.refl _ _).alloc _) (fun _ _ => id)) _ _ _ mk2 rfl (Sl.row wo #[.int .i64 (-77), .int .i64 0, .int .u64 0, .int .u64 0, .slice none 0 0, .int .i64 (-78), .int .i64 0, .int .u64 0, .int .u64 0, .slice none 0 0] tEnt 5 2 rfl) (by intro u hu; simp [mk2] at hu; rcases hu with rfl | rfl | rfl | rfl | rfl | rfl | rfl | rfl <;> rfl) (by unfold maxLen; omega) (by omega) ?_)) | go_in)
      intro L4 cl4 w4 g4 hO4 hf4 hg4
      have hf04 : Fr (fun x => some x = g) wo w4 := ((Fr.refl _ _).alloc _).comp hf4 (fun _ _ e => e)
      have hcap := hO4.cap
      have k1 : j + 2 ≤ cl4 := hcap.1
      have k2 : cl4 ≤ 9223372036854775807 := by have := hcap.2; unfold maxLen at this; exact this
      have i1 : (j : Int) ≤ (cl4 : Int) := by omega
      have s1 := HLE.out.fr.size
      have HL4 : Hid (LEr w0 w4 es L4 (j + 2) cl4 rs' g4 mk2) := by
        refine ⟨HLE.out.le, HLE.out.like, ?_, fun q hq => ?_, HLE.out.small, fun b e => ?_, ?_⟩
        · simpa using hO4
        · obtain ⟨gq, hgq⟩ := HLE.out.li q hq
          exact ⟨gq, hgq.fr hf04 (hgq.ne HLE.out.ow)⟩
        · rcases hg4 with e3 | ⟨x, e3, hx⟩
          · exact HLE.out.new b (by rw [← e3]; exact e)
          · rw [e3] at e; cases e; (try simp at hx); omega
        · exact HLE.out.fr.comp hf04 fun x hx e => by have := HLE.out.new x e.symm; omega
      have hb0 := HB0.out.fr HL4.out.fr id
      have hb1 := HB1.out.fr HL4.out.fr id
      have c0 := hb0.cell' (i := 0) rfl
      have c1 := hb0.cell' (i := 1) rfl
      have c2 := hb0.cell' (i := 2) rfl
      have c3 := hb0.cell' (i := 3) rfl
      have c4 := hb0.cell' (i := 4) rfl
      have c5 := hb0.cell' (i := 5) rfl
      have c6 := hb0.cell' (i := 6) rfl
      have c7 := hb0.cell' (i := 7) rfl
      have c8 := hb0.cell' (i := 8) rfl
      have c9 := hb0.cell' (i := 9) rfl
      have c10 := hb0.cell' (i := 10) rfl
      have z10 := hb0.free 10
      have d0 := hb1.cell' (i := 0) rfl
      have y0 := hb1.free 0
      have d1 := hb1.cell' (i := 1) rfl
      have y1 := hb1.free 1
      have d2 := hb1.cell' (i := 2) rfl
      have y2 := hb1.free 2
      have d3 := hb1.cell' (i := 3) rfl
      have y3 := hb1.free 3
      have d4 := hb1.cell' (i := 4) rfl
      have y4 := hb1.free 4
      have d5 := hb1.cell' (i := 5) rfl
      have y5 := hb1.free 5
      have d6 := hb1.cell' (i := 6) rfl
      have y6 := hb1.free 6
      have d7 := hb1.cell' (i := 7) rfl
      have y7 := hb1.free 7
      have d8 := hb1.cell' (i := 8) rfl
      have y8 := hb1.free 8
      have d9 := hb1.cell' (i := 9) rfl
      have y9 := hb1.free 9
      have d10 := hb1.cell' (i := 10) rfl
      have y10 := hb1.free 10
      have Hb1 := hide hb1
      have HFw := HF0
      have Hs : Hid (w.heap.size + 1 < w0.heap.size) := HB1.out.lt
      clear hO4 hf4 hg4 hf04 hcap hB hb0 hb1 cx s1 HLE HB0 HB1 HF0 HAt
      go_wp2_with fail
      have hB3 := (Hb1.out.far (p := ⟨w.heap.size, 10, none⟩) (by simp) (.slice L4 j cl4))
      have hB3 := hB3.set 0 (.int .i64 num)
      simp only [List.setIfInBounds_toArray, List.set_cons_zero, List.set_cons_succ] at hB3
      have hB3 := hB3.set 1 (.int .i64 kind)
      simp only [List.setIfInBounds_toArray, List.set_cons_zero, List.set_cons_succ] at hB3
      have hB3 := hB3.set 2 (.int .i64 by_)
      simp only [List.setIfInBounds_toArray, List.set_cons_zero, List.set_cons_succ] at hB3
      have hB3 := hB3.set 3 (.int .i64 dl)
      simp only [List.setIfInBounds_toArray, List.set_cons_zero, List.set_cons_succ] at hB3
      have hB3 := hB3.set 4 (.int .i64 to_)
      simp only [List.setIfInBounds_toArray, List.set_cons_zero, List.set_cons_succ] at hB3
      have hB3 := hB3.set 5 (.int .i64 want)
      simp only [List.setIfInBounds_toArray, List.set_cons_zero, List.set_cons_succ] at hB3
      have hB3 := hB3.set 6 (.int .u64 (pr : Int))
      simp only [List.setIfInBounds_toArray, List.set_cons_zero, List.set_cons_succ] at hB3
      have hB3 := hB3.set 7 (.int .u64 (rs : Int))
      simp only [List.setIfInBounds_toArray, List.set_cons_zero, List.set_cons_succ] at hB3
      have hB3 := hB3.set 8 (.int .u64 (st : Int))
      simp only [List.setIfInBounds_toArray, List.set_cons_zero, List.set_cons_succ] at hB3
      have hB3 := hB3.set 9 (.int .i64 of_)
      simp only [List.setIfInBounds_toArray, List.set_cons_zero, List.set_cons_succ] at hB3
      have hB3 := hB3.set 10 (.slice L4 j cl4)
      simp only [List.setIfInBounds_toArray, List.set_cons_zero, List.set_cons_succ] at hB3
      try simp only [Exit.inBlock, Exit.then]
      refine bodyPost_ret (results_cell_row rfl _ _ (w.heap.size + 1) 28 #[.int .i64 num, .int .i64 kind, .int .i64 by_, .int .i64 dl, .int .i64 to_, .int .i64 want, .int .u64 (pr : Int), .int .u64 (rs : Int), .int .u64 (st : Int), .int .i64 of_, .slice L4 j cl4] (0, 0) _ rfl hB3 Try.underlying28 rfl (by kernel_rfl)) rfl ?_
      have hfs := Fr.setIn (Fr.refl (fun x => x = w.heap.size ∨ x = w.heap.size + 1) w4) (p := w.heap.size) (i := 10) (.inl (.inl rfl)) (.slice L4 j cl4)
      have hfs := Fr.setIn hfs (p := w.heap.size + 1) (i := 0) (.inl (.inr rfl)) (.int .i64 num)
      have hfs := Fr.setIn hfs (p := w.heap.size + 1) (i := 1) (.inl (.inr rfl)) (.int .i64 kind)
      have hfs := Fr.setIn hfs (p := w.heap.size + 1) (i := 2) (.inl (.inr rfl)) (.int .i64 by_)
      have hfs := Fr.setIn hfs (p := w.heap.size + 1) (i := 3) (.inl (.inr rfl)) (.int .i64 dl)
      have hfs := Fr.setIn hfs (p := w.heap.size + 1) (i := 4) (.inl (.inr rfl)) (.int .i64 to_)
      have hfs := Fr.setIn hfs (p := w.heap.size + 1) (i := 5) (.inl (.inr rfl)) (.int .i64 want)
      have hfs := Fr.setIn hfs (p := w.heap.size + 1) (i := 6) (.inl (.inr rfl)) (.int .u64 (pr : Int))
      have hfs := Fr.setIn hfs (p := w.heap.size + 1) (i := 7) (.inl (.inr rfl)) (.int .u64 (rs : Int))
      have hfs := Fr.setIn hfs (p := w.heap.size + 1) (i := 8) (.inl (.inr rfl)) (.int .u64 (st : Int))
      have hfs := Fr.setIn hfs (p := w.heap.size + 1) (i := 9) (.inl (.inr rfl)) (.int .i64 of_)
      have hfs := Fr.setIn hfs (p := w.heap.size + 1) (i := 10) (.inl (.inr rfl)) (.slice L4 j cl4)
      exact ⟨L4, cl4, rs', g4, rfl, Hrl.out, HL4.out.turn hfs Hs.out (Nat.le_refl _) HFw.out⟩
end Go.Proofs.Ytahhecendjfenaa
end
