/-
  Nil and zero readers; nil writers; Get's answer as numbers.
-/
import Derived.Test.YtbglloafbmamoaaTlvU2
import Derived.Laws.Rows
import Derived.Lib.SmallJoins
import Derived.Test.YtbglloafbmamoaaTlvL6
namespace Go.Proofs.Ytbglloafbmamoaa
open Go.RowKit Go.Joins
set_option linter.unusedVariables false
attribute [local go_sem ↓] Go.wp_at_zero Go.wp_at_succ
/-- A nil or a zero reader. -/
def NZ (w : World) (a : Option Addr) : Prop := Calls Try.prog 93 #[.pointer a] w fun e w' => e = .returned (.bool true) ∧ w = w'
def NZa (w : World) (a : Option Addr) : Prop := a = none ∨ ∃ p, a = some ⟨p, 0, none⟩ ∧ w.cell? ⟨p, 0, none⟩ = some (.pointer none)
theorem NZa.nz {w : World} {a : Option Addr} (h : NZa w a) : NZ w a := by
  rcases h with rfl | ⟨p, rfl, h⟩
  · exact none_nil w
  · exact none_zero w p h
theorem NZa.quiet {w w' : World} {a : Option Addr} (h : NZa w a) (hf : Fr (fun _ => False) w w') : NZa w' a := by
  rcases h with rfl | ⟨p, rfl, h⟩
  · exact .inl rfl
  · exact .inr ⟨p, rfl, (hf.cell (p := ⟨p, 0, none⟩) (World.block_lt_of_cell? w _ h) id).trans h⟩
set_option maxHeartbeats 1000000 in
set_option maxRecDepth 4000 in
theorem tfault_z {w : World} {a : Option Addr} (hn : NZ w a) : Calls Try.prog 56 #[.pointer a] w fun e w' => e = .returned (.tuple #[.int .i64 0, .int .i64 1]) ∧ w = w' := by
  go_enter Try.func56, Try.ntmps56
  go_wp2_with fail
  refine hn.mono ?_
  rintro e w' ⟨rfl, rfl⟩
  go_wp2_with fail
  go_ret2
  exact ⟨rfl, rfl⟩
set_option maxHeartbeats 1000000 in
set_option maxRecDepth 4000 in
theorem tfield_z {w : World} {a : Option Addr} (hn : NZ w a) (t : Int) : Calls Try.prog 90 #[.pointer a, .int .i64 t] w fun e w' => e = .returned (.pointer none) ∧ w = w' := by
  go_enter Try.func90, Try.ntmps90
  go_wp2_with fail
  refine hn.mono ?_
  rintro e w' ⟨rfl, rfl⟩
  go_wp2_with fail
  go_ret
  exact ⟨rfl, rfl⟩
set_option maxHeartbeats 1000000 in
set_option maxRecDepth 4000 in
theorem tnum_z {w : World} {a : Option Addr} (hn : NZ w a) (t : Int) (above : Nat) : Calls Try.prog 49 #[.pointer a, .int .i64 t, .int .u64 (above : Int)] w fun e w' => e = .returned (.int .u64 0) ∧ w = w' := by
  go_enter Try.func49, Try.ntmps49
  go_wp2_with fail
  refine (tfield_z hn t).mono ?_
  rintro e w' ⟨rfl, rfl⟩
  go_wp2_with fail
  go_ret
  exact ⟨rfl, rfl⟩
set_option maxHeartbeats 1000000 in
set_option maxRecDepth 4000 in
theorem traw0_z {w : World} {a : Option Addr} (hn : NZ w a) (t most : Int) : Calls Try.prog 92 #[.pointer a, .int .i64 t, .int .i64 most] w fun e w' => e = .returned (.slice none 0 0) ∧ w = w' := by
  go_enter Try.func92, Try.ntmps92
  go_wp2_with fail
  refine (tfield_z hn t).mono ?_
  rintro e w' ⟨rfl, rfl⟩
  go_wp2_with fail
  go_ret
  exact ⟨rfl, rfl⟩
set_option maxHeartbeats 1000000 in
set_option maxRecDepth 4000 in
theorem traw_z {w : World} {a : Option Addr} (hn : NZ w a) (t most : Int) : Calls Try.prog 53 #[.pointer a, .int .i64 t, .int .i64 most] w fun e w' => BP 0 [] w e w' := by
  go_enter Try.func53, Try.ntmps53
  go_wp2_with fail
  refine (traw0_z hn t most).mono ?_
  rintro e w' ⟨rfl, rfl⟩
  go_wp2_with fail
  refine (own_any w [] none 0 0 (by omega) (Sl.nil_ _ _ _)).mono ?_
  rintro e w2 ⟨A, c, g, rfl, h1, h2, h3⟩
  go_wp2_with fail
  go_ret
  exact ⟨A, c, g, rfl, h1, h2, h3⟩
set_option maxHeartbeats 1000000 in
set_option maxRecDepth 4000 in
theorem ttext_z {w : World} {a : Option Addr} (hn : NZ w a) (t most : Int) : Calls Try.prog 50 #[.pointer a, .int .i64 t, .int .i64 most] w fun e w' => e = .returned (.string (strOf [])) ∧ w = w' := by
  go_enter Try.func50, Try.ntmps50
  have hcv := conv_bs w none 0 0 [] (fun x h => by cases h) (Sl.nil_ _ _ _)
  go_wp2_with fail
  refine (traw0_z hn t most).mono ?_
  rintro e w' ⟨rfl, rfl⟩
  go_wp2_with fail
  go_ret
  exact ⟨rfl, rfl⟩
set_option maxHeartbeats 1000000 in
set_option maxRecDepth 4000 in
theorem tit_z {w : World} {a : Option Addr} (hn : NZ w a) (t most : Int) : Calls Try.prog 94 #[.pointer a, .int .i64 t, .int .i64 most] w fun e w' => e = .returned (.tuple #[.slice none 0 0, .int .i64 0]) ∧ w = w' := by
  go_enter Try.func94, Try.ntmps94
  go_wp2_with fail
  refine (tfield_z hn t).mono ?_
  rintro e w' ⟨rfl, rfl⟩
  go_wp2_with fail
  go_ret2
  exact ⟨rfl, rfl⟩
set_option maxHeartbeats 1000000 in
set_option maxRecDepth 4000 in
theorem tlist_z {w : World} {a : Option Addr} (hn : NZ w a) (t most : Int) : Calls Try.prog 54 #[.pointer a, .int .i64 t, .int .i64 most] w fun e w' => e = .returned (.slice none 0 0) ∧ w = w' := by
  go_enter Try.func54, Try.ntmps54
  go_wp2_with fail
  refine (tit_z hn t most).mono ?_
  rintro e w' ⟨rfl, rfl⟩
  go_wp2_with fail
  go_loopw [9, 21] (fun u i wr => u = .slice none 0 0 ∧ i = .int .i64 0 ∧ Hid (wr = w)) (fun _ _ _ => 0)
  case atStart => exact ⟨rfl, rfl, rfl⟩
  case round =>
    obtain ⟨rfl, rfl, hw⟩ := hrel
    obtain rfl := hw.out
    go_wp2_with fail
    refine (clipB_any wr none 0 0 (by omega) (by omega)).mono ?_
    rintro e w' ⟨rfl, rfl⟩
    go_wp2_with fail
    go_ret
    exact ⟨rfl, rfl⟩
set_option maxHeartbeats 1000000 in
set_option maxRecDepth 4000 in
theorem trecords_z {w : World} {a : Option Addr} (hn : NZ w a) (t most : Int) : Calls Try.prog 55 #[.pointer a, .int .i64 t, .int .i64 most] w fun e w' => e = .returned (.slice none 0 0) ∧ w = w' := by
  go_enter Try.func55, Try.ntmps55
  go_wp2_with fail
  refine (tit_z hn t most).mono ?_
  rintro e w' ⟨rfl, rfl⟩
  go_wp2_with fail
  go_loopw [9, 21] (fun u i wr => u = .slice none 0 0 ∧ i = .int .i64 0 ∧ Hid (wr = w)) (fun _ _ _ => 0)
  case atStart => exact ⟨rfl, rfl, rfl⟩
  case round =>
    obtain ⟨rfl, rfl, hw⟩ := hrel
    obtain rfl := hw.out
    go_wp2_with fail
    refine (clipR_any wr none 0 0 (by omega) (by omega)).mono ?_
    rintro e w' ⟨rfl, rfl⟩
    go_wp2_with fail
    go_ret
    exact ⟨rfl, rfl⟩
set_option maxHeartbeats 1000000 in
set_option maxRecDepth 4000 in
theorem trecord_z {w : World} {a : Option Addr} (hn : NZ w a) (t : Int) : Calls Try.prog 51 #[.pointer a, .int .i64 t] w fun e w' => e = .returned (.pointer none) ∧ w = w' := by
  go_enter Try.func51, Try.ntmps51
  go_wp2_with fail
  refine hn.mono ?_
  rintro e w' ⟨rfl, rfl⟩
  go_wp2_with fail
  go_ret
  exact ⟨rfl, rfl⟩
set_option maxHeartbeats 1000000 in
set_option maxRecDepth 4000 in
theorem tend_z {w : World} {a : Option Addr} (hn : NZ w a) : Calls Try.prog 52 #[.pointer a] w fun e w' => e = .returned (.tuple #[.int .i64 0, .int .i64 1]) ∧ w = w' := by
  go_enter Try.func52, Try.ntmps52
  go_wp2_with fail
  refine hn.mono ?_
  rintro e w' ⟨rfl, rfl⟩
  go_wp2_with fail
  refine (tfault_z hn).mono ?_
  rintro e w' ⟨rfl, rfl⟩
  go_wp2_with fail
  go_ret2
  exact ⟨rfl, rfl⟩

set_option maxHeartbeats 2000000 in
set_option maxRecDepth 8000 in
theorem got_any (w : World) (xs : List Nat) (A : Option Addr) (n c : Nat) (hn : n ≤ 140737488355328) (hc : n ≤ c) (hc2 : c ≤ 9223372036854775807) (hl : n = xs.length) (h256 : ∀ x ∈ xs, x < 256) (hA : Sl w 1 A n (xs.map bn)) {k p : Nat} {er : Int} (hk : (getAll xs).1.length = k) (hp : (getAll xs).2.1 = p) (he : (getAll xs).2.2 = er) :
    Calls Try.prog 62 #[.slice A n c] w fun e w' => e = .returned (.agg #[.int .i64 (k : Int), .int .i64 (p : Int), .int .i64 er]) ∧ Fr (fun _ => False) w w' := by
  have C := fun (w' : World) (hf : Fr (fun _ => False) w w') => tget_any w' xs A n c hn hc hc2 hl h256 (Sl.fr' hf hA fun _ _ _ _ => id)
  have HC := hide C
  have Hk := hide hk
  have Hp := hide hp
  have He := hide he
  clear C hk hp he hA h256 hl
  go_enter Try.func62, Try.ntmps62
  go_wp2_with fail
  refine (HC.out _ (by (repeat (first | with_reducible exact Fr.refl _ _ | with_reducible assumption | with_reducible refine Fr.drew ?_ | with_reducible refine Fr.drewN ?_ _ | with_reducible refine Fr.alloc ?_ _ | with_reducible refine Fr.setIn ?_ (by first | exact Or.inl rfl | exact Or.inr (by simp; done) | exact Or.inr (by simp; omega) | exact Or.inr (by omega)) _)))).mono ?_
  rintro e w1 ⟨rs, B, k', c', g, rfl, hk', hrs, -, -, -, hf1⟩
  rw [Hp.out, He.out]
  obtain rfl : k' = k := by rw [hk', ← Hk.out, ← hrs, List.length_map]
  clear hk' hrs
  have hB : Bl w1 w.heap.size 117 #[.int .i64 0, .int .i64 0, .int .i64 0] := (Bl.new _ _ _).fr hf1 id
  have c0 := hB.cell' (i := 0) rfl
  have c1 := hB.cell' (i := 1) rfl
  have c2 := hB.cell' (i := 2) rfl
  have z0 := hB.free 0
  have z1 := hB.free 1
  have z2 := hB.free 2
  have Hf1 : Hid (Fr (fun _ => False) w w1) := Fr.trans (by (repeat (first | with_reducible exact Fr.refl _ _ | with_reducible assumption | with_reducible refine Fr.drew ?_ | with_reducible refine Fr.drewN ?_ _ | with_reducible refine Fr.alloc ?_ _ | with_reducible refine Fr.setIn ?_ (by first | exact Or.inl rfl | exact Or.inr (by simp; done) | exact Or.inr (by simp; omega) | exact Or.inr (by omega)) _))) hf1
  clear hf1
  go_wp2_with fail
  refine (num_any _ _).mono ?_
  rintro e w' ⟨rfl, rfl⟩
  go_wp2_with fail
  have hB3 := ((hB.set 0 (.int .i64 (k' : Int))).set 1 (.int .i64 (p : Int))).set 2 (.int .i64 er)
  try simp only [Exit.inBlock, Exit.then]
  refine bodyPost_ret (results_cell_row rfl _ _ w.heap.size 117 #[.int .i64 (k' : Int), .int .i64 (p : Int), .int .i64 er] (0, 0) _ rfl hB3 Try.underlying117 rfl (by kernel_rfl)) rfl ?_
  exact ⟨rfl, Fr.set (S := fun _ => False) (Fr.set (S := fun _ => False) (Fr.set (S := fun _ => False) Hf1.out (.inr (Nat.le_refl _)) _) (.inr (Nat.le_refl _)) _) (.inr (Nat.le_refl _)) _⟩
theorem Sl.rowAt {w : World} {g : Nat} (hg : g = w.heap.size) (cs : Array Value) (t : TypeId) (s n : Nat) (h : cs.size = n * s) : Sl (w.alloc (.cells cs t)) s (some ⟨g, 0, none⟩) n cs.toList := by
  subst hg; exact Sl.row w cs t s n h
theorem Sl.markAt {w : World} {g : Nat} (hg : g = w.heap.size) (cs : Array Value) (t : TypeId) (fr : Nat × Nat) (s n : Nat) (h : cs.size = n * s) : Sl (w.alloc (.cells cs t fr)) s (some ⟨g, 0, none⟩) n cs.toList := by
  refine ⟨by simpa using h, fun _ => ⟨g, 0, rfl, fun j u hu => ?_⟩⟩
  rw [Nat.zero_add, cell_alloc_mark_at w cs t fr g j hg]
  simpa using hu
theorem convB {w : World} {g : Nat} (hg : g = w.heap.size) (cs : Array Value) (n : Nat) (hn : cs.size = n) : (convert 23 23 (.slice (some ⟨g, 0, none⟩) n n)).run Try.prog (w.alloc (.cells cs 5)) = .ok (.slice (some ⟨g, 0, none⟩) n n) (w.alloc (.cells cs 5 (n, n + 1))) := by
  subst hn
  exact run_convert_bytes_const_at w 23 5 cs _ _ g hg Try.underlying23 Try.underlying5
/-- A number's short one, told. -/
theorem kshort {bs : List Nat} {n k : Nat} (w : World) (hn : n < U64) (h : short n = bs) (hk : bs.length = k) : Calls Try.prog 15 #[.int .u64 (n : Int)] w fun e w' => ∃ A c g, e = .returned (.slice A k c) ∧ Ow w' 5 1 A k c (bs.map bn) g ∧ (∀ b, g = some b → w.heap.size ≤ b) ∧ Fr (fun _ => False) w w' := by
  have := short_any w n hn
  unfold ShortPost at this
  rw [h, hk] at this
  exact this
theorem ksame {xs : List Nat} {A B : Option Addr} {c d n : Nat} (w : World) (hn : n = xs.length) (hb : n ≤ 1000) (hA : Sl w 1 A n (xs.map bn)) (hB : Sl w 1 B n (xs.map bn)) :
    Calls Try.prog 16 #[.slice A n c, .slice B n d] w fun e w' => e = .returned (.bool true) ∧ Fr (fun _ => False) w w' :=
  (same_q w xs A B c d n hn (by omega) hA hB).mono fun e w' ⟨h, hd⟩ => ⟨h, fr_of_drewN hd⟩
theorem kread {xs : List Nat} {A : Option Addr} {n c : Nat} {at_ : Int} {N : Nat} {t : Int} {er : Int} (w : World) (hl : n = xs.length) (hb : n ≤ 1000) (h256 : ∀ x ∈ xs, x < 256) (hA : Sl w 1 A n (xs.map bn)) (h : readShort xs at_ = (N, t, er)) :
    Calls Try.prog 21 #[.slice A n c, .int .i64 at_] w fun e w' => e = .returned (.tuple #[.int .u64 (N : Int), .int .i64 t, .int .i64 er]) ∧ w = w' := by
  have := tread_any w xs A n c at_ (by omega) hl h256 hA
  unfold ReadVal at this
  rw [h] at this
  exact this
theorem kput {fs : List (Int × List Nat)} {bs : List Nat} {er k n c : Nat} {A : Option Addr} (w : World) (hA : FAt w 2 A n fs) (hb : n ≤ 1000) (hM : ∀ (i : Nat) (hi : i < fs.length), fs[i].2.length ≤ 1000) (h1 : putBytes fs = bs) (h2 : putErr fs = er) (hk : bs.length = k) :
    Calls Try.prog 25 #[.slice A n c] w fun e w' => ∃ A c, e = .returned (.tuple #[.slice A k c, .int .i64 (er : Int)]) ∧ Sl w' 1 A k (bs.map bn) ∧ Fr (fun _ => False) w w' := by
  have := put_any w fs A n c (by omega) hA fun i hi => by have := hM i hi; omega
  unfold PutPost at this
  rw [h1, h2] at this
  refine this.mono ?_
  rintro e w' ⟨A, n, c, g, rfl, hO, -, hf⟩
  obtain rfl : n = k := by rw [← hk]; exact hO.len
  exact ⟨A, c, rfl, hO.sl, hf⟩
theorem kitems {xs : List Nat} {A : Option Addr} {n c p k : Nat} {er : Int} {vs : List (List Nat)} (w : World) (hl : n = xs.length) (hb : n ≤ 1000) (hc : n ≤ c) (hc2 : c ≤ 1000) (h256 : ∀ x ∈ xs, x < 256) (hA : Sl w 1 A n (xs.map bn)) (h1 : (itemsAll xs).1.map (GF.val xs) = vs) (h2 : (itemsAll xs).2 = (p, er)) (hk : vs.length = k) :
    Calls Try.prog 37 #[.slice A n c] w fun e w' => ∃ D d, e = .returned (.tuple #[.slice D k d, .int .i64 (p : Int), .int .i64 er]) ∧ LAt w' w'.heap.size D k vs ∧ Fr (fun _ => False) w w' := by
  have := tItems_any w xs A n c (by omega) hc (by omega) hl h256 hA
  rw [h2] at this
  refine this.mono ?_
  rintro e w' ⟨rs, D, kk, d, g, rfl, hT⟩
  have h3 := hT.lat
  rw [h1] at h3
  obtain rfl : kk = k := by rw [← hk]; exact h3.1
  exact ⟨D, d, rfl, h3, hT.fr⟩
theorem klist {xss : List (List Nat)} {A : Option Addr} {n c k : Nat} {bs : List Nat} (w : World) (hb : n ≤ 1000) (hM : ∀ x ∈ xss, x.length ≤ 1000) (h : listAll xss = bs) (hk : bs.length = k) (hk2 : k ≤ 1000) (hA : LAt w w.heap.size A n xss) :
    Calls Try.prog 32 #[.slice A n c] w fun e w' => ∃ A c, e = .returned (.slice A k c) ∧ Sl w' 1 A k (bs.map bn) ∧ Fr (fun _ => False) w w' := by
  have := tlist_any w xss A n c w.heap.size (by omega) (Nat.le_refl _) (fun x hx => by have := hM x hx; omega) (by rw [h, hk]; omega) hA
  unfold BP at this
  rw [h, hk] at this
  refine this.mono ?_
  rintro e w' ⟨A, c, g, rfl, hO, -, hf⟩
  exact ⟨A, c, rfl, hO.sl, hf⟩
/-- Two slices of bytes in a new slice. -/
theorem LAt.two {w : World} {b : Nat} {X Y : Option Addr} {n m c d : Nat} {xs ys : List Nat} (hb : Bl w b 23 #[.slice X n c, .slice Y m d]) (hX : Sl w 1 X n (xs.map bn)) (hY : Sl w 1 Y m (ys.map bn)) (h1 : n ≤ c ∧ c ≤ 1000) (h2 : m ≤ d ∧ d ≤ 1000) : LAt w w.heap.size (some ⟨b, 0, none⟩) 2 [xs, ys] := by
  refine ⟨rfl, fun _ => ⟨b, 0, rfl, hb.lt, fun i hi => ?_⟩⟩
  match i, hi with
  | 0, _ => exact ⟨X, n, c, hb.cell' rfl, h1.1, by omega, hX, hX.lt⟩
  | 1, _ => exact ⟨Y, m, d, hb.cell' rfl, h2.1, by omega, hY, hY.lt⟩
theorem LAt.one {w : World} {b : Nat} {X : Option Addr} {n c : Nat} {xs : List Nat} (hb : Bl w b 23 #[.slice X n c]) (hX : Sl w 1 X n (xs.map bn)) (h1 : n ≤ c ∧ c ≤ 1000) : LAt w w.heap.size (some ⟨b, 0, none⟩) 1 [xs] := by
  refine ⟨rfl, fun _ => ⟨b, 0, rfl, hb.lt, fun i hi => ?_⟩⟩
  match i, hi with
  | 0, _ => exact ⟨X, n, c, hb.cell' rfl, h1.1, by omega, hX, hX.lt⟩
/-- Fields in a new slice. -/
theorem FAt.two {w : World} {b : Nat} {t : TypeId} {T U : Int} {X Y : Option Addr} {n m c d : Nat} {xs ys : List Nat} (hb : Bl w b t #[.int .i64 T, .slice X n c, .int .i64 U, .slice Y m d]) (hX : Sl w 1 X n (xs.map bn)) (hY : Sl w 1 Y m (ys.map bn)) : FAt w 2 (some ⟨b, 0, none⟩) 2 [(T, xs), (U, ys)] := by
  refine ⟨rfl, fun _ => ⟨b, 0, rfl, fun i hi => ?_⟩⟩
  match i, hi with
  | 0, _ => exact ⟨X, n, c, hb.cell' rfl, hb.cell' rfl, hX⟩
  | 1, _ => exact ⟨Y, m, d, hb.cell' rfl, hb.cell' rfl, hY⟩
theorem FAt.one {w : World} {b : Nat} {t : TypeId} {T : Int} {X : Option Addr} {n c : Nat} {xs : List Nat} (hb : Bl w b t #[.int .i64 T, .slice X n c]) (hX : Sl w 1 X n (xs.map bn)) : FAt w 2 (some ⟨b, 0, none⟩) 1 [(T, xs)] := by
  refine ⟨rfl, fun _ => ⟨b, 0, rfl, fun i hi => ?_⟩⟩
  match i, hi with
  | 0, _ => exact ⟨X, n, c, hb.cell' rfl, hb.cell' rfl, hX⟩
end Go.Proofs.Ytbglloafbmamoaa
