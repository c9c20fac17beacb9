/-
  Texts merged into one, to keep the claim small: PrK0, PrO2, StL.
-/
import Derived.Test.YtlcjhbemgagchaaMf24
import Derived.Test.YtlcjhbemgagchaaMf22
import Derived.Test.YtlcjhbemgagchaaMf23
import Derived.Test.YtlcjhbemgagchaaMf4
section
/-
  proto: a command that can be read.
-/
namespace Go.Proofs.Ytlcjhbemgagchaa
structure KC.at_ (w : World) (r : KC) : Prop where
  e : r.e.at_ w
  k : r.k.at_ w
theorem KC.at_.quiet {w w' : World} {r : KC} (h : r.at_ w) (hf : Fr (fun _ => False) w w') : r.at_ w' := ⟨h.e.quiet hf, h.k.quiet hf⟩
end Go.Proofs.Ytlcjhbemgagchaa
end

section
/-
  Opening: a command as an argument. (printed by pr_open2.py)
-/
namespace Go.Proofs.Ytlcjhbemgagchaa
open Go.ChangeShapes Go.WideShapes Go.ChangeAt Go.RowKit Go.Deep Go.Joins
set_option linter.unusedVariables false
set_option linter.unusedSimpArgs false
section
variable {H : Type} {enc : TypeId × Value → H} {W : World} {base : Nat} {spare : Nat → Bool} {held : Bool}
set_option maxRecDepth 20000 in
theorem open_entry {fuel : Nat} {cs : List Value} {x : DataW H × List MemPlace} (h : DataW.trod enc Try.prog W base spare held fuel 26 cs = some x) (hsz : ∀ v ∈ x.1.weights Try.prog 26, v ≤ reachBytes) :
    ∃ e : ER, cs = e.cells ∧ e.at_ W ∧ e.wf := by
  obtain ⟨ys, n', _, hx, hcl, hyl, hf⟩ := DataW.trod_struct Try.underlying26 h
  rw [show Try.prog.cellsOf 26 = 5 from by kernel_rfl] at hcl
  have hx1 : x.1 = .agg (ys.map (·.1)) := by rw [hx]
  match cs, hcl with
  | [c0, c1, c2, c3, c4], _ =>
    obtain ⟨y0, g0, t0⟩ := fld hf (i := 0) rfl hyl rfl rfl (by kernel_rfl : Try.prog.cellsOf 3 = 1)
    obtain ⟨z0, e0, b0⟩ := open_i64 Try.underlying3 (show DataW.trod enc Try.prog W base spare held n' 3 [c0] = some y0 from t0)
    obtain ⟨y1, g1, t1⟩ := fld hf (i := 1) rfl hyl rfl rfl (by kernel_rfl : Try.prog.cellsOf 3 = 1)
    obtain ⟨z1, e1, b1⟩ := open_i64 Try.underlying3 (show DataW.trod enc Try.prog W base spare held n' 3 [c1] = some y1 from t1)
    obtain ⟨y2, g2, t2⟩ := fld hf (i := 2) rfl hyl rfl rfl (by kernel_rfl : Try.prog.cellsOf 23 = 1)
    obtain ⟨z2, e2, b2⟩ := open_u64 Try.underlying23 (show DataW.trod enc Try.prog W base spare held n' 23 [c2] = some y2 from t2)
    obtain ⟨y3, g3, t3⟩ := fld hf (i := 3) rfl hyl rfl rfl (by kernel_rfl : Try.prog.cellsOf 23 = 1)
    obtain ⟨z3, e3, b3⟩ := open_u64 Try.underlying23 (show DataW.trod enc Try.prog W base spare held n' 23 [c3] = some y3 from t3)
    obtain ⟨y4, g4, t4⟩ := fld hf (i := 4) rfl hyl rfl rfl (by kernel_rfl : Try.prog.cellsOf 24 = 1)
    obtain ⟨A, n, c, xs, e4, hS, k1, k2, k3⟩ := open_ints (show DataW.trod enc Try.prog W base spare held n' 24 [c4] = some y4 from t4) (fun v hv => hsz v (by rw [hx1]; exact weights_agg (j := 4) Try.underlying26 rfl (by rw [List.getElem?_map, g4]; rfl) hv))
    have e4' : c4 = .slice A n c := by simpa using e4
    subst e0 e1 e2 e3 e4'
    exact ⟨⟨z0, z1, z2, z3, A, n, c, xs⟩, rfl, ⟨hS, k1, ⟨k2, k3⟩⟩, ⟨b2, b3⟩⟩
def KC.cells (r : KC) : List Value := [.int .i64 r.id, .int .i64 r.kind, .string (strOf r.name), .int .i64 r.to_, .int .u64 (r.co : Int), .int .i64 r.item, .int .i64 r.num, .int .i64 r.of_] ++ (r.e.cells ++ r.k.cells)
set_option maxRecDepth 20000 in
theorem open_command {fuel : Nat} {cs : List Value} {x : DataW H × List MemPlace} (h : DataW.trod enc Try.prog W base spare held fuel 31 cs = some x) (hsz : ∀ v ∈ x.1.weights Try.prog 31, v ≤ reachBytes) :
    ∃ r : KC, cs = r.cells ∧ r.at_ W ∧ r.wf := by
  obtain ⟨ys, n', _, hx, hcl, hyl, hf⟩ := DataW.trod_struct Try.underlying31 h
  rw [show Try.prog.cellsOf 31 = 24 from by kernel_rfl] at hcl
  have hx1 : x.1 = .agg (ys.map (·.1)) := by rw [hx]
  match cs, hcl with
  | [c0, c1, c2, c3, c4, c5, c6, c7, c8, c9, c10, c11, c12, c13, c14, c15, c16, c17, c18, c19, c20, c21, c22, c23], _ =>
    obtain ⟨y0, g0, t0⟩ := fld hf (i := 0) rfl hyl rfl rfl (by kernel_rfl : Try.prog.cellsOf 3 = 1)
    obtain ⟨z0, e0, b0⟩ := open_i64 Try.underlying3 (show DataW.trod enc Try.prog W base spare held n' 3 [c0] = some y0 from t0)
    obtain ⟨y1, g1, t1⟩ := fld hf (i := 1) rfl hyl rfl rfl (by kernel_rfl : Try.prog.cellsOf 3 = 1)
    obtain ⟨z1, e1, b1⟩ := open_i64 Try.underlying3 (show DataW.trod enc Try.prog W base spare held n' 3 [c1] = some y1 from t1)
    obtain ⟨y2, g2, t2⟩ := fld hf (i := 2) rfl hyl rfl rfl (by kernel_rfl : Try.prog.cellsOf 9 = 1)
    obtain ⟨s, e2, -, -⟩ := DataW.trod_string Try.underlying9 (show DataW.trod enc Try.prog W base spare held n' 9 [c2] = some y2 from t2)
    obtain ⟨txt, rfl, -, h256⟩ := strOf_is s
    have e2' : c2 = .string (strOf txt) := by simpa using e2
    obtain ⟨y3, g3, t3⟩ := fld hf (i := 3) rfl hyl rfl rfl (by kernel_rfl : Try.prog.cellsOf 3 = 1)
    obtain ⟨z3, e3, b3⟩ := open_i64 Try.underlying3 (show DataW.trod enc Try.prog W base spare held n' 3 [c3] = some y3 from t3)
    obtain ⟨y4, g4, t4⟩ := fld hf (i := 4) rfl hyl rfl rfl (by kernel_rfl : Try.prog.cellsOf 23 = 1)
    obtain ⟨z4, e4, b4⟩ := open_u64 Try.underlying23 (show DataW.trod enc Try.prog W base spare held n' 23 [c4] = some y4 from t4)
    obtain ⟨y5, g5, t5⟩ := fld hf (i := 5) rfl hyl rfl rfl (by kernel_rfl : Try.prog.cellsOf 3 = 1)
    obtain ⟨z5, e5, b5⟩ := open_i64 Try.underlying3 (show DataW.trod enc Try.prog W base spare held n' 3 [c5] = some y5 from t5)
    obtain ⟨y6, g6, t6⟩ := fld hf (i := 6) rfl hyl rfl rfl (by kernel_rfl : Try.prog.cellsOf 3 = 1)
    obtain ⟨z6, e6, b6⟩ := open_i64 Try.underlying3 (show DataW.trod enc Try.prog W base spare held n' 3 [c6] = some y6 from t6)
    obtain ⟨y7, g7, t7⟩ := fld hf (i := 7) rfl hyl rfl rfl (by kernel_rfl : Try.prog.cellsOf 3 = 1)
    obtain ⟨z7, e7, b7⟩ := open_i64 Try.underlying3 (show DataW.trod enc Try.prog W base spare held n' 3 [c7] = some y7 from t7)
    obtain ⟨y8, g8, t8⟩ := fld hf (i := 8) rfl hyl rfl rfl (by kernel_rfl : Try.prog.cellsOf 26 = 5)
    obtain ⟨e, e8, a8, w8⟩ := open_entry (show DataW.trod enc Try.prog W base spare held n' 26 [c8, c9, c10, c11, c12] = some y8 from t8) (fun v hv => hsz v (by rw [hx1]; exact weights_agg (j := 8) Try.underlying31 rfl (by rw [List.getElem?_map, g8]; rfl) hv))
    obtain ⟨y9, g9, t9⟩ := fld hf (i := 9) rfl hyl rfl rfl (by kernel_rfl : Try.prog.cellsOf 29 = 11)
    obtain ⟨k, e9, a9, w9⟩ := open_contract (show DataW.trod enc Try.prog W base spare held n' 29 [c13, c14, c15, c16, c17, c18, c19, c20, c21, c22, c23] = some y9 from t9) (fun v hv => hsz v (by rw [hx1]; exact weights_agg (j := 9) Try.underlying31 rfl (by rw [List.getElem?_map, g9]; rfl) hv))
    subst e0 e1 e2' e3 e4 e5 e6 e7
    refine ⟨⟨z0, z1, txt, z3, z4, z5, z6, z7, e, k⟩, ?_, ⟨a8, a9⟩, ⟨b4, w8, w9, h256⟩⟩
    show _ = [_, _, _, _, _, _, _, _] ++ (e.cells ++ k.cells)
    rw [← e8, ← e9]
    rfl
end
end Go.Proofs.Ytlcjhbemgagchaa
end

section
/-
  The law's helpers of chapter 29: bytes, over, lent, kept.
-/
namespace Go.Proofs.Ytlcjhbemgagchaa
open Go.RowKit
set_option linter.unusedVariables false

set_option maxHeartbeats 1000000 in
set_option maxRecDepth 4000 in
/-- bytes, where the bytes are the same: true. -/
theorem bytes29_true (w : World) (xs : List Nat) (A B : Option Addr) (c d : Nat) (n : Nat) (hn : n = xs.length) (h63 : n ≤ 9223372036854775806) (hA : Sl w 1 A n (xs.map bn)) (hB : Sl w 1 B n (xs.map bn)) :
    Calls Try.prog 14 #[.slice A n c, .slice B n d] w fun e w' => e = .returned (.bool true) ∧ Fr (fun _ => False) w w' := by
  have Hn := hide hn
  clear hn
  go_enter Try.func14, Try.ntmps14
  go_wp2_with fail
  go_loopw [5] (fun i wr => ∃ (k m : Nat), k ≤ n ∧ i = .int .i64 k ∧ Hid (wr = w.drewN m)) (fun i _ => n - (intOf i).toNat)
  case atStart => exact ⟨0, 0, Nat.zero_le _, rfl, rfl⟩
  case round =>
    obtain ⟨k, m, hk, rfl, hw⟩ := hrel
    obtain rfl := hw.out
    clear hw
    by_cases hlt : k < n
    · have hu := bn_get (xs := xs) (k := k) (by rw [← Hn.out]; exact hlt)
      obtain ⟨b, o, rfl, ca⟩ := hA.at_ hu
      obtain ⟨b', o', rfl, cb⟩ := hB.at_ hu
      clear hA hB hu
      have i0 : (0 : Int) ≤ (k : Int) := by omega
      have i1 : (k : Int) < (n : Int) := by omega
      go_wp2_with fail
      go_quiet (fail)
      go_wp2_with fail
      exact ⟨⟨k + 1, _, by omega, by go_num, rfl⟩, by simp [intOf]; omega⟩
    · go_wp2_with fail
      go_ret
      exact ⟨rfl, (Fr.refl _ _).drewN _⟩

set_option maxHeartbeats 1000000 in
set_option maxRecDepth 4000 in
/-- over writes into the slice's own block alone. -/
theorem over29_any (w : World) (xs : List Nat) (A : Option Addr) (n c : Nat) (g : Option Nat) (hO : Ow w 5 1 A n c (xs.map bn) g) (hcap : n ≤ 140737488355000) :
    Calls Try.prog 16 #[.slice A n c] w fun e w' => e = .returned (.tuple #[]) ∧ Fr (fun k => some k = g) w w' := by
  obtain ⟨i0, hi, hz0, hz1, hz2⟩ := info_parts info5
  go_enter Try.func16, Try.ntmps16
  go_wp2_with fail
  go_loopw [2] (fun i wr => ∃ (k : Nat) (ys : List Nat), k ≤ n ∧ i = .int .i64 k ∧ Ow wr 5 1 A n c (ys.map bn) g ∧ Fr (fun k => some k = g) w wr) (fun i _ => n - (intOf i).toNat)
  case atStart => exact ⟨0, xs, Nat.zero_le _, rfl, hO, Fr.refl _ _⟩
  case round =>
    obtain ⟨k, ys, hk, rfl, hO, hf⟩ := hrel
    by_cases hlt : k < n
    · have hl : ys.length = n := by have := hO.1; simpa using this
      have hu := bn_get (xs := ys) (k := k) (by omega)
      obtain ⟨b, o, rfl, rfl, c0, z0⟩ := hO.look hu
      have Hl := hide hl
      have Hu := hide hu
      clear hl hu
      go_wp2_with fail
      refine ⟨⟨k + 1, ys.set k ((ys.getD k 0 + 91) % 256), by omega, by go_num, ?_, ?_⟩, by simp [intOf]; omega⟩
      · have := hO.put (j := k) (by omega) (bn ((ys.getD k 0 + 91) % 256))
        rw [← List.map_set] at this
        have e : bn ((ys.getD k 0 + 91) % 256) = .int .u8 (IntKind.u8.wrap (((ys.getD k 0 : Nat) : Int) + 91)) := by rw [IntKind.wrap_u8]; simp [bn]
        rw [e] at this
        exact this
      · exact hf.setIn (.inl rfl) _
    · go_wp2_with fail
      go_loopw [0, 3] (fun v i wr => ∃ (m : Nat) (ys : List Nat) (A : Option Addr) (c : Nat) (g' : Option Nat), m ≤ 40 ∧ v = .slice A (n + m) c ∧ i = .int .i64 m ∧ Ow wr 5 1 A (n + m) c (ys.map bn) g' ∧ (g' = g ∨ ∃ b, g' = some b ∧ w.heap.size ≤ b) ∧ Fr (fun k => some k = g) w wr) (fun _ i _ => 40 - (intOf i).toNat)
      case atStart => exact ⟨0, ys, A, c, g, by omega, rfl, rfl, hO, .inl rfl, hf⟩
      case round =>
        clear hO hf
        obtain ⟨m, zs, A2, c2, g2, hm, rfl, rfl, hO, hg, hf⟩ := hrel
        by_cases hlt : m < 40
        · go_wp2_with (at_builtin; refine wpList_append_ow _ rfl _ _ 22 rfl 5 i0 (.int .u8 0) 1 1 Try.underlying22 hi hz0 hz1 hz2 rfl (by decide) _ _ _ _ _ rfl (hO.fr ((Fr.refl _ _).alloc _) (fun _ _ => id)) _ _ _ _ rfl (Sl.one _ _ _) (bn_one [_]) (by unfold maxLen; omega) (by omega) ?_)
          intro A3 c3 w3 g3 hO3 hf3 hg3
          go_wp2_with fail
          refine ⟨⟨m + 1, zs ++ [77], A3, c3, g3, by omega, rfl, by go_num, by rw [← Nat.add_assoc]; simpa [bn] using hO3, ?_, ?_⟩, by simp [intOf]; omega⟩
          · have := hf.size
            rcases hg3 with rfl | ⟨b, rfl, hb⟩
            · exact hg
            · exact .inr ⟨b, rfl, by omega⟩
          · refine (hf.alloc _).comp hf3 fun i hi e => ?_
            rcases hg with rfl | ⟨b, rfl, hb⟩
            · exact e
            · cases e; omega
        · go_wp2_with fail
          go_end0
          exact ⟨rfl, hf⟩

/-- Behind lent: the bytes xs in memory of their own, the marks behind them. -/
def Lent29 (w : World) (A : Option Addr) (n c : Nat) (xs : List Nat) (g : Nat) : Prop := Ow w 5 1 A (n + 4) c ((xs ++ marks 4).map bn) (some g)
def LentPost29 (n : Nat) (xs : List Nat) (w : World) (e : Ending) (w' : World) : Prop :=
  ∃ A c g, e = .returned (.slice A n c) ∧ Lent29 w' A n c xs g ∧ w.heap.size ≤ g ∧ Fr (fun _ => False) w w'

set_option maxHeartbeats 1000000 in
set_option maxRecDepth 4000 in
theorem lent29_any (w : World) (xs : List Nat) (A : Option Addr) (n c : Nat) (hn : n ≤ 140737488355000) (hA : Sl w 1 A n (xs.map bn)) :
    Calls Try.prog 10 #[.slice A n c] w (LentPost29 n xs w) := by
  obtain ⟨i0, hi, hz0, hz1, hz2⟩ := info_parts info5
  go_enter Try.func10, Try.ntmps10
  go_wp2_with (at_builtin; refine wpList_append_ow _ rfl _ _ 22 rfl 5 i0 (.int .u8 0) 1 1 Try.underlying22 hi hz0 hz1 hz2 rfl (by decide) _ _ _ _ _ rfl (Ow.nil_ _ _ _) _ _ _ _ rfl hA (bn_one _) (by unfold maxLen; omega) (by omega) ?_)
  intro A1 c1 w1 g1 hO1 hf1 hg1
  go_wp2_with fail
  go_loopw [3, 4] (fun v i wr => ∃ (m : Nat) (A : Option Addr) (c : Nat) (g' : Option Nat), m ≤ 4 ∧ v = .slice A (n + m) c ∧ i = .int .i64 m ∧ Ow wr 5 1 A (n + m) c ((xs ++ marks m).map bn) g' ∧ (∀ b, g' = some b → w.heap.size ≤ b) ∧ Fr (fun _ => False) w wr) (fun _ i _ => 4 - (intOf i).toNat)
  case atStart =>
    refine ⟨0, A1, c1, g1, by omega, rfl, rfl, by simpa [marks] using hO1, fun b hb => ?_, hf1.mono fun k hk e => by cases e⟩
    rcases hg1 with rfl | ⟨b', rfl, h⟩
    · cases hb
    · cases hb; exact h
  case round =>
    clear hO1 hf1 hg1
    obtain ⟨m, A2, c2, g2, hm, rfl, rfl, hO, hg, hf⟩ := hrel
    by_cases hlt : m < 4
    · go_wp2_with (at_builtin; refine wpList_append_ow _ rfl _ _ 22 rfl 5 i0 (.int .u8 0) 1 1 Try.underlying22 hi hz0 hz1 hz2 rfl (by decide) _ _ _ _ _ rfl (hO.fr ((Fr.refl _ _).alloc _) (fun _ _ => id)) _ _ _ _ rfl (Sl.one _ _ _) (bn_one [_]) (by unfold maxLen; omega) (by omega) ?_)
      intro A3 c3 w3 g3 hO3 hf3 hg3
      go_wp2_with fail
      refine ⟨⟨m + 1, A3, c3, g3, by omega, rfl, by go_num, ?_, ?_, ?_⟩, by simp [intOf]; omega⟩
      · rw [← Nat.add_assoc, marks_succ, ← List.append_assoc, List.map_append]
        have e : List.map bn [201 + m] = [Value.int .u8 (201 + (m : Int))] := by simp [bn]
        rw [e]; simpa [List.map_append] using hO3
      · intro b hb
        have := hf.size
        rcases hg3 with rfl | ⟨b', rfl, h⟩
        · exact hg b hb
        · cases hb; omega
      · exact (hf.alloc _).comp hf3 fun i hi e => by have := hg i e.symm; omega
    · obtain rfl : m = 4 := by omega
      have hcc := hO.cap
      have hc1 := hcc.1
      have hc2 : c2 ≤ 9223372036854775807 := by have := hcc.2; unfold maxLen at this; exact this
      clear hcc
      go_wp2_with fail
      go_ret
      obtain ⟨hl, ⟨_, h0, _⟩ | ⟨b, o, cur, hA2, rfl, r⟩⟩ := id hO
      · omega
      · exact ⟨A2, c2, b, rfl, hO, hg b rfl, hf⟩

set_option maxHeartbeats 1000000 in
set_option maxRecDepth 4000 in
theorem kept29_true (w : World) (xs : List Nat) (A B : Option Addr) (n c d : Nat) (g : Nat) (hn : n ≤ 140737488355000) (hl : n = xs.length) (hL : Lent29 w A n c xs g) (hB : Sl w 1 B n (xs.map bn)) :
    Calls Try.prog 15 #[.slice A n c, .slice B n d] w fun e w' => e = .returned (.bool true) ∧ Fr (fun _ => False) w w' := by
  have hS : ∀ w', Fr (fun _ => False) w w' → Sl w' 1 A n (xs.map bn) := fun w' hf => by
    have := ((hL.fr hf (fun _ _ => id)).take (k := n) (by omega)).sl
    rwa [Nat.mul_one, List.map_append, List.take_left' (by simp [hl])] at this
  have hB' : ∀ w', Fr (fun _ => False) w w' → Sl w' 1 B n (xs.map bn) := fun w' hf => hB.below hf (fun _ _ => id)
  have hcap := hL.cap
  have hc1 := hcap.1
  have hc2 : c ≤ 9223372036854775807 := by have := hcap.2; unfold maxLen at this; exact this
  clear hcap
  have Hl := hide hl
  have HS := hide hS
  have HB := hide hB'
  clear hl hS hB' hB
  go_enter Try.func15, Try.ntmps15
  go_wp2_with fail
  go_loopw [6] (fun i wr => ∃ (k : Nat), k ≤ 4 ∧ i = .int .i64 k ∧ Fr (fun _ => False) w wr) (fun i _ => 4 - (intOf i).toNat)
  case atStart => exact ⟨0, by omega, rfl, Fr.refl _ _⟩
  case round =>
    obtain ⟨k, hk, rfl, hfr⟩ := hrel
    by_cases hlt : k < 4
    · have hu : ((xs ++ marks 4).map bn)[n + k]? = some (.int .u8 (201 + (k : Int))) := by
        have hl := Hl.out
        rw [List.getElem?_map, List.getElem?_append_right (by omega), hl, Nat.add_sub_cancel_left]
        simp [marks, hlt, bn]
      obtain ⟨b, o, rfl, hgb, c0, -⟩ := (hL.fr hfr (fun _ _ => id)).look hu
      clear hu hgb
      go_wp2_with fail
      exact ⟨⟨k + 1, by omega, by go_num, hfr⟩, by simp [intOf]; omega⟩
    · have hb := bytes29_true wr xs A B c d n Hl.out (by omega) (HS.out wr hfr) (HB.out wr hfr)
      go_wp2_with fail
      refine hb.mono ?_
      rintro e w1 ⟨rfl, hf1⟩
      go_wp2_with fail
      go_ret
      exact ⟨rfl, hfr.trans hf1⟩
end Go.Proofs.Ytlcjhbemgagchaa
end
