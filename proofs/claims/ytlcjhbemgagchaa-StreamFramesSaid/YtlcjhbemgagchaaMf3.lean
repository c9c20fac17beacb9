/-
  Texts merged into one, to keep the claim small: TlvSpec, TlvShort.
-/
import Derived.Test.YtlcjhbemgagchaaOwn
import Derived.Test.YtlcjhbemgagchaaRows
import Derived.WalkLawsBesides
import Derived.WalkSpells
import Derived.Deep.QuietTactic
import Derived.BigQuiet
import Derived.Laws.BitsAllLaws
import Derived.Laws.BitsLemmas
section
/-
  tlv: what the functions compute, in plain lists of numbers. No program in sight.
-/
namespace Go.Proofs.Ytlcjhbemgagchaa
set_option linter.unusedVariables false

/-- 2^64, behind a name. -/
def U64 : Nat := 18446744073709551616
theorem U64_eq : U64 = 18446744073709551616 := rfl
/-- A short number. -/
def short (n : Nat) : List Nat := if h : n < 128 then [n] else (n % 128 + 128) :: short (n / 128)
termination_by n
decreasing_by omega
theorem short_small {n : Nat} (h : n < 128) : short n = [n] := by rw [short, dif_pos h]
theorem short_big {n : Nat} (h : ¬ n < 128) : short n = (n % 128 + 128) :: short (n / 128) := by rw [short, dif_neg h]
theorem short_len : ∀ (k n : Nat), n < 128 ^ (k + 1) → 1 ≤ (short n).length ∧ (short n).length ≤ k + 1
  | 0, n, h => by rw [short_small (by omega)]; simp
  | k + 1, n, h => by
    by_cases hn : n < 128
    · rw [short_small hn]; simp
    · rw [short_big hn]
      have := short_len k (n / 128) (by rw [Nat.pow_succ] at h; omega)
      simp; omega
theorem short_le {n : Nat} (h : n < U64) : 1 ≤ (short n).length ∧ (short n).length ≤ 10 := short_len 9 n (by have : (128 : Nat) ^ 10 = 1180591620717411303424 := rfl; unfold U64 at h; omega)
theorem short_bytes : ∀ (k n : Nat), n ≤ k → ∀ x ∈ short n, x < 256
  | 0, n, h, x, hx => by rw [short_small (by omega)] at hx; simp at hx; omega
  | k + 1, n, h, x, hx => by
    by_cases hn : n < 128
    · rw [short_small hn] at hx; simp at hx; omega
    · rw [short_big hn] at hx
      simp at hx
      rcases hx with rfl | hx
      · omega
      · exact short_bytes k (n / 128) (by omega) x hx

/-- A short number read: k bytes are behind, n is their worth; the number, how many bytes it has, what is wrong. -/
def readF : Nat → Nat → Nat → List Nat → Nat × Nat × Nat
  | 0, _, _, _ => (0, 0, 20)
  | _ + 1, _, _, [] => (0, 0, 22)
  | f + 1, k, n, c :: l =>
    if k = 9 ∧ 1 < c then (0, 0, 20)
    else if c < 128 then (if 0 < k ∧ c = 0 then (0, 0, 20) else (n + c % 128 * 128 ^ k, k + 1, 0))
    else readF f (k + 1) (n + c % 128 * 128 ^ k) l
/-- ReadShort: the number, the place behind it, the error. -/
def readShort (b : List Nat) (at_ : Int) : Nat × Int × Int :=
  if at_ < 0 ∨ (b.length : Int) < at_ then (0, 0, 2)
  else
    let r := readF 10 0 0 (b.drop at_.toNat)
    if r.2.2 = 0 then (r.1, at_ + r.2.1, 0) else (0, 0, r.2.2)
end Go.Proofs.Ytlcjhbemgagchaa
end

section
/-
  tlv.Short, the reference's Short; same, over.
-/
namespace Go.Proofs.Ytlcjhbemgagchaa
open Go.RowKit
set_option linter.unusedVariables false

/-- A byte. -/
def bn (x : Nat) : Value := .int .u8 (x : Int)
theorem bn_one (xs : List Nat) : ∀ u ∈ xs.map bn, u.oneCell' = true := by
  intro u hu; obtain ⟨_, _, rfl⟩ := List.mem_map.1 hu; rfl
theorem Sl.one (w : World) (v : Value) (t : TypeId) : Sl (w.alloc (.cells #[v] t)) 1 (some ⟨w.heap.size, 0, none⟩) 1 [v] :=
  ⟨by simp, fun _ => ⟨w.heap.size, 0, rfl, fun j u hu => by
    have h := (Bl.new w t #[v]).cell j
    simp only [Nat.zero_add]
    rw [h]; simpa using hu⟩⟩
theorem info5 : (Try.prog.info? 5).map (fun i => (i.zero, i.size, i.bytes)) = some (some (.int .u8 0), 1, 1) := by kernel_rfl
theorem or128_nat : ∀ m : Fin 256, m.val ||| 128 = m.val % 128 + 128 := by decide +kernel
theorem or128 (y : Nat) : bits .or .u8 ((y : Int) % 256) 128 = (y : Int) % 128 + 128 := by
  have h := or128_nat ⟨y % 256, by omega⟩
  simp only at h
  have e : ((y : Int) % 256) = ((y % 256 : Nat) : Int) := by omega
  rw [e, show (128 : Int) = ((128 : Nat) : Int) from rfl, u8_or_nat _ _ (by omega) (by omega), h]
  omega

/-- Behind Short: a slice of its own, as long as its room. -/
def ShortPost (xs : List Nat) (w : World) (e : Ending) (w' : World) : Prop :=
  ∃ A c g, e = .returned (.slice A xs.length c) ∧ Ow w' 5 1 A xs.length c (xs.map bn) g ∧ (∀ b, g = some b → w.heap.size ≤ b) ∧ Fr (fun _ => False) w w'

set_option maxHeartbeats 1000000 in
set_option maxRecDepth 4000 in
theorem rshort_any (w : World) (x : Nat) (hx : x < U64) : Calls Try.prog 114 #[.int .u64 (x : Int)] w (ShortPost (short x) w) := by
  obtain ⟨i0, hi, hz0, hz1, hz2⟩ := info_parts info5
  have hlen := short_le hx
  go_enter Try.func114, Try.ntmps114
  go_wp2_with fail
  go_loopw [0, 3] (fun s v wr => ∃ (y : Nat) (done : List Nat) (A : Option Addr) (c : Nat) (g : Option Nat), s = .int .u64 (y : Int) ∧ v = .slice A done.length c ∧ y < U64 ∧
    Hid (done ++ short y = short x) ∧ Ow wr 5 1 A done.length c (done.map bn) g ∧ (∀ b, g = some b → w.heap.size ≤ b) ∧ Fr (fun _ => False) w wr) (fun s _ _ => (intOf s).toNat)
  case atStart => exact ⟨x, [], none, 0, none, rfl, rfl, hx, rfl, Ow.nil_ _ _ _, (fun b h => by cases h), Fr.refl _ _⟩
  case round =>
    obtain ⟨y, done, A, c, g, rfl, rfl, hy, hD, hO, hg, hf⟩ := hrel
    have hdl : done.length + 1 ≤ 10 := by
      have h1 := congrArg List.length hD.out
      have h2 := short_le hy
      rw [List.length_append] at h1; omega
    have hu : IntKind.u64.wrap ((y : Int) % 128) = (y : Int) % 128 := IntWalk.u64_in _ (by unfold U64 at hy; omega)
    have hu2 : IntKind.u64.wrap ((y : Int) / 128) = (y : Int) / 128 := IntWalk.u64_in _ (by unfold U64 at hy; omega)
    have hu3 : (y : Int).tmod 128 = (y : Int) % 128 := Int.tmod_eq_emod_of_nonneg (by omega)
    have hu4 : (y : Int).tdiv 128 = (y : Int) / 128 := Int.tdiv_eq_ediv_of_nonneg (by omega)
    have hu5 : IntKind.u8.wrap ((y : Int) % 128) = (y : Int) % 128 := IntWalk.u8_in _ (by omega)
    have hu6 : IntKind.u8.wrap ((y : Int) % 128 + 128) = (y : Int) % 128 + 128 := IntWalk.u8_in _ (by omega)
    by_cases hb : y < 128
    · have hsm : Hid (done ++ [y] = short x) := by rw [← hD.out, short_small hb]; rfl
      go_wp2_with (at_builtin; refine wpList_append_ow _ rfl _ _ 22 rfl 5 i0 (.int .u8 0) 1 1 Try.underlying22 hi hz0 hz1 hz2 rfl (by decide) _ _ _ _ _ rfl (hO.fr ((Fr.refl _ _).alloc _) (fun _ _ => id)) _ _ _ _ rfl (Sl.one _ _ _) (bn_one [_]) (by unfold maxLen; omega) (by omega) ?_)
      intro A2 c2 w2 g2 hO2 hf2 hg2
      go_wp2_with fail
      go_ret
      refine ⟨A2, c2, g2, ?_, ?_, ?_, ?_⟩
      · rw [← hsm.out]; simp
      · rw [← hsm.out]; simpa [bn] using hO2
      · intro b hb'
        have := hf.size
        rcases hg2 with rfl | ⟨b', rfl, h⟩
        · exact hg b hb'
        · cases hb'; omega
      · exact (hf.alloc _).comp hf2 fun i hi e => by have := hg i e.symm; omega
    · have hsm : Hid (done ++ [y % 128 + 128] ++ short (y / 128) = short x) := by rw [← hD.out, short_big hb]; simp [hide]
      go_wp2_with (at_builtin; refine wpList_append_ow _ rfl _ _ 22 rfl 5 i0 (.int .u8 0) 1 1 Try.underlying22 hi hz0 hz1 hz2 rfl (by decide) _ _ _ _ _ rfl (hO.fr ((Fr.refl _ _).alloc _) (fun _ _ => id)) _ _ _ _ rfl (Sl.one _ _ _) (bn_one [_]) (by unfold maxLen; omega) (by omega) ?_)
      intro A2 c2 w2 g2 hO2 hf2 hg2
      go_wp2_with fail
      go_roundw
      case rel =>
        refine ⟨y / 128, done ++ [y % 128 + 128], A2, c2, g2, by go_num, by simp, ?_, hsm, ?_, ?_, ?_⟩
        · unfold U64 at hy ⊢; omega
        · simpa [bn] using hO2
        · intro b hb'
          have := hf.size
          rcases hg2 with rfl | ⟨b', rfl, h⟩
          · exact hg b hb'
          · cases hb'; omega
        · exact (hf.alloc _).comp hf2 fun i hi e => by have := hg i e.symm; omega
      case measure => simp [intOf]; omega

set_option maxHeartbeats 1000000 in
set_option maxRecDepth 4000 in
theorem short_any (w : World) (x : Nat) (hx : x < U64) : Calls Try.prog 109 #[.int .u64 (x : Int)] w (ShortPost (short x) w) := by
  obtain ⟨i0, hi, hz0, hz1, hz2⟩ := info_parts info5
  have hlen := short_le hx
  have hmk : ∀ w : World, (Instr.makeSlice 22 (.int .i64 0) (.int .i64 10)).run Try.prog w = .ok (.slice (some ⟨w.heap.size, 0, none⟩) 0 10) (w.alloc (.cells #[.int .u8 0, .int .u8 0, .int .u8 0, .int .u8 0, .int .u8 0, .int .u8 0, .int .u8 0, .int .u8 0, .int .u8 0, .int .u8 0] 5)) := fun _ => by kernel_rfl
  go_enter Try.func109, Try.ntmps109
  go_wp2_with fail
  clear hmk
  go_loopw [0, 3] (fun s v wr => ∃ (y : Nat) (done : List Nat) (A : Option Addr) (c : Nat) (g : Option Nat), s = .int .u64 (y : Int) ∧ v = .slice A done.length c ∧ y < U64 ∧
    Hid (done ++ short y = short x) ∧ Ow wr 5 1 A done.length c (done.map bn) g ∧ (∀ b, g = some b → w.heap.size ≤ b) ∧ Fr (fun _ => False) w wr) (fun s _ _ => (intOf s).toNat)
  case atStart => exact ⟨x, [], _, 10, _, rfl, rfl, hx, rfl, Ow.made w 5 1 0 10 _ [] rfl (by omega) (by unfold maxLen; omega) (by simp), (fun b h => by cases h; exact Nat.le_refl _), (Fr.refl _ _).alloc _⟩
  case round =>
    obtain ⟨y, done, A, c, g, rfl, rfl, hy, hD, hO, hg, hf⟩ := hrel
    have hdl : done.length + 1 ≤ 10 := by
      have h1 := congrArg List.length hD.out
      have h2 := short_le hy
      rw [List.length_append] at h1; omega
    have hu1 : IntKind.u8.wrap (y : Int) = (y : Int) % 256 := by rw [IntKind.wrap_u8]
    have hu2 := or128 y
    by_cases hb : y < 128
    · have hsm : Hid (done ++ [y] = short x) := by rw [← hD.out, short_small hb]; rfl
      have hb' : ¬ 127 < y := by omega
      clear hu1 hu2
      have hu1 : IntKind.u8.wrap (y : Int) = (y : Int) := IntWalk.u8_in _ (by omega)
      go_wp2_with (at_builtin; refine wpList_append_ow _ rfl _ _ 22 rfl 5 i0 (.int .u8 0) 1 1 Try.underlying22 hi hz0 hz1 hz2 rfl (by decide) _ _ _ _ _ rfl (hO.fr ((Fr.refl _ _).alloc _) (fun _ _ => id)) _ _ _ _ rfl (Sl.one _ _ _) (bn_one [_]) (by unfold maxLen; omega) (by omega) ?_)
      intro A2 c2 w2 g2 hO2 hf2 hg2
      have hcc := hO2.cap
      have hc1 := hcc.1
      have hc2 := hcc.2
      unfold maxLen at hc2
      clear hcc
      go_wp2_with fail
      go_ret
      refine ⟨A2, (short x).length, g2, ?_, ?_, ?_, ?_⟩
      · rw [← hsm.out]; simp
      · rw [← hsm.out]; simpa [bn] using hO2.clip
      · intro b hb'
        have := hf.size
        rcases hg2 with rfl | ⟨b', rfl, h⟩
        · exact hg b hb'
        · cases hb'; omega
      · exact (hf.alloc _).comp hf2 fun i hi e => by have := hg i e.symm; omega
    · have hsm : Hid (done ++ [y % 128 + 128] ++ short (y / 128) = short x) := by rw [← hD.out, short_big hb]; simp [hide]
      have hb' : 127 < y := by omega
      go_wp2_with (at_builtin; refine wpList_append_ow _ rfl _ _ 22 rfl 5 i0 (.int .u8 0) 1 1 Try.underlying22 hi hz0 hz1 hz2 rfl (by decide) _ _ _ _ _ rfl (hO.fr ((Fr.refl _ _).alloc _) (fun _ _ => id)) _ _ _ _ rfl (Sl.one _ _ _) (bn_one [_]) (by unfold maxLen; omega) (by omega) ?_)
      intro A2 c2 w2 g2 hO2 hf2 hg2
      go_wp2_with fail
      go_roundw
      case rel =>
        refine ⟨y / 128, done ++ [y % 128 + 128], A2, c2, g2, by go_num, by simp, ?_, hsm, ?_, ?_, ?_⟩
        · unfold U64 at hy ⊢; omega
        · simpa [bn] using hO2
        · intro b hb'
          have := hf.size
          rcases hg2 with rfl | ⟨b', rfl, h⟩
          · exact hg b hb'
          · cases hb'; omega
        · exact (hf.alloc _).comp hf2 fun i hi e => by have := hg i e.symm; omega
      case measure => simp [intOf]; omega
end Go.Proofs.Ytlcjhbemgagchaa
end
