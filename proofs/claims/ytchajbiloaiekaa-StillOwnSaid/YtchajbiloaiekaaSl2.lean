/-
  Update, Sum; put, number.
-/
import Derived.Test.YtchajbiloaiekaaSl1
namespace Go.Proofs.Ytchajbiloaiekaa
open Go.RowKit
set_option linter.unusedVariables false
theorem notI (r : Nat) (hr : r < B64) : bits .xor .u64 IntKind.u64.max (r : Int) = (notN r : Int) := by
  rw [show IntKind.u64.max = ((18446744073709551615 : Nat) : Int) from by decide]
  exact u64_xor_nat 18446744073709551615 r (by omega) (by unfold B64 at hr; omega)
theorem update_any (w : World) (r : Nat) (hr : r < B64) (A : Option Addr) (n c : Nat) (xs : List Nat) (hx : ∀ x ∈ xs, x < 256) (hn : xs.length = n) (hm : n ≤ 4611686018427387904) (hA : Sl w 1 A n (xs.map bn)) :
    Calls Try.prog 41 #[.int .u64 (r : Int), .slice A n c] w fun e w' => e = .returned (.int .u64 (notN (takeN (notN r) xs) : Int)) ∧ Fr (fun _ => False) w w' := by
  have h1 := notI r hr
  have h2 := notI (takeN (notN r) xs) (takeN_lt (notN_lt hr) hx)
  have ht := take_any w (notN r) (notN_lt hr) A n c xs hx hn hm hA
  obtain ⟨y, hy⟩ : ∃ y, takeN (notN r) xs = y := ⟨_, rfl⟩
  rw [hy] at h2 ht ⊢
  obtain ⟨z, hz⟩ : ∃ z, notN y = z := ⟨_, rfl⟩
  rw [hz] at h2 ⊢
  obtain ⟨r1, hr1⟩ : ∃ r1, notN r = r1 := ⟨_, rfl⟩
  rw [hr1] at h1 ht
  clear hn hx hA hy hz hr1
  go_enter Try.func41, Try.ntmps41
  go_wp2_with fail
  refine ht.mono ?_
  rintro e w' ⟨rfl, hf⟩
  go_wp2_with fail
  go_ret
  exact ⟨rfl, hf⟩
theorem sum_any (w : World) (A : Option Addr) (n c : Nat) (xs : List Nat) (hx : ∀ x ∈ xs, x < 256) (hn : xs.length = n) (hm : n ≤ 4611686018427387904) (hA : Sl w 1 A n (xs.map bn)) :
    Calls Try.prog 40 #[.slice A n c] w fun e w' => e = .returned (.int .u64 (sumN xs : Int)) ∧ Fr (fun _ => False) w w' := by
  have ht := update_any w 0 (by decide) A n c xs hx hn hm hA
  obtain ⟨z, hz⟩ : ∃ z, notN (takeN (notN 0) xs) = z := ⟨_, rfl⟩
  unfold sumN
  rw [hz] at ht ⊢
  clear hn hx hA hz
  go_enter Try.func40, Try.ntmps40
  go_wp2_with fail
  refine ht.mono ?_
  rintro e w' ⟨rfl, hf⟩
  go_wp2_with fail
  go_ret
  exact ⟨rfl, hf⟩
theorem beP_cons : ∀ (k v : Nat), beP (k + 1) v = (v / 256 ^ k % 256) :: beP k v
  | 0, v => by simp [beP]
  | k + 1, v => by
    rw [beP, beP_cons k (v / 256), beP, Nat.div_div_eq_div_mul, List.cons_append, Nat.pow_succ, Nat.mul_comm 256]
theorem set_mid {α : Type} (a b : List α) (x y : α) (i : Nat) (h : i = a.length) : (a ++ x :: b).set i y = a ++ y :: b := by
  subst h; simp
/-- What put has laid down after k rounds. -/
def putC (pre mid post : List Value) (m v k : Nat) : List Value := pre ++ ((mid.take (m - k) ++ (beP k v).map bn) ++ post)
theorem putC_next {pre mid post : List Value} {m v k o : Nat} (ho : pre.length = o) (hm : mid.length = m) (hk : k < m) : (putC pre mid post m v k).set (o + (m - 1 - k)) (.int .u8 ((v / 256 ^ k % 256 : Nat) : Int)) = putC pre mid post m v (k + 1) := by
  unfold putC
  obtain ⟨x, hx⟩ : ∃ x, mid[m - (k + 1)]? = some x := ⟨_, List.getElem?_eq_getElem (by omega)⟩
  have e : mid.take (m - k) = mid.take (m - (k + 1)) ++ [x] := by
    rw [show m - k = (m - (k + 1)) + 1 by omega, List.take_add_one, hx]; rfl
  rw [e, beP_cons]
  have := set_mid (pre ++ mid.take (m - (k + 1))) ((beP k v).map bn ++ post) x (.int .u8 ((v / 256 ^ k % 256 : Nat) : Int)) (o + (m - 1 - k)) (by rw [List.length_append, List.length_take, ho, hm]; omega)
  simpa [bn] using this
set_option maxHeartbeats 2000000 in
theorem put_any (w : World) (g : Nat) (t : TypeId) (pre mid post : List Value) (o m c v : Nat) (hv : v < B64) (ho : pre.length = o) (hm : mid.length = m) (h8 : m ≤ 8) (hB : Bl w g t (pre ++ (mid ++ post)).toArray) (hl : o ≤ 1000000) :
    Calls Try.prog 39 #[.slice (some ⟨g, o, none⟩) m c, .int .u64 (v : Int)] w fun e w' => e = .returned (.tuple #[]) ∧ Bl w' g t (pre ++ ((beP m v).map bn ++ post)).toArray ∧ Fr (fun x => x = g) w w' := by
  have hB0 : Hid (Bl w g t (putC pre mid post m v 0).toArray) := by
    show Bl w g t _
    unfold putC
    rw [Nat.sub_zero, List.take_of_length_le (by omega)]
    simpa [beP] using hB
  have Hm := hide hm
  have Ho := hide ho
  clear hB hm ho
  go_enter Try.func39, Try.ntmps39
  go_wp2_with fail
  go_loopw [7] (fun i wr => ∃ k : Nat, i = .int .i64 (k : Int) ∧ k ≤ m ∧ Bl wr g t (putC pre mid post m v k).toArray ∧ Fr (fun x => x = g) w wr) (fun i _ => m - (intOf i).toNat)
  case atStart => exact ⟨0, rfl, Nat.zero_le _, hB0.out, Fr.refl _ _⟩
  case round =>
    obtain ⟨k, rfl, hk, hB, hF⟩ := hrel
    clear hB0
    have HB := hide hB
    have HF := hide hF
    by_cases hlt : k < m
    · obtain ⟨u, hu⟩ : ∃ u, (putC pre mid post m v k)[o + (m - 1 - k)]? = some u := ⟨_, List.getElem?_eq_getElem (by
        unfold putC; simp only [List.length_append, List.length_take, List.length_map, beP_len, Ho.out, Hm.out]; omega)⟩
      obtain ⟨j, hj⟩ : ∃ j, m - 1 - k = j := ⟨_, rfl⟩
      rw [hj] at hu
      have cu : wr.cell? ⟨g, o + j, none⟩ = some u := hB.cell' (by simpa using hu)
      have zu := hB.free (o + j)
      have i1 : IntKind.i64.wrap ((m : Int) - 1) = (m : Int) - 1 := IntWalk.i64_in _ (by omega)
      have i2 : IntKind.i64.wrap ((m : Int) - 1 - (k : Int)) = (j : Int) := by rw [show (m : Int) - 1 - (k : Int) = (j : Int) by omega]; exact IntWalk.i64_in _ (by omega)
      have i3 : (0 : Int) ≤ (j : Int) := by omega
      have i4 : (j : Int) < (m : Int) := by omega
      have i5 : IntKind.i64.wrap (8 * (k : Int)) = ((8 * k : Nat) : Int) := by rw [show 8 * (k : Int) = ((8 * k : Nat) : Int) by omega]; exact IntWalk.i64_in _ (by omega)
      clear hB hF hu
      go_wp2_with fail
      have ev : (v : Int) / 2 ^ (8 * k) % 256 = ((v / 256 ^ k % 256 : Nat) : Int) := by
        rw [show (256 : Nat) = 2 ^ 8 from rfl, ← Nat.pow_mul]; simp
      refine ⟨⟨k + 1, by go_num, hlt, ?_, HF.out.setAt _⟩, by simp [intOf]; omega⟩
      rw [ev, ← putC_next Ho.out Hm.out hlt, hj]
      have := HB.out.set (o + j) (.int .u8 ((v / 256 ^ k % 256 : Nat) : Int))
      simpa using this
    · obtain rfl : k = m := by omega
      go_wp2_with fail
      refine bodyPost_end (results_none rfl _ _ _) rfl ?_
      have h2 := HB.out
      unfold putC at h2
      rw [Nat.sub_self, List.take_zero, List.nil_append] at h2
      exact ⟨rfl, h2, HF.out⟩
theorem orI (a x : Nat) (ha : a < 72057594037927936) (hx : x < 256) : bits .or .u64 ((a * 256 : Nat) : Int) (x : Int) = ((a * 256 + x : Nat) : Int) := by
  rw [u64_or_nat _ _ (by omega) (by omega)]
  have h := Nat.shiftLeft_add_eq_or_of_lt (b := x) (i := 8) (by omega) a
  rw [Nat.shiftLeft_eq] at h
  rw [← h]
theorem beG_take {xs : List Nat} {k x : Nat} (h : xs[k]? = some x) : beG (xs.take (k + 1)) = beG (xs.take k) * 256 + x := by
  rw [List.take_add_one, h]; exact beG_snoc _ _
set_option maxHeartbeats 2000000 in
theorem number_any (w : World) (A : Option Addr) (n c : Nat) (xs : List Nat) (hx : ∀ x ∈ xs, x < 256) (hn : xs.length = n) (h8 : n ≤ 8) (hA : Sl w 1 A n (xs.map bn)) :
    Calls Try.prog 35 #[.slice A n c] w fun e w' => e = .returned (.int .u64 (beG xs : Int)) ∧ w = w' := by
  have Hn := hide hn
  clear hn
  go_enter Try.func35, Try.ntmps35
  go_wp2_with fail
  go_loopw [2, 7] (fun v i wr => ∃ (k y : Nat), i = .int .i64 (k : Int) ∧ k ≤ n ∧ v = .int .u64 (y : Int) ∧ y = beG (xs.take k) ∧ wr = w) (fun _ i _ => n - (intOf i).toNat)
  case atStart => exact ⟨0, 0, rfl, Nat.zero_le _, rfl, rfl, rfl⟩
  case round =>
    obtain ⟨k, y, rfl, hk, rfl, hy, rfl⟩ := hrel
    have Hy := hide hy
    clear hy
    by_cases hlt : k < n
    · have hkx : k < xs.length := by rw [Hn.out]; exact hlt
      obtain ⟨x, hxk⟩ : ∃ x, xs[k]? = some x := ⟨_, List.getElem?_eq_getElem hkx⟩
      have hx0 : x < 256 := hx x (List.mem_of_getElem? hxk)
      obtain ⟨b, o, rfl, cx⟩ := hA.at_ (j := k) (u := .int .u8 (x : Int)) (by rw [List.getElem?_map, hxk]; rfl)
      have hyb : y < 72057594037927936 := by
        have h1 := beG_lt0 (xs := xs.take k) (fun z hz => hx z (List.mem_of_mem_take hz))
        rw [← Hy.out, List.length_take] at h1
        have h2 : 256 ^ min k xs.length ≤ 256 ^ 7 := Nat.pow_le_pow_right (by omega) (by omega)
        omega
      have i1 : (0 : Int) ≤ (k : Int) := by omega
      have iw : IntKind.u64.wrap (x : Int) = (x : Int) := IntWalk.u64_in _ ⟨by omega, by omega⟩
      have is1 : IntKind.u64.wrap ((y : Int) * 256) = (y : Int) * 256 := IntWalk.u64_in _ ⟨by omega, by omega⟩
      have io : bits .or .u64 ((y : Int) * 256) (x : Int) = ((y * 256 + x : Nat) : Int) := by have := orI y x hyb hx0; rw [show ((y * 256 : Nat) : Int) = (y : Int) * 256 by omega] at this; exact this
      obtain ⟨y2, hy2⟩ : ∃ y2, y * 256 + x = y2 := ⟨_, rfl⟩
      rw [hy2] at io
      have He : Hid (y2 = beG (xs.take (k + 1))) := by show y2 = _; rw [beG_take hxk, ← Hy.out, hy2]
      clear hy2 hxk hx0 hyb
      go_wp2_with fail
      exact ⟨⟨k + 1, y2, by go_num, hlt, rfl, He.out, trivial⟩, by simp [intOf]; omega⟩
    · obtain rfl : k = n := by omega
      go_wp2_with fail
      go_ret
      have e : y = beG xs := by rw [Hy.out, List.take_of_length_le (by rw [Hn.out]; exact Nat.le_refl _)]
      rw [e]
      exact ⟨rfl, rfl⟩
end Go.Proofs.Ytchajbiloaiekaa
