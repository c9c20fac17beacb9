/-
  The check sum: step, table, take, Sum.
-/
import Derived.Test.YtchajbiloaiekaaSl0
import Derived.Test.YtchajbiloaiekaaBy
import Derived.Test.YtchajbiloaiekaaRow
import Derived.Laws.BitsAllLaws
import Derived.Laws.Rows
namespace Go.Proofs.Ytchajbiloaiekaa
open Go.RowKit
set_option linter.unusedVariables false
theorem and1_eq (r : Nat) (hr : r < B64) : bits .and .u64 (r : Int) 1 = ((r % 2 : Nat) : Int) := by
  have := u64_and_nat r 1 (by unfold B64 at hr; omega) (by omega)
  rw [Nat.and_one_is_mod] at this
  exact this
theorem and15_eq (r : Nat) (hr : r < B64) : bits .and .u64 (r : Int) 15 = ((r % 16 : Nat) : Int) := by
  have := u64_and_nat r 15 (by unfold B64 at hr; omega) (by omega)
  rw [show (15 : Nat) = 2 ^ 4 - 1 from rfl, Nat.and_two_pow_sub_one_eq_mod] at this
  exact this
theorem stepI (r : Nat) (hr : r < B64) : bits .xor .u64 ((r : Int) / 2) (bits .and .u64 14514072000185962306 (IntKind.u64.wrap (-bits .and .u64 (r : Int) 1))) = (stepN r : Int) := by
  rw [and1_eq r hr]
  have e2 : (r : Int) / 2 = ((r / 2 : Nat) : Int) := by omega
  rw [e2]
  unfold stepN
  rcases Nat.mod_two_eq_zero_or_one r with h | h
  · rw [h, if_neg (by omega)]
    have e3 : bits .and .u64 14514072000185962306 (IntKind.u64.wrap (-((0 : Nat) : Int))) = ((0 : Nat) : Int) := by decide +kernel
    rw [e3]
    exact u64_xor_nat _ 0 (by unfold B64 at hr; omega) (by omega)
  · rw [h, if_pos rfl]
    have e3 : bits .and .u64 14514072000185962306 (IntKind.u64.wrap (-((1 : Nat) : Int))) = ((polyN : Nat) : Int) := by decide +kernel
    rw [e3]
    exact u64_xor_nat _ polyN (by unfold B64 at hr; omega) (by decide)
theorem step_any (w : World) (r : Nat) (hr : r < B64) : Calls Try.prog 44 #[.int .u64 (r : Int)] w fun e w' => e = .returned (.int .u64 (stepN r : Int)) ∧ w = w' := by
  have hs := stepI r hr
  go_enter Try.func44, Try.ntmps44
  go_wp2
  go_ret
  exact ⟨rfl, rfl⟩
def tv (r : Nat) : Value := .int .u64 (r : Int)
def tabs (k : Nat) : List Value := (List.range k).map (fun i => tv (tabN i)) ++ List.replicate (16 - k) (tv 0)
abbrev tTab : TypeId := 80
theorem tabs_len (k : Nat) (h : k ≤ 16) : (tabs k).length = 16 := by simp [tabs]; omega
theorem tabs_next (k : Nat) (h : k < 16) : (tabs k).set k (tv (tabN k)) = tabs (k + 1) := by
  unfold tabs
  apply List.ext_getElem?
  intro j
  rw [List.getElem?_set]
  simp only [List.length_append, List.length_map, List.length_range, List.length_replicate]
  by_cases hj : k = j
  · subst hj
    rw [if_pos rfl, if_pos (by omega), List.getElem?_append_left (by simp)]
    simp
  · rw [if_neg hj]
    by_cases hj2 : j < k
    · rw [List.getElem?_append_left (by simpa using hj2), List.getElem?_append_left (by simp; omega)]
      simp [hj2, show j < k + 1 by omega]
    · rw [List.getElem?_append_right (by simp; omega), List.getElem?_append_right (by simp; omega)]
      simp only [List.length_map, List.length_range, List.getElem?_replicate]
      by_cases hj3 : j < 16
      · rw [if_pos (by omega), if_pos (by omega)]
      · rw [if_neg (by omega), if_neg (by omega)]
set_option maxHeartbeats 1000000 in
theorem table_any (w : World) : Calls Try.prog 43 #[] w fun e w' => e = .returned (.agg (tabs 16).toArray) ∧ Fr (fun _ => False) w w' := by
  obtain ⟨s, hs⟩ : ∃ s, w.heap.size = s := ⟨_, rfl⟩
  have Hs := hide hs
  have hz : Hid ((#[.int .u64 0, .int .u64 0, .int .u64 0, .int .u64 0, .int .u64 0, .int .u64 0, .int .u64 0, .int .u64 0, .int .u64 0, .int .u64 0, .int .u64 0, .int .u64 0, .int .u64 0, .int .u64 0, .int .u64 0, .int .u64 0] : Array Value) = (tabs 0).toArray) := rfl
  go_enter Try.func43, Try.ntmps43
  go_wp2_with fail
  have hR : Bl ((w.alloc (.cells #[.int .u64 0, .int .u64 0, .int .u64 0, .int .u64 0, .int .u64 0, .int .u64 0, .int .u64 0, .int .u64 0, .int .u64 0, .int .u64 0, .int .u64 0, .int .u64 0, .int .u64 0, .int .u64 0, .int .u64 0, .int .u64 0] 80)).alloc (.cells #[.int .u64 0, .int .u64 0, .int .u64 0, .int .u64 0, .int .u64 0, .int .u64 0, .int .u64 0, .int .u64 0, .int .u64 0, .int .u64 0, .int .u64 0, .int .u64 0, .int .u64 0, .int .u64 0, .int .u64 0, .int .u64 0] 80)) s tTab (tabs 0).toArray := by rw [← hz.out]; exact (Bl.newAt hs.symm).alloc _
  have hT : Bl ((w.alloc (.cells #[.int .u64 0, .int .u64 0, .int .u64 0, .int .u64 0, .int .u64 0, .int .u64 0, .int .u64 0, .int .u64 0, .int .u64 0, .int .u64 0, .int .u64 0, .int .u64 0, .int .u64 0, .int .u64 0, .int .u64 0, .int .u64 0] 80)).alloc (.cells #[.int .u64 0, .int .u64 0, .int .u64 0, .int .u64 0, .int .u64 0, .int .u64 0, .int .u64 0, .int .u64 0, .int .u64 0, .int .u64 0, .int .u64 0, .int .u64 0, .int .u64 0, .int .u64 0, .int .u64 0, .int .u64 0] 80)) (s + 1) tTab (tabs 0).toArray := by rw [← hz.out]; exact Bl.newAt (by simp [hs])
  have hF : Fr (fun _ => False) w ((w.alloc (.cells #[.int .u64 0, .int .u64 0, .int .u64 0, .int .u64 0, .int .u64 0, .int .u64 0, .int .u64 0, .int .u64 0, .int .u64 0, .int .u64 0, .int .u64 0, .int .u64 0, .int .u64 0, .int .u64 0, .int .u64 0, .int .u64 0] 80)).alloc (.cells #[.int .u64 0, .int .u64 0, .int .u64 0, .int .u64 0, .int .u64 0, .int .u64 0, .int .u64 0, .int .u64 0, .int .u64 0, .int .u64 0, .int .u64 0, .int .u64 0, .int .u64 0, .int .u64 0, .int .u64 0, .int .u64 0] 80)) := ((Fr.refl _ _).alloc _).alloc _
  generalize hw0 : (w.alloc (.cells #[.int .u64 0, .int .u64 0, .int .u64 0, .int .u64 0, .int .u64 0, .int .u64 0, .int .u64 0, .int .u64 0, .int .u64 0, .int .u64 0, .int .u64 0, .int .u64 0, .int .u64 0, .int .u64 0, .int .u64 0, .int .u64 0] 80)).alloc (.cells #[.int .u64 0, .int .u64 0, .int .u64 0, .int .u64 0, .int .u64 0, .int .u64 0, .int .u64 0, .int .u64 0, .int .u64 0, .int .u64 0, .int .u64 0, .int .u64 0, .int .u64 0, .int .u64 0, .int .u64 0, .int .u64 0] 80) = w0 at hR hT hF ⊢
  have H0 := hide (And.intro hR (And.intro hT hF))
  clear hw0 hR hT hF
  try simp only [hs]
  clear hs
  go_loopw [4] (fun i wr => ∃ k : Nat, i = .int .i64 (k : Int) ∧ k ≤ 16 ∧ Bl wr s tTab (tabs 0).toArray ∧ Bl wr (s + 1) tTab (tabs k).toArray ∧ Fr (fun _ => False) w wr) (fun i _ => 16 - (intOf i).toNat)
  case atStart => exact ⟨0, rfl, Nat.zero_le _, H0.out⟩
  case round =>
    obtain ⟨k, rfl, hk, hR, hT, hF⟩ := hrel
    clear H0
    by_cases hlt : k < 16
    · have iw : IntKind.u64.wrap (k : Int) = (k : Int) := IntWalk.u64_in _ ⟨by omega, by omega⟩
      have HH := hide (And.intro hR (And.intro hT hF))
      have z := hT.free k
      obtain ⟨v, hv⟩ : ∃ v, (tabs k)[k]? = some v := ⟨_, List.getElem?_eq_getElem (by rw [tabs_len k hk]; exact hlt)⟩
      have cv : wr.cell? ⟨s + 1, k, none⟩ = some v := hT.cell' (by simpa using hv)
      have i1 : (0 : Int) ≤ (k : Int) := by omega
      have i2 : (k : Int) < 16 := by omega
      clear hR hT hF hv
      go_wp2_with fail
      go_loopw [3, 9] (fun v3 v9 wi => ∃ (j r : Nat), v9 = .int .i64 (j : Int) ∧ v3 = .int .u64 (r : Int) ∧ j ≤ 4 ∧ r < B64 ∧ wi = wr ∧ r = Nat.repeat stepN j k) (fun _ i _ => 4 - (intOf i).toNat)
      case atStart => exact ⟨0, k, rfl, rfl, by omega, by unfold B64; omega, rfl, rfl⟩
      case round =>
        obtain ⟨j, r, rfl, rfl, hj, hr, rfl, hrk⟩ := hrel
        have Hr := hide hrk
        clear hrk
        by_cases hj4 : j < 4
        · go_wp2_with fail
          refine (step_any _ r hr).mono ?_
          rintro e w' ⟨rfl, rfl⟩
          go_wp2_with fail
          exact ⟨⟨j + 1, stepN r, by go_num, rfl, hj4, stepN_lt hr, trivial, by rw [Hr.out]; rfl⟩, by simp [intOf]; omega⟩
        · obtain rfl : j = 4 := by omega
          go_wp2_with fail
          refine ⟨⟨k + 1, by go_num, hlt, HH.out.1.far (by simp) _, ?_, HH.out.2.2.setIn (.inr (by rw [← Hs.out]; simp)) _⟩, by simp [intOf]; omega⟩
          have := HH.out.2.1.set k (tv (tabN k))
          have e : r = tabN k := Hr.out
          rw [e]
          rw [← tabs_next k hlt]
          show Bl (World.setCell _ ⟨s + 1, k, none⟩ (tv (tabN k))) _ _ _
          simpa using this
    · obtain rfl : k = 16 := by omega
      have HH := hide (And.intro hR hF)
      have z : Hid (s + 1 ≠ s) := show s + 1 ≠ s by omega
      clear hF
      go_wp2_with (first
        | (refine wpList_load_row rfl tTab _ rfl (s + 1) rfl tTab _ (0, 0) _ hT Try.underlying80 rfl (by kernel_rfl) ?_)
        | (refine wpList_store_at rfl tTab _ _ rfl s 0 (tabs 16).toArray rfl rfl tTab (tabs 0).toArray (tabs 16).toArray hR (by kernel_rfl) 16 16 (by kernel_rfl) (by kernel_rfl) (by decide) (by kernel_rfl) (by kernel_rfl) ?_))
      refine bodyPost_ret (results_cell_row rfl _ _ s tTab (tabs 16).toArray (0, 0) _ rfl (HH.out.1.setRow _) Try.underlying80 rfl (by kernel_rfl)) rfl ?_
      exact ⟨rfl, HH.out.2.setRow (.inr (by rw [Hs.out]; exact Nat.le_refl _)) _⟩
theorem tabs_get (m : Nat) (h : m < 16) : (tabs 16)[m]? = some (.int .u64 (tabN m : Int)) := by
  unfold tabs
  rw [List.getElem?_append_left (by simpa using h)]
  simp [h, tv]
theorem nibI (r : Nat) (hr : r < B64) : bits .xor .u64 ((r : Int) / 16) ((tabN (r % 16) : Nat) : Int) = (nibN r : Int) := by
  have e2 : (r : Int) / 16 = ((r / 16 : Nat) : Int) := by omega
  rw [e2]
  exact u64_xor_nat _ _ (by unfold B64 at hr; omega) (tabN_lt (by unfold B64; omega))
set_option maxHeartbeats 2000000 in
theorem take_any (w : World) (r : Nat) (hr : r < B64) (A : Option Addr) (n c : Nat) (xs : List Nat) (hx : ∀ x ∈ xs, x < 256) (hn : xs.length = n) (hm : n ≤ 4611686018427387904) (hA : Sl w 1 A n (xs.map bn)) :
    Calls Try.prog 42 #[.int .u64 (r : Int), .slice A n c] w fun e w' => e = .returned (.int .u64 (takeN r xs : Int)) ∧ Fr (fun _ => False) w w' := by
  have Hn := hide hn
  clear hn
  go_enter Try.func42, Try.ntmps42
  go_wp2_with fail
  refine (table_any w).mono ?_
  rintro e w1 ⟨rfl, hf1⟩
  obtain ⟨s, hs⟩ : ∃ s, w1.heap.size = s := ⟨_, rfl⟩
  have hz : Hid ((#[.int .u64 0, .int .u64 0, .int .u64 0, .int .u64 0, .int .u64 0, .int .u64 0, .int .u64 0, .int .u64 0, .int .u64 0, .int .u64 0, .int .u64 0, .int .u64 0, .int .u64 0, .int .u64 0, .int .u64 0, .int .u64 0] : Array Value) = (tabs 0).toArray) := rfl
  have hZ : Bl (w1.alloc (.cells #[.int .u64 0, .int .u64 0, .int .u64 0, .int .u64 0, .int .u64 0, .int .u64 0, .int .u64 0, .int .u64 0, .int .u64 0, .int .u64 0, .int .u64 0, .int .u64 0, .int .u64 0, .int .u64 0, .int .u64 0, .int .u64 0] 80)) s tTab (tabs 0).toArray := by rw [← hz.out]; exact Bl.newAt hs.symm
  have hF : Fr (fun _ => False) w ((w1.alloc (.cells #[.int .u64 0, .int .u64 0, .int .u64 0, .int .u64 0, .int .u64 0, .int .u64 0, .int .u64 0, .int .u64 0, .int .u64 0, .int .u64 0, .int .u64 0, .int .u64 0, .int .u64 0, .int .u64 0, .int .u64 0, .int .u64 0] 80)).setRow s (tabs 16).toArray) := by
    have h1 : Fr (fun x => w1.heap.size ≤ x) w1 ((w1.alloc (.cells #[.int .u64 0, .int .u64 0, .int .u64 0, .int .u64 0, .int .u64 0, .int .u64 0, .int .u64 0, .int .u64 0, .int .u64 0, .int .u64 0, .int .u64 0, .int .u64 0, .int .u64 0, .int .u64 0, .int .u64 0, .int .u64 0] 80)).setRow s (tabs 16).toArray) := ((Fr.refl _ _).alloc _).setRow (.inl (by omega)) _
    exact (hf1.trans (h1.mono fun x hx e => by omega))
  have hT : Bl ((w1.alloc (.cells #[.int .u64 0, .int .u64 0, .int .u64 0, .int .u64 0, .int .u64 0, .int .u64 0, .int .u64 0, .int .u64 0, .int .u64 0, .int .u64 0, .int .u64 0, .int .u64 0, .int .u64 0, .int .u64 0, .int .u64 0, .int .u64 0] 80)).setRow s (tabs 16).toArray) s tTab (tabs 16).toArray := hZ.setRow _
  have hA2 := hA.below hF (fun _ _ => id)
  have H0 := hide (And.intro hT (And.intro hF hA2))
  clear hA hf1 hT hF hA2
  go_wp2_with (refine wpList_store_at rfl tTab _ _ rfl s 0 (tabs 16).toArray rfl rfl tTab (tabs 0).toArray (tabs 16).toArray hZ (by kernel_rfl) 16 16 (by kernel_rfl) (by kernel_rfl) (by decide) (by kernel_rfl) (by kernel_rfl) ?_)
  clear hZ
  generalize hw2 : (w1.alloc (.cells #[.int .u64 0, .int .u64 0, .int .u64 0, .int .u64 0, .int .u64 0, .int .u64 0, .int .u64 0, .int .u64 0, .int .u64 0, .int .u64 0, .int .u64 0, .int .u64 0, .int .u64 0, .int .u64 0, .int .u64 0, .int .u64 0] 80)).setRow s (tabs 16).toArray = w2 at H0 ⊢
  clear hw2
  go_loopw [0, 11] (fun v0 i wr => ∃ (k r' : Nat), i = .int .i64 (k : Int) ∧ k ≤ n ∧ v0 = .int .u64 (r' : Int) ∧ r' < B64 ∧ r' = takeN r (xs.take k) ∧ wr = w2) (fun _ i _ => n - (intOf i).toNat)
  case atStart => exact ⟨0, r, rfl, Nat.zero_le _, rfl, hr, by simp [takeN], rfl⟩
  case round =>
    obtain ⟨k, r0, rfl, hk, rfl, hr0, hrk, rfl⟩ := hrel
    have Hr := hide hrk
    clear hrk
    by_cases hlt : k < n
    · obtain ⟨hT, hF, hA2⟩ := H0.out
      have hkx : k < xs.length := by rw [Hn.out]; exact hlt
      obtain ⟨x, hxk⟩ : ∃ x, xs[k]? = some x := ⟨_, List.getElem?_eq_getElem hkx⟩
      have hx0 : x < 256 := hx x (List.mem_of_getElem? hxk)
      obtain ⟨b, o, rfl, cx⟩ := hA2.at_ (j := k) (u := .int .u8 (x : Int)) (by rw [List.getElem?_map, hxk]; rfl)
      have i1 : (0 : Int) ≤ (k : Int) := by omega
      have iw : IntKind.u64.wrap (x : Int) = (x : Int) := IntWalk.u64_in _ ⟨by omega, by omega⟩
      obtain ⟨r1, h1⟩ : ∃ r1, r0 ^^^ x = r1 := ⟨_, rfl⟩
      have b1 : r1 < B64 := by rw [← h1]; exact xor_lt64 hr0 (by unfold B64; omega)
      obtain ⟨r2, h2⟩ : ∃ r2, nibN r1 = r2 := ⟨_, rfl⟩
      have b2 : r2 < B64 := by rw [← h2]; exact nibN_lt b1
      obtain ⟨r3, h3⟩ : ∃ r3, nibN r2 = r3 := ⟨_, rfl⟩
      have b3 : r3 < B64 := by rw [← h3]; exact nibN_lt b2
      have e1 : bits .xor .u64 (r0 : Int) (x : Int) = (r1 : Int) := by rw [← h1]; exact u64_xor_nat _ _ (by unfold B64 at hr0; omega) (by omega)
      obtain ⟨m1, hm1⟩ : ∃ m1, r1 % 16 = m1 := ⟨_, rfl⟩
      obtain ⟨m2, hm2⟩ : ∃ m2, r2 % 16 = m2 := ⟨_, rfl⟩
      have a1 : bits .and .u64 (r1 : Int) 15 = (m1 : Int) := by rw [← hm1]; exact and15_eq r1 b1
      have a2 : bits .and .u64 (r2 : Int) 15 = (m2 : Int) := by rw [← hm2]; exact and15_eq r2 b2
      have l1 : m1 < 16 := by omega
      have l2 : m2 < 16 := by omega
      obtain ⟨t1, ht1⟩ : ∃ t1, tabN m1 = t1 := ⟨_, rfl⟩
      obtain ⟨t2, ht2⟩ : ∃ t2, tabN m2 = t2 := ⟨_, rfl⟩
      have ct1 : wr.cell? ⟨s, m1, none⟩ = some (.int .u64 (t1 : Int)) := by rw [← ht1]; exact hT.cell' (by rw [List.getElem?_toArray]; exact tabs_get m1 l1)
      have ct2 : wr.cell? ⟨s, m2, none⟩ = some (.int .u64 (t2 : Int)) := by rw [← ht2]; exact hT.cell' (by rw [List.getElem?_toArray]; exact tabs_get m2 l2)
      have e2 : bits .xor .u64 ((r1 : Int) / 16) (t1 : Int) = (r2 : Int) := by rw [← h2, ← ht1, ← hm1]; exact nibI r1 b1
      have e3 : bits .xor .u64 ((r2 : Int) / 16) (t2 : Int) = (r3 : Int) := by rw [← h3, ← ht2, ← hm2]; exact nibI r2 b2
      have g1 : (0 : Int) ≤ (m1 : Int) := by omega
      have g2 : (0 : Int) ≤ (m2 : Int) := by omega
      have g3 : (m1 : Int) < 16 := by omega
      have g4 : (m2 : Int) < 16 := by omega
      have He : Hid (r3 = takeN r (xs.take (k + 1))) := by
        show r3 = _
        rw [List.take_add_one, hxk, ← h3, ← h2, ← h1, Hr.out]
        simp [takeN, List.foldl_append, takeB]
      clear hT hF hA2 hxk h1 h2 h3 hm1 hm2 ht1 ht2 hr0 b1 b2 hx0
      go_wp2_with fail
      exact ⟨⟨k + 1, r3, by go_num, hlt, rfl, by first | exact b3 | assumption, He.out, trivial⟩, by simp [intOf]; omega⟩
    · obtain rfl : k = n := by omega
      go_wp2_with fail
      go_ret
      refine ⟨?_, H0.out.2.1⟩
      have e : r0 = takeN r xs := by rw [Hr.out, List.take_of_length_le (by rw [Hn.out]; exact Nat.le_refl _)]
      rw [e]; rfl
end Go.Proofs.Ytchajbiloaiekaa
