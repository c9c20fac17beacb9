/-
  disk: Load.
-/
import Derived.Test.YtchajbiloaiekaaDk6
namespace Go.Proofs.Ytchajbiloaiekaa
open Go.RowKit
set_option linter.unusedVariables false
set_option linter.unusedSimpArgs false
attribute [local go_sem ↓] opstill_loadS opwp_loadS opwp_loadW opwp_storeS opwp_storeW opwp_allocS opwp_allocW sem_array
attribute [local go_sem] loadS_eq loadW_eq storeS_row storeW_row allocS_eq allocW_eq mayNewS mayNewW setNewS setNewW mayNewC setNewC
def loadS (xs : List Nat) : DS := ⟨xs, [], -1, 0, 0⟩
/-- The sectors in the midst of a Load. -/
def mixed (xs : List Nat) (n j : Nat) : List Nat := xs.take (j * 64) ++ zeros ((n - j) * 64)
theorem mixed_len {xs : List Nat} {n j : Nat} (h : xs.length = n * 64) (hj : j ≤ n) : (mixed xs n j).length = n * 64 := by
  unfold mixed
  rw [List.length_append, zeros_len, List.length_take, h, Nat.min_eq_left (Nat.mul_le_mul_right 64 hj), ← Nat.add_mul]
  congr 1; omega
theorem mixed_next {xs : List Nat} {n j : Nat} (h : xs.length = n * 64) (hj : j < n) : mixed xs n (j + 1) = putSec (mixed xs n j) j ((xs.drop (j * 64)).take 64) := by
  have hl : (xs.take (j * 64)).length = j * 64 := by rw [List.length_take, h]; exact Nat.min_eq_left (Nat.mul_le_mul_right 64 (by omega))
  unfold putSec mixed
  rw [List.take_append_of_le_length (by omega), List.take_take, Nat.min_self, Nat.add_mul, Nat.one_mul, List.take_add, List.append_assoc, List.append_assoc]
  congr 2
  rw [List.drop_append, List.drop_eq_nil_of_le (by omega), List.nil_append, hl]
  unfold zeros
  rw [List.drop_replicate]
  congr 1
  omega
structure LoadAt (w : World) (n : Nat) (SA : Option Addr) (sc : Nat) (gs : Option Nat) (xs : List Nat) (j : Nat) (wr : World) : Prop where
  ow : Ow wr tSec 64 SA n sc ((mixed xs n j).map bn) gs
  fr : Fr (fun k => gs = some k) w wr
def loadBad (m : Nat) : Prop := m = 0 ∨ m % 64 ≠ 0 ∨ 4194304 < m
instance (m : Nat) : Decidable (loadBad m) := by unfold loadBad; infer_instance
theorem load_bad (w : World) (A : Option Addr) (m c : Nat) (h63 : m ≤ 9223372036854775807) (h : loadBad m) :
    Calls Try.prog 17 #[.slice A m c] w fun e w' => e = .returned (.tuple #[.pointer none, .int .i64 82]) ∧ w = w' := by
  have ht : ((m : Int).tdiv 64) = ((m / 64 : Nat) : Int) := by rw [Int.tdiv_eq_ediv_of_nonneg (by omega)]; omega
  have hm : ((m : Int).tmod 64) = ((m % 64 : Nat) : Int) := by rw [Int.tmod_eq_emod_of_nonneg (by omega)]; omega
  have hw : IntKind.i64.wrap ((m / 64 : Nat) : Int) = ((m / 64 : Nat) : Int) := by rw [IntWalk.i64_in _ (by omega)]
  have hw2 : IntKind.i64.wrap ((m % 64 : Nat) : Int) = ((m % 64 : Nat) : Int) := by rw [IntWalk.i64_in _ (by omega)]
  obtain ⟨q, hq⟩ : ∃ q, m / 64 = q := ⟨_, rfl⟩
  obtain ⟨r, hr⟩ : ∃ r, m % 64 = r := ⟨_, rfl⟩
  rw [hq] at ht hw; rw [hr] at hm hw2
  by_cases h1 : (q : Int) < 1
  · clear h hq hr
    go_enter Try.func17, Try.ntmps17
    go_wp2_with fail
    go_ret2
    exact ⟨rfl, rfl⟩
  · by_cases h2 : 65536 < (q : Int)
    · clear h hq hr
      go_enter Try.func17, Try.ntmps17
      go_wp2_with fail
      go_ret2
      exact ⟨rfl, rfl⟩
    · have h3 : ¬ (r : Int) = 0 := by
        unfold loadBad at h; omega
      clear h hq hr
      go_enter Try.func17, Try.ntmps17
      go_wp2_with fail
      go_ret2
      exact ⟨rfl, rfl⟩
set_option maxHeartbeats 2000000 in
set_option maxRecDepth 4000 in
theorem load_ok (w : World) (A : Option Addr) (c n : Nat) (xs : List Nat) (hc : n * 64 ≤ c) (hlen : xs.length = n * 64) (h1 : 1 ≤ n) (h2 : n ≤ 65536) (hS : Sl w 1 A (n * 64) (xs.map bn)) :
    Calls Try.prog 17 #[.slice A (n * 64) c] w (NewOut w n (loadS xs)) := by
  obtain ⟨m, hm⟩ : ∃ m, n * 64 = m := ⟨_, rfl⟩
  rw [hm] at hS hc ⊢
  have hdiv : m / 64 = n := by omega
  have hmod : m % 64 = 0 := by omega
  have ht : ((m : Int).tdiv 64) = (n : Int) := by rw [Int.tdiv_eq_ediv_of_nonneg (by omega)]; omega
  have htm : ((m : Int).tmod 64) = 0 := by rw [Int.tmod_eq_emod_of_nonneg (by omega)]; omega
  have hw : IntKind.i64.wrap (n : Int) = (n : Int) := by rw [IntWalk.i64_in _ (by omega)]
  have hw2 : IntKind.i64.wrap 0 = 0 := by rw [IntWalk.i64_in _ (by omega)]
  have g1 : ¬ (n : Int) < 1 := by omega
  have g2 : ¬ 65536 < (n : Int) := by omega
  obtain ⟨b, o, rfl, hcell⟩ := hS.2 (by omega)
  have Hm := hide hm
  have Hlen := hide hlen
  have H1 := hide h1
  have H2 := hide h2
  have Hcell : Hid (w.rangeAt b o (xs.map bn)) := hcell
  have Hc := hide hc
  clear hm hlen h1 h2 hcell hS hdiv hmod hc
  go_enter Try.func17, Try.ntmps17
  go_wp2_with fail
  refine (new_ok w n H1.out H2.out).mono ?_
  rintro e w1 ⟨p, F, rfl, hD, hF, hf1⟩
  obtain ⟨SA, sc, gs, RA, rc, gr, mb, hD, rfl⟩ := hD
  have HD := hide hD
  have HF := hide hF
  have Hf1 := hide hf1
  have c0 : w1.cell? ⟨p, 0, none⟩ = some (.slice SA n sc) := hD.bl.cell' rfl
  clear hD hF hf1
  go_wp2_with fail
  go_loopw [33] (fun i wr => ∃ j : Nat, j ≤ n ∧ i = .int .i64 (j : Int) ∧ Hid (LoadAt w1 n SA sc gs xs j wr)) (fun i _ => n - (intOf i).toNat)
  case atStart =>
    refine ⟨0, Nat.zero_le _, rfl, ⟨?_, Fr.refl _ _⟩⟩
    have := HD.out.safe
    have e : mixed xs n 0 = zeros (n * 64) := by unfold mixed; simp
    rw [e]
    exact this
  case round =>
    obtain ⟨j, hj, rfl, hL⟩ := hrel
    by_cases hlt : j < n
    · have f1 := hL.out.fr
      have c0b : wr.cell? ⟨p, 0, none⟩ = some (.slice SA n sc) := (f1.cell (World.block_lt_of_cell? w1 _ c0) HD.out.nps).trans c0
      obtain ⟨b2, o2, rfl, rfl, -, -, hth⟩ := safe_at hL.out.ow j hlt
      have hn2 := H2.out
      have hmm := Hm.out
      have hll := Hlen.out
      have hle : (j + 1) * 64 ≤ n * 64 := Nat.mul_le_mul_right 64 (by omega)
      have hcl : ((xs.drop (j * 64)).take 64).length = 64 := by rw [List.length_take, List.length_drop]; omega
      have hr : w.rangeAt b (o + j * 64) (((xs.drop (j * 64)).take 64).map bn) := fun i v hv => by
        have hi : i < 64 := by have := (List.getElem?_eq_some_iff.1 hv).1; rw [List.length_map] at this; omega
        have := Hcell.out (j * 64 + i) v (by rw [← hv, List.map_take, List.map_drop, List.getElem?_take_of_lt hi, List.getElem?_drop])
        rwa [← Nat.add_assoc] at this
      have hb : b ≠ b2 := by
        have e1 := World.block_lt_of_cell? w _ (hr 0 _ (List.getElem?_eq_getElem (by rw [List.length_map]; omega)))
        have e2 := HF.out b2 (.inr (.inl rfl))
        simp only at e1
        omega
      have hr2 : wr.rangeAt b (o + j * 64) (((xs.drop (j * 64)).take 64).map bn) := fun i v hv => by
        have e0 := hr i v hv
        have hblt := World.block_lt_of_cell? w _ e0
        have e1 := (Hf1.out.cell hblt id).trans e0
        exact (f1.cell (World.block_lt_of_cell? w1 _ e1) (fun e => hb (by cases e; rfl))).trans e1
      have hone := bn_one ((xs.drop (j * 64)).take 64)
      obtain ⟨ds, hds⟩ : ∃ ds, ((xs.drop (j * 64)).take 64).map bn = ds := ⟨_, rfl⟩
      have hdl : ds.length = 64 := by rw [← hds, List.length_map, hcl]
      rw [hds] at hr2 hone
      have hR : Row64 ds := ⟨hdl, hone⟩
      have hwa : IntKind.i64.wrap ((j : Int) * 64) = ((j * 64 : Nat) : Int) := by rw [IntWalk.i64_in _ (by omega)]; omega
      have hwb : IntKind.i64.wrap ((j : Int) + 1) = ((j + 1 : Nat) : Int) := by rw [IntWalk.i64_in _ (by omega)]; omega
      have hwc : IntKind.i64.wrap (((j : Int) + 1) * 64) = (j : Int) * 64 + 64 := by rw [IntWalk.i64_in _ (by omega)]; omega
      have k0 : (0 : Int) ≤ (j : Int) := by omega
      have k1 : (j : Int) < (n : Int) := by omega
      have hcc := Hc.out
      have k2 : (j : Int) * 64 + 64 ≤ (c : Int) := by omega
      have k4 : (0 : Int) ≤ (j : Int) * 64 + 64 := by omega
      have k5 : (0 : Int) ≤ (j : Int) * 64 := by omega
      have k6 : (j : Int) * 64 ≤ (j : Int) * 64 + 64 := by omega
      have k7 : ((j : Int) * 64).toNat = j * 64 := by omega
      have k8 : ((j : Int) * 64 + 64).toNat = j * 64 + 64 := by omega
      have k9 : j * 64 + 64 - j * 64 = 64 := by omega
      have k3 : ¬ c = j * 64 := by omega
      have hMay : MayRow wr b2 (o2 + j * 64) 64 := hth
      have Hds := hide hds
      clear c0 hth hr hone hds hcl hle hn2 hmm hll hcc hdl
      go_wp2_with fail
      refine region_tail 15 (by kernel_rfl) (by kernel_rfl) ?_
      intro w2 Hw2 hcw2 hzw2 hsw2
      have t1 : HasRow w2 b (o + j * 64) 64 := by rw [Hw2.out]; exact HasRow.of hr2 hR.1
      have t2 : rowAt w2 b (o + j * 64) 64 = ds := by rw [Hw2.out]; exact rowAt_of hr2 hR.1
      have t4 := (hcw2 _).trans c0b
      have t5 : MayRow w2 b2 (o2 + j * 64) 64 := by rw [Hw2.out]; exact hMay
      clear hcw2 hzw2 hsw2 hMay hr2 c0b
      simp only [List.take_succ_cons, List.take_zero, List.drop_succ_cons, List.drop_zero]
      repeat still_step
      refine wpStill_nil ?_
      go_wp2_with fail
      refine ⟨⟨j + 1, by omega, by first | rfl | go_num, ?_⟩, by simp [intOf]; omega⟩
      have hO : Ow w2 tSec 64 (some ⟨b2, o2, none⟩) n sc ((mixed xs n j).map bn) (some b2) := by
        rw [Hw2.out]
        exact hL.out.ow.fr (S := fun _ => False) (Fr.drew (Fr.refl (fun _ => False) wr)) (fun _ _ => id)
      refine ⟨?_, ?_⟩
      · have hcl : ((xs.drop (j * 64)).take 64).length = 64 := by rw [← List.length_map (f := bn), Hds.out]; exact hR.1
        rw [mixed_next Hlen.out hlt, putSec_map _ _ _ hcl, Hds.out]
        refine hO.setRow (j * 64) ds ?_
        rw [hR.1]
        have := Nat.mul_le_mul_right 64 (show j + 1 ≤ n by omega)
        omega
      · have q1 : Fr (fun k => some b2 = some k) wr w2 := by rw [Hw2.out]; exact Fr.drew (Fr.refl _ wr)
        exact (f1.trans q1).trans ((fr_setCells b2 ds _ w2).mono fun x _ e => by rw [e])
    · obtain rfl : j = n := by omega
      have hl2 : mixed xs j j = xs := by
        unfold mixed
        rw [List.take_of_length_le (by rw [Hlen.out]; exact Nat.le_refl _), Nat.sub_self, Nat.zero_mul]
        simp [zeros]
      have hO := hL.out.ow
      have hfL := hL.out.fr
      rw [hl2] at hO
      have hD2 := HD.out.laid hO Hlen.out hfL
      have hsz := Hf1.out.size
      have e5 : DI wr p j (dfoot p gs gr mb) (loadS xs) := ⟨SA, sc, gs, RA, rc, gr, mb, hD2, rfl⟩
      have hG := hide (Hf1.out.comp hfL fun k hk e => absurd (HF.out k (.inr (.inl e))) (by omega))
      have E5 := hide e5
      clear hD2 hO hfL e5 hL hl2
      go_wp2_with fail
      go_ret2
      exact ⟨p, _, rfl, E5.out, HF.out, hG.out⟩
#print axioms load_ok
end Go.Proofs.Ytchajbiloaiekaa
