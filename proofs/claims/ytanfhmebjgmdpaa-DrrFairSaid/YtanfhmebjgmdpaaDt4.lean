/-
  DrrTime: a book in memory: late, added.
-/
import Derived.Test.YtanfhmebjgmdpaaDt3
import Derived.Test.YtanfhmebjgmdpaaReg
import Derived.Deep.CutBlock
namespace Go.Proofs.Ytanfhmebjgmdpaa.Qj
open Go.RowKit
set_option linter.unusedVariables false
set_option linter.unusedSimpArgs false
theorem infoInt : (Try.prog.info? tInt).map (fun i => (i.zero, i.size, i.bytes)) = some (some (.int .i64 0), 1, 8) := by kernel_rfl
set_option maxHeartbeats 2000000 in
set_option maxRecDepth 20000 in
theorem late_any (W : World) (p : BL) (b : BK) (h : BkAt W p b) (hbd : b.added.length ≤ 4611686018427387904) (hlate : ∀ (q ad sv : Nat) (un : List Int), b.added[q]? = some ad → b.served[q]? = some sv → b.until_[q]? = some un → ad ≤ 4611686018427387904 ∧ sv ≤ ad ∧ ∀ j, sv ≤ j → j < ad → ∃ u, un[j]? = some u ∧ b.rounds < u) :
    Calls Try.prog 31 #[.pointer (some ⟨p.pb, 0, none⟩)] W fun e W' => e = .returned (.bool false) ∧ Fr (fun _ => False) W W' := by
  obtain ⟨n, hn⟩ : ∃ n, b.added.length = n := ⟨_, rfl⟩
  have H := hide h
  have Hl := hide hlate
  have Hn := hide hn
  rw [hn] at hbd
  clear h hlate hn
  go_enter Try.func31, Try.ntmps31
  go_wp2_with fail
  go_loopw [3] (fun i wr => ∃ k : Nat, i = .int .i64 (k : Int) ∧ k ≤ n ∧ Fr (fun _ => False) W wr) (fun i _ => n - (intOf i).toNat)
  case atStart => exact ⟨0, rfl, Nat.zero_le _, Fr.refl _ _⟩
  case round =>
    obtain ⟨k, rfl, hk, hf⟩ := hrel
    obtain ⟨wo, rfl⟩ : ∃ wo, wo = wr := ⟨_, rfl⟩
    have hw := H.out.fr hf (fun _ _ => id)
    have hbl := hw.bl
    rw [Hn.out] at hbl
    by_cases hlt : k < n
    · obtain ⟨ad, ha⟩ : ∃ x, b.added[k]? = some x := ⟨_, List.getElem?_eq_getElem (by rw [Hn.out]; exact hlt)⟩
      obtain ⟨sv, hs⟩ : ∃ x, b.served[k]? = some x := ⟨_, List.getElem?_eq_getElem (by rw [H.out.ls, Hn.out]; exact hlt)⟩
      obtain ⟨un, hu⟩ : ∃ x, b.until_[k]? = some x := ⟨_, List.getElem?_eq_getElem (by rw [H.out.lu, Hn.out]; exact hlt)⟩
      obtain ⟨r, hr⟩ : ∃ x, p.rows[k]? = some x := ⟨_, List.getElem?_eq_getElem (by rw [H.out.lr, Hn.out]; exact hlt)⟩
      obtain ⟨hadb, hsa, hL⟩ := Hl.out k ad sv un ha hs hu
      obtain ⟨xa, oa, hA, -, cA, -⟩ := hw.lookA ha
      obtain ⟨xs, os, hS, -, cS, -⟩ := hw.lookS hs
      have d0 : wo.cell? ⟨p.pb, 0, none⟩ = some (.slice (some ⟨xa, oa, none⟩) n p.ca) := by rw [← hA]; exact hbl.cell' rfl
      have d1 : wo.cell? ⟨p.pb, 1, none⟩ = some (.slice (some ⟨xs, os, none⟩) n p.cs) := by rw [← hS]; exact hbl.cell' rfl
      have i1 : (0 : Int) ≤ (k : Int) := by omega
      have i2 : (k : Int) < (n : Int) := by omega
      have HL := hide hL
      have HX := hide (And.intro ha (And.intro hs (And.intro hu (And.intro hr (And.intro hA hS)))))
      have Hf := hide hf
      clear hL ha hs hu hr hA hS hw hbl hf
      go_wp2_with fail
      go_loopw [4] (fun i wr => ∃ j : Nat, i = .int .i64 (j : Int) ∧ sv ≤ j ∧ j ≤ ad ∧ Fr (fun _ => False) W wr) (fun i _ => ad - (intOf i).toNat)
      case atStart => exact ⟨sv, rfl, Nat.le_refl _, hsa, Hf.out⟩
      case round =>
        obtain ⟨j, rfl, hj1, hj2, hf⟩ := hrel
        obtain ⟨ha, hs, hu, hr, hA, hS⟩ := HX.out
        have hw := H.out.fr hf (fun _ _ => id)
        have hbl := hw.bl
        rw [Hn.out, hA, hS] at hbl
        obtain ⟨xa', oa', hA', -, cA', -⟩ := hw.lookA ha
        rw [hA] at hA'; cases hA'
        have d0' : wr.cell? ⟨p.pb, 0, none⟩ = some (.slice (some ⟨xa, oa, none⟩) n p.ca) := hbl.cell' rfl
        by_cases hlt2 : j < ad
        · obtain ⟨u, hun, hur⟩ := HL.out j hj1 hlt2
          have hunl : j < un.length := (List.getElem?_eq_some_iff.1 hun).1
          obtain ⟨xu, ou, hU, -, cU, -⟩ := hw.lookU hr hu
          obtain ⟨xr, or_, hR, -, cR, -⟩ := hw.lookR hr hu hun
          rw [hR] at cU
          have d2 : wr.cell? ⟨p.pb, 2, none⟩ = some (.slice (some ⟨xu, ou, none⟩) n p.cu) := by rw [← hU]; exact hbl.cell' rfl
          have d3 : wr.cell? ⟨p.pb, 3, none⟩ = some (.int .i64 b.rounds) := hbl.cell' rfl
          have i3 : (0 : Int) ≤ (j : Int) := by omega
          have i4 : (j : Int) < (un.length : Int) := by omega
          have hur' : ¬ u ≤ b.rounds := by omega
          have Hf2 := hide hf
          clear ha hs hu hr hA hS hw hbl hun hU hR hf
          go_wp2_with fail
          go_quiet (fail)
          go_wp2_with fail
          exact ⟨⟨j + 1, by go_num, by omega, by omega, Hf2.out.drewN nq⟩, by simp [intOf]; omega⟩
        · obtain rfl : j = ad := by omega
          have Hf2 := hide hf
          clear ha hs hu hr hA hS hw hbl hf
          go_wp2_with fail
          exact ⟨⟨k + 1, by go_num, by omega, Hf2.out⟩, by simp [intOf]; omega⟩
    · obtain rfl : k = n := by omega
      have d0 : wo.cell? ⟨p.pb, 0, none⟩ = some (.slice p.A k p.ca) := hbl.cell' rfl
      clear hw hbl
      go_wp2_with fail
      go_ret
      exact ⟨rfl, hf⟩
theorem Sl_int1 (w : World) (v : Value) (t : TypeId) : Sl (w.alloc (.cells #[v] t)) 1 (some ⟨w.heap.size, 0, none⟩) 1 [v] :=
  ⟨rfl, fun _ => ⟨_, 0, rfl, fun j u hu => by
    rw [Nat.zero_add]
    exact (Bl.new w t #[v]).cell' (by simpa using hu)⟩⟩
end Go.Proofs.Ytanfhmebjgmdpaa.Qj
