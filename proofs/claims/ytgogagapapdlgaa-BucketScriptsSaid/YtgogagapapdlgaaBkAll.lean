/-
  All: the program's.
-/
import Derived.Test.YtgogagapapdlgaaBkAllLaw
import Derived.Test.YtgogagapapdlgaaOwn
import Derived.WalkKit
namespace Go.Proofs.Ytgogagapapdlgaa
open Go.RowKit
set_option linter.unusedVariables false
attribute [local go_sem ↓] Go.wp_at_zero Go.wp_at_succ

def TakeOut (t : TypeId) (sel : Nat × Nat → Nat) (js : List Ent) (σ : Nat → St) (n : Int) (w : World) (e : Ent) (E : Int) (w' : World) : Prop :=
  (E = 0 → 0 ≤ n ∧ ∃ pq, e = some pq ∧ InvS t sel js (takeS n σ pq) w' ∧ Fr (· = sel pq) w w') ∧ (E ≠ 0 → w = w')
theorem sep_fst (js : List Ent) : Sep Prod.fst js := fun _ _ _ _ => Iff.rfl
theorem take_ent (w : World) (n : Int) (js : List Ent) (σ : Nat → St) (e : Ent) (he : e ∈ js) (hI : InvS 60 Prod.fst js σ w) :
    Calls Try.prog 10 #[ptr Prod.fst e, .int .i64 n] w fun r w' => r = .returned (.int .i64 (takeE n σ e)) ∧ TakeOut 60 Prod.fst js σ n w e (takeE n σ e) w' := by
  cases e with
  | none =>
    refine (take_un w none n (fun q h => by cases h)).mono ?_
    rintro r w' ⟨rfl, rfl⟩
    exact ⟨rfl, fun h => absurd h (by simp [takeE]), fun _ => rfl⟩
  | some pq =>
    obtain ⟨hb, ho⟩ := hI pq he
    by_cases h1 : n < 0
    · refine (take_neg w n hb ho h1).mono ?_
      rintro r w' ⟨rfl, rfl⟩
      have hE : takeE n σ (some pq) = 2 := if_pos h1
      rw [hE]
      exact ⟨rfl, fun h => absurd h (by omega), fun _ => rfl⟩
    · by_cases h2 : (σ pq.1).level < n
      · refine (take_dry w n hb ho (by omega) h2).mono ?_
        rintro r w' ⟨rfl, rfl⟩
        have hE : takeE n σ (some pq) = 131 := by rw [takeE, if_neg h1, if_pos h2]
        rw [hE]
        exact ⟨rfl, fun h => absurd h (by omega), fun _ => rfl⟩
      · refine (take_made w n hb ho (by omega) (by omega)).mono ?_
        rintro r w' ⟨rfl, hb', hf⟩
        have hE : takeE n σ (some pq) = 0 := by rw [takeE, if_neg h1, if_neg h2]
        rw [hE]
        exact ⟨rfl, fun _ => ⟨by omega, pq, rfl, hI.step (sep_fst _) he hb' (bk_taken ho (by omega) (by omega)) hf, hf⟩, fun h => absurd rfl h⟩

set_option maxHeartbeats 4000000 in
set_option maxRecDepth 4000 in
theorem all_any (w : World) (n : Int) (A : Option Addr) (m c : Nat) (js : List Ent) (σ : Nat → St) (hm : m = js.length) (hc : m ≤ c) (hmb : m ≤ 140737488355328) (hl : Sl w 1 A m (js.map (ptr Prod.fst)))
    (hI : InvS 60 Prod.fst js σ w) (hA : ∀ b, (∃ o, A = some ⟨b, o, none⟩) → b < w.heap.size → ¬ Of Prod.fst js b) :
    Calls Try.prog 20 #[.int .i64 n, .slice A m c] w fun e w' => e = .returned (.tuple #[.int .i64 (allR n 0 σ js).1, .int .i64 (allR n 0 σ js).2]) ∧
      InvS 60 Prod.fst js (allS n σ js) w' ∧ Fr (Of Prod.fst js) w w' := by
  obtain ⟨tgt, htgt⟩ : ∃ tgt, allR n 0 σ js = tgt := ⟨_, rfl⟩
  have hbok : Hid (∀ x, some x ∈ js → StOk (σ x.1)) := fun x hx => (hI x hx).2
  have hS : Hid (allS n σ js = if tgt.2 = 0 then lev n σ js else σ) := by show _ = _; rw [allS, htgt]
  rw [htgt]
  have Hm := hide hm
  clear hm
  have Htgt := hide htgt
  clear htgt
  go_enter Try.func20, Try.ntmps20
  go_wp2_with fail
  go_loopw [13] (fun i wr => AllAt 60 Prod.fst n σ js tgt w i wr) (fun i _ => m - (intOf i).toNat)
  case atStart => exact ⟨0, rfl, Nat.zero_le _, .inl rfl, by show _ = _; rw [List.take_zero, lev_nil]; exact Htgt.out, fun e he => by simp at he, by rw [List.take_zero, lev_nil]; exact hI, Fr.refl _ _⟩
  case round =>
    obtain ⟨k, rfl, hk, hkn, hT, hs, hIr, hfr⟩ := hrel
    rw [← Hm.out] at hk
    by_cases hlt : k < m
    · obtain ⟨e, he⟩ : ∃ e, js[k]? = some e := ⟨_, List.getElem?_eq_getElem (by rw [← Hm.out]; exact hlt)⟩
      have hel : e ∈ js := List.mem_of_getElem? he
      have hlr := hl.fr (B := 0) hfr hA
      obtain ⟨b, o, rfl, hcell⟩ := hlr.at_ (j := k) (u := ptr Prod.fst e) (by rw [List.getElem?_map, he]; rfl)
      have hcl := hide hcell
      have hTe := take_ent wr n js (lev n σ (js.take k)) e hel hIr
      obtain ⟨E, hE⟩ : ∃ E, takeE n (lev n σ (js.take k)) e = E := ⟨_, rfl⟩
      rw [hE] at hTe
      have He := hide he
      have HE := hide hE
      have Hl := hide hl
      clear he hE hl hlr
      by_cases hE0 : E = 0
      · subst hE0
        go_wp2_with fail
        refine hTe.mono ?_
        rintro r w1 ⟨rfl, hO, -⟩
        obtain ⟨hn, pq, rfl, hI1, hf1⟩ := hO rfl
        go_wp2_with fail
        exact ⟨AllAt.next He.out hn HE.out hT.out hs.out hI1 (hfr.trans (hf1.mono fun x _ e => ⟨pq, hel, e⟩)), by simp [intOf]; omega⟩
      · have htg : Hid (tgt = (↑k, E)) := by
          show _ = _
          rw [← hT.out, (take_next He.out).2, ← HE.out]
          exact allR_no (by rw [HE.out]; exact hE0)
        go_wp2_with fail
        refine hTe.mono ?_
        rintro r w1 ⟨rfl, -, hO⟩
        obtain rfl := hO hE0
        clear hO
        go_wp2_with fail
        go_loopw [27] (fun i wr' => BackAt 60 Prod.fst n σ js k w i wr') (fun i _ => k - (intOf i).toNat)
        case atStart => exact ⟨0, rfl, Nat.zero_le _, by rw [List.drop_zero]; exact hIr, hfr⟩
        case round =>
          obtain ⟨r, rfl, hr, hI2, hf2⟩ := hrel
          by_cases hrk : r < k
          · obtain ⟨e2, he2⟩ : ∃ e2, js[r]? = some e2 := ⟨_, List.getElem?_eq_getElem (by rw [← Hm.out]; omega)⟩
            have hel2 : e2 ∈ js := List.mem_of_getElem? he2
            have hne := hs.out e2 (List.mem_of_getElem? (i := r) (by rw [List.getElem?_take_of_lt hrk]; exact he2))
            obtain ⟨pq, rfl⟩ : ∃ pq, e2 = some pq := by
              cases e2 with
              | none => exact absurd rfl hne
              | some pq => exact ⟨pq, rfl⟩
            have hn : 0 ≤ n := by omega
            obtain ⟨b2, o2, hA2, hcell2⟩ := (Hl.out.fr (B := 0) hf2 hA).at_ (j := r) (u := ptr Prod.fst (some pq)) (by rw [List.getElem?_map, he2]; rfl)
            cases hA2
            obtain ⟨hb, ho⟩ := hI2 pq hel2
            have hok2 := back_ok hn he2 hrk hI2 hbok.out
            have hle : (lev n σ ((js.take k).drop r) pq.1).level + n ≤ 1048576 := by
              have := hok2.l2; have := hok2.b2; show _ ≤ _
              simp only [St.at_] at *; omega
            have hnext := BackAt.next (w0 := w) (w := wr) (w' := wr.setCell ⟨pq.1, 3, none⟩ (.int .i64 ((lev n σ ((js.take k).drop r) pq.1).level + n))) (sep_fst _) hn he2 hrk hI2 hbok.out (hb.set 3 _) ((Fr.refl _ _).setAt _) hf2
            have hlv := ho.l1
            obtain ⟨L, hL⟩ : ∃ L, (lev n σ ((js.take k).drop r) pq.1).level = L := ⟨_, rfl⟩
            have c3 : wr.cell? ⟨pq.1, 3, none⟩ = some (.int .i64 (lev n σ ((js.take k).drop r) pq.1).level) := hb.cell' rfl
            have z3 := hb.free 3
            rw [hL] at c3 hle hlv hnext
            have hcell2' : wr.cell? ⟨b, o + r, none⟩ = some (.pointer (some ⟨pq.1, 0, none⟩)) := hcell2
            clear hcell2
            go_wp2_with fail
            exact ⟨hnext, by simp [intOf]; omega⟩
          · obtain rfl : r = k := by omega
            have hI3 : InvS 60 Prod.fst js (allS n σ js) wr := by
              rw [hS.out, htg.out, if_neg hE0]
              rw [List.drop_eq_nil_of_le (by simp; omega), lev_nil] at hI2
              exact hI2
            have e1 : Hid (tgt.1 = (r : Int)) := by show _ = _; rw [htg.out]
            have e2 : Hid (tgt.2 = E) := by show _ = _; rw [htg.out]
            go_wp2_with fail
            go_ret2
            exact ⟨by rw [e1.out, e2.out]; rfl, hI3, hf2⟩
    · obtain rfl : k = m := by omega
      have h0 : Hid (tgt = (0, 0)) := by
        show _ = _
        rw [← hT.out, List.drop_eq_nil_of_le (by rw [← Hm.out]; exact Nat.le_refl _)]; rfl
      have hI3 : InvS 60 Prod.fst js (allS n σ js) wr := by
        rw [hS.out, h0.out, if_pos rfl]
        rw [List.take_of_length_le (by rw [← Hm.out]; exact Nat.le_refl _)] at hIr
        exact hIr
      have e1 : Hid (tgt.1 = 0) := by show _ = _; rw [h0.out]
      have e2 : Hid (tgt.2 = 0) := by show _ = _; rw [h0.out]
      go_wp2_with fail
      go_ret2
      exact ⟨by rw [e1.out, e2.out]; rfl, hI3, hfr⟩
end Go.Proofs.Ytgogagapapdlgaa
