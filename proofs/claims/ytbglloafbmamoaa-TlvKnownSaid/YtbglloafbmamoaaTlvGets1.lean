/-
  TlvGets: fieldsSame.
-/
import Derived.Test.YtbglloafbmamoaaTlvRGet
namespace Go.Proofs.Ytbglloafbmamoaa
open Go.RowKit
set_option linter.unusedVariables false
attribute [local go_sem ↓] Go.wp_at_zero Go.wp_at_succ

/-- The cells of a row within a slice of rows. -/
theorem Ow.rowAt {α : Type} {f : α → List Value} {s : Nat} (hs : ∀ x, (f x).length = s) {w : World} {e : TypeId} {A : Option Addr} {n c : Nat} {g : Option Nat} {rs : List α} (hO : Ow w e s A n c (rs.flatMap f) g) {k : Nat} (hk : k < rs.length) (h0 : 0 < s) :
    ∃ b o, A = some ⟨b, o, none⟩ ∧ g = some b ∧ ∀ j u, (f rs[k])[j]? = some u → w.cell? ⟨b, o + k * s + j, none⟩ = some u ∧ w.frozen? ⟨b, o + k * s + j, none⟩ = false := by
  have hx : ∀ j, j < s → (rs.flatMap f)[k * s + j]? = (f rs[k])[j]? := fun j hj => rows_get f s hs rs k j hk hj
  have h1 : (f rs[k])[0]? = some ((f rs[k])[0]'(by rw [hs]; exact h0)) := List.getElem?_eq_getElem _
  obtain ⟨b, o, hA, hg, _, _⟩ := hO.look ((hx 0 h0).trans h1)
  refine ⟨b, o, hA, hg, fun j u hu => ?_⟩
  have hj : j < s := by rw [← hs rs[k]]; exact (List.getElem?_eq_some_iff.1 hu).1
  obtain ⟨b', o', hA', _, c0, c1⟩ := hO.look ((hx j hj).trans hu)
  rw [hA] at hA'; cases hA'
  rw [Nat.add_assoc]
  exact ⟨c0, c1⟩
theorem Ow.rowsLen {α : Type} {f : α → List Value} {s : Nat} (hs : ∀ x, (f x).length = s) {w : World} {e : TypeId} {A : Option Addr} {n c : Nat} {g : Option Nat} {rs : List α} (hO : Ow w e s A n c (rs.flatMap f) g) (h0 : 0 < s) : n = rs.length := by
  have := hO.1
  rw [rows_len f s hs] at this
  exact (Nat.eq_of_mul_eq_mul_right h0 this).symm

theorem getS_len (bs : List Nat) (a last : Nat) : (getS bs a last).1.length ≤ bs.length - a := by
  by_cases ha : a < bs.length
  · rcases hs : stepG bs a last with F | ⟨p, e⟩
    · by_cases h2 : a < F.to_
      · rw [getS_one ha hs h2]
        have := getS_len bs F.to_ F.tag
        simp only [List.length_cons]; omega
      · rw [getS, dif_pos ha, hs]; simp only [dif_neg h2]; simp
    · rw [getS_bad ha hs]; simp
  · rw [getS_end ha]; simp
termination_by bs.length - a
theorem getAll_len (bs : List Nat) : (getAll bs).1.length ≤ 1048576 := by
  unfold getAll
  split
  · simp
  · split
    · have := getS_len bs 0 0; omega
    · simp

set_option maxHeartbeats 1000000 in
set_option maxRecDepth 4000 in
theorem fsame_q (w : World) (bs : List Nat) (rs qs : List FO) (A B : Option Addr) (n c d B1 B2 : Nat) (g h : Option Nat) (hn : n ≤ 9223372036854775806) (hbs : bs.length ≤ 9223372036854775806) (he : rs.map (·.F) = qs.map (·.F))
    (hO : Ow w 40 2 A n c (rs.flatMap FO.tCells) g) (hQ : Ow w 42 5 B n d (qs.flatMap FO.rCells) h) (hF : FOs w bs B1 rs) (hG : FOs w bs B2 qs) :
    Calls Try.prog 30 #[.slice A n c, .slice B n d] w fun e w' => e = .returned (.bool true) ∧ ∃ m, w' = w.drewN m := by
  have Hn : Hid (n = rs.length) := hO.rowsLen FO.tCells_len (by omega)
  have Hq : Hid (n = qs.length) := hQ.rowsLen FO.rCells_len (by omega)
  have He := hide he
  clear he
  go_enter Try.func30, Try.ntmps30
  go_wp2_with fail
  go_loopw [5] (fun i wr => ∃ (k : Nat), k ≤ n ∧ i = .int .i64 k ∧ Hid (∃ m, wr = w.drewN m)) (fun i _ => n - (intOf i).toNat)
  case atStart => exact ⟨0, Nat.zero_le _, rfl, ⟨0, rfl⟩⟩
  case round =>
    obtain ⟨k, hk, rfl, hw⟩ := hrel
    have hfr := fr_of_drewN hw.out
    replace hO := hO.fr hfr (fun _ _ => id)
    replace hQ := hQ.fr hfr (fun _ _ => id)
    replace hF := hF.quiet hfr
    replace hG := hG.quiet hfr
    clear hfr
    by_cases hlt : k < n
    · have hk1 : k < rs.length := by rw [← Hn.out]; exact hlt
      have hk2 : k < qs.length := by rw [← Hq.out]; exact hlt
      obtain ⟨b, o, rfl, rfl, hc⟩ := hO.rowAt FO.tCells_len hk1 (by omega)
      obtain ⟨b', o', rfl, rfl, hc'⟩ := hQ.rowAt FO.rCells_len hk2 (by omega)
      have heF : rs[k].F = qs[k].F := by
        have := congrArg (fun l => l[k]?) He.out
        simpa [hk1, hk2] using this
      have ho := hF.own _ (List.getElem_mem hk1)
      have ho' := hG.own _ (List.getElem_mem hk2)
      obtain ⟨r, hr⟩ : ∃ r, rs[k] = r := ⟨_, rfl⟩
      obtain ⟨q, hq⟩ : ∃ q, qs[k] = q := ⟨_, rfl⟩
      rw [hr] at hc heF ho
      rw [hq] at hc' heF ho'
      obtain ⟨F, rA, rn, rc, rg⟩ := r
      obtain ⟨F', qA, qn, qc, qg⟩ := q
      simp only at heF
      subst heF
      simp only at ho ho'
      have h1 := ho.len
      have h2 := ho'.len
      obtain rfl : rn = qn := by rw [h1, h2]
      obtain ⟨T, hT⟩ : ∃ T, F.tag = T := ⟨_, rfl⟩
      have c0 := (hc 0 _ rfl).1
      have c1 := (hc 1 _ rfl).1
      have c2 := (hc' 0 _ rfl).1
      have c3 := (hc' 1 _ rfl).1
      simp only at c0 c1 c2 c3
      rw [hT] at c0 c2
      rw [Nat.add_zero] at c0 c2
      have hrn : rn ≤ 9223372036854775806 := by rw [h1, GF.val, List.length_take, List.length_drop]; omega
      have H1 := hide h1
      clear hc hc' hr hq h1 h2 hT hk1 hk2
      have i0 : (0 : Int) ≤ (k : Int) := by omega
      have i1 : (k : Int) < (n : Int) := by omega
      go_wp2_with fail
      go_quiet ((go_at_call 16; exact quiet_ex (same_q _ (F.val bs) rA qA rc qc rn H1.out hrn (by exact ho.sl) (by exact ho'.sl))))
      go_wp2_with fail
      exact ⟨⟨k + 1, by omega, by go_num, by obtain ⟨m, hm⟩ := hw.out; exact ⟨m + nq, by rw [hm]; simp⟩⟩, by simp [intOf]; omega⟩
    · go_wp2_with fail
      go_ret
      exact ⟨rfl, hw.out⟩
end Go.Proofs.Ytbglloafbmamoaa
