/-
  Texts merged into one, to keep the claim small: Pr5.
-/
import Derived.Test.YtahhecendjfenaaMr31
import Derived.Test.YtahhecendjfenaaMr37
/-
  proto: rows of bytes that grow; shorts, of both. (printed by pr_short.py)
-/
namespace Go.Proofs.Ytahhecendjfenaa
open Go.RowKit
set_option linter.unusedVariables false
set_option linter.unusedSimpArgs false
/-- A slice of slices of bytes, its own, each of them too. -/
structure LLr (W w : World) (xss : List (List Nat)) (B : Option Addr) (j cb : Nat) (rs : List BS) (g : Option Nat) : Prop where
  eq : rs.map (·.xs) = xss
  len : j = xss.length
  ow : Ow w 33 1 B j cb (rs.map BS.cell) g
  new : ∀ b, g = some b → W.heap.size ≤ b
  own : BSs w 0 W.heap.size rs
  fr : Fr (fun _ => False) W w
def LL (W w : World) (xss : List (List Nat)) (B : Option Addr) (j cb : Nat) : Prop := ∃ rs g, LLr W w xss B j cb rs g
theorem LL.begin (W w : World) (hf : Fr (fun _ => False) W w) : LL W w [] none 0 0 := ⟨[], none, rfl, rfl, Ow.nil_ _ _ _, (fun b h => by cases h), BSs.nil_ _ _ _, hf⟩
theorem LL.quiet {W w w' : World} {xss : List (List Nat)} {B : Option Addr} {j cb : Nat} (h : LL W w xss B j cb) (hf : Fr (fun _ => False) w w') : LL W w' xss B j cb := by
  obtain ⟨rs, g, h⟩ := h
  exact ⟨rs, g, h.eq, h.len, h.ow.fr hf (fun _ _ => id), h.new, h.own.quiet hf, h.fr.trans hf⟩
theorem LL.frame {W w : World} {xss : List (List Nat)} {B : Option Addr} {j cb : Nat} (h : LL W w xss B j cb) : Fr (fun _ => False) W w := by
  obtain ⟨rs, g, h⟩ := h; exact h.fr
theorem LL.lat {W w : World} {xss : List (List Nat)} {B : Option Addr} {j cb : Nat} (h : LL W w xss B j cb) : LAt w w.heap.size B j xss := by
  obtain ⟨rs, g, h⟩ := h
  have := h.own.lat' h.ow
  rwa [h.eq] at this
theorem LLr.app {W w w2 w3 : World} {xss : List (List Nat)} {B B3 A2 : Option Addr} {j cb cb3 m c2 : Nat} {rs : List BS} {g g2 g3 : Option Nat} {v : List Nat} (h : LLr W w xss B j cb rs g) (hf2 : Fr (fun _ => False) w w2) (hL2 : Ow w2 5 1 A2 m c2 (v.map bn) g2) (hg2 : ∀ b, g2 = some b → w.heap.size ≤ b)
    (hB3 : Ow w3 33 1 B3 (j + 1) cb3 (rs.map BS.cell ++ [.slice A2 m c2]) g3) (hf23 : Fr (fun x => some x = g) w2 w3) (hg3 : g3 = g ∨ ∃ b, g3 = some b ∧ w2.heap.size ≤ b) : LL W w3 (xss ++ [v]) B3 (j + 1) cb3 := by
  have s0 := h.fr.size
  have s2 := hf2.size
  have hB2 := h.ow.fr hf2 (fun _ _ => id)
  refine ⟨rs ++ [⟨v, A2, m, c2, g2⟩], g3, ?_, ?_, ?_, ?_, ?_, ?_⟩
  · rw [List.map_append, h.eq]; rfl
  · rw [List.length_append, ← h.len]; rfl
  · rw [List.map_append]; exact hB3
  · intro b e
    rcases hg3 with e3 | ⟨x, e3, hx⟩
    · exact h.new b (by rw [← e3]; exact e)
    · rw [e3] at e; cases e; omega
  · have hL3 : Ow w3 5 1 A2 (m + 0) c2 ((v ++ marks 0).map bn) g2 := by
      have : v ++ marks 0 = v := by simp [marks]
      rw [this]
      exact hL2.fr hf23 fun x e1 e2 => by
        rw [← e2] at hB2; rw [e1] at hL2
        exact Ow.ne hB2 hL2 (by decide) rfl
    exact BSs.add (S := fun x => some x = g) h.own ((hf2.weak _).comp hf23 (fun _ _ e => e)) (h.own.apart h.ow (by decide)) (r := ⟨v, A2, m, c2, g2⟩) hL3 hg2 s0
  · exact (h.fr.trans hf2).comp hf23 fun x hx e => by have := h.new x e.symm; omega
set_option maxHeartbeats 2000000 in
set_option maxRecDepth 8000 in
theorem tshorts_any (w : World) (xs : List Int) (A : Option Addr) (n c : Nat) (hn : n ≤ 1000) (hok : okL xs = true) (hA : Sl w 1 A n (xs.map iv)) :
    Calls Try.prog 39 #[.slice A n c] w fun e w' => ∃ B k cb, e = .returned (.slice B k cb) ∧ LL w w' (shs xs) B k cb := by
  obtain ⟨bi, bj, bj0, bj1, bj2⟩ := info_parts infoB
  have Hn := hide (hA.ilen)
  have HA := hide hA
  have Hok := hide hok
  clear hA hok
  go_enter Try.func39, Try.ntmps39
  go_wp2_with fail
  go_loopw [3, 8] (fun u i wr => ∃ (j : Nat) (B : Option Addr) (cb : Nat), j ≤ n ∧ i = .int .i64 (j : Int) ∧ u = .slice B j cb ∧ Hid (LL w wr ((shs xs).take j) B j cb)) (fun _ i _ => n - (intOf i).toNat)
  case atStart => exact ⟨0, none, 0, Nat.zero_le _, rfl, rfl, LL.begin _ _ (Fr.refl _ _)⟩
  case round =>
    obtain ⟨j, B, cb, hj, rfl, rfl, HL⟩ := hrel
    by_cases hlt : j < n
    · have hjl : j < xs.length := by rw [← Hn.out]; exact hlt
      obtain ⟨wo, rfl⟩ : ∃ wo, wo = wr := ⟨_, rfl⟩
      obtain ⟨rs, g, hLr⟩ := HL.out
      have hz := okL_mem Hok.out (List.getElem_mem hjl)
      obtain ⟨t, ht⟩ : ∃ t : Nat, xs[j] = (t : Int) := ⟨xs[j].toNat, by omega⟩
      rw [ht] at hz
      have hdrop : Hid ((shs xs).take (j + 1) = (shs xs).take j ++ [short t]) := by
        show _ = _
        rw [List.take_succ_eq_append_getElem (by rw [shs, List.length_map]; exact hjl)]
        congr 1
        simp [shs, ht]
      obtain ⟨b, o, rfl, c0⟩ := (HA.out.quiet hLr.fr).at_ (j := j) (u := .int .i64 (t : Int)) (by rw [List.getElem?_map, List.getElem?_eq_getElem hjl, ht]; rfl)
      have i0 : (0 : Int) ≤ (j : Int) := by omega
      have i1 : (j : Int) < (n : Int) := by omega
      have q1 : IntKind.i64.wrap ((j : Int) + 1) = ((j + 1 : Nat) : Int) := by rw [IntWalk.i64_in _ (by omega)]; omega
      have q2 : IntKind.u64.wrap (t : Int) = (t : Int) := IntWalk.u64_in _ (by omega)
      have htU : t < U64 := by unfold U64; omega
      have Hlt := hide hlt
      have HLr := hide hLr
      have hB := hLr.ow
      clear hz ht hjl hlt hj HL hLr
      go_wp2_with fail
      refine (short_any _ t htU).mono ?_
      rintro e w2 ⟨A2, c2, g2, rfl, hL2, hg2, hf2⟩
      have hB2 := hB.fr hf2 (fun _ _ => id)
      clear c0 hB
      go_wp2_with (first | (at_builtin; refine wpList_append_ow _ rfl _ _ 67 rfl 33 bi (.slice none 0 0) 1 24 Try.underlying67 bj bj0 bj1 bj2 rfl (by decide) _ _ _ _ _ rfl (hB2.fr ((Fr.refl (fun _ => False) _).alloc _) (fun _ _ => id)) _ _ _ [.slice A2 (short t).length c2] rfl (Sl.one _ _ _) (by intro u hu; simp at hu; subst hu; rfl) (by unfold maxLen; omega) (by omega) ?_) | go_in)
      intro B3 cb3 w3 g3 hB3 hf3 hg3
      have hf23 : Fr (fun x => some x = g) w2 w3 := ((Fr.refl _ _).alloc _).comp hf3 (fun _ _ e => e)
      have HL3 : Hid (LL w w3 ((shs xs).take (j + 1)) B3 (j + 1) cb3) := by
        rw [hdrop.out]
        exact HLr.out.app hf2 hL2 hg2 hB3 hf23 (hg3.imp id fun ⟨b, e, h⟩ => ⟨b, e, by first | omega | (simp at h; omega)⟩)
      clear hB3 hf3 hg3 hf23 hL2 hB2 hg2 hf2 HLr
      go_wp2_with fail
      have := Hlt.out
      exact ⟨⟨j + 1, B3, cb3, by omega, by first | rfl | go_num, rfl, HL3⟩, by simp [intOf]; try omega⟩
    · obtain rfl : j = n := by omega
      have HL2 : Hid (LL w wr (shs xs) B j cb) := by
        have := HL.out
        rwa [List.take_of_length_le (by rw [shs, List.length_map, ← Hn.out]; exact Nat.le_refl _)] at this
      clear hlt hj HL
      go_wp2_with fail
      go_ret
      exact ⟨B, j, cb, rfl, HL2.out⟩
set_option maxHeartbeats 2000000 in
set_option maxRecDepth 8000 in
theorem rshorts_any (w : World) (xs : List Int) (A : Option Addr) (n c : Nat) (hn : n ≤ 1000) (hok : okL xs = true) (hA : Sl w 1 A n (xs.map iv)) :
    Calls Try.prog 45 #[.slice A n c] w (BP (listAll (shs xs)).length (listAll (shs xs)) w) := by
  obtain ⟨bi, bj, bj0, bj1, bj2⟩ := info_parts infoB
  have Hn := hide (hA.ilen)
  have HA := hide hA
  have Hok := hide hok
  clear hA hok
  go_enter Try.func45, Try.ntmps45
  go_wp2_with fail
  go_loopw [3, 4] (fun u i wr => ∃ (j : Nat) (B : Option Addr) (cb : Nat), j ≤ n ∧ i = .int .i64 (j : Int) ∧ u = .slice B j cb ∧ Hid (LL w wr ((shs xs).take j) B j cb)) (fun _ i _ => n - (intOf i).toNat)
  case atStart => exact ⟨0, none, 0, Nat.zero_le _, rfl, rfl, LL.begin _ _ (Fr.refl _ _)⟩
  case round =>
    obtain ⟨j, B, cb, hj, rfl, rfl, HL⟩ := hrel
    by_cases hlt : j < n
    · have hjl : j < xs.length := by rw [← Hn.out]; exact hlt
      obtain ⟨wo, rfl⟩ : ∃ wo, wo = wr := ⟨_, rfl⟩
      obtain ⟨rs, g, hLr⟩ := HL.out
      have hz := okL_mem Hok.out (List.getElem_mem hjl)
      obtain ⟨t, ht⟩ : ∃ t : Nat, xs[j] = (t : Int) := ⟨xs[j].toNat, by omega⟩
      rw [ht] at hz
      have hdrop : Hid ((shs xs).take (j + 1) = (shs xs).take j ++ [short t]) := by
        show _ = _
        rw [List.take_succ_eq_append_getElem (by rw [shs, List.length_map]; exact hjl)]
        congr 1
        simp [shs, ht]
      obtain ⟨b, o, rfl, c0⟩ := (HA.out.quiet hLr.fr).at_ (j := j) (u := .int .i64 (t : Int)) (by rw [List.getElem?_map, List.getElem?_eq_getElem hjl, ht]; rfl)
      have i0 : (0 : Int) ≤ (j : Int) := by omega
      have i1 : (j : Int) < (n : Int) := by omega
      have q1 : IntKind.i64.wrap ((j : Int) + 1) = ((j + 1 : Nat) : Int) := by rw [IntWalk.i64_in _ (by omega)]; omega
      have q2 : IntKind.u64.wrap (t : Int) = (t : Int) := IntWalk.u64_in _ (by omega)
      have htU : t < U64 := by unfold U64; omega
      have Hlt := hide hlt
      have HLr := hide hLr
      have hB := hLr.ow
      clear hz ht hjl hlt hj HL hLr
      go_wp2_with fail
      refine (rshort_any _ t htU).mono ?_
      rintro e w2 ⟨A2, c2, g2, rfl, hL2, hg2, hf2⟩
      have hB2 := hB.fr hf2 (fun _ _ => id)
      clear c0 hB
      go_wp2_with (first | (at_builtin; refine wpList_append_ow _ rfl _ _ 67 rfl 33 bi (.slice none 0 0) 1 24 Try.underlying67 bj bj0 bj1 bj2 rfl (by decide) _ _ _ _ _ rfl (hB2.fr ((Fr.refl (fun _ => False) _).alloc _) (fun _ _ => id)) _ _ _ [.slice A2 (short t).length c2] rfl (Sl.one _ _ _) (by intro u hu; simp at hu; subst hu; rfl) (by unfold maxLen; omega) (by omega) ?_) | go_in)
      intro B3 cb3 w3 g3 hB3 hf3 hg3
      have hf23 : Fr (fun x => some x = g) w2 w3 := ((Fr.refl _ _).alloc _).comp hf3 (fun _ _ e => e)
      have HL3 : Hid (LL w w3 ((shs xs).take (j + 1)) B3 (j + 1) cb3) := by
        rw [hdrop.out]
        exact HLr.out.app hf2 hL2 hg2 hB3 hf23 (hg3.imp id fun ⟨b, e, h⟩ => ⟨b, e, by first | omega | (simp at h; omega)⟩)
      clear hB3 hf3 hg3 hf23 hL2 hB2 hg2 hf2 HLr
      go_wp2_with fail
      have := Hlt.out
      exact ⟨⟨j + 1, B3, cb3, by omega, by first | rfl | go_num, rfl, HL3⟩, by simp [intOf]; try omega⟩
    · obtain rfl : j = n := by omega
      have HL2 : Hid (LL w wr (shs xs) B j cb) := by
        have := HL.out
        rwa [List.take_of_length_le (by rw [shs, List.length_map, ← Hn.out]; exact Nat.le_refl _)] at this
      clear hlt hj HL
      have hM : ∀ x ∈ shs xs, x.length ≤ 10 := shs_len Hok.out
      have hT := shsAll_len Hok.out
      rw [← Hn.out] at hT
      have c1 := rlist_any wr (shs xs) B j cb _ (by omega) (Nat.le_refl _) (fun x hx => by have := hM x hx; omega) (by omega) HL2.out.lat
      clear hM hT
      go_wp2_with fail
      refine c1.mono ?_
      rintro e w2 ⟨A2, c2, g2, rfl, hO, hg, hf⟩
      have s0 := HL2.out.frame.size
      have HF := hide (HL2.out.frame.trans hf)
      go_wp2_with fail
      go_ret
      exact ⟨A2, c2, g2, rfl, hO, fun b e => Nat.le_trans s0 (hg b e), HF.out⟩
end Go.Proofs.Ytahhecendjfenaa
