/-
  A byte of a picture's place that is another one: the picture stands no more. No program here.
-/
import Derived.Test.YtchajbiloaiekaaSl6
namespace Go.Proofs.Ytchajbiloaiekaa
set_option linter.unusedVariables false
theorem zeros_get (m i : Nat) (h : i < m) : (zeros m)[i]? = some 0 := by unfold zeros; rw [List.getElem?_replicate, if_pos h]
theorem partN_le (l i : Nat) : partN l i ≤ 64 := Nat.min_le_left _ _
theorem sectN_get (p : List Nat) (i x : Nat) (hx : x < 64) : (sectN p i)[x]? = some (p.getD (64 * i + x) 0) := by
  unfold sectN
  have hl := sectN_part p i
  by_cases h : x < ((p.drop (64 * i)).take 64).length
  · rw [List.getElem?_append_left h, List.getElem?_take_of_lt hx, List.getElem?_drop]
    have : 64 * i + x < p.length := by rw [hl] at h; unfold partN at h; omega
    rw [List.getD_eq_getElem?_getD, List.getElem?_eq_getElem this]; rfl
  · rw [List.getElem?_append_right (by omega)]
    have h2 : p.length ≤ 64 * i + x := by rw [hl] at h; unfold partN at h; omega
    rw [List.getD_eq_getElem?_getD, List.getElem?_eq_none h2]
    have hle := partN_le p.length i
    rw [hl] at h ⊢
    exact zeros_get _ _ (by omega)
theorem sectN_set_same (p : List Nat) (j x y : Nat) (hx : x < 64) (hm : 64 * j + x < p.length) : sectN (p.set (64 * j + x) y) j = (sectN p j).set x y := by
  apply List.ext_getElem?
  intro z
  by_cases hz : z < 64
  · rw [sectN_get _ _ _ hz, List.getElem?_set]
    simp only [List.getD_eq_getElem?_getD, List.getElem?_set]
    by_cases hxz : x = z
    · subst hxz
      rw [if_pos rfl, if_pos hm, if_pos rfl, if_pos (by rw [sectN_len]; exact hz)]; rfl
    · rw [if_neg (by omega), if_neg hxz, sectN_get _ _ _ hz, List.getD_eq_getElem?_getD]
  · rw [List.getElem?_eq_none (by rw [sectN_len]; omega), List.getElem?_eq_none (by rw [List.length_set, sectN_len]; omega)]
theorem sectN_set_other (p : List Nat) (i j x y : Nat) (hx : x < 64) (hij : i ≠ j) : sectN (p.set (64 * j + x) y) i = sectN p i := by
  apply List.ext_getElem?
  intro z
  by_cases hz : z < 64
  · rw [sectN_get _ _ _ hz, sectN_get _ _ _ hz]
    simp only [List.getD_eq_getElem?_getD, List.getElem?_set]
    rw [if_neg (by omega)]
  · rw [List.getElem?_eq_none (by rw [sectN_len]; omega), List.getElem?_eq_none (by rw [sectN_len]; omega)]
theorem headN_take (t : Nat) (p : List Nat) : (headN t p).take 55 = head55 t p := by
  unfold headN
  rw [List.append_assoc, List.take_left' (head55_len t p)]
theorem beP_inj8 {a b : Nat} (ha : a < B64) (hb : b < B64) (h : beP 8 a = beP 8 b) : a = b := by
  have := congrArg beG h
  rw [beG_beP, beG_beP] at this
  unfold B64 at ha hb
  rw [Nat.mod_eq_of_lt (by omega), Nat.mod_eq_of_lt (by omega)] at this
  exact this
/-- A byte of a head: no head any more. -/
theorem head_rot {t i y : Nat} {p : List Nat} (hp : ∀ x ∈ p, x < 256) (hi : i < 64) (hy : y < 256) (hne : (headN t p)[i]? ≠ some y) (t' : Nat) (p' : List Nat) (hp' : ∀ x ∈ p', x < 256) : headN t' p' ≠ (headN t p).set i y := by
  intro h
  have h55 : head55 t' p' = ((headN t p).set i y).take 55 := by rw [← headN_take, h]
  by_cases h1 : i < 55
  · have e1 : ((headN t p).set i y) = (head55 t p).set i y ++ (beP 8 (sumN (head55 t p)) ++ [76]) := by
      unfold headN
      rw [List.append_assoc, List.set_append_left _ _ (by rw [head55_len]; exact h1)]
    have e2 : headN t' p' = head55 t' p' ++ (beP 8 (sumN (head55 t' p')) ++ [76]) := by unfold headN; rw [List.append_assoc]
    rw [e1, e2] at h
    obtain ⟨a1, a2⟩ := List.append_inj h (by rw [List.length_set, head55_len, head55_len])
    obtain ⟨a3, -⟩ := List.append_inj a2 (by rw [beP_len, beP_len])
    have hs := beP_inj8 (sumN_lt (head55_lt t' p')) (sumN_lt (head55_lt t p)) a3
    rw [a1] at hs
    refine sumN_ne (head55_lt t p) hy ?_ (by rw [head55_len]; exact h1) hs
    intro e
    apply hne
    unfold headN
    rw [List.append_assoc, List.getElem?_append_left (by rw [head55_len]; exact h1)]
    exact e
  · have e1 : head55 t' p' = head55 t p := by
      rw [h55, List.take_set_of_le (by omega), headN_take]
    have e2 : headN t' p' = headN t p := by unfold headN; rw [e1]
    rw [e2] at h
    apply hne
    have := congrArg (·[i]?) h
    simp only [List.getElem?_set_self (show i < (headN t p).length by rw [headN_len]; exact hi)] at this
    exact this
theorem head_sum {t t' : Nat} {p p' : List Nat} (hp : ∀ x ∈ p, x < 256) (hp' : ∀ x ∈ p', x < 256) (h : headN t p = headN t' p') : sumN p = sumN p' := by
  have h2 : head55 t p = head55 t' p' := by rw [← headN_take, ← headN_take, h]
  unfold head55 at h2
  obtain ⟨h3, -⟩ := List.append_inj h2 (by simp [beP_len])
  obtain ⟨-, h4⟩ := List.append_inj h3 (by simp [beP_len])
  exact beP_inj8 (sumN_lt hp) (sumN_lt hp') h4
theorem padN_at {T : Nat → List Nat} {b l : Nat} : ∀ {J j : Nat}, padN T b l J = true → j < J → (T (b + j)).drop (partN l j) = zeros (64 - partN l j)
  | 0, j, _, h => by omega
  | J + 1, j, h, hj => by
    rw [padN, Bool.and_eq_true] at h
    by_cases hjJ : j = J
    · subst hjJ; exact of_decide_eq_true h.2
    · exact padN_at h.1 (by omega)
theorem picN_lt {T : Nat → List Nat} {b l : Nat} : ∀ {J : Nat}, (∀ j, j < J → ∀ x ∈ T (b + j), x < 256) → ∀ x ∈ picN T b l J, x < 256
  | 0, _, x, hx => by simp [picN] at hx
  | J + 1, h, x, hx => by
    rw [picN] at hx
    rcases List.mem_append.1 hx with hx | hx
    · exact picN_lt (fun j hj => h j (by omega)) x hx
    · exact h J (by omega) x (List.mem_of_mem_take hx)
/-- THE LAW. -/
theorem rot_law {T : Nat → List Nat} {fr n k t j i y : Nat} {p : List Nat} (hp : ∀ x ∈ p, x < 256) (hh : T (fr + k * n) = headN t p) (hs : ∀ i, i < (p.length + 63) / 64 → T (fr + k * n + 1 + i) = sectN p i) (hl2 : p.length < 4294967296) (ht : t < 18446744073709551616)
    (hj : j ≤ (p.length + 63) / 64) (hi : i < 64) (hy : y < 256) (hne : (T (fr + k * n + j))[i]? ≠ some y) (U : Nat → List Nat) (hU : U (fr + k * n + j) = (T (fr + k * n + j)).set i y) (hU2 : ∀ m, m ≠ fr + k * n + j → U m = T m) (hUl : ∀ m, ∀ x ∈ U (fr + k * n + 1 + m), m < (p.length + 63) / 64 ∨ m < n → x < 256) (hn : 64 * (n - 1) < 4294967296) :
    (standsN U fr n k).2 = 0 := by
  by_cases hj0 : j = 0
  · subst hj0
    rw [Nat.add_zero] at hU hU2 hne
    rw [hh] at hU hne
    unfold standsN
    simp only
    split
    · rfl
    · rename_i hc
      split
      · rfl
      · split
        · rfl
        · rename_i he
          have he2 := Classical.not_not.1 he
          exfalso
          rw [hU] at he2
          refine head_rot hp hi hy hne _ _ ?_ he2
          refine picN_lt fun m hm x hx => hUl m x hx (.inr ?_)
          have : longN ((headN t p).set i y) ≤ 64 * (n - 1) := by rw [hU] at hc; omega
          omega
  · obtain ⟨jj, rfl⟩ : ∃ jj, j = jj + 1 := ⟨j - 1, by omega⟩
    have e0 : fr + k * n + (jj + 1) = fr + k * n + 1 + jj := by omega
    rw [e0] at hU hU2 hne
    have hjj : jj < (p.length + 63) / 64 := by omega
    rw [hs jj hjj] at hU hne
    have hh2 : U (fr + k * n) = headN t p := by rw [hU2 _ (by omega), hh]
    have htn := headN_turn t p ht
    have hlg := headN_long t p hl2
    unfold standsN
    simp only [hh2, htn, hlg]
    split
    · rfl
    · split
      · rfl
      · rename_i hc hpd
        have hpd2 : padN U (fr + k * n + 1) p.length ((p.length + 63) / 64) = true := by simpa using hpd
        split
        · rfl
        · rename_i he
          have he2 := Classical.not_not.1 he
          exfalso
          have hpt := padN_at hpd2 hjj
          rw [hU] at hpt
          by_cases hin : i < partN p.length jj
          · have hm : 64 * jj + i < p.length := by unfold partN at hin; omega
            have hsec : ∀ m, m < ((p.set (64 * jj + i) y).length + 63) / 64 → U (fr + k * n + 1 + m) = sectN (p.set (64 * jj + i) y) m := fun m hm2 => by
              rw [List.length_set] at hm2
              by_cases hmj : m = jj
              · subst hmj
                rw [hU, sectN_set_same p m i y hi hm]
              · rw [hU2 _ (by omega), hs m hm2, sectN_set_other p m jj i y hi hmj]
            obtain ⟨a1, -⟩ := picN_laid hsec
            rw [List.length_set] at a1
            have a2 : (p.set (64 * jj + i) y).take (64 * ((p.length + 63) / 64)) = p.set (64 * jj + i) y := List.take_of_length_le (by rw [List.length_set]; omega)
            rw [a1, a2] at he2
            have hset : ∀ x ∈ p.set (64 * jj + i) y, x < 256 := fun x hx => (List.mem_or_eq_of_mem_set hx).elim (hp x) (fun e => e ▸ hy)
            refine sumN_ne hp hy ?_ hm (head_sum hset hp he2)
            intro e
            apply hne
            rw [sectN_get _ _ _ hi, List.getD_eq_getElem?_getD, e]; rfl
          · have e1 := congrArg (·[i - partN p.length jj]?) hpt
            simp only [List.getElem?_drop] at e1
            rw [show partN p.length jj + (i - partN p.length jj) = i by omega, List.getElem?_set_self (by rw [sectN_len]; exact hi)] at e1
            have e2 : (zeros (64 - partN p.length jj))[i - partN p.length jj]? = some 0 := zeros_get _ _ (by have := partN_le p.length jj; omega)
            rw [e2] at e1
            have hy0 : y = 0 := by simpa using e1
            apply hne
            rw [sectN_get _ _ _ hi, List.getD_eq_getElem?_getD, List.getElem?_eq_none (by unfold partN at hin; omega), hy0]; rfl
end Go.Proofs.Ytchajbiloaiekaa
