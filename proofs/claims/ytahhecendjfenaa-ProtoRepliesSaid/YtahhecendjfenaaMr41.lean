/-
  Texts merged into one, to keep the claim small: PrW.
-/
import Derived.Test.YtahhecendjfenaaMr30
/-
  proto: forms are rows of bytes. No program in sight.
-/
namespace Go.Proofs.Ytahhecendjfenaa
set_option linter.unusedVariables false
set_option linter.unusedSimpArgs false
theorem putAll_b : ∀ (fs : List (Int × List Nat)) (a : Int), -1 ≤ a → putScan a fs = 0 → (∀ f ∈ fs, ∀ y ∈ f.2, y < 256) → ∀ x ∈ putAll fs, x < 256
  | [], _, _, _, _, x, hx => by simp [putAll] at hx
  | (t, v) :: r, a, ha, h, hv, x, hx => by
    rw [putScan] at h
    split at h
    · simp at h
    · rename_i h1
      split at h
      · simp at h
      · have e : putAll ((t, v) :: r) = formF t.toNat v ++ putAll r := by simp [putAll]
        rw [e] at hx
        rcases List.mem_append.1 hx with hx | hx
        · rw [formF] at hx
          rcases List.mem_append.1 hx with hx | hx
          · rcases List.mem_cons.1 hx with rfl | hx
            · omega
            · exact short_bytes _ _ (Nat.le_refl _) x hx
          · exact hv _ (List.mem_cons_self ..) x hx
        · exact putAll_b r t (by omega) h (fun f hf => hv f (List.mem_cons_of_mem _ hf)) x hx
theorem listAll_b {xss : List (List Nat)} (h : ∀ x ∈ xss, ∀ y ∈ x, y < 256) : ∀ y ∈ listAll xss, y < 256 := by
  intro y hy
  obtain ⟨x, hx, hyx⟩ := List.mem_flatMap.1 hy
  rcases List.mem_append.1 hyx with hy | hy
  · exact short_bytes _ _ (Nat.le_refl _) y hy
  · exact h x hx y hy
theorem live_b {l : List Fd} (ha : Asc 0 l) (h : ∀ f ∈ l, ∀ y ∈ f.2, y < 256) : ∀ x ∈ putAll (live l), x < 256 :=
  putAll_b _ 0 (by omega) (asc_scan _ 0 ha.live live_ne) fun f hf => h f (List.mem_filter.1 hf).1
theorem Nv_b (n : Nat) : ∀ y ∈ Nv n, y < 256 := by
  unfold Nv
  split
  · intro y hy; cases hy
  · exact short_bytes _ _ (Nat.le_refl _)
theorem shs_b (l : List Int) : ∀ x ∈ shs l, ∀ y ∈ x, y < 256 := fun x hx => by
  obtain ⟨n, -, rfl⟩ := List.mem_map.1 hx
  exact short_bytes _ _ (Nat.le_refl _)
theorem ER.form_b (r : ER) : ∀ x ∈ r.form, x < 256 := live_b r.asc fun f hf => by
  simp only [ER.fl, List.mem_cons, List.mem_nil_iff, or_false] at hf
  rcases hf with rfl | rfl | rfl | rfl | rfl <;> first | exact Nv_b _ | exact listAll_b (shs_b _)
theorem CR.form_b (r : CR) : ∀ x ∈ r.form, x < 256 := live_b r.asc fun f hf => by
  simp only [CR.fl, List.mem_cons, List.mem_nil_iff, or_false] at hf
  rcases hf with rfl | rfl | rfl | rfl | rfl | rfl | rfl | rfl | rfl | rfl | rfl <;> first | exact Nv_b _ | exact listAll_b (fun x hx => by obtain ⟨e, -, rfl⟩ := List.mem_map.1 hx; exact e.form_b)
theorem RR.form_b {r : RR} (hw : r.wf) : ∀ x ∈ r.form, x < 256 := live_b r.asc fun f hf => by
  simp only [RR.fl, List.mem_cons, List.mem_nil_iff, or_false] at hf
  rcases hf with rfl | rfl | rfl | rfl | rfl | rfl | rfl | rfl <;> first | exact Nv_b _ | exact listAll_b (shs_b _) | exact r.k.form_b | exact hw.txt
end Go.Proofs.Ytahhecendjfenaa
