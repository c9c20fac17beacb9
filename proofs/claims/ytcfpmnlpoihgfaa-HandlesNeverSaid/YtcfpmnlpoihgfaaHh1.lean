/-
  handles: the heap of free places.
-/
import Derived.Test.YtcfpmnlpoihgfaaMem
import Derived.Test.YtcfpmnlpoihgfaaOwn
import Derived.Test.YtcfpmnlpoihgfaaReg
import Derived.Test.YtcfpmnlpoihgfaaRows
import Derived.WalkLawsBesides
import Derived.WalkSpells
import Derived.Deep.QuietTactic
import Derived.BigQuiet
import Derived.RegionTactic
import Derived.BigRegion
namespace Go.Proofs.Ytcfpmnlpoihgfaa
open Go.RowKit
set_option linter.unusedVariables false
set_option linter.unusedSimpArgs false
def ix (k : Nat) : Value := .int .i64 (k : Int)
theorem len_any (w : World) (A : Option Addr) (n c : Nat) : Calls Try.prog 75 #[.slice A n c] w fun e w' => e = .returned (.int .i64 (n : Int)) ∧ w = w' := by
  go_enter Try.func75, Try.ntmps75
  go_wp2
  go_ret
  exact ⟨rfl, rfl⟩
theorem method_len (w : World) (a : Addr) : (method 246 80 (.pointer (some a)) "Len").run Try.prog w = ((loadVar 45 a).run Try.prog w).andThen fun v w' => .ok (75, v) w' := by
  have h1 : (method 246 80 (.pointer (some a)) "Len").run Try.prog w = (do let v ← loadVar 45 a; pure (75, v) : Sem (FuncId × Value)).run Try.prog w := by kernel_rfl
  rw [h1]
  simp only [Sem.run_bind, Sem.run_pure]
theorem method_less (w : World) (a : Addr) : (method 246 80 (.pointer (some a)) "Less").run Try.prog w = ((loadVar 45 a).run Try.prog w).andThen fun v w' => .ok (76, v) w' := by
  have h1 : (method 246 80 (.pointer (some a)) "Less").run Try.prog w = (do let v ← loadVar 45 a; pure (76, v) : Sem (FuncId × Value)).run Try.prog w := by kernel_rfl
  rw [h1]
  simp only [Sem.run_bind, Sem.run_pure]
theorem method_swap (w : World) (a : Addr) : (method 246 80 (.pointer (some a)) "Swap").run Try.prog w = ((loadVar 45 a).run Try.prog w).andThen fun v w' => .ok (77, v) w' := by
  have h1 : (method 246 80 (.pointer (some a)) "Swap").run Try.prog w = (do let v ← loadVar 45 a; pure (77, v) : Sem (FuncId × Value)).run Try.prog w := by kernel_rfl
  rw [h1]
  simp only [Sem.run_bind, Sem.run_pure]
theorem method_pop (w : World) (a : Addr) : (method 246 80 (.pointer (some a)) "Pop").run Try.prog w = .ok (78, .pointer (some a)) w := by kernel_rfl
theorem method_push (w : World) (a : Addr) : (method 246 80 (.pointer (some a)) "Push").run Try.prog w = .ok (79, .pointer (some a)) w := by kernel_rfl
attribute [local go_sem] method_len method_less method_swap method_pop method_push
theorem ix_get {xs : List Nat} {k : Nat} (h : k < xs.length) : (xs.map ix)[k]? = some (.int .i64 ((xs.getD k 0 : Nat) : Int)) := by
  simp [ix, List.getElem?_eq_getElem h, List.getD]
theorem less_any (w : World) (xs : List Nat) (A : Option Addr) (n c : Nat) (g : Option Nat) (hO : Ow w 3 1 A n c (xs.map ix) g) (i j : Nat) (hi : i < n) (hj : j < n) :
    Calls Try.prog 76 #[.slice A n c, .int .i64 (i : Int), .int .i64 (j : Int)] w fun e w' => e = .returned (.bool (decide (xs.getD i 0 < xs.getD j 0))) ∧ Fr (fun _ => False) w w' := by
  have hl : xs.length = n := by have := hO.1; simpa using this
  obtain ⟨b, o, rfl, rfl, ci, -⟩ := hO.look (ix_get (xs := xs) (k := i) (by omega))
  obtain ⟨b', o', e1, -, cj, -⟩ := hO.look (ix_get (xs := xs) (k := j) (by omega))
  cases e1
  obtain ⟨x, hx⟩ : ∃ x, xs.getD i 0 = x := ⟨_, rfl⟩
  obtain ⟨y, hy⟩ : ∃ y, xs.getD j 0 = y := ⟨_, rfl⟩
  rw [hx] at ci ⊢
  rw [hy] at cj ⊢
  have i0 : (0 : Int) ≤ (i : Int) := by omega
  have i1 : (i : Int) < (n : Int) := by omega
  have j0 : (0 : Int) ≤ (j : Int) := by omega
  have j1 : (j : Int) < (n : Int) := by omega
  clear hO hl hx hy
  by_cases h : x < y
  · have h2 : (x : Int) < (y : Int) := by omega
    rw [decide_eq_true h]
    go_enter Try.func76, Try.ntmps76
    go_wp2_with fail
    go_quiet (fail)
    go_wp2_with fail
    go_ret
    exact ⟨by first | rfl | (simp [h]; done), (Fr.refl _ _).drewN _⟩
  · have h2 : ¬ (x : Int) < (y : Int) := by omega
    rw [decide_eq_false h]
    go_enter Try.func76, Try.ntmps76
    go_wp2_with fail
    go_quiet (fail)
    go_wp2_with fail
    go_ret
    exact ⟨by first | rfl | (simp; done) | (simp; omega), (Fr.refl _ _).drewN _⟩
def swp (xs : List Nat) (i j : Nat) : List Nat := (xs.set i (xs.getD j 0)).set j (xs.getD i 0)
set_option maxRecDepth 4000 in
theorem swap_any (w : World) (xs : List Nat) (A : Option Addr) (n c : Nat) (g : Option Nat) (hO : Ow w 3 1 A n c (xs.map ix) g) (i j : Nat) (hi : i < n) (hj : j < n) :
    Calls Try.prog 77 #[.slice A n c, .int .i64 (i : Int), .int .i64 (j : Int)] w fun e w' => e = .returned (.tuple #[]) ∧ Ow w' 3 1 A n c ((swp xs i j).map ix) g ∧ Fr (fun k => g = some k) w w' := by
  have hl : xs.length = n := by have := hO.1; simpa using this
  obtain ⟨b, o, rfl, rfl, ci, zi⟩ := hO.look (ix_get (xs := xs) (k := i) (by omega))
  obtain ⟨b', o', e1, -, cj, zj⟩ := hO.look (ix_get (xs := xs) (k := j) (by omega))
  cases e1
  obtain ⟨x, hx⟩ : ∃ x, xs.getD i 0 = x := ⟨_, rfl⟩
  obtain ⟨y, hy⟩ : ∃ y, xs.getD j 0 = y := ⟨_, rfl⟩
  unfold swp
  rw [hx] at ci ⊢
  rw [hy] at cj ⊢
  have i0 : (0 : Int) ≤ (i : Int) := by omega
  have i1 : (i : Int) < (n : Int) := by omega
  have j0 : (0 : Int) ≤ (j : Int) := by omega
  have j1 : (j : Int) < (n : Int) := by omega
  have HO := hide hO
  clear hO hl hx hy
  by_cases hij : i = j
  · subst hij
    go_enter Try.func77, Try.ntmps77
    go_wp2_with fail
    go_region
    all_goals go_wp2
    all_goals (
      go_end0
      refine ⟨rfl, ?_, ((((Fr.refl (fun k => some b = some k) w).setIn (.inl rfl) _).setIn (.inl rfl) _).drew)⟩
      have h1 := (HO.out.put (j := i) (by omega) (ix x)).put (j := i) (by omega) (ix x)
      rw [← List.map_set, ← List.map_set, List.set_set] at h1
      rw [List.set_set]
      exact h1.fr (S := fun _ => False) (Fr.refl _ _).drew (fun _ _ => id))
  · have hne : ¬ o + j = o + i := by omega
    have hne2 : ¬ o + i = o + j := by omega
    go_enter Try.func77, Try.ntmps77
    go_wp2_with fail
    go_region
    all_goals go_wp2
    all_goals (
      go_end0
      refine ⟨rfl, ?_, ((((Fr.refl (fun k => some b = some k) w).setIn (.inl rfl) _).setIn (.inl rfl) _).drew)⟩
      have h1 := (HO.out.put (j := i) (by omega) (ix y)).put (j := j) (by omega) (ix x)
      rw [← List.map_set, ← List.map_set] at h1
      exact h1.fr (S := fun _ => False) (Fr.refl _ _).drew (fun _ _ => id))
set_option maxRecDepth 4000 in
theorem ppop_any (w : World) (p : Nat) (xs : List Nat) (A : Option Addr) (n c : Nat) (g : Option Nat) (hp : w.cell? ⟨p, 2, none⟩ = some (.slice A n c)) (hz : w.frozen? ⟨p, 2, none⟩ = false) (hO : Ow w 3 1 A n c (xs.map ix) g) (hn : 1 ≤ n) (hn2 : n ≤ 65536) :
    Calls Try.prog 78 #[.pointer (some ⟨p, 2, none⟩)] w fun e w' => e = .returned (.iface 3 (.int .i64 ((xs.getD (n - 1) 0 : Nat) : Int))) ∧ w' = w.setCell ⟨p, 2, none⟩ (.slice A (n - 1) c) := by
  have hl : xs.length = n := by have := hO.1; simpa using this
  obtain ⟨b, o, rfl, rfl, ci, -⟩ := hO.look (ix_get (xs := xs) (k := n - 1) (by omega))
  obtain ⟨m, hm⟩ : ∃ m, n - 1 = m := ⟨_, rfl⟩
  have hmn : (n : Int) - 1 = (m : Int) := by omega
  have hcap := hO.cap.1
  rw [hm] at ci ⊢
  have q1 : IntKind.i64.wrap ((n : Int) - 1) = (m : Int) := by rw [IntWalk.i64_in _ (by omega)]; omega
  have i0 : (0 : Int) ≤ (m : Int) := by omega
  have i1 : (m : Int) < (n : Int) := by omega
  have i2 : (m : Int) ≤ (c : Int) := by omega
  obtain ⟨x, hx⟩ : ∃ x, xs.getD m 0 = x := ⟨_, rfl⟩
  rw [hx] at ci ⊢
  clear hO hl hm hmn hcap hx
  go_enter Try.func78, Try.ntmps78
  go_wp2_with fail
  go_ret
  exact ⟨rfl, rfl⟩
end Go.Proofs.Ytcfpmnlpoihgfaa
