/-
  HandlesNever: right.
-/
import Derived.Test.YtcfpmnlpoihgfaaHi1
namespace Go.Proofs.Ytcfpmnlpoihgfaa
open Go.RowKit
set_option linter.unusedVariables false
set_option linter.unusedSimpArgs false
abbrev tNote : TypeId := 39
def ncell (n : Nt) : List Value := [.int .i64 n.1, .int .i64 n.2.1, .bool n.2.2]
def ncells (l : List Nt) : List Value := l.flatMap ncell
theorem ncells_len : ∀ l, (ncells l).length = l.length * 3
  | [] => rfl
  | x :: l => by
    have := ncells_len l
    show (ncell x ++ ncells l).length = _
    rw [List.length_append, this, List.length_cons]; simp [ncell]; omega
theorem ncells_at : ∀ (l : List Nt) (i : Nat) (n : Nt), l[i]? = some n → (ncells l)[i * 3]? = some (.int .i64 n.1) ∧ (ncells l)[i * 3 + 1]? = some (.int .i64 n.2.1) ∧ (ncells l)[i * 3 + 2]? = some (.bool n.2.2)
  | [], i, x, h => by simp at h
  | y :: l, 0, x, h => by simp at h; subst h; exact ⟨rfl, rfl, rfl⟩
  | y :: l, i + 1, x, h => by
    have ih := ncells_at l i x (by simpa using h)
    rw [show (i + 1) * 3 = i * 3 + 3 by omega]
    exact ih
theorem ncells_set : ∀ (l : List Nt) (i : Nat) (n : Nt), ncells (l.set i n) = (((ncells l).set (i * 3) (.int .i64 n.1)).set (i * 3 + 1) (.int .i64 n.2.1)).set (i * 3 + 2) (.bool n.2.2)
  | [], i, x => by simp [ncells]
  | y :: l, 0, x => rfl
  | y :: l, i + 1, x => by
    have ih := ncells_set l i x
    rw [show (i + 1) * 3 = i * 3 + 3 by omega]
    show ncell y ++ ncells (l.set i x) = _
    rw [ih]; rfl
theorem ncells_app (l : List Nt) (n : Nt) : ncells (l ++ [n]) = ncells l ++ ncell n := by
  unfold ncells; rw [List.flatMap_append]; simp
/-- The notes lie in a slice. -/
abbrev NA (w : World) (A : Option Addr) (n c : Nat) (l : List Nt) (g : Option Nat) : Prop := Ow w tNote 3 A n c (ncells l) g
theorem NA.at_ {w : World} {A : Option Addr} {n c : Nat} {l : List Nt} {g : Option Nat} (h : NA w A n c l g) {i : Nat} {m : Nt} (hi : l[i]? = some m) : ∃ b o, A = some ⟨b, o, none⟩ ∧ g = some b ∧
    w.cell? ⟨b, o + i * 3, none⟩ = some (.int .i64 m.1) ∧ w.cell? ⟨b, o + i * 3 + 1, none⟩ = some (.int .i64 m.2.1) ∧ w.cell? ⟨b, o + i * 3 + 2, none⟩ = some (.bool m.2.2) ∧
    w.frozen? ⟨b, o + i * 3 + 1, none⟩ = false ∧ w.frozen? ⟨b, o + i * 3 + 2, none⟩ = false := by
  obtain ⟨t0, t1, t2⟩ := ncells_at l i m hi
  obtain ⟨b, o, rfl, rfl, k0, -⟩ := h.look t0
  obtain ⟨b', o', e4, -, k1, z1⟩ := h.look t1
  cases e4
  obtain ⟨b', o', e4, -, k2, z2⟩ := h.look t2
  cases e4
  rw [← Nat.add_assoc] at k1 z1 k2 z2
  exact ⟨b, o, rfl, rfl, k0, k1, k2, z1, z2⟩
theorem cnt_take {l : List Nt} {i : Nat} {n : Nt} (h : l[i]? = some n) : cnt (l.take (i + 1)) = cnt (l.take i) + (if n.2.2 then 0 else 1) := by
  rw [List.take_add_one, h]
  exact cnt_app _ _
set_option maxHeartbeats 2000000 in
theorem right_any {w : World} {p room most : Nat} {F : Nat → Prop} {s : TS} (ht : TI w p room F s) {l : List Nt} (hv : NV s room most l) {A : Option Addr} {n c : Nat} {g : Option Nat} (hn : l.length = n) (hA : NA w A n c l g) (h6 : n ≤ 100000) :
    Calls Try.prog 16 #[.pointer (some ⟨p, 0, none⟩), .slice A n c] w fun e w' => e = .returned (.bool true) ∧ w = w' := by
  have Hn := hide hn
  have Ht := hide ht
  have Hv := hide hv
  have HA := hide hA
  have hlen : Calls Try.prog 14 #[.pointer (some ⟨p, 0, none⟩)] w fun e w' => e = .returned (.int .i64 ((cnt l : Nat) : Int)) ∧ w = w' := by
    have := tlen_any ht
    rw [hv.len] at this
    exact this
  have Hlen := hide hlen
  clear hn ht hv hA hlen
  go_enter Try.func16, Try.ntmps16
  go_wp2_with fail
  go_loopw [5, 6] (fun v i wr => ∃ (j k : Nat), j ≤ n ∧ v = .int .i64 (k : Int) ∧ i = .int .i64 (j : Int) ∧ Hid (k = cnt (l.take j)) ∧ Hid (wr = w)) (fun _ i _ => n - (intOf i).toNat)
  case atStart => exact ⟨0, 0, Nat.zero_le _, rfl, rfl, rfl, rfl⟩
  case round =>
    obtain ⟨j, k, hj, rfl, rfl, hk, hw⟩ := hrel
    have hw2 := hw.out
    subst hw2
    by_cases hlt : j < n
    · have hjl : j < l.length := by rw [Hn.out]; exact hlt
      obtain ⟨⟨h, x, gn⟩, hm⟩ : ∃ m, l[j]? = some m := ⟨_, List.getElem?_eq_getElem hjl⟩
      obtain ⟨b, o, rfl, rfl, k0, k1, k2, -, -⟩ := NA.at_ HA.out hm
      have hmem := List.mem_of_getElem? hm
      have hbd := Hv.out.bound Ht.out.ok hmem
      have hct := cnt_take hm
      have hcl := cnt_le (l.take j)
      rw [List.length_take] at hcl
      have hke := hk.out
      have i0 : (0 : Int) ≤ (j : Int) := by omega
      have i1 : (j : Int) < (n : Int) := by omega
      have q1 : IntKind.i64.wrap ((j : Int) + 1) = ((j + 1 : Nat) : Int) := by rw [IntWalk.i64_in _ (by omega)]; omega
      have q2 : IntKind.i64.wrap ((k : Int) + 1) = ((k + 1 : Nat) : Int) := by rw [IntWalk.i64_in _ (by omega)]; omega
      simp only at k0 k1 k2 hbd
      cases gn
      · obtain ⟨at_, tu, hg⟩ := Hv.out.good Ht.out.ok hmem rfl
        have hget := hide (get_ok Ht.out h (by omega) hg)
        have Hct := hide hct
        have Hlt := hide hlt
        clear hm hmem hbd hct hcl hke hg hjl hlt hj
        go_wp2_with fail
        refine hget.out.mono ?_
        rintro e w' ⟨rfl, rfl⟩
        go_wp2_with fail
        have := Hlt.out
        exact ⟨⟨j + 1, k + 1, by omega, by first | rfl | go_num, by first | rfl | go_num, (by have h1 := Hct.out; have h2 := hk.out; simp at h1; rw [h1, h2] : k + 1 = cnt (l.take (j + 1))), trivial⟩, by simp [intOf]; omega⟩
      · have hg := Hv.out.bad Ht.out.ok hmem rfl
        have hget := hide (get_bad Ht.out h (by omega) hg)
        have Hct := hide hct
        have Hlt := hide hlt
        clear hm hmem hbd hct hcl hke hg hjl hlt hj
        go_wp2_with fail
        refine hget.out.mono ?_
        rintro e w' ⟨rfl, rfl⟩
        go_wp2_with fail
        have := Hlt.out
        exact ⟨⟨j + 1, k, by omega, rfl, by first | rfl | go_num, (by have h1 := Hct.out; have h2 := hk.out; simp at h1; rw [h1, h2] : k = cnt (l.take (j + 1))), trivial⟩, by simp [intOf]; omega⟩
    · have hj2 : j = n := by omega
      have hke : k = cnt l := by rw [hk.out, List.take_of_length_le (by rw [Hn.out]; omega)]
      subst hj2
      have hl2 : Calls Try.prog 14 #[.pointer (some ⟨p, 0, none⟩)] wr fun e w' => e = .returned (.int .i64 (k : Int)) ∧ wr = w' := by rw [hke]; exact Hlen.out
      have Hl2 := hide hl2
      clear hke hl2 hj hlt
      go_wp2_with fail
      refine Hl2.out.mono ?_
      rintro e w' ⟨rfl, rfl⟩
      go_wp2_with fail
      go_ret
      exact ⟨rfl, rfl⟩
end Go.Proofs.Ytcfpmnlpoihgfaa
