/-
  HandlesNever: the notes of what was added, and the table: the plain law.
-/
import Derived.Test.YtcfpmnlpoihgfaaHhB
namespace Go.Proofs.Ytcfpmnlpoihgfaa
open Go.RowKit
set_option linter.unusedVariables false
set_option linter.unusedSimpArgs false
/-- A note: its handle, its thing, is it gone. -/
abbrev Nt := Int × Int × Bool
def cnt : List Nt → Nat
  | [] => 0
  | n :: l => (if n.2.2 then 0 else 1) + cnt l
def tsum : List (Int × Nat × Bool) → Nat
  | [] => 0
  | x :: l => x.2.1 + tsum l
theorem cnt_app : ∀ (l : List Nt) (n : Nt), cnt (l ++ [n]) = cnt l + (if n.2.2 then 0 else 1)
  | [], n => by simp [cnt]
  | m :: l, n => by simp only [List.cons_append, cnt, cnt_app l n]; omega
theorem cnt_set : ∀ (l : List Nt) (k : Nat) (n m : Nt), l[k]? = some n → cnt (l.set k m) + (if n.2.2 then 0 else 1) = cnt l + (if m.2.2 then 0 else 1)
  | [], k, n, m, h => by simp at h
  | x :: l, 0, n, m, h => by simp at h; subst h; simp only [List.set_cons_zero, cnt]; omega
  | x :: l, k + 1, n, m, h => by
    have ih := cnt_set l k n m (by simpa using h)
    simp only [List.set_cons_succ, cnt]; omega
theorem cnt_le : ∀ l : List Nt, cnt l ≤ l.length
  | [] => Nat.le_refl _
  | n :: l => by have := cnt_le l; simp only [cnt, List.length_cons]; split <;> omega
theorem tsum_set : ∀ (l : List (Int × Nat × Bool)) (k : Nat) (n m : Int × Nat × Bool), l[k]? = some n → tsum (l.set k m) + n.2.1 = tsum l + m.2.1
  | [], k, n, m, h => by simp at h
  | x :: l, 0, n, m, h => by simp at h; subst h; simp only [List.set_cons_zero, tsum]; omega
  | x :: l, k + 1, n, m, h => by
    have ih := tsum_set l k n m (by simpa using h)
    simp only [List.set_cons_succ, tsum]; omega
theorem tsum_le (M : Nat) : ∀ (l : List (Int × Nat × Bool)), (∀ x ∈ l, x.2.1 ≤ M) → tsum l ≤ l.length * M
  | [], _ => by simp [tsum]
  | x :: l, h => by
    have ih := tsum_le M l fun y hy => h y (List.mem_cons_of_mem _ hy)
    have := h x (List.mem_cons_self ..)
    simp only [tsum, List.length_cons, Nat.succ_mul]; omega
theorem tsum_lt (M : Nat) : ∀ (l : List (Int × Nat × Bool)) (k : Nat) (n : Int × Nat × Bool), (∀ x ∈ l, x.2.1 ≤ M) → l[k]? = some n → n.2.1 < M → tsum l < l.length * M
  | [], k, n, _, h, _ => by simp at h
  | x :: l, 0, n, h, hk, hn => by
    simp at hk; subst hk
    have ih := tsum_le M l fun y hy => h y (List.mem_cons_of_mem _ hy)
    simp only [tsum, List.length_cons, Nat.succ_mul]; omega
  | x :: l, k + 1, n, h, hk, hn => by
    have ih := tsum_lt M l k n (fun y hy => h y (List.mem_cons_of_mem _ hy)) (by simpa using hk) hn
    have := h x (List.mem_cons_self ..)
    simp only [tsum, List.length_cons, Nat.succ_mul]; omega
/-- What a note says is so. -/
def Kn (s : TS) (room : Nat) (n : Nt) : Prop := ∃ (at_ tu : Nat) (th : Int) (tu' : Nat) (tk : Bool), n.1 = ((tu * 65536 + at_ : Nat) : Int) ∧ 1 ≤ tu ∧ at_ < room ∧ s.cells[at_]? = some (th, tu', tk) ∧ tu ≤ tu' ∧ (n.2.2 = false → tu = tu' ∧ tk = true ∧ th = n.2.1) ∧ (n.2.2 = true → ¬ (tu = tu' ∧ tk = true))
structure NV (s : TS) (room most : Nat) (l : List Nt) : Prop where
  known : ∀ n ∈ l, Kn s room n
  nodup : (l.map (·.1)).Nodup
  len : s.len = cnt l
  sum : tsum s.cells = l.length
  left : s.left + l.length = room * most
  most : s.most = most
theorem prt_tu {tu at_ : Nat} (h1 : 1 ≤ tu) (ha : at_ < 65536) : prt ((tu * 65536 + at_ : Nat) : Int) = ((at_ : Int), (tu : Int)) := by
  obtain ⟨t, rfl⟩ : ∃ t, tu = t + 1 := ⟨tu - 1, by omega⟩
  exact prt_of ha
theorem goodAt_tu {s : TS} {tu at_ : Nat} (h1 : 1 ≤ tu) (ha : at_ < 65536) {th : Int} {tu' : Nat} {tk : Bool} (hc : s.cells[at_]? = some (th, tu', tk)) : s.goodAt ((tu * 65536 + at_ : Nat) : Int) = if tk = true ∧ tu' = tu then some (at_, th, tu') else none := by
  unfold TS.goodAt
  rw [prt_tu h1 ha]
  simp only [Int.toNat_natCast]
  rw [if_neg (by omega), hc]
  cases tk
  · simp
  · simp only [true_and]
    by_cases e : tu' = tu
    · subst e; simp
    · rw [if_neg e, if_neg (by omega)]
theorem NV.good {s : TS} {room most : Nat} {l : List Nt} (h : NV s room most l) (hok : s.Ok room) {n : Nt} (hn : n ∈ l) (hg : n.2.2 = false) : ∃ at_ tu, s.goodAt n.1 = some (at_, n.2.1, tu) := by
  obtain ⟨at_, tu, th, tu', tk, e, h1, h2, hc, h3, h4, -⟩ := h.known n hn
  obtain ⟨rfl, rfl, rfl⟩ := h4 hg
  have hr := hok.r1
  exact ⟨at_, tu, by rw [e, goodAt_tu h1 (by omega) hc, if_pos ⟨rfl, rfl⟩]⟩
theorem NV.bad {s : TS} {room most : Nat} {l : List Nt} (h : NV s room most l) (hok : s.Ok room) {n : Nt} (hn : n ∈ l) (hg : n.2.2 = true) : s.goodAt n.1 = none := by
  obtain ⟨at_, tu, th, tu', tk, e, h1, h2, hc, h3, -, h5⟩ := h.known n hn
  have hr := hok.r1
  rw [e, goodAt_tu h1 (by omega) hc, if_neg (fun ⟨a, b⟩ => h5 hg ⟨b.symm, a⟩)]
theorem NV.bound {s : TS} {room most : Nat} {l : List Nt} (h : NV s room most l) (hok : s.Ok room) {n : Nt} (hn : n ∈ l) : n.1 ≤ 281479271743488 := by
  obtain ⟨at_, tu, th, tu', tk, e, h1, h2, hc, h3, -⟩ := h.known n hn
  have hr := hok.r1
  have hm := hok.m1
  have := hok.turn _ (List.mem_of_getElem? hc)
  simp only at this
  omega
theorem NV.left_pos {s : TS} {room most : Nat} {l : List Nt} (h : NV s room most l) (hok : s.Ok room) (hf : s.free ≠ []) : 1 ≤ s.left := by
  obtain ⟨z, hz⟩ := List.exists_mem_of_ne_nil _ hf
  obtain ⟨x, hc, hx, _⟩ := hok.fre z hz
  have h1 := tsum_lt s.most s.cells z x hok.turn hc hx
  have h2 := h.sum
  have h3 := h.left
  rw [hok.len, h.most] at h1
  omega
theorem NV.add {s : TS} {room most : Nat} {l : List Nt} (h : NV s room most l) (hok : s.Ok room) {x : Int} {at_ tu : Nat} {ys : List Nat} (hA : Added s x at_ tu ys) (hl : 1 ≤ s.left) :
    NV (s.add x at_ tu ys) room most (l ++ [((((tu + 1) * 65536 + at_ : Nat) : Int), x, false)]) ∧ ∀ n ∈ l, n.1 ≠ (((tu + 1) * 65536 + at_ : Nat) : Int) := by
  obtain ⟨th, hc, htm⟩ := hA.old
  have hat := (List.getElem?_eq_some_iff.1 hc).1
  have hr := hok.r1
  have hlen := hok.len
  have hnew : ∀ n ∈ l, n.1 ≠ (((tu + 1) * 65536 + at_ : Nat) : Int) := fun n hn e => by
    obtain ⟨at2, tu2, th2, tu', tk, e2, h1, h2, hc2, h3, h4, h5⟩ := h.known n hn
    rw [e2] at e
    have : at2 = at_ ∧ tu2 = tu + 1 := by omega
    obtain ⟨rfl, rfl⟩ := this
    rw [hc] at hc2; cases hc2
    omega
  refine ⟨⟨fun n hn => ?_, ?_, ?_, ?_, ?_, h.most⟩, hnew⟩
  · rcases List.mem_append.1 hn with hn | hn
    · obtain ⟨at2, tu2, th2, tu', tk, e2, h1, h2, hc2, h3, h4, h5⟩ := h.known n hn
      by_cases e : at_ = at2
      · subst e
        rw [hc] at hc2; cases hc2
        refine ⟨at_, tu2, x, tu + 1, true, e2, h1, h2, List.getElem?_set_self hat, by omega, fun hg => absurd (h4 hg).2.1 (by simp), fun _ hh => by omega⟩
      · exact ⟨at2, tu2, th2, tu', tk, e2, h1, h2, by show (s.cells.set _ _)[at2]? = _; rw [List.getElem?_set_ne e]; exact hc2, h3, h4, h5⟩
    · rw [List.mem_singleton] at hn; subst hn
      exact ⟨at_, tu + 1, x, tu + 1, true, rfl, by omega, by omega, List.getElem?_set_self hat, Nat.le_refl _, fun _ => ⟨rfl, rfl, rfl⟩, fun hg => absurd hg (by simp)⟩
  · rw [List.map_append]
    refine List.nodup_append.2 ⟨h.nodup, List.nodup_cons.2 ⟨List.not_mem_nil, List.nodup_nil⟩, fun a ha b hb e => ?_⟩
    obtain ⟨n, hn, rfl⟩ := List.mem_map.1 ha
    simp at hb
    exact hnew n hn (by rw [e, hb]; simp)
  · show s.len + 1 = _
    rw [cnt_app, h.len]; rfl
  · show tsum (s.cells.set at_ (x, tu + 1, true)) = _
    have := tsum_set s.cells at_ _ (x, tu + 1, true) hc
    have h2 := h.sum
    simp only at this
    rw [List.length_append, List.length_singleton]; omega
  · show s.left - 1 + _ = _
    have := h.left
    rw [List.length_append, List.length_singleton]; omega
theorem map_set_fst {l : List Nt} {k : Nat} {n m : Nt} (h : l[k]? = some n) (e : m.1 = n.1) : (l.set k m).map (·.1) = l.map (·.1) := by
  rw [List.map_set]
  exact set_same (by rw [List.getElem?_map, h, e]; rfl)
theorem nodup_at {l : List Nt} (hn : (l.map (·.1)).Nodup) {k j : Nat} {n m : Nt} (hk : l[k]? = some n) (hj : l[j]? = some m) (e : n.1 = m.1) : k = j := by
  have h1 : (l.map (·.1))[k]? = some n.1 := by rw [List.getElem?_map, hk]; rfl
  have h2 : (l.map (·.1))[j]? = some m.1 := by rw [List.getElem?_map, hj]; rfl
  exact (List.getElem?_inj (List.getElem?_eq_some_iff.1 h1).1 hn).1 (by rw [h1, h2, e])
/-- One place and its note turn. -/
theorem NV.turn {s s' : TS} {room most : Nat} {l : List Nt} (h : NV s room most l) (hok : s.Ok room) {k : Nat} {hd x : Int} (hk : l[k]? = some (hd, x, false)) {at_ tu : Nat} (hg : s.goodAt hd = some (at_, x, tu)) (y : Int) (b : Bool) (hc' : s'.cells = s.cells.set at_ (if b then 0 else y, tu, !b)) (hm : s'.most = s.most) (hlf : s'.left = s.left) (hln : s'.len = s.len - (if b then 1 else 0)) :
    NV s' room most (l.set k (hd, y, b)) := by
  have hmem := List.mem_of_getElem? hk
  obtain ⟨at2, tu2, th2, tu', tk, e2, h1, h2, hc2, h3, h4, h5⟩ := h.known _ hmem
  obtain ⟨rfl, rfl, rfl⟩ := h4 rfl
  have hr := hok.r1
  simp only at e2 hc2
  rw [e2, goodAt_tu h1 (by omega) hc2, if_pos ⟨rfl, rfl⟩] at hg
  cases hg
  have hat := (List.getElem?_eq_some_iff.1 hc2).1
  have hcn := cnt_set l k _ (hd, y, b) hk
  simp only at hcn
  refine ⟨fun n hn => ?_, by rw [map_set_fst (m := (hd, y, b)) hk rfl]; exact h.nodup, ?_, ?_, by rw [hlf, List.length_set]; exact h.left, by rw [hm]; exact h.most⟩
  · obtain ⟨j, hj⟩ := List.getElem?_of_mem hn
    by_cases e : k = j
    · subst e
      rw [List.getElem?_set_self (List.getElem?_eq_some_iff.1 hk).1] at hj
      cases hj
      refine ⟨at_, tu, if b then 0 else y, tu, !b, e2, h1, h2, by rw [hc', List.getElem?_set_self hat], Nat.le_refl _, fun hb => ?_, fun hb => ?_⟩
      · simp only at hb; subst hb; exact ⟨rfl, rfl, rfl⟩
      · simp only at hb; subst hb; rintro ⟨_, hh⟩; cases hh
    · rw [List.getElem?_set_ne e] at hj
      obtain ⟨at3, tu3, th3, tu3', tk3, e3, g1, g2, hc3, g3, g4, g5⟩ := h.known n (List.mem_of_getElem? hj)
      by_cases ea : at_ = at3
      · subst ea
        rw [hc2] at hc3; cases hc3
        have hne : tu3 ≠ tu := fun e4 => e (nodup_at h.nodup hk hj (by rw [e3, e4]; exact e2))
        have hgone : n.2.2 = true := by
          cases hh : n.2.2
          · exact absurd (g4 hh).1 hne
          · rfl
        exact ⟨at_, tu3, if b then 0 else y, tu, !b, e3, g1, g2, by rw [hc', List.getElem?_set_self hat], g3, fun hh => (by rw [hgone] at hh; cases hh), fun _ hh => hne hh.1⟩
      · exact ⟨at3, tu3, th3, tu3', tk3, e3, g1, g2, by rw [hc', List.getElem?_set_ne ea]; exact hc3, g3, g4, g5⟩
  · rw [hln, h.len]
    cases b <;> simp at hcn ⊢ <;> omega
  · have := tsum_set s.cells at_ _ (if b then 0 else y, tu, !b) hc2
    simp only at this
    rw [hc', List.length_set]
    have := h.sum
    omega
theorem NV.put {s : TS} {room most : Nat} {l : List Nt} (h : NV s room most l) (hok : s.Ok room) {k : Nat} {hd x : Int} (hk : l[k]? = some (hd, x, false)) {at_ tu : Nat} (hg : s.goodAt hd = some (at_, x, tu)) (y : Int) : NV (s.put at_ y tu) room most (l.set k (hd, y, false)) :=
  h.turn hok hk hg y false rfl rfl rfl rfl
theorem NV.fre {s : TS} {room most : Nat} {l : List Nt} (h : NV s room most l) (hok : s.Ok room) {k : Nat} {hd x : Int} (hk : l[k]? = some (hd, x, false)) {at_ tu : Nat} (hg : s.goodAt hd = some (at_, x, tu)) (ys : List Nat) : NV (s.fre at_ tu ys) room most (l.set k (hd, x, true)) :=
  h.turn hok hk hg x true rfl rfl rfl rfl
theorem NV.some {s : TS} {room most : Nat} {l : List Nt} (h : NV s room most l) {k : Nat} {hd x : Int} (hk : l[k]? = some (hd, x, false)) : 1 ≤ s.len := by
  have := cnt_set l k _ (hd, x, true) hk
  simp at this
  rw [h.len]; omega
theorem NV.new (room most : Nat) : NV (newT room most) room most [] :=
  ⟨fun n hn => (by cases hn), List.nodup_nil, rfl, by
    show tsum (List.replicate room (0, 0, false)) = 0
    induction room with
    | zero => rfl
    | succ n ih => rw [List.replicate_succ]; simp only [tsum]; omega, rfl, rfl⟩
end Go.Proofs.Ytcfpmnlpoihgfaa
