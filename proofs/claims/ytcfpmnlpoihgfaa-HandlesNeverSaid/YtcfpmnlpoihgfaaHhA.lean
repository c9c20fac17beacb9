/-
  HandlesWorn: what stands in a table that is filled and freed by turns.
-/
import Derived.Test.YtcfpmnlpoihgfaaHh9
namespace Go.Proofs.Ytcfpmnlpoihgfaa
open Go.RowKit
set_option linter.unusedVariables false
set_option linter.unusedSimpArgs false
/-- A table of this walk's own. -/
def WI (w : World) (p room : Nat) (s : TS) (wr : World) : Prop := ∃ F, TI wr p room F s ∧ (∀ k, F k → w.heap.size ≤ k) ∧ Fr (fun _ => False) w wr
theorem WI.out {w wr w' : World} {p room : Nat} {F : Nat → Prop} {s' : TS} (hF : ∀ k, F k → w.heap.size ≤ k) (hf : Fr (fun _ => False) w wr) (h : TOut wr p room F s' w') : WI w p room s' w' := by
  obtain ⟨F', h1, h2, h3⟩ := h
  have hs := hf.size
  refine ⟨F', h1, fun k hk => ?_, hf.comp h2 (fun i hi e => absurd (hF i e) (by omega))⟩
  by_cases hk2 : k < wr.heap.size
  · exact hF k (h3 k hk2 hk)
  · omega
theorem WI.of {w wr w' : World} {p room : Nat} {s : TS} (hf : Fr (fun _ => False) w wr) {F : Nat → Prop} (h1 : TI w' p room F s) (h2 : ∀ k, F k → wr.heap.size ≤ k) (h3 : Fr (fun _ => False) wr w') : WI w p room s w' :=
  ⟨F, h1, fun k hk => by have := h2 k hk; have := hf.size; omega, hf.trans h3⟩
structure St (s : TS) (room most : Nat) (P : Nat → Int × Nat × Bool) (fr : List Nat) (len left : Nat) : Prop where
  cel : ∀ i, i < room → s.cells[i]? = some (P i)
  free : s.free.Perm fr
  most : s.most = most
  len : s.len = len
  left : s.left = left
def PA (t a i : Nat) : Int × Nat × Bool := if i < a then (((t + 1 : Nat) : Int), t + 1, true) else (0, t, false)
def PF (t b i : Nat) : Int × Nat × Bool := if i < b then (((t + 1 : Nat) : Int), t + 1, true) else (0, t + 1, false)
def frF (t most room b : Nat) : List Nat := if t + 1 < most then List.range' b (room - b) else []
theorem range_cons {a room : Nat} (h : a < room) : List.range' a (room - a) = a :: List.range' (a + 1) (room - (a + 1)) := by
  obtain ⟨d, hd⟩ : ∃ d, room - a = d + 1 := ⟨room - a - 1, by omega⟩
  rw [hd, show room - (a + 1) = d by omega, List.range'_succ]
theorem St.add {s : TS} {room most t a lf : Nat} (h : St s room most (PA t a) (List.range' a (room - a)) a lf) (hok : s.Ok room) (ha : a < room) {at_ tu : Nat} {ys : List Nat} (hA : Added s ((t + 1 : Nat) : Int) at_ tu ys) :
    at_ = a ∧ tu = t ∧ St (s.add ((t + 1 : Nat) : Int) at_ tu ys) room most (PA t (a + 1)) (List.range' (a + 1) (room - (a + 1))) (a + 1) (lf - 1) := by
  have hp : (at_ :: ys).Perm (List.range' a (room - a)) := hA.perm.trans h.free
  have h1 : at_ ∈ List.range' a (room - a) := hp.mem_iff.1 (List.mem_cons_self ..)
  rw [List.mem_range'_1] at h1
  have h2 : a ∈ at_ :: ys := hp.mem_iff.2 (by rw [List.mem_range'_1]; omega)
  have hat : at_ = a := by
    rcases List.mem_cons.1 h2 with e | e
    · exact e.symm
    · have := hA.least a e; omega
  subst hat
  obtain ⟨th, hc, htm⟩ := hA.old
  have hc2 := h.cel at_ ha
  rw [hc] at hc2
  have htu : tu = t := by
    have := Option.some.inj hc2
    unfold PA at this
    rw [if_neg (by omega)] at this
    cases this; rfl
  subst htu
  refine ⟨rfl, rfl, fun i hi => ?_, ?_, h.most, by show s.len + 1 = _; rw [h.len], by show s.left - 1 = _; rw [h.left]⟩
  · show (s.cells.set _ _)[i]? = _
    by_cases e : at_ = i
    · subst e
      rw [List.getElem?_set_self (by rw [hok.len]; exact hi)]
      unfold PA; rw [if_pos (by omega)]
    · rw [List.getElem?_set_ne e, h.cel i hi]
      unfold PA
      by_cases hlt : i < at_
      · rw [if_pos hlt, if_pos (by omega)]
      · rw [if_neg hlt, if_neg (by omega)]
  · rw [range_cons ha] at hp
    exact hp.cons_inv
theorem prt_of {t a : Nat} (ha : a < 65536) : prt (((t + 1) * 65536 + a : Nat) : Int) = ((a : Int), ((t + 1 : Nat) : Int)) := by
  unfold prt
  rw [if_neg (by omega)]
  have h1 : (((t + 1) * 65536 + a : Nat) : Int) % 65536 = (a : Int) := by omega
  have h2 : (((t + 1) * 65536 + a : Nat) : Int) / 65536 = ((t + 1 : Nat) : Int) := by omega
  rw [h1, h2]
theorem St.good {s : TS} {room most t b lf : Nat} {fr : List Nat} {ln : Nat} (h : St s room most (PF t (b + 1)) fr ln lf) (hb : b < room) (hr : room ≤ 65536) : s.goodAt (((t + 1) * 65536 + b : Nat) : Int) = some (b, ((t + 1 : Nat) : Int), t + 1) := by
  unfold TS.goodAt
  rw [prt_of (by omega)]
  simp only [Int.toNat_natCast]
  rw [if_neg (by omega), h.cel b hb]
  unfold PF
  rw [if_pos (by omega)]
  simp
theorem St.fre {s : TS} {room most t b lf : Nat} (h : St s room most (PF t (b + 1)) (frF t most room (b + 1)) (b + 1) lf) (hok : s.Ok room) (hb : b < room) {ys : List Nat} (hF : Freed s b (t + 1) ys) :
    St (s.fre b (t + 1) ys) room most (PF t b) (frF t most room b) b lf := by
  refine ⟨fun i hi => ?_, ?_, h.most, by show s.len - 1 = _; rw [h.len]; omega, h.left⟩
  · show (s.cells.set _ _)[i]? = _
    by_cases e : b = i
    · subst e
      rw [List.getElem?_set_self (by rw [hok.len]; exact hi)]
      unfold PF; rw [if_neg (by omega)]
    · rw [List.getElem?_set_ne e, h.cel i hi]
      unfold PF
      by_cases hlt : i < b
      · rw [if_pos hlt, if_pos (by omega)]
      · rw [if_neg hlt, if_neg (by omega)]
  · show ys.Perm _
    have hf := h.free
    rcases hF with ⟨h1, h2, _⟩ | ⟨h1, h2⟩
    · rw [h.most] at h1
      unfold frF at hf ⊢
      rw [if_pos h1] at hf ⊢
      rw [range_cons hb]
      exact (h2.trans List.perm_append_comm).trans (hf.cons b)
    · rw [h.most] at h1
      unfold frF at hf ⊢
      rw [if_neg (by omega)] at hf ⊢
      rw [h2]; exact hf
/-- The outer loop: t turns are through. -/
abbrev StO (s : TS) (room most t : Nat) : Prop := St s room most (fun _ => (0, t, false)) (if t < most then List.range' 0 room else []) 0 (room * (most - t))
theorem St.toA {s : TS} {room most t : Nat} (h : StO s room most t) (ht : t < most) : St s room most (PA t 0) (List.range' 0 (room - 0)) 0 (room * (most - t) - 0) :=
  ⟨fun i hi => by rw [h.cel i hi]; rfl, by have := h.free; rw [if_pos ht] at this; exact this, h.most, h.len, h.left⟩
theorem St.toF {s : TS} {room most t : Nat} (h : St s room most (PA t room) (List.range' room (room - room)) room (room * (most - t) - room)) (ht : t < most) (hok : s.Ok room) : s.free = [] ∧ St s room most (PF t room) (frF t most room room) room (room * (most - (t + 1))) := by
  have hf := h.free
  rw [Nat.sub_self] at hf
  have he : s.free = [] := hf.eq_nil
  refine ⟨he, fun i hi => ?_, ?_, h.most, h.len, ?_⟩
  · rw [h.cel i hi]; unfold PA PF; rw [if_pos hi, if_pos hi]
  · unfold frF; rw [he, Nat.sub_self]; split <;> exact List.Perm.refl _
  · rw [h.left]
    obtain ⟨d, hd⟩ : ∃ d, most - t = d + 1 := ⟨most - t - 1, by omega⟩
    rw [hd, show most - (t + 1) = d by omega, Nat.mul_succ]; omega
theorem St.toO {s : TS} {room most t lf : Nat} (h : St s room most (PF t 0) (frF t most room 0) 0 (room * (most - (t + 1)))) : StO s room most (t + 1) :=
  ⟨fun i hi => by rw [h.cel i hi]; unfold PF; rw [if_neg (by omega)], by have := h.free; unfold frF at this; exact this, h.most, h.len, h.left⟩
theorem newT_st (room most : Nat) (h : 1 ≤ most) : StO (newT room most) room most 0 :=
  ⟨fun i hi => by show (List.replicate _ _)[i]? = _; rw [List.getElem?_replicate, if_pos hi], by rw [if_pos (show 0 < most from h)]; show (List.range room).Perm _; rw [List.range_eq_range'], rfl, rfl, rfl⟩
/-! The calls. -/
theorem wadd {w wr : World} {p room most t a lf : Nat} {s : TS} (hI : WI w p room s wr) (h : St s room most (PA t a) (List.range' a (room - a)) a lf) (ha : a < room) (hlf : 1 ≤ lf) (h12 : room ≤ 65536) :
    Calls Try.prog 11 #[.pointer (some ⟨p, 0, none⟩), .int .i64 ((t : Int) + 1)] wr fun e w' => e = .returned (.tuple #[.int .i64 (((t + 1) * 65536 + a : Nat) : Int), .int .i64 0]) ∧ ∃ s', WI w p room s' w' ∧ St s' room most (PA t (a + 1)) (List.range' (a + 1) (room - (a + 1))) (a + 1) (lf - 1) := by
  obtain ⟨F, hT, hF, hf⟩ := hI
  have hne : s.free ≠ [] := fun e => by
    have := h.free
    rw [e] at this
    have hl := this.length_eq
    rw [List.length_range'] at hl
    simp at hl; omega
  refine (add_ok hT ((t : Int) + 1) hne (by rw [h.len]; omega) (by rw [h.left]; exact hlf)).mono ?_
  rintro e w' ⟨at_, tu, ys, rfl, hA, hO⟩
  have e1 : (t : Int) + 1 = ((t + 1 : Nat) : Int) := by omega
  rw [e1] at hA hO
  obtain ⟨rfl, rfl, hS⟩ := h.add hT.ok ha hA
  exact ⟨rfl, _, WI.out hF hf hO, hS⟩
theorem wfull {w wr : World} {p room : Nat} {s : TS} (hI : WI w p room s wr) (x : Int) (h : s.free = []) :
    Calls Try.prog 11 #[.pointer (some ⟨p, 0, none⟩), .int .i64 x] wr fun e w' => e = .returned (.tuple #[.int .i64 0, .int .i64 71]) ∧ wr = w' := by
  obtain ⟨F, hT, hF, hf⟩ := hI
  exact add_full hT x h
theorem wfree {w wr : World} {p room most t b lf : Nat} {s : TS} (hI : WI w p room s wr) (h : St s room most (PF t (b + 1)) (frF t most room (b + 1)) (b + 1) lf) (hb : b < room) (h12 : room ≤ 65536) (ht : t ≤ 65536) :
    Calls Try.prog 13 #[.pointer (some ⟨p, 0, none⟩), .int .i64 (((t + 1) * 65536 + b : Nat) : Int)] wr fun e w' => e = .returned (.tuple #[.int .i64 ((t + 1 : Nat) : Int), .int .i64 0]) ∧ ∃ s', WI w p room s' w' ∧ St s' room most (PF t b) (frF t most room b) b lf := by
  obtain ⟨F, hT, hF, hf⟩ := hI
  refine (free_ok hT _ (by omega) (by rw [h.len]; omega) (h.good hb h12)).mono ?_
  rintro e w' ⟨ys, rfl, hFr, hO⟩
  exact ⟨rfl, _, WI.out hF hf hO, h.fre hT.ok hb hFr⟩
theorem wleft {w wr : World} {p room : Nat} {s : TS} (hI : WI w p room s wr) :
    Calls Try.prog 10 #[.pointer (some ⟨p, 0, none⟩)] wr fun e w' => e = .returned (.int .i64 (s.left : Int)) ∧ wr = w' := by
  obtain ⟨F, hT, hF, hf⟩ := hI
  exact left_any hT
theorem wlen {w wr : World} {p room : Nat} {s : TS} (hI : WI w p room s wr) :
    Calls Try.prog 14 #[.pointer (some ⟨p, 0, none⟩)] wr fun e w' => e = .returned (.int .i64 (s.len : Int)) ∧ wr = w' := by
  obtain ⟨F, hT, hF, hf⟩ := hI
  exact tlen_any hT
end Go.Proofs.Ytcfpmnlpoihgfaa
