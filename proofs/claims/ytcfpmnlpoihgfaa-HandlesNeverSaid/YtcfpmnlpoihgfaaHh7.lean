/-
  handles.Table[int]: Set, Free.
-/
import Derived.Test.YtcfpmnlpoihgfaaHh6
namespace Go.Proofs.Ytcfpmnlpoihgfaa
open Go.RowKit
set_option linter.unusedVariables false
set_option linter.unusedSimpArgs false
theorem pigeon : ∀ (n : Nat) (l : List Nat), l.Nodup → (∀ x ∈ l, x < n) → l.length ≤ n
  | 0, [], _, _ => Nat.le_refl _
  | 0, x :: l, _, h => absurd (h x (List.mem_cons_self ..)) (by omega)
  | n + 1, l, hn, h => by
    by_cases hm : n ∈ l
    · have ih := pigeon n (l.erase n) (hn.erase n) (fun x hx => by
        have h1 := (hn.mem_erase_iff).1 hx
        have := h x h1.2
        omega)
      rw [List.length_erase_of_mem hm] at ih
      omega
    · have := pigeon n l hn (fun x hx => by
        have h1 := h x hx
        have : x ≠ n := fun e => hm (e ▸ hx)
        omega)
      omega
theorem set_same {α : Type} {l : List α} {i : Nat} {v : α} (h : l[i]? = some v) : l.set i v = l := by
  apply List.ext_getElem?
  intro k
  rw [List.getElem?_set]
  split
  · rename_i e; subst e
    rw [h]
    have := (List.getElem?_eq_some_iff.1 h).1
    simp [this]
  · rfl
def TS.fre (s : TS) (at_ tu : Nat) (ys : List Nat) : TS := { s with cells := s.cells.set at_ (0, tu, false), free := ys, len := s.len - 1 }
def TS.put (s : TS) (at_ : Nat) (x : Int) (tu : Nat) : TS := { s with cells := s.cells.set at_ (x, tu, true) }
theorem tcells_put (l : List (Int × Nat × Bool)) (i : Nat) {th : Int} {tu : Nat} {b : Bool} (h : l[i]? = some (th, tu, b)) (x : Int) (c : Bool) : tcells (l.set i (x, tu, c)) = ((tcells l).set (i * 3) (.int .i64 x)).set (i * 3 + 2) (.bool c) := by
  rw [tcells_set]
  congr 1
  refine set_same ?_
  rw [List.getElem?_set_ne (by omega)]
  exact (tcells_at l i _ h).2.1
theorem put_okk {s : TS} {room : Nat} (h : s.Ok room) {at_ : Nat} {th : Int} {tu : Nat} (hc : s.cells[at_]? = some (th, tu, true)) (x : Int) : (s.put at_ x tu).Ok room := by
  refine ⟨h.r1, h.m1, by show (s.cells.set _ _).length = _; rw [List.length_set]; exact h.len, fun y hy => ?_, h.heap, h.nodup, fun z hz => ?_, h.fl, h.l1, h.l2⟩
  · rcases List.mem_or_eq_of_mem_set hy with hy | rfl
    · exact h.turn y hy
    · exact h.turn (th, tu, true) (List.mem_of_getElem? hc)
  · obtain ⟨y, h1, h2, h3⟩ := h.fre z hz
    have hne : at_ ≠ z := fun e => by subst e; rw [hc] at h1; cases h1; cases h3
    exact ⟨y, by show (s.cells.set _ _)[z]? = _; rw [List.getElem?_set_ne hne]; exact h1, h2, h3⟩
/-- A place comes back. -/
def Freed (s : TS) (at_ tu : Nat) (ys : List Nat) : Prop := (tu < s.most ∧ ys.Perm (s.free ++ [at_]) ∧ HeapN ys (s.free.length + 1)) ∨ (tu = s.most ∧ ys = s.free)
theorem nofree {s : TS} {room : Nat} (h : s.Ok room) {at_ : Nat} {th : Int} {tu : Nat} (hc : s.cells[at_]? = some (th, tu, true)) : at_ ∉ s.free := fun hm => by
  obtain ⟨y, h1, h2, h3⟩ := h.fre at_ hm
  rw [hc] at h1; cases h1; cases h3
theorem free_room {s : TS} {room : Nat} (h : s.Ok room) {at_ : Nat} {th : Int} {tu : Nat} (hc : s.cells[at_]? = some (th, tu, true)) : (s.free ++ [at_]).Nodup ∧ (s.free ++ [at_]).length ≤ room := by
  have hn : (s.free ++ [at_]).Nodup := List.nodup_append.2 ⟨h.nodup, List.nodup_cons.2 ⟨List.not_mem_nil, List.nodup_nil⟩, fun a ha b hb e => nofree h hc (by rw [List.mem_singleton] at hb; rw [← hb, ← e]; exact ha)⟩
  refine ⟨hn, pigeon _ _ hn fun x hx => ?_⟩
  rw [← h.len]
  rcases List.mem_append.1 hx with hx | hx
  · obtain ⟨y, h1, _⟩ := h.fre x hx
    exact (List.getElem?_eq_some_iff.1 h1).1
  · rw [List.mem_singleton] at hx; subst hx
    exact (List.getElem?_eq_some_iff.1 hc).1
theorem fre_okk {s : TS} {room : Nat} (h : s.Ok room) {at_ : Nat} {th : Int} {tu : Nat} (hc : s.cells[at_]? = some (th, tu, true)) {ys : List Nat} (hf : Freed s at_ tu ys) : (s.fre at_ tu ys).Ok room := by
  have hr := free_room h hc
  have hat := (List.getElem?_eq_some_iff.1 hc).1
  have hcur : ∀ z ∈ s.free, ∃ x, (s.cells.set at_ (0, tu, false))[z]? = some x ∧ x.2.1 < s.most ∧ x.2.2 = false := fun z hz => by
    obtain ⟨y, h1, h2, h3⟩ := h.fre z hz
    have hne : at_ ≠ z := fun e => nofree h hc (e ▸ hz)
    exact ⟨y, by rw [List.getElem?_set_ne hne]; exact h1, h2, h3⟩
  have ht : ∀ x ∈ s.cells.set at_ (0, tu, false), x.2.1 ≤ s.most := fun y hy => by
    rcases List.mem_or_eq_of_mem_set hy with hy | rfl
    · exact h.turn y hy
    · exact h.turn (th, tu, true) (List.mem_of_getElem? hc)
  rcases hf with ⟨h1, h2, h3⟩ | ⟨h1, h2⟩
  · refine ⟨h.r1, h.m1, by show (s.cells.set _ _).length = _; rw [List.length_set]; exact h.len, ht, ?_, h2.nodup_iff.2 hr.1, fun z hz => ?_, by show ys.length ≤ _; rw [h2.length_eq]; exact hr.2, by show s.len - 1 ≤ _; have := h.l1; omega, h.l2⟩
    · show HeapN ys ys.length
      rw [h2.length_eq, List.length_append]; exact h3
    · rcases List.mem_append.1 (h2.mem_iff.1 hz) with hz | hz
      · exact hcur z hz
      · rw [List.mem_singleton] at hz; subst hz
        exact ⟨(0, tu, false), by show (s.cells.set _ _)[_]? = _; rw [List.getElem?_set_self hat], h1, rfl⟩
  · subst h2
    exact ⟨h.r1, h.m1, by show (s.cells.set _ _).length = _; rw [List.length_set]; exact h.len, ht, h.heap, h.nodup, hcur, h.fl, by show s.len - 1 ≤ _; have := h.l1; omega, h.l2⟩
theorem set_bad {w : World} {p room : Nat} {F : Nat → Prop} {s : TS} (ht : TI w p room F s) (h x : Int) (hh : h ≤ 9223372036854775807) (hg : s.goodAt h = none) :
    Calls Try.prog 15 #[.pointer (some ⟨p, 0, none⟩), .int .i64 h, .int .i64 x] w fun e w' => e = .returned (.int .i64 70) ∧ w = w' := by
  have hb := hide (good_bad ht h hh hg)
  clear ht hg
  go_enter Try.func15, Try.ntmps15
  go_wp2_with fail
  refine hb.out.mono ?_
  rintro e w' ⟨rfl, rfl⟩
  go_wp2_with fail
  go_ret
  exact ⟨rfl, rfl⟩
theorem free_bad {w : World} {p room : Nat} {F : Nat → Prop} {s : TS} (ht : TI w p room F s) (h : Int) (hh : h ≤ 9223372036854775807) (hg : s.goodAt h = none) :
    Calls Try.prog 13 #[.pointer (some ⟨p, 0, none⟩), .int .i64 h] w fun e w' => e = .returned (.tuple #[.int .i64 0, .int .i64 70]) ∧ w = w' := by
  have hb := hide (good_bad ht h hh hg)
  clear ht hg
  go_enter Try.func13, Try.ntmps13
  go_wp2_with fail
  refine hb.out.mono ?_
  rintro e w' ⟨rfl, rfl⟩
  go_wp2_with fail
  go_ret2
  exact ⟨rfl, rfl⟩
theorem set_ok {w : World} {p room : Nat} {F : Nat → Prop} {s : TS} (ht : TI w p room F s) (h x : Int) (hh : h ≤ 9223372036854775807) {at_ : Nat} {th : Int} {tu : Nat} (hg : s.goodAt h = some (at_, th, tu)) :
    Calls Try.prog 15 #[.pointer (some ⟨p, 0, none⟩), .int .i64 h, .int .i64 x] w fun e w' => e = .returned (.int .i64 0) ∧ TOut w p room F (s.put at_ x tu) w' := by
  obtain ⟨CA, cc, gc, FA, fc, gf, ht, rfl⟩ := ht
  obtain ⟨e1, e2, e3, hc⟩ := goodAt_is hg
  obtain ⟨cb, co, rfl, rfl⟩ := ht.addr hc
  have hb := hide (good_ok ht h hh hg rfl)
  obtain ⟨t0, t1, t2⟩ := tcells_at s.cells at_ _ hc
  obtain ⟨b', o', e4, -, k0, z0⟩ := ht.ow.look t0
  cases e4
  have H := hide ht
  have Hc := hide hc
  have hat : at_ < room := by rw [← ht.ok.len]; exact (List.getElem?_eq_some_iff.1 hc).1
  clear ht hg hc t0 t1 t2 e1 e2
  go_enter Try.func15, Try.ntmps15
  go_wp2_with fail
  refine hb.out.mono ?_
  rintro e w' ⟨rfl, rfl⟩
  go_wp2_with fail
  go_ret
  have hcp : ¬ p = cb := fun e => H.out.npc (by rw [e])
  refine ⟨rfl, tfoot p (some cb) gf, ⟨some ⟨cb, co, none⟩, cc, some cb, FA, fc, gf, ⟨H.out.bl.far hcp _, ?_, H.out.fr.fr (S := fun k => k = cb) ((Fr.refl _ _).setAt _) (fun b hb e => H.out.ncf rfl (by rw [hb, e])), put_okk H.out.ok Hc.out x⟩, rfl⟩, (Fr.refl _ _).setIn (.inl (.inr (.inl rfl))) _, fun _ _ h => h⟩
  have h1 := H.out.ow.put (j := at_ * 3) (by omega) (.int .i64 x)
  show Ow _ _ _ _ _ _ (tcells (s.cells.set at_ (x, tu, true))) _
  have e5 : tcells (s.cells.set at_ (x, tu, true)) = (tcells s.cells).set (at_ * 3) (.int .i64 x) := by
    rw [tcells_put _ _ Hc.out]
    refine set_same ?_
    rw [List.getElem?_set_ne (by omega)]
    exact (tcells_at _ _ _ Hc.out).2.2
  rw [e5]
  exact h1
end Go.Proofs.Ytcfpmnlpoihgfaa
