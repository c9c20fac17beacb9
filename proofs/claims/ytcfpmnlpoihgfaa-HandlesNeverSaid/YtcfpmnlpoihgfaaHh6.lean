/-
  handles.Table[int]: good, Get, Set.
-/
import Derived.Test.YtcfpmnlpoihgfaaHh5
namespace Go.Proofs.Ytcfpmnlpoihgfaa
open Go.RowKit
set_option linter.unusedVariables false
set_option linter.unusedSimpArgs false
/-- The place of a good handle. -/
def TS.goodAt (s : TS) (h : Int) : Option (Nat × Int × Nat) :=
  if (prt h).2 = 0 then none else match s.cells[(prt h).1.toNat]? with
  | some (th, tu, true) => if (tu : Int) = (prt h).2 then some ((prt h).1.toNat, th, tu) else none
  | _ => none
theorem goodAt_is {s : TS} {h : Int} {at_ : Nat} {th : Int} {tu : Nat} (hg : s.goodAt h = some (at_, th, tu)) : (prt h).1 = (at_ : Int) ∧ (prt h).2 = (tu : Int) ∧ tu ≠ 0 ∧ s.cells[at_]? = some (th, tu, true) := by
  have h0 : 0 ≤ (prt h).1 := by unfold prt; split <;> simp only <;> omega
  unfold TS.goodAt at hg
  split at hg
  · cases hg
  · rename_i h2
    split at hg
    · rename_i th' tu' hc
      split at hg
      · rename_i h3
        cases hg
        exact ⟨by omega, h3.symm, by omega, hc⟩
      · cases hg
    · cases hg
theorem good_ok {w : World} {p room : Nat} {CA : Option Addr} {cc : Nat} {gc : Option Nat} {FA : Option Addr} {fc : Nat} {gf : Option Nat} {s : TS} (ht : TAt w p room CA cc gc FA fc gf s) (h : Int) (hh : h ≤ 9223372036854775807) {at_ : Nat} {th : Int} {tu : Nat} (hg : s.goodAt h = some (at_, th, tu)) {cb co : Nat} (hca : CA = some ⟨cb, co, none⟩) :
    Calls Try.prog 31 #[.pointer (some ⟨p, 0, none⟩), .int .i64 h] w fun e w' => e = .returned (.tuple #[.pointer (some ⟨cb, co + at_ * 3, none⟩), .int .i64 0]) ∧ w = w' := by
  subst hca
  obtain ⟨e1, e2, e3, hc⟩ := goodAt_is hg
  have hp := parts_any w h hh
  rw [e1, e2] at hp
  have hat : at_ < room := by rw [← ht.ok.len]; exact (List.getElem?_eq_some_iff.1 hc).1
  obtain ⟨t0, t1, t2⟩ := tcells_at s.cells at_ _ hc
  obtain ⟨b', o', e4, -, k1, -⟩ := ht.ow.look t1
  cases e4
  obtain ⟨b', o', e4, -, k2, -⟩ := ht.ow.look t2
  cases e4
  rw [← Nat.add_assoc] at k1 k2
  have p1 : w.cell? ⟨p, 1, none⟩ = some (.slice (some ⟨cb, co, none⟩) room cc) := ht.bl.cell' rfl
  have i0 : ((tu : Int) == 0) = false := beq_eq_false_iff_ne.2 (by omega)
  have i1 : ¬ (room : Int) ≤ (at_ : Int) := by omega
  have i2 : (0 : Int) ≤ (at_ : Int) := by omega
  have i3 : (at_ : Int) < (room : Int) := by omega
  clear ht hg hc e3 t0 t1 t2 e1 e2
  go_enter Try.func31, Try.ntmps31
  go_wp2_with fail
  refine hp.mono ?_
  rintro e w' ⟨rfl, rfl⟩
  go_wp2_with fail
  go_ret2
  exact ⟨rfl, rfl⟩
theorem good_bad {w : World} {p room : Nat} {F : Nat → Prop} {s : TS} (ht : TI w p room F s) (h : Int) (hh : h ≤ 9223372036854775807) (hg : s.goodAt h = none) :
    Calls Try.prog 31 #[.pointer (some ⟨p, 0, none⟩), .int .i64 h] w fun e w' => e = .returned (.tuple #[.pointer none, .int .i64 70]) ∧ w = w' := by
  obtain ⟨CA, cc, gc, FA, fc, gf, ht, rfl⟩ := ht
  have hp := parts_any w h hh
  have h0 : 0 ≤ (prt h).1 := by unfold prt; split <;> simp only <;> omega
  have h1 : 0 ≤ (prt h).2 := by unfold prt; split <;> simp only <;> omega
  obtain ⟨a, ha⟩ : ∃ a : Nat, (prt h).1 = (a : Int) := ⟨(prt h).1.toNat, by omega⟩
  obtain ⟨b, hb⟩ : ∃ b : Nat, (prt h).2 = (b : Int) := ⟨(prt h).2.toNat, by omega⟩
  unfold TS.goodAt at hg
  rw [ha, hb] at hp hg
  have p1 : w.cell? ⟨p, 1, none⟩ = some (.slice CA room cc) := ht.bl.cell' rfl
  have Hp := hide hp
  clear hp ha hb h0 h1
  by_cases hb0 : b = 0
  · subst hb0
    clear hg ht
    go_enter Try.func31, Try.ntmps31
    go_wp2_with fail
    refine Hp.out.mono ?_
    rintro e w' ⟨rfl, rfl⟩
    go_wp2_with fail
    go_ret2
    exact ⟨rfl, rfl⟩
  · have i0 : ¬ (b : Int) = 0 := by omega
    rw [if_neg i0, Int.toNat_natCast] at hg
    by_cases har : room ≤ a
    · have i1 : (room : Int) ≤ (a : Int) := by omega
      clear hg ht
      go_enter Try.func31, Try.ntmps31
      go_wp2_with fail
      refine Hp.out.mono ?_
      rintro e w' ⟨rfl, rfl⟩
      go_wp2_with fail
      go_ret2
      exact ⟨rfl, rfl⟩
    · have i1 : ¬ (room : Int) ≤ (a : Int) := by omega
      have i2 : (0 : Int) ≤ (a : Int) := by omega
      have i3 : (a : Int) < (room : Int) := by omega
      obtain ⟨⟨th, tu, tk⟩, hc⟩ : ∃ x, s.cells[a]? = some x := ⟨_, List.getElem?_eq_getElem (by rw [ht.ok.len]; omega)⟩
      rw [hc] at hg
      obtain ⟨t0, t1, t2⟩ := tcells_at s.cells a _ hc
      obtain ⟨cb, co, rfl, -, k1, -⟩ := ht.ow.look t1
      obtain ⟨b', o', e4, -, k2, -⟩ := ht.ow.look t2
      cases e4
      rw [← Nat.add_assoc] at k1 k2
      cases tk
      · clear hg ht hc t0 t1 t2
        go_enter Try.func31, Try.ntmps31
        go_wp2_with fail
        refine Hp.out.mono ?_
        rintro e w' ⟨rfl, rfl⟩
        go_wp2_with fail
        go_ret2
        exact ⟨rfl, rfl⟩
      · have hne : ¬ (tu : Int) = (b : Int) := fun e => by simp [e] at hg
        have hnb : ((tu : Int) == (b : Int)) = false := beq_eq_false_iff_ne.2 hne
        have i0b : ((b : Int) == 0) = false := beq_eq_false_iff_ne.2 i0
        clear hg ht hc t0 t1 t2 i0 hne hb0
        go_enter Try.func31, Try.ntmps31
        go_wp2_with fail
        refine Hp.out.mono ?_
        rintro e w' ⟨rfl, rfl⟩
        go_wp2_with fail
        go_ret2
        exact ⟨rfl, rfl⟩
theorem get_bad {w : World} {p room : Nat} {F : Nat → Prop} {s : TS} (ht : TI w p room F s) (h : Int) (hh : h ≤ 9223372036854775807) (hg : s.goodAt h = none) :
    Calls Try.prog 29 #[.pointer (some ⟨p, 0, none⟩), .int .i64 h] w fun e w' => e = .returned (.tuple #[.int .i64 0, .int .i64 70]) ∧ w = w' := by
  have hb := hide (good_bad ht h hh hg)
  clear ht hg
  go_enter Try.func29, Try.ntmps29
  go_wp2_with fail
  refine hb.out.mono ?_
  rintro e w' ⟨rfl, rfl⟩
  go_wp2_with fail
  go_ret2
  exact ⟨rfl, rfl⟩
theorem TAt.addr {w : World} {p room : Nat} {CA : Option Addr} {cc : Nat} {gc : Option Nat} {FA : Option Addr} {fc : Nat} {gf : Option Nat} {s : TS} (ht : TAt w p room CA cc gc FA fc gf s) {at_ : Nat} {x : Int × Nat × Bool} (hc : s.cells[at_]? = some x) : ∃ cb co, CA = some ⟨cb, co, none⟩ ∧ gc = some cb := by
  obtain ⟨t0, t1, t2⟩ := tcells_at s.cells at_ _ hc
  obtain ⟨b', o', e4, e5, -⟩ := ht.ow.look t0
  exact ⟨b', o', e4, e5⟩
theorem get_ok {w : World} {p room : Nat} {F : Nat → Prop} {s : TS} (ht : TI w p room F s) (h : Int) (hh : h ≤ 9223372036854775807) {at_ : Nat} {th : Int} {tu : Nat} (hg : s.goodAt h = some (at_, th, tu)) :
    Calls Try.prog 29 #[.pointer (some ⟨p, 0, none⟩), .int .i64 h] w fun e w' => e = .returned (.tuple #[.int .i64 th, .int .i64 0]) ∧ w = w' := by
  obtain ⟨CA, cc, gc, FA, fc, gf, ht, rfl⟩ := ht
  obtain ⟨e1, e2, e3, hc⟩ := goodAt_is hg
  obtain ⟨cb, co, rfl, rfl⟩ := ht.addr hc
  have hb := hide (good_ok ht h hh hg rfl)
  obtain ⟨t0, t1, t2⟩ := tcells_at s.cells at_ _ hc
  obtain ⟨b', o', e4, -, k0, -⟩ := ht.ow.look t0
  cases e4
  clear ht hg hc t0 t1 t2 e1 e2
  go_enter Try.func29, Try.ntmps29
  go_wp2_with fail
  refine hb.out.mono ?_
  rintro e w' ⟨rfl, rfl⟩
  go_wp2_with fail
  go_ret2
  exact ⟨rfl, rfl⟩
end Go.Proofs.Ytcfpmnlpoihgfaa
