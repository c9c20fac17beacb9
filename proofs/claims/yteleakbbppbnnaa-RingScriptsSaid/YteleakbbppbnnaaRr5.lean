/-
  ring.Ring[int]: Put; calls of none at all; Move of one ring to itself.
-/
import Derived.Test.YteleakbbppbnnaaRr4
namespace Go.Proofs.Yteleakbbppbnnaa
open Go.RowKit
set_option linter.unusedVariables false
/-- One thing is another. -/
def RS.put (s : RS) (i : Nat) (x : Int) : RS := ⟨s.room, s.first, s.vals.set ((s.first + i) % s.vals.length) x, s.xs.set i x⟩
theorem mod_inj {f a b n : Nat} (hf : f = 0 ∨ f < n) (ha : a < n) (hb : b < n) (h : (f + a) % n = (f + b) % n) : a = b := by
  have hf2 : f < n := by omega
  by_cases h1 : f + a < n
  · by_cases h2 : f + b < n
    · rw [Nat.mod_eq_of_lt h1, Nat.mod_eq_of_lt h2] at h; omega
    · rw [Nat.mod_eq_of_lt h1, Nat.mod_eq_sub_mod (by omega), Nat.mod_eq_of_lt (by omega)] at h; omega
  · by_cases h2 : f + b < n
    · rw [Nat.mod_eq_sub_mod (by omega), Nat.mod_eq_of_lt (by omega), Nat.mod_eq_of_lt h2] at h; omega
    · rw [Nat.mod_eq_sub_mod (by omega), Nat.mod_eq_of_lt (by omega), Nat.mod_eq_sub_mod (by omega), Nat.mod_eq_of_lt (by omega)] at h; omega
theorem RS.put_ok {s : RS} (h : s.Ok) {i : Nat} (hi : i < s.xs.length) (x : Int) : (s.put i x).Ok := by
  have hl1 := h.l1
  refine ⟨h.r1, h.r2, ?_, ?_, ?_, fun j hj => ?_⟩
  · show (s.xs.set i x).length ≤ (s.vals.set _ x).length
    rw [List.length_set, List.length_set]; exact h.l1
  · show (s.vals.set _ x).length ≤ s.room
    rw [List.length_set]; exact h.l2
  · show s.first = 0 ∨ s.first < (s.vals.set _ x).length
    rw [List.length_set]; exact h.f
  · have hj' : j < s.xs.length := by
      have : j < (s.xs.set i x).length := hj
      rwa [List.length_set] at this
    show (s.vals.set ((s.first + i) % s.vals.length) x)[(s.first + j) % (s.vals.set ((s.first + i) % s.vals.length) x).length]? = (s.xs.set i x)[j]?
    rw [List.length_set]
    have hn : 0 < s.vals.length := by omega
    by_cases he : j = i
    · subst he
      rw [List.getElem?_set_self (Nat.mod_lt _ hn), List.getElem?_set_self hj']
    · rw [List.getElem?_set_ne (fun e => he (mod_inj h.f (by omega) (by omega) e).symm), List.getElem?_set_ne (fun e => he e.symm), h.at_ j hj']
set_option maxHeartbeats 2000000 in
set_option maxRecDepth 4000 in
theorem put_in {p : Nat} {g : Option Nat} {room : Nat} {xs : List Int} (w : World) (h : RI w p g room xs) (i : Nat) (x : Int) (hi : i < xs.length) :
    Calls Try.prog 31 #[.pointer (some ⟨p, 0, none⟩), .int .i64 (i : Int), .int .i64 x] w fun e w' => e = .returned (.int .i64 0) ∧ RKeep w p g room (xs.set i x) w' := by
  obtain ⟨C, cc, s, rfl, rfl, h⟩ := h
  obtain ⟨h1, h2, h3, h4⟩ := RS.pos h.ok hi
  obtain ⟨k, hk⟩ : ∃ k, (s.first + i) % s.vals.length = k := ⟨_, rfl⟩
  have hkl : k < s.vals.length := by rw [← hk]; exact Nat.mod_lt _ h1
  obtain ⟨y, hy⟩ : ∃ y, s.vals[k]? = some y := ⟨_, List.getElem?_eq_getElem hkl⟩
  obtain ⟨b, o, rfl, hg, hc, hz⟩ := h.ow.look (j := k) (u := .int .i64 y) (by rw [List.getElem?_map, hy]; rfl)
  have hbp : p ≠ b := fun e => by have := h.ne; rw [hg, e] at this; exact this rfl
  have hbp2 := hbp.symm
  have hput := hide (RS.put_ok h.ok hi x)
  have how := hide h.ow
  have hbl := h.bl
  obtain ⟨nc, hnc⟩ : ∃ nc, s.vals.length = nc := ⟨_, rfl⟩
  obtain ⟨nx, hnx⟩ : ∃ nx, s.xs.length = nx := ⟨_, rfl⟩
  obtain ⟨f, hf⟩ : ∃ f, s.first = f := ⟨_, rfl⟩
  obtain ⟨rm, hrm⟩ : ∃ rm, s.room = rm := ⟨_, rfl⟩
  have HBL := hide hbl
  rw [hnc, hnx, hf, hrm] at hbl
  rw [hnc] at hkl h1 h4 hk
  rw [hf] at h2 hk
  rw [hnx] at hi
  have Hnc := hide hnc
  have Hf := hide hf
  have Hk := hide hk
  have Hg := hide hg
  have hhas := has_any w (i : Int) hbl
  rw [decide_eq_true (show (0 : Int) ≤ (i : Int) ∧ (i : Int) < (nx : Int) by omega)] at hhas
  have d0 : w.cell? ⟨p, 0, none⟩ = some (.slice (some ⟨b, o, none⟩) nc cc) := hbl.cell' rfl
  have i1 : (0 : Int) ≤ (k : Int) := by omega
  have i2 : (k : Int) < (nc : Int) := by omega
  clear hnc hnx hf hrm hk hg hy h
  go_enter Try.func31, Try.ntmps31
  go_wp2_with fail
  refine hhas.mono ?_
  rintro e w' ⟨rfl, rfl⟩
  go_wp2_with fail
  go_region_held3 (fun w' => w'.cell? ⟨p, 0, none⟩ = some (.slice (some ⟨b, o, none⟩) nc cc)) (go_keep)
    ((go_at_call 23; refine (place_fr _ i (by exact hbl) h1 h2 h3 h4 k Hk.out).mono ?_; rintro e w4 ⟨rfl, hf4⟩; have k0 := (hf4.cell (World.block_lt_of_cell? w _ d0) id).trans d0; have k2 := (hf4.frozen (World.block_lt_of_cell? w _ hc) id).trans hz; have k3 := (hf4.cell (World.block_lt_of_cell? w _ hc) id).trans hc))
  have hN4 : Fr (fun _ => False) w w4 := (Fr.drew (by exact Fr.refl _ _)).trans hf4
  have hset : Fr (fun k => k = b) w4 (w4.setCell ⟨b, o + k, none⟩ (.int .i64 x)) := (Fr.refl _ _).setAt _
  have HN := hide (And.intro hN4 hset)
  clear k0 k2 k3 hf4 hN4 hset
  go_wp2_with fail
  go_ret
  obtain ⟨hN4, hset⟩ := HN.out
  refine ⟨rfl, ⟨some ⟨b, o, none⟩, cc, s.put i x, rfl, rfl, ?_, ?_, hput.out⟩, (hN4.weak _).trans (hset.mono fun k _ e => .inr (by rw [e, Hg.out]))⟩
  · show Bl _ p tRing #[.slice (some ⟨b, o, none⟩) (s.vals.set _ x).length cc, .int .i64 (s.room : Int), .int .i64 (s.first : Int), .int .i64 ((s.xs.set i x).length : Int)]
    rw [List.length_set, List.length_set]
    exact (HBL.out.fr hN4 id).fr hset hbp
  · show Ow _ 3 1 (some ⟨b, o, none⟩) (s.vals.set ((s.first + i) % s.vals.length) x).length cc ((s.vals.set ((s.first + i) % s.vals.length) x).map iv) g
    rw [List.length_set, List.map_set, Hf.out, Hnc.out, Hk.out]
    have h7 := (how.out.fr hN4 (fun _ _ => id)).put (j := k) (by rw [Hnc.out]; omega) (.int .i64 x)
    rw [Hnc.out] at h7
    exact h7
theorem put_out {p : Nat} {g : Option Nat} {room : Nat} {xs : List Int} (w : World) (h : RI w p g room xs) (i x : Int) (hi : i < 0 ∨ (xs.length : Int) ≤ i) :
    Calls Try.prog 31 #[.pointer (some ⟨p, 0, none⟩), .int .i64 i, .int .i64 x] w fun e w' => e = .returned (.int .i64 2) ∧ w = w' := by
  have hhas := hasR_any w i h
  rw [decide_eq_false (show ¬ (0 ≤ i ∧ i < (xs.length : Int)) by omega)] at hhas
  clear hi h
  go_enter Try.func31, Try.ntmps31
  go_wp2_with fail
  refine hhas.mono ?_
  rintro e w' ⟨rfl, rfl⟩
  go_wp2_with fail
  go_ret
  exact ⟨rfl, rfl⟩
theorem has_nil (w : World) (i : Int) : Calls Try.prog 43 #[.pointer none, .int .i64 i] w fun e w' => e = .returned (.bool false) ∧ w = w' := by
  go_enter Try.func43, Try.ntmps43
  go_wp2
  go_ret
  exact ⟨rfl, rfl⟩
theorem put_nil (w : World) (i x : Int) : Calls Try.prog 31 #[.pointer none, .int .i64 i, .int .i64 x] w fun e w' => e = .returned (.int .i64 1) ∧ w = w' := by
  go_enter Try.func31, Try.ntmps31
  go_wp2
  go_ret
  exact ⟨rfl, rfl⟩
theorem at_nil (w : World) (i : Int) : Calls Try.prog 25 #[.pointer none, .int .i64 i] w fun e w' => e = .returned (.tuple #[.int .i64 0, .bool false]) ∧ w = w' := by
  go_enter Try.func25, Try.ntmps25
  go_wp2_with fail
  refine (has_nil w i).mono ?_
  rintro e w' ⟨rfl, rfl⟩
  go_wp2_with fail
  go_ret2
  exact ⟨rfl, rfl⟩
theorem len_nil (w : World) : Calls Try.prog 13 #[.pointer none] w fun e w' => e = .returned (.int .i64 0) ∧ w = w' := by
  go_enter Try.func13, Try.ntmps13
  go_wp2
  go_ret
  exact ⟨rfl, rfl⟩
theorem room_nil (w : World) : Calls Try.prog 12 #[.pointer none] w fun e w' => e = .returned (.int .i64 0) ∧ w = w' := by
  go_enter Try.func12, Try.ntmps12
  go_wp2
  go_ret
  exact ⟨rfl, rfl⟩
theorem drop_nil (w : World) (n : Int) : Calls Try.prog 16 #[.pointer none, .int .i64 n] w fun e w' => e = .returned (.int .i64 0) ∧ w = w' := by
  by_cases hn : 0 < n
  · go_enter Try.func16, Try.ntmps16
    go_wp2_with fail
    refine (len_nil w).mono ?_
    rintro e w' ⟨rfl, rfl⟩
    go_wp2_with fail
    go_ret
    exact ⟨rfl, rfl⟩
  · have h1 : n < 1 := by omega
    go_enter Try.func16, Try.ntmps16
    go_wp2_with fail
    refine (len_nil w).mono ?_
    rintro e w' ⟨rfl, rfl⟩
    go_wp2_with fail
    go_ret
    exact ⟨rfl, rfl⟩
theorem pop_nil (w : World) : Calls Try.prog 15 #[.pointer none] w fun e w' => e = .returned (.tuple #[.int .i64 0, .bool false]) ∧ w = w' := by
  go_enter Try.func15, Try.ntmps15
  go_wp2_with fail
  refine (at_nil w 0).mono ?_
  rintro e w' ⟨rfl, rfl⟩
  go_wp2_with fail
  refine (drop_nil w 1).mono ?_
  rintro e w' ⟨rfl, rfl⟩
  go_wp2_with fail
  go_ret2
  exact ⟨rfl, rfl⟩
theorem push_nil (w : World) (A : Option Addr) (m c : Nat) : Calls Try.prog 9 #[.pointer none, .slice A m c] w fun e w' => e = .returned (.int .i64 1) ∧ w = w' := by
  go_enter Try.func9, Try.ntmps9
  go_wp2
  go_ret
  exact ⟨rfl, rfl⟩
theorem ptr_same (w : World) (p : Nat) : Sem.run Try.prog (binOp .eql 24 (.pointer (some ⟨p, 0, none⟩)) (.pointer (some ⟨p, 0, none⟩))) w = .ok (.bool true) w := by
  obtain ⟨i, hi, h0, h1, h2⟩ := info_parts infoRing
  exact run_eql_ptr_same w _ Try.underlying24 hi
theorem rptr_same (w : World) (p : Nat) : Sem.run Try.prog (binOp .eql 49 (.pointer (some ⟨p, 0, none⟩)) (.pointer (some ⟨p, 0, none⟩))) w = .ok (.bool true) w := by
  obtain ⟨i, hi, h0, h1, h2⟩ := info_parts infoRef
  exact run_eql_ptr_same w _ Try.underlying49 hi
theorem move_same (w : World) (p : Nat) (n : Int) : Calls Try.prog 14 #[.pointer (some ⟨p, 0, none⟩), .pointer (some ⟨p, 0, none⟩), .int .i64 n] w fun e w' => e = .returned (.tuple #[.int .i64 0, .int .i64 2]) ∧ w = w' := by
  have hcmp := ptr_same w p
  go_enter Try.func14, Try.ntmps14
  go_wp2
  go_ret2
  exact ⟨rfl, rfl⟩
theorem rmove_same (w : World) (p : Nat) (n : Int) : Calls Try.prog 37 #[.pointer (some ⟨p, 0, none⟩), .pointer (some ⟨p, 0, none⟩), .int .i64 n] w fun e w' => e = .returned (.tuple #[.int .i64 0, .int .i64 2]) ∧ w = w' := by
  have hcmp := rptr_same w p
  go_enter Try.func37, Try.ntmps37
  go_wp2
  go_ret2
  exact ⟨rfl, rfl⟩
theorem rmove_bad {p q : Nat} {gp gq : Option Nat} {rp rq : Nat} {xs ys : List Int} (w : World) (h : RDuo w p gp rp xs q gq rq ys) (n : Int) (hn : n < 0) :
    Calls Try.prog 37 #[.pointer (some ⟨p, 0, none⟩), .pointer (some ⟨q, 0, none⟩), .int .i64 n] w fun e w' => e = .returned (.tuple #[.int .i64 0, .int .i64 2]) ∧ w = w' := by
  have hpq : p ≠ q := fun e => h.ap p (.inl rfl) (by rw [e]; exact .inl rfl)
  have hcmp : Sem.run Try.prog (binOp .eql 49 (.pointer (some ⟨p, 0, none⟩)) (.pointer (some ⟨q, 0, none⟩))) w = .ok (.bool false) w := by
    obtain ⟨_, _, h1, _⟩ := h.a
    obtain ⟨_, _, h2, _⟩ := h.b
    exact rptr_other w h1 h2 hpq
  clear h
  go_enter Try.func37, Try.ntmps37
  go_wp2
  go_ret2
  exact ⟨rfl, rfl⟩
theorem move_nil1 (w : World) (v : Value) (n : Int) : Calls Try.prog 14 #[.pointer none, v, .int .i64 n] w fun e w' => e = .returned (.tuple #[.int .i64 0, .int .i64 1]) ∧ w = w' := by
  go_enter Try.func14, Try.ntmps14
  go_wp2
  go_ret2
  exact ⟨rfl, rfl⟩
theorem move_nil2 (w : World) (p : Nat) (n : Int) : Calls Try.prog 14 #[.pointer (some ⟨p, 0, none⟩), .pointer none, .int .i64 n] w fun e w' => e = .returned (.tuple #[.int .i64 0, .int .i64 1]) ∧ w = w' := by
  go_enter Try.func14, Try.ntmps14
  go_wp2
  go_ret2
  exact ⟨rfl, rfl⟩
theorem rmove_nil1 (w : World) (v : Value) (n : Int) : Calls Try.prog 37 #[.pointer none, v, .int .i64 n] w fun e w' => e = .returned (.tuple #[.int .i64 0, .int .i64 1]) ∧ w = w' := by
  go_enter Try.func37, Try.ntmps37
  go_wp2
  go_ret2
  exact ⟨rfl, rfl⟩
theorem rmove_nil2 (w : World) (p : Nat) (n : Int) : Calls Try.prog 37 #[.pointer (some ⟨p, 0, none⟩), .pointer none, .int .i64 n] w fun e w' => e = .returned (.tuple #[.int .i64 0, .int .i64 1]) ∧ w = w' := by
  go_enter Try.func37, Try.ntmps37
  go_wp2
  go_ret2
  exact ⟨rfl, rfl⟩
end Go.Proofs.Yteleakbbppbnnaa
