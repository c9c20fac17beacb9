/-
  ring.Ring[int]: what a ring holds (RingAt); place, has, Len, Room, At, New.
-/
import Derived.Test.YteleakbbppbnnaaOwn
import Derived.Test.YteleakbbppbnnaaRows
import Derived.WalkLawsBesides
import Derived.WalkSpells
import Derived.Deep.QuietTactic
import Derived.BigQuiet
import Derived.Deep.RegionHeld3
import Derived.Deep.DeepCutAuto
import Derived.Deep.DrawnRows
namespace Go.Proofs.Yteleakbbppbnnaa
open Go.RowKit
set_option linter.unusedVariables false

def iv (x : Int) : Value := .int .i64 x
/-- A ring: its room, its first place, its cells, what it holds. -/
structure RS where
  room : Nat
  first : Nat
  vals : List Int
  xs : List Int
structure RS.Ok (s : RS) : Prop where
  r1 : 1 ≤ s.room
  r2 : s.room ≤ 65536
  l1 : s.xs.length ≤ s.vals.length
  l2 : s.vals.length ≤ s.room
  f : s.first = 0 ∨ s.first < s.vals.length
  at_ : ∀ i : Nat, i < s.xs.length → s.vals[(s.first + i) % s.vals.length]? = s.xs[i]?
abbrev tRing : TypeId := 61
/-- A ring lies at block p, its cells in g. -/
structure RingAt (w : World) (p : Nat) (C : Option Addr) (cc : Nat) (g : Option Nat) (s : RS) : Prop where
  bl : Bl w p tRing #[.slice C s.vals.length cc, .int .i64 (s.room : Int), .int .i64 (s.first : Int), .int .i64 (s.xs.length : Int)]
  ow : Ow w 3 1 C s.vals.length cc (s.vals.map iv) g
  ok : s.Ok
theorem Ow.ty {w : World} {e : TypeId} {size n c : Nat} {A : Option Addr} {xs : List Value} {b : Nat} (h : Ow w e size A n c xs (some b)) : ∃ cs, Bl w b e cs := by
  rcases h.2 with ⟨_, _, _, h⟩ | ⟨b', o, cur, hA, hg, hh, _⟩
  · cases h
  · cases hg; exact ⟨cur, hh⟩
theorem RingAt.ne {w : World} {p : Nat} {C : Option Addr} {cc : Nat} {g : Option Nat} {s : RS} (h : RingAt w p C cc g s) : g ≠ some p := by
  intro e
  have h1 := h.ow
  rw [e] at h1
  obtain ⟨cs, hc⟩ := h1.ty
  exact absurd (h.bl.same hc).2 (by decide)
theorem RingAt.fr {w w' : World} {p : Nat} {C : Option Addr} {cc : Nat} {g : Option Nat} {s : RS} {S : Nat → Prop} (h : RingAt w p C cc g s) (hf : Fr S w w') (h1 : ¬ S p) (h2 : ∀ b, g = some b → ¬ S b) : RingAt w' p C cc g s :=
  ⟨h.bl.fr hf h1, h.ow.fr hf h2, h.ok⟩

theorem quiet_ex {P : Program} {f : FuncId} {args : Array Value} {w : World} {n : Nat} {v : Value}
    (h : Calls P f args (w.drewN n) fun e w' => e = .returned v ∧ ∃ m, w' = (w.drewN n).drewN m) : Calls P f args (w.drewN n) fun e w'' => e = .returned v ∧ ∃ m, w'' = w.drewN m := Calls.quiet_of h
theorem modc (a n : Nat) : ((a : Int)).tmod (n : Int) = ((a % n : Nat) : Int) := by
  rw [Int.tmod_eq_emod_of_nonneg (by omega)]; rfl
set_option maxHeartbeats 400000 in
theorem place_any {p : Nat} {C : Option Addr} {nc cc : Nat} {first : Nat} {r l : Value} (w : World) (i : Nat) (hb : Bl w p tRing #[.slice C nc cc, r, .int .i64 (first : Int), l]) (h1 : 0 < nc) (h2 : first ≤ 70000) (h3 : i ≤ 70000) (h4 : nc ≤ 70000) (k : Nat) (hk : (first + i) % nc = k) :
    Calls Try.prog 23 #[.pointer (some ⟨p, 0, none⟩), .int .i64 (i : Int)] w fun e w' => e = .returned (.int .i64 (k : Int)) ∧ ∃ m, w' = w.drewN m := by
  have c0 : w.cell? ⟨p, 0, none⟩ = some (.slice C nc cc) := hb.cell' rfl
  have c2 : w.cell? ⟨p, 2, none⟩ = some (.int .i64 (first : Int)) := hb.cell' rfl
  have hlt := Nat.mod_lt (first + i) h1
  have q0 : ¬ (nc : Int) = 0 := by omega
  have q1 : ((first : Int) + (i : Int)).tmod (nc : Int) = (((first + i) % nc : Nat) : Int) := by rw [← modc]; rfl
  have q2 : IntKind.i64.wrap ((first : Int) + (i : Int)) = (first : Int) + (i : Int) := IntWalk.i64_in _ (by omega)
  have q3 : IntKind.i64.wrap ((((first + i) % nc : Nat) : Int)) = (((first + i) % nc : Nat) : Int) := IntWalk.i64_in _ (by omega)
  rw [hk] at q1 q3
  clear hk hlt
  go_enter Try.func23, Try.ntmps23
  go_wp2
  go_quiet (fail)
  go_wp2
  go_ret
  exact ⟨rfl, _, rfl⟩
set_option maxHeartbeats 400000 in
theorem has_any {p : Nat} {n : Nat} {a b c : Value} (w : World) (i : Int) (hb : Bl w p tRing #[a, b, c, .int .i64 (n : Int)]) :
    Calls Try.prog 43 #[.pointer (some ⟨p, 0, none⟩), .int .i64 i] w fun e w' => e = .returned (.bool (decide (0 ≤ i ∧ i < n))) ∧ w = w' := by
  have c3 : w.cell? ⟨p, 3, none⟩ = some (.int .i64 (n : Int)) := hb.cell' rfl
  by_cases h0 : 0 ≤ i
  · by_cases h1 : i < n
    · rw [decide_eq_true ⟨h0, h1⟩]
      go_enter Try.func43, Try.ntmps43
      go_wp2
      go_ret
      exact ⟨rfl, rfl⟩
    · rw [decide_eq_false (fun h => h1 h.2)]
      go_enter Try.func43, Try.ntmps43
      go_wp2
      go_ret
      exact ⟨rfl, rfl⟩
  · rw [decide_eq_false (fun h => h0 h.1)]
    go_enter Try.func43, Try.ntmps43
    go_wp2
    go_ret
    exact ⟨rfl, rfl⟩
set_option maxHeartbeats 400000 in
theorem len_any {p : Nat} {n : Nat} {a b c : Value} (w : World) (hb : Bl w p tRing #[a, b, c, .int .i64 (n : Int)]) :
    Calls Try.prog 13 #[.pointer (some ⟨p, 0, none⟩)] w fun e w' => e = .returned (.int .i64 (n : Int)) ∧ w = w' := by
  have c3 : w.cell? ⟨p, 3, none⟩ = some (.int .i64 (n : Int)) := hb.cell' rfl
  go_enter Try.func13, Try.ntmps13
  go_wp2
  go_ret
  exact ⟨rfl, rfl⟩
set_option maxHeartbeats 400000 in
theorem room_any {p : Nat} {n : Nat} {a b c : Value} (w : World) (hb : Bl w p tRing #[a, .int .i64 (n : Int), b, c]) :
    Calls Try.prog 12 #[.pointer (some ⟨p, 0, none⟩)] w fun e w' => e = .returned (.int .i64 (n : Int)) ∧ w = w' := by
  have c3 : w.cell? ⟨p, 1, none⟩ = some (.int .i64 (n : Int)) := hb.cell' rfl
  go_enter Try.func12, Try.ntmps12
  go_wp2
  go_ret
  exact ⟨rfl, rfl⟩
theorem RS.pos {s : RS} (h : s.Ok) {i : Nat} (hi : i < s.xs.length) : 0 < s.vals.length ∧ s.first ≤ 70000 ∧ i ≤ 70000 ∧ s.vals.length ≤ 70000 := by
  have := h.l1; have := h.l2; have := h.r2
  rcases h.f with h0 | h0 <;> omega
set_option maxHeartbeats 1000000 in
theorem at_in {p : Nat} {C : Option Addr} {cc : Nat} {g : Option Nat} {s : RS} (w : World) (h : RingAt w p C cc g s) (i : Nat) (hi : i < s.xs.length) :
    Calls Try.prog 25 #[.pointer (some ⟨p, 0, none⟩), .int .i64 (i : Int)] w fun e w' => e = .returned (.tuple #[.int .i64 s.xs[i], .bool true]) ∧ ∃ m, w' = w.drewN m := by
  obtain ⟨h1, h2, h3, h4⟩ := RS.pos h.ok hi
  have hat := h.ok.at_ i hi
  rw [List.getElem?_eq_getElem hi] at hat
  obtain ⟨k, hk⟩ : ∃ k, (s.first + i) % s.vals.length = k := ⟨_, rfl⟩
  have hkl : k < s.vals.length := by rw [← hk]; exact Nat.mod_lt _ h1
  obtain ⟨x, hx⟩ : ∃ x, s.xs[i] = x := ⟨_, rfl⟩
  rw [hk, hx] at hat
  rw [hx]
  obtain ⟨b, o, rfl, -, hc, -⟩ := h.ow.look (j := k) (u := .int .i64 x) (by rw [List.getElem?_map, hat]; rfl)
  have hbl := h.bl
  obtain ⟨nc, hnc⟩ : ∃ nc, s.vals.length = nc := ⟨_, rfl⟩
  obtain ⟨nx, hnx⟩ : ∃ nx, s.xs.length = nx := ⟨_, rfl⟩
  obtain ⟨f, hf⟩ : ∃ f, s.first = f := ⟨_, rfl⟩
  rw [hnc] at hkl hbl hk h1 h4
  rw [hnx] at hbl hi
  rw [hf] at hbl hk h2
  have Hk := hide hk
  have H1 := hide h1
  have H4 := hide h4
  have c0 : w.cell? ⟨p, 0, none⟩ = some (.slice (some ⟨b, o, none⟩) nc cc) := hbl.cell' rfl
  have hhas := has_any w (i : Int) hbl
  rw [decide_eq_true (show (0 : Int) ≤ (i : Int) ∧ (i : Int) < (nx : Int) by omega)] at hhas
  have i1 : (0 : Int) ≤ (k : Int) := by omega
  have i2 : (k : Int) < (nc : Int) := by omega
  clear hk hx hat hnc hnx h1 h4 hf
  go_enter Try.func25, Try.ntmps25
  go_wp2_with fail
  refine hhas.mono ?_
  rintro e w' ⟨rfl, rfl⟩
  clear hhas
  go_wp2_with fail
  go_quiet ((go_at_call 23; exact quiet_ex (place_any _ i (hbl.drewN _) H1.out h2 h3 H4.out k Hk.out)))
  go_wp2_with fail
  go_ret2
  exact ⟨rfl, _, rfl⟩
set_option maxHeartbeats 400000 in
theorem at_out {p : Nat} {n : Nat} {a b c : Value} (w : World) (i : Int) (hb : Bl w p tRing #[a, b, c, .int .i64 (n : Int)]) (hi : i < 0 ∨ (n : Int) ≤ i) :
    Calls Try.prog 25 #[.pointer (some ⟨p, 0, none⟩), .int .i64 i] w fun e w' => e = .returned (.tuple #[.int .i64 0, .bool false]) ∧ w = w' := by
  have hhas := has_any w i hb
  rw [decide_eq_false (show ¬ (0 ≤ i ∧ i < (n : Int)) by omega)] at hhas
  clear hi
  go_enter Try.func25, Try.ntmps25
  go_wp2_with fail
  refine hhas.mono ?_
  rintro e w' ⟨rfl, rfl⟩
  go_wp2_with fail
  go_ret2
  exact ⟨rfl, rfl⟩
set_option maxHeartbeats 400000 in
theorem new_ok (w : World) (room : Nat) (h1 : 1 ≤ room) (h2 : room ≤ 65536) :
    Calls Try.prog 7 #[.int .i64 (room : Int)] w fun e w' => e = .returned (.tuple #[.pointer (some ⟨w.heap.size, 0, none⟩), .int .i64 0]) ∧ RingAt w' w.heap.size none 0 none ⟨room, 0, [], []⟩ ∧ Fr (fun _ => False) w w' ∧ w.heap.size < w'.heap.size := by
  go_enter Try.func7, Try.ntmps7
  go_wp2
  go_ret2
  exact ⟨rfl, ⟨Bl.new _ _ _, Ow.nil_ _ _ _, ⟨h1, h2, Nat.le_refl _, Nat.zero_le _, .inl rfl, fun i h => by simp at h⟩⟩, (Fr.refl _ _).alloc _, by simp⟩
set_option maxHeartbeats 400000 in
theorem new_bad (w : World) (room : Int) (h : room < 1 ∨ 65536 < room) :
    Calls Try.prog 7 #[.int .i64 room] w fun e w' => e = .returned (.tuple #[.pointer none, .int .i64 2]) ∧ w = w' := by
  rcases h with h | h
  · go_enter Try.func7, Try.ntmps7
    go_wp2
    go_ret2
    exact ⟨rfl, rfl⟩
  · have h0 : 1 ≤ room := by omega
    go_enter Try.func7, Try.ntmps7
    go_wp2
    go_ret2
    exact ⟨rfl, rfl⟩
end Go.Proofs.Yteleakbbppbnnaa
