/-
  ring.Move[int]; two rings side by side (Duo).
-/
import Derived.Test.YteleakbbppbnnaaRg5
import Derived.LaidEqlPtr
namespace Go.Proofs.Yteleakbbppbnnaa
open Go.RowKit
set_option linter.unusedVariables false

/-- Two rings that stand apart. -/
structure Duo (w : World) (p : Nat) (gp : Option Nat) (rp : Nat) (xs : List Int) (q : Nat) (gq : Option Nat) (rq : Nat) (ys : List Int) : Prop where
  a : RI w p gp rp xs
  b : RI w q gq rq ys
  ap : ∀ b, foot p gp b → ¬ foot q gq b
/-- The two behind a call. -/
def DuoOut (w : World) (p : Nat) (gp : Option Nat) (rp : Nat) (xs : List Int) (q : Nat) (gq : Option Nat) (rq : Nat) (ys : List Int) (w' : World) : Prop :=
  ∃ gp' gq', Duo w' p gp' rp xs q gq' rq ys ∧ Fr (fun b => foot p gp b ∨ foot q gq b) w w' ∧ ∀ b, b < w.heap.size → foot p gp' b ∨ foot q gq' b → foot p gp b ∨ foot q gq b
theorem Duo.swap {w : World} {p : Nat} {gp : Option Nat} {rp : Nat} {xs : List Int} {q : Nat} {gq : Option Nat} {rq : Nat} {ys : List Int} (h : Duo w p gp rp xs q gq rq ys) : Duo w q gq rq ys p gp rp xs :=
  ⟨h.b, h.a, fun b h1 h2 => h.ap b h2 h1⟩
theorem DuoOut.swap {w w' : World} {p : Nat} {gp : Option Nat} {rp : Nat} {xs : List Int} {q : Nat} {gq : Option Nat} {rq : Nat} {ys : List Int} (h : DuoOut w p gp rp xs q gq rq ys w') : DuoOut w q gq rq ys p gp rp xs w' := by
  obtain ⟨g1, g2, h, hf, hn⟩ := h
  exact ⟨g2, g1, h.swap, hf.mono fun _ _ e => e.symm, fun b hb e => (hn b hb e.symm).symm⟩
theorem Duo.left {w w' : World} {p : Nat} {gp : Option Nat} {rp : Nat} {xs xs' : List Int} {q : Nat} {gq : Option Nat} {rq : Nat} {ys : List Int} (h : Duo w p gp rp xs q gq rq ys) (ho : ROut w p gp rp xs' w') : DuoOut w p gp rp xs' q gq rq ys w' := by
  obtain ⟨g', hI, hf, hg⟩ := ho
  have hn := foot_new (room := rp) (xs := xs) hf hg
  refine ⟨g', gq, ⟨hI, h.b.fr hf (fun b hb e => h.ap b e hb), fun b h1 h2 => ?_⟩, hf.mono fun _ _ e => .inl e, fun b hb e => ?_⟩
  · exact h.ap b (hn b (h.b.lt h2) h1) h2
  · rcases e with e | e
    · exact .inl (hn b hb e)
    · exact .inr e
theorem Duo.right {w w' : World} {p : Nat} {gp : Option Nat} {rp : Nat} {xs : List Int} {q : Nat} {gq : Option Nat} {rq : Nat} {ys ys' : List Int} (h : Duo w p gp rp xs q gq rq ys) (ho : ROut w q gq rq ys' w') : DuoOut w p gp rp xs q gq rq ys' w' :=
  (h.swap.left ho).swap
theorem DuoOut.refl {w w' : World} {p : Nat} {gp : Option Nat} {rp : Nat} {xs : List Int} {q : Nat} {gq : Option Nat} {rq : Nat} {ys : List Int} (h : Duo w p gp rp xs q gq rq ys) (hf : Fr (fun _ => False) w w') : DuoOut w p gp rp xs q gq rq ys w' :=
  ⟨gp, gq, ⟨h.a.fr hf (fun _ _ => id), h.b.fr hf (fun _ _ => id), h.ap⟩, hf.weak _, fun _ _ e => e⟩
theorem DuoOut.more {w w1 w2 : World} {p : Nat} {gp gp1 : Option Nat} {rp : Nat} {xs : List Int} {q : Nat} {gq gq1 : Option Nat} {rq : Nat} {ys : List Int}
    (hf : Fr (fun b => foot p gp b ∨ foot q gq b) w w1) (hn : ∀ b, b < w.heap.size → foot p gp1 b ∨ foot q gq1 b → foot p gp b ∨ foot q gq b) (h : DuoOut w1 p gp1 rp xs q gq1 rq ys w2) : DuoOut w p gp rp xs q gq rq ys w2 := by
  obtain ⟨g1, g2, h, hf2, hn2⟩ := h
  exact ⟨g1, g2, h, hf.comp hf2 hn, fun b hb e => hn b hb (hn2 b (Nat.lt_of_lt_of_le hb hf.size) e)⟩
theorem ROut.ofFit {w w' : World} {p : Nat} {g : Option Nat} {s : RS} {n : Nat} (h : FitOut w p g s n w') : ROut w p g s.room s.xs w' := by
  obtain ⟨C, cc, g', s', e1, e2, e3, h, hf, hg⟩ := h
  exact ⟨g', ⟨C, cc, s', e1, e2, h⟩, hf, hg⟩
theorem infoRing : (Try.prog.info? tRing).map (fun i => (i.zero, i.size, i.bytes)) = some (some (.agg #[.slice none 0 0, .int .i64 0, .int .i64 0, .int .i64 0]), 4, 48) := by kernel_rfl
theorem ptr_other (w : World) {p q : Nat} {cs ds : Array Value} (hp : Bl w p tRing cs) (hq : Bl w q tRing ds) (h : p ≠ q) :
    Sem.run Try.prog (binOp .eql 24 (.pointer (some ⟨p, 0, none⟩)) (.pointer (some ⟨q, 0, none⟩))) w = .ok (.bool false) w := by
  obtain ⟨i, hi, h0, h1, h2⟩ := info_parts infoRing
  exact run_eql_ptr_other w Try.underlying24 hi (by rw [h1]; decide) (fun e => h (by injection e)) hp hq
theorem move_min (n : Int) (hn : 0 ≤ n) (nx rq ny k : Nat) (hq : ny ≤ rq) (hk : k = min n.toNat (min nx (rq - ny))) :
    (if (rq : Int) - (ny : Int) < (if (nx : Int) < n then (nx : Int) else n) then (rq : Int) - (ny : Int) else (if (nx : Int) < n then (nx : Int) else n)) = (k : Int) := by
  by_cases c1 : (nx : Int) < n
  · rw [if_pos c1]; split <;> omega
  · rw [if_neg c1]; split <;> omega
theorem sl_one (w : World) (v : Value) (e : TypeId) : Sl (w.alloc (.cells #[v] e)) 1 (some ⟨w.heap.size, 0, none⟩) 1 [v] := by
  refine ⟨rfl, fun _ => ⟨w.heap.size, 0, rfl, fun j u hu => ?_⟩⟩
  have hb := Bl.new w e #[v]
  rcases j with _ | j
  · simp at hu; subst hu; exact hb.cell' rfl
  · simp at hu
/-- j things are moved. -/
def Moving (w : World) (p : Nat) (gp : Option Nat) (rp : Nat) (xs : List Int) (q : Nat) (gq : Option Nat) (rq : Nat) (ys : List Int) (k : Nat) (i : Value) (wr : World) : Prop :=
  ∃ j : Nat, i = .int .i64 (j : Int) ∧ j ≤ k ∧ DuoOut w p gp rp (xs.drop j) q gq rq (ys ++ xs.take j) wr
set_option maxHeartbeats 2000000 in
set_option maxRecDepth 4000 in
theorem move_ok {p : Nat} {gp : Option Nat} {rp : Nat} {xs : List Int} {q : Nat} {gq : Option Nat} {rq : Nat} {ys : List Int} (w : World) (h : Duo w p gp rp xs q gq rq ys) (n : Int) (hn : 0 ≤ n) (k : Nat) (hk : k = min n.toNat (min xs.length (rq - ys.length))) :
    Calls Try.prog 14 #[.pointer (some ⟨p, 0, none⟩), .pointer (some ⟨q, 0, none⟩), .int .i64 n] w fun e w' => e = .returned (.tuple #[.int .i64 (k : Int), .int .i64 0]) ∧ DuoOut w p gp rp (xs.drop k) q gq rq (ys ++ xs.take k) w' := by
  have hpq : p ≠ q := fun e => h.ap p (.inl rfl) (by rw [e]; exact .inl rfl)
  have bp := h.a.bounds
  have bq := h.b.bounds
  have H := hide h
  obtain ⟨C1, cc1, s1, e1, e2, h1⟩ := h.a
  obtain ⟨C2, cc2, s2, e3, e4, h2⟩ := h.b
  obtain ⟨nx, hnx⟩ : ∃ nx, xs.length = nx := ⟨_, rfl⟩
  obtain ⟨ny, hny⟩ : ∃ ny, ys.length = ny := ⟨_, rfl⟩
  have hb1 := h1.bl
  have hb2 := h2.bl
  rw [e1, e2, hnx] at hb1
  rw [e3, e4, hny] at hb2
  rw [hnx] at bp hk
  rw [hny] at bq hk
  have Hnx := hide hnx
  have Hny := hide hny
  have HR2 := hide h2
  have E3 := hide e3
  have E4 := hide e4
  have a3 : w.cell? ⟨p, 3, none⟩ = some (.int .i64 (nx : Int)) := hb1.cell' rfl
  have q1 : w.cell? ⟨q, 1, none⟩ = some (.int .i64 (rq : Int)) := hb2.cell' rfl
  have q3 : w.cell? ⟨q, 3, none⟩ = some (.int .i64 (ny : Int)) := hb2.cell' rfl
  have i2 : IntKind.i64.wrap ((rq : Int) - (ny : Int)) = (rq : Int) - (ny : Int) := IntWalk.i64_in _ (by omega)
  have hkb : k ≤ 65536 := by omega
  have hkx : k ≤ nx := by omega
  have hky : ny + k ≤ rq := by omega
  have hcmp := ptr_other w hb1 hb2 hpq
  have hmin := hide (move_min n hn nx rq ny k (by omega) hk)
  clear hnx hny h1 h2 e1 e2 e3 e4 hb1 hb2 h hk
  go_enter Try.func14, Try.ntmps14
  go_wp2_with fail
  go_quiet (fail)
  simp only [hmin.out]
  have hN : Fr (fun _ => False) w (w.drewN nq) := (Fr.refl _ _).drewN nq
  go_wp2_with fail
  refine (fit_any _ (HR2.out.fr hN id (fun _ _ => id)) k (by rw [E3.out, E4.out, Hny.out]; exact hky)).mono ?_
  rintro e w1 ⟨rfl, hfit⟩
  have hfit' := ROut.ofFit hfit
  rw [E3.out, E4.out] at hfit'
  have hD0 : DuoOut w p gp rp xs q gq rq ys w1 :=
    DuoOut.more (gp1 := gp) (gq1 := gq) (hN.weak _) (fun _ _ e => e) (Duo.right ⟨H.out.a.fr hN (fun _ _ => id), H.out.b.fr hN (fun _ _ => id), H.out.ap⟩ hfit')
  clear hfit hfit' hcmp a3 q1 q3
  go_wp2_with fail
  go_loopw [44] (fun i wr => Moving w p gp rp xs q gq rq ys k i wr) (fun i _ => k - (intOf i).toNat)
  case atStart => exact ⟨0, rfl, Nat.zero_le _, by simpa using hD0⟩
  case round =>
    obtain ⟨j, rfl, hj, gp1, gq1, hD, hF, hG⟩ := hrel
    by_cases hlt : j < k
    · obtain ⟨x, hx⟩ : ∃ x, xs[j]? = some x := ⟨_, List.getElem?_eq_getElem (by rw [Hnx.out]; omega)⟩
      have hdr : xs.drop j = x :: xs.drop (j + 1) := by
        obtain ⟨h1, h2⟩ := List.getElem?_eq_some_iff.1 hx
        rw [← h2]; exact List.drop_eq_getElem_cons h1
      have hpop := pop_any wr hD.a
      rw [hdr] at hpop
      simp only [List.headD_cons, List.length_cons, List.drop_succ_cons, List.drop_zero, Nat.zero_lt_succ, decide_true] at hpop
      have hlq : (ys ++ xs.take j).length + 1 ≤ rq := by rw [List.length_append, List.length_take, Hny.out, Hnx.out]; omega
      have hxj : ys ++ xs.take (j + 1) = ys ++ xs.take j ++ [x] := by rw [List.take_add_one, hx, List.append_assoc]; rfl
      have Hxj := hide hxj
      have HD := hide hD
      clear hdr hx hxj hD
      go_wp2_with fail
      refine hpop.mono ?_
      rintro e w2 ⟨rfl, hk2⟩
      clear hpop
      have hD2 := HD.out.left hk2.out
      go_wp2_with fail
      obtain ⟨gp2, gq2, hDu, hF2, hG2⟩ := hD2
      have hA : Fr (fun _ => False) w2 (w2.alloc (.cells #[.int .i64 x] 3)) := (Fr.refl _ _).alloc _
      have hsz : w2.heap.size < (w2.alloc (.cells #[.int .i64 x] 3)).heap.size := by simp
      have hDA : Duo (w2.alloc (.cells #[.int .i64 x] 3)) p gp2 rp (xs.drop (j + 1)) q gq2 rq (ys ++ xs.take j) := ⟨hDu.a.fr hA (fun _ _ => id), hDu.b.fr hA (fun _ _ => id), hDu.ap⟩
      refine (push_ok _ hDA.b _ 1 1 [x] (sl_one _ _ _) (fun _ b ⟨o, e⟩ hb hf => by have := hDu.b.lt hf; cases e; omega) hlq).mono ?_
      rintro e w3 ⟨rfl, hR3⟩
      have hD3 := hDA.right hR3
      rw [← Hxj.out] at hD3
      have hD4 : DuoOut w p gp rp (xs.drop (j + 1)) q gq rq (ys ++ xs.take (j + 1)) w3 :=
        DuoOut.more hF hG (DuoOut.more (hF2.trans (hA.weak _)) hG2 hD3)
      clear hD3 hDA hR3
      go_wp2_with fail
      exact ⟨⟨j + 1, by go_num, hlt, hD4⟩, by simp [intOf]; omega⟩
    · obtain rfl : j = k := by omega
      go_wp2_with fail
      go_ret2
      exact ⟨rfl, gp1, gq1, hD, hF, hG⟩
set_option maxHeartbeats 1000000 in
theorem move_bad {p : Nat} {gp : Option Nat} {rp : Nat} {xs : List Int} {q : Nat} {gq : Option Nat} {rq : Nat} {ys : List Int} (w : World) (h : Duo w p gp rp xs q gq rq ys) (n : Int) (hn : n < 0) :
    Calls Try.prog 14 #[.pointer (some ⟨p, 0, none⟩), .pointer (some ⟨q, 0, none⟩), .int .i64 n] w fun e w' => e = .returned (.tuple #[.int .i64 0, .int .i64 2]) ∧ w = w' := by
  have hpq : p ≠ q := fun e => h.ap p (.inl rfl) (by rw [e]; exact .inl rfl)
  obtain ⟨C1, cc1, s1, e1, e2, h1⟩ := h.a
  obtain ⟨C2, cc2, s2, e3, e4, h2⟩ := h.b
  have hcmp := ptr_other w h1.bl h2.bl hpq
  clear h1 h2 e1 e2 e3 e4 h
  go_enter Try.func14, Try.ntmps14
  go_wp2_with fail
  go_ret2
  exact ⟨rfl, rfl⟩
end Go.Proofs.Yteleakbbppbnnaa
