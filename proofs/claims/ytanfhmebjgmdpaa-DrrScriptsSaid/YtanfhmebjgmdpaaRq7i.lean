/-
  bazaar/ring.Ring[bazaar/drr.job[int]]: All and its iterator; the body may turn the ring.
-/
import Derived.Test.YtanfhmebjgmdpaaRq5i
import Derived.Test.YtanfhmebjgmdpaaRf
import Derived.Shelf.Abstract
import Derived.Shelf.RegionOpen
import Derived.OwnWalkIn
import Derived.TacticsInMore
import Derived.LoopNIn
import Derived.LoopIn
namespace Go.Proofs.Ytanfhmebjgmdpaa.Qi
open Go.RowKit Go.Shelf
set_option linter.unusedVariables false
attribute [local go_sem] Oper.semAt_some

/-- Where an iterator over a ring stands: so many were yielded; the ring's cells and things. -/
structure AS where
  k : Nat
  g : Option Nat
  xs : List X
abbrev tPR : TypeId := 95
/-- What is yielded. -/
def encA (x : Nat × X) : Array Value := #[.int .i64 (x.1 : Int), .agg (enc x.2).toArray]
/-- The iterator's state in memory. -/
structure AH (bx p room : Nat) (r : AS) (W : World) : Prop where
  ring : RI W p r.g room r.xs
  box : Bl W bx tPR #[.pointer (some ⟨p, 0, none⟩)]
def TnA (r : AS) (W : World) (r' : AS) (W' : World) : Prop := r' = r ∧ ∃ j, W' = W.drewN j
def LTA (r : AS) (W : World) (r' : AS) (W' : World) : Prop := r' = r ∧ W' = W
def RdA (r : AS) (x : Nat × X) : Prop := x.1 = r.k ∧ r.xs[r.k]? = some x.2
def AfA (r : AS) (_ : Nat × X) (r' : AS) : Prop := r'.k = r.k + 1
theorem hasR_any {p : Nat} {g : Option Nat} {room : Nat} {xs : List X} (w : World) (i : Int) (h : RI w p g room xs) :
    Calls Try.prog 66 #[.pointer (some ⟨p, 0, none⟩), .int .i64 i] w fun e w' => e = .returned (.bool (decide (0 ≤ i ∧ i < xs.length))) ∧ w = w' := by
  obtain ⟨C, cc, s, rfl, rfl, h⟩ := h
  exact has_any w i h.bl
theorem all_any (w : World) (v : Value) (hv : ∃ p, v = .pointer p) :
    Calls Try.prog 38 #[v] w fun e w' => e = .returned (.func (.func 65) #[] #[.pointer (some ⟨w.heap.size, 0, none⟩)]) ∧ w.alloc (.cells #[v] tPR) = w' := by
  obtain ⟨p, rfl⟩ := hv
  go_enter Try.func38, Try.ntmps38
  go_wp2
  go_ret
  exact ⟨rfl, rfl⟩
set_option maxRecDepth 100000
set_option maxHeartbeats 2000000 in
attribute [-go_sem] Go.Instr.loadAt in
theorem all1_seq (m : Nat) (hm : 1 ≤ m) (bx p room : Nat) (g : Option Nat) (xs : List X) :
    SeqJ Fence.wide m Try.prog 65 #[.pointer (some ⟨bx, 0, none⟩)] encA (AH bx p room) (fun _ _ => True) TnA RdA AfA AfA LTA ⟨0, g, xs⟩ (fun r => r.xs.length ≤ r.k) (fun _ => True) := fun l J Jx W hJH hJxH hT hLT hY h0 => by
  refine callsIn_of_wp Try.func65 rfl trivial ?_ rfl
  simp only [Try.ntmps65, List.size_toArray, List.length_cons, List.length_nil, Nat.reduceAdd, Nat.reduceSub, Array.replicate_succ, Array.replicate_zero, List.push_toArray, List.append_toArray, List.nil_append, List.cons_append]
  gi_wp2
  gi_loopw [3] (fun i wr => ∃ r : AS, i = .int .i64 (r.k : Int) ∧ r.k ≤ 65536 ∧ J r wr) (fun i _ => 65536 - (intOf i).toNat)
  case atStart => exact ⟨⟨0, g, xs⟩, rfl, Nat.zero_le _, h0⟩
  case round =>
    obtain ⟨⟨k, g2, ys⟩, rfl, hk, hJk⟩ := hrel
    have hH := hJH _ _ hJk
    obtain ⟨hIk, hbx⟩ := hH
    simp only at hIk hk
    have hhas := hasR_any wr (k : Int) hIk
    have hle := hIk.bounds
    have hbk : wr.cell? ⟨bx, 0, none⟩ = some (.pointer (some ⟨p, 0, none⟩)) := hbx.cell' rfl
    have hallp : (Instr.loadAt tPR (.pointer (some ⟨bx, 0, none⟩))).run Try.prog wr = .ok (.pointer (some ⟨p, 0, none⟩)) wr := run_loadAt_cell _ _ Try.underlying95 rfl hbk
    have hallq : ∀ j, (Instr.loadAt tPR (.pointer (some ⟨bx, 0, none⟩))).run Try.prog (wr.drewN j) = .ok (.pointer (some ⟨p, 0, none⟩)) (wr.drewN j) := fun j => run_loadAt_cell _ _ Try.underlying95 rfl hbk
    have hallr : (Instr.loadAt tPR (.pointer (some ⟨bx, 0, none⟩))).run Try.prog wr.drew = .ok (.pointer (some ⟨p, 0, none⟩)) wr.drew := hallq 1
    by_cases hlt : k < ys.length
    · rw [decide_eq_true (show (0 : Int) ≤ (k : Int) ∧ (k : Int) < (ys.length : Int) by omega)] at hhas
      gi_wp2
      refine ⟨trivial, (callsIn_wide.2 hhas).mono ?_⟩
      rintro e w' ⟨rfl, rfl⟩
      obtain ⟨C, cc, s, e1, e2, hR⟩ := hIk
      have hlt' : k < s.xs.length := by rw [e2]; exact hlt
      obtain ⟨h1, h2, h3, h4⟩ := QS.pos hR.ok hlt'
      have hat := hR.ok.at_ k hlt'
      obtain ⟨x, hx⟩ : ∃ x, ys[k]? = some x := ⟨_, List.getElem?_eq_getElem hlt⟩
      obtain ⟨kk, hkk⟩ : ∃ kk, (s.first + k) % s.vals.length = kk := ⟨_, rfl⟩
      have hkl : kk < s.vals.length := by rw [← hkk]; exact Nat.mod_lt _ h1
      rw [hkk, e2, hx] at hat
      obtain ⟨b, o, cur, rfl, -⟩ := hR.ow.row enc_len hat rfl
      have hbl := hR.bl
      have hall1 : ∀ j, (Instr.loadAt 99 (.pointer (some ⟨b, o + kk * 2, none⟩))).run Try.prog (wr.drewN j) = .ok (.agg (enc x).toArray) (wr.drewN j) := fun j =>
        (hR.ow.fr ((Fr.refl (fun _ => False) wr).drewN j) (fun _ _ => id)).load enc_len hat rfl Try.underlying99 rfl infoJob
      have hall1r : (Instr.loadAt 99 (.pointer (some ⟨b, o + kk * 2, none⟩))).run Try.prog wr.drew = .ok (.agg (enc x).toArray) wr.drew := hall1 1
      obtain ⟨nc, hnc⟩ : ∃ nc, s.vals.length = nc := ⟨_, rfl⟩
      obtain ⟨f, hf⟩ : ∃ f, s.first = f := ⟨_, rfl⟩
      rw [hnc] at h1 h4 hkk hkl hbl
      rw [hf] at h2 hkk hbl
      have c0 : wr.cell? ⟨p, 0, none⟩ = some (.slice (some ⟨b, o, none⟩) nc cc) := hbl.cell' rfl
      have hall0 : ∀ j, (Instr.loadAt 133 (.pointer (some ⟨p, 0, none⟩))).run Try.prog (wr.drewN j) = .ok (.slice (some ⟨b, o, none⟩) nc cc) (wr.drewN j) := fun j => run_loadAt_cell _ _ Try.underlying133 rfl c0
      have hall0r : (Instr.loadAt 133 (.pointer (some ⟨p, 0, none⟩))).run Try.prog wr.drew = .ok (.slice (some ⟨b, o, none⟩) nc cc) wr.drew := hall0 1
      have i1 : (0 : Int) ≤ (kk : Int) := by omega
      have i2 : (kk : Int) < (nc : Int) := by omega
      have Hkk := hide hkk
      clear hkk hat
      have hmx : Try.prog.follows .mixedOrders = true := by kernel_rfl
      have hJd : ∀ j, J ⟨k, g2, ys⟩ (wr.drewN j) := fun j => hT _ _ _ _ hJk ⟨rfl, j, rfl⟩
      gi_wp2
      gi_region_with_o (first
        | (refine ⟨trivial, ?_⟩; gi_at_call 64; refine (callsIn_wide.2 (place_any _ k (by exact hbl) h1 h2 h3 h4 kk Hkk.out)).mono ?_; rintro e w4 ⟨rfl, m4, rfl⟩; obtain ⟨fn, tm, as_, bd, hy, hRd⟩ := hY ⟨k, g2, ys⟩ (k, x) (wr.drewN (1 + m4)) (hJd _) ⟨rfl, hx⟩; dsimp only [encA] at hy; have HRd := hide (hRd.mono (R' := fun e W' => ∃ q, e = .returned (.bool q) ∧ ((q = true ∧ ∃ s', AfA ⟨k, g2, ys⟩ (k, x) s' ∧ J s' W') ∨ (q = false ∧ ∃ s', AfA ⟨k, g2, ys⟩ (k, x) s' ∧ Jx s' W'))) (by rintro e W' (⟨rfl, -, hJ⟩ | ⟨rfl, hJ⟩); exact ⟨true, rfl, .inl ⟨rfl, hJ⟩⟩; exact ⟨false, rfl, .inr ⟨rfl, hJ⟩⟩)); clear hRd)
        | (refine HRd.out.mono ?_; rintro e W3 ⟨q, rfl, hq3⟩; clear HRd))
      all_goals (rcases hq3 with ⟨rfl, s3, hs3, hJ3⟩ | ⟨rfl, s3, hs3, hJx3⟩)
      all_goals first
        | (have hkk3 := hJ3; skip)
        | (gi_wp2
           refine bodyPost_ret (results_none rfl _ _ _) rfl ?_
           exact ⟨⟨_, rfl⟩, .inr ⟨_, trivial, hJx3⟩⟩)
      all_goals (have hs3' : s3.k = k + 1 := hs3)
      all_goals clear hall0 hall1 hall0r hall1r hallr hallp hallq hs3 hkk3
      all_goals gi_wp2
      all_goals exact ⟨⟨s3, by rw [hs3']; go_num, by omega, hJ3⟩, by simp [intOf]; omega⟩
    · rw [decide_eq_false (show ¬ ((0 : Int) ≤ (k : Int) ∧ (k : Int) < (ys.length : Int)) by omega)] at hhas
      gi_wp2
      refine ⟨trivial, (callsIn_wide.2 hhas).mono ?_⟩
      rintro e w' ⟨rfl, rfl⟩
      gi_wp2
      go_end0
      exact ⟨⟨_, rfl⟩, .inl ⟨⟨k, g2, ys⟩, by show ys.length ≤ k; omega, hJk⟩⟩
end Go.Proofs.Ytanfhmebjgmdpaa.Qi
