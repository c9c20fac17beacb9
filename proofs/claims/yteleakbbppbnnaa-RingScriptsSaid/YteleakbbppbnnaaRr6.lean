/-
  ring.Ring[int]: All's iterator, where the body may turn the ring; of none at all.
-/
import Derived.Test.YteleakbbppbnnaaRr5
import Derived.Test.YteleakbbppbnnaaRf
import Derived.Shelf.Abstract
import Derived.Shelf.RegionOpen
import Derived.OwnWalkIn
import Derived.TacticsInMore
import Derived.LoopNIn
import Derived.LoopIn
namespace Go.Proofs.Yteleakbbppbnnaa
open Go.RowKit Go.Shelf
set_option linter.unusedVariables false
attribute [local go_sem] Oper.semAt_some
/-- Where an iterator over a ring stands: so many were yielded; the ring's cells and things; the document's list's block. -/
structure AS where
  k : Nat
  g : Option Nat
  lg : Option Nat
  xs : List Int
abbrev tPR : TypeId := 24
/-- What is yielded. -/
def encA (x : Nat × Int) : Array Value := #[.int .i64 (x.1 : Int), .int .i64 x.2]
/-- The iterator's state in memory. -/
structure AH (bx p room : Nat) (r : AS) (W : World) : Prop where
  ring : RI W p r.g room r.xs
  box : Bl W bx tPR #[.pointer (some ⟨p, 0, none⟩)]
def TnA (r : AS) (W : World) (r' : AS) (W' : World) : Prop := r' = r ∧ ∃ j, W' = W.drewN j
def LTA (r : AS) (W : World) (r' : AS) (W' : World) : Prop := r' = r ∧ W' = W
def RdA (r : AS) (x : Nat × Int) : Prop := x.1 = r.k ∧ r.xs[r.k]? = some x.2
def AfA (r : AS) (_ : Nat × Int) (r' : AS) : Prop := r'.k = r.k + 1
set_option maxRecDepth 100000
set_option maxHeartbeats 2000000 in
theorem all1_seq (m : Nat) (hm : 1 ≤ m) (bx p room : Nat) (s0 : AS) (h00 : s0.k = 0) :
    SeqJ Fence.wide m Try.prog 42 #[.pointer (some ⟨bx, 0, none⟩)] encA (AH bx p room) (fun _ _ => True) TnA RdA AfA AfA LTA s0 (fun r => r.xs.length ≤ r.k) (fun _ => True) := fun l J Jx W hJH hJxH hT hLT hY h0 => by
  refine callsIn_of_wp Try.func42 rfl trivial ?_ rfl
  simp only [Try.ntmps42, List.size_toArray, List.length_cons, List.length_nil, Nat.reduceAdd, Nat.reduceSub, Array.replicate_succ, Array.replicate_zero, List.push_toArray, List.append_toArray, List.nil_append, List.cons_append]
  gi_wp2
  gi_loopw [3] (fun i wr => ∃ r : AS, i = .int .i64 (r.k : Int) ∧ r.k ≤ 65536 ∧ J r wr) (fun i _ => 65536 - (intOf i).toNat)
  case atStart => exact ⟨s0, by rw [h00]; rfl, by omega, h0⟩
  case round =>
    obtain ⟨⟨k, g2, lg2, ys⟩, rfl, hk, hJk⟩ := hrel
    have hH := hJH _ _ hJk
    obtain ⟨hIk, hbx⟩ := hH
    simp only at hIk hk
    have hhas := hasR_any wr (k : Int) hIk
    have hle := hIk.bounds
    have hbk : wr.cell? ⟨bx, 0, none⟩ = some (.pointer (some ⟨p, 0, none⟩)) := hbx.cell' rfl
    by_cases hlt : k < ys.length
    · rw [decide_eq_true (show (0 : Int) ≤ (k : Int) ∧ (k : Int) < (ys.length : Int) by omega)] at hhas
      gi_wp2
      refine ⟨trivial, (callsIn_wide.2 hhas).mono ?_⟩
      rintro e w' ⟨rfl, rfl⟩
      obtain ⟨C, cc, s, e1, e2, hR⟩ := hIk
      have hlt' : k < s.xs.length := by rw [e2]; exact hlt
      obtain ⟨h1, h2, h3, h4⟩ := RS.pos hR.ok hlt'
      have hat := hR.ok.at_ k hlt'
      obtain ⟨x, hx⟩ : ∃ x, ys[k]? = some x := ⟨_, List.getElem?_eq_getElem hlt⟩
      obtain ⟨kk, hkk⟩ : ∃ kk, (s.first + k) % s.vals.length = kk := ⟨_, rfl⟩
      have hkl : kk < s.vals.length := by rw [← hkk]; exact Nat.mod_lt _ h1
      rw [hkk, e2, hx] at hat
      obtain ⟨b, o, rfl, hg, hc, -⟩ := hR.ow.look (j := kk) (u := .int .i64 x) (by rw [List.getElem?_map, hat]; rfl)
      have hbl := hR.bl
      obtain ⟨nc, hnc⟩ : ∃ nc, s.vals.length = nc := ⟨_, rfl⟩
      obtain ⟨f, hf⟩ : ∃ f, s.first = f := ⟨_, rfl⟩
      rw [hnc] at h1 h4 hkk hkl hbl
      rw [hf] at h2 hkk hbl
      have c0 : wr.cell? ⟨p, 0, none⟩ = some (.slice (some ⟨b, o, none⟩) nc cc) := hbl.cell' rfl
      have i1 : (0 : Int) ≤ (kk : Int) := by omega
      have i2 : (kk : Int) < (nc : Int) := by omega
      have Hkk := hide hkk
      clear hkk hat
      have hmx : Try.prog.follows .mixedOrders = true := by kernel_rfl
      have hJd : ∀ j, J ⟨k, g2, lg2, ys⟩ (wr.drewN j) := fun j => hT _ _ _ _ hJk ⟨rfl, j, rfl⟩
      gi_wp2
      gi_region_with_o (first
        | (refine ⟨trivial, ?_⟩; gi_at_call 23; refine (callsIn_wide.2 (place_any _ k (by exact hbl) h1 h2 h3 h4 kk Hkk.out)).mono ?_; rintro e w4 ⟨rfl, m4, rfl⟩; obtain ⟨fn, tm, as_, bd, hy, hRd⟩ := hY ⟨k, g2, lg2, ys⟩ (k, x) (wr.drewN (1 + m4)) (hJd _) ⟨rfl, hx⟩; dsimp only [encA] at hy; have HRd := hide (hRd.mono (R' := fun e W' => ∃ q, e = .returned (.bool q) ∧ ((q = true ∧ ∃ s', AfA ⟨k, g2, lg2, ys⟩ (k, x) s' ∧ J s' W') ∨ (q = false ∧ ∃ s', AfA ⟨k, g2, lg2, ys⟩ (k, x) s' ∧ Jx s' W'))) (by rintro e W' (⟨rfl, -, hJ⟩ | ⟨rfl, hJ⟩); exact ⟨true, rfl, .inl ⟨rfl, hJ⟩⟩; exact ⟨false, rfl, .inr ⟨rfl, hJ⟩⟩)); clear hRd)
        | (refine HRd.out.mono ?_; rintro e W3 ⟨q, rfl, hq3⟩; clear HRd))
      all_goals (rcases hq3 with ⟨rfl, s3, hs3, hJ3⟩ | ⟨rfl, s3, hs3, hJx3⟩)
      all_goals first
        | (have hkk3 := hJ3; skip)
        | (gi_wp2
           refine bodyPost_ret (results_none rfl _ _ _) rfl ?_
           exact ⟨⟨_, rfl⟩, .inr ⟨_, trivial, hJx3⟩⟩)
      all_goals (have hs3' : s3.k = k + 1 := hs3)
      all_goals clear hc c0 hbl hR hs3 hkk3 hbk
      all_goals gi_wp2
      all_goals exact ⟨⟨s3, by rw [hs3']; go_num, by omega, hJ3⟩, by simp [intOf]; omega⟩
    · rw [decide_eq_false (show ¬ ((0 : Int) ≤ (k : Int) ∧ (k : Int) < (ys.length : Int)) by omega)] at hhas
      gi_wp2
      refine ⟨trivial, (callsIn_wide.2 hhas).mono ?_⟩
      rintro e w' ⟨rfl, rfl⟩
      gi_wp2
      go_end0
      exact ⟨⟨_, rfl⟩, .inl ⟨⟨k, g2, lg2, ys⟩, by show ys.length ≤ k; omega, hJk⟩⟩
/-- Of none at all: it yields nothing. -/
theorem all1_none (m : Nat) (hm : 1 ≤ m) (bx : Nat) :
    SeqJ (σ := Unit) (α := Nat × Int) Fence.wide m Try.prog 42 #[.pointer (some ⟨bx, 0, none⟩)] encA (fun _ W => Bl W bx tPR #[.pointer none]) (fun _ _ => True) (fun _ _ _ _ => False) (fun _ _ => False) (fun _ _ _ => False) (fun _ _ _ => False) (fun _ _ _ _ => False) () (fun _ => True) (fun _ => False) := fun l J Jx W hJH hJxH hT hLT hY h0 => by
  have hbk : W.cell? ⟨bx, 0, none⟩ = some (.pointer none) := (hJH _ _ h0).cell' rfl
  refine callsIn_of_wp Try.func42 rfl trivial ?_ rfl
  simp only [Try.ntmps42, List.size_toArray, List.length_cons, List.length_nil, Nat.reduceAdd, Nat.reduceSub, Array.replicate_succ, Array.replicate_zero, List.push_toArray, List.append_toArray, List.nil_append, List.cons_append]
  gi_wp2
  gi_loopw [3] (fun i wr => i = .int .i64 0 ∧ wr = W) (fun i _ => 1)
  case atStart => exact ⟨rfl, rfl⟩
  case round =>
    obtain ⟨rfl, rfl⟩ := hrel
    gi_wp2
    refine ⟨trivial, (callsIn_wide.2 (has_nil _ 0)).mono ?_⟩
    rintro e w' ⟨rfl, rfl⟩
    gi_wp2
    go_end0
    exact ⟨⟨_, rfl⟩, .inl ⟨(), trivial, h0⟩⟩
end Go.Proofs.Yteleakbbppbnnaa
