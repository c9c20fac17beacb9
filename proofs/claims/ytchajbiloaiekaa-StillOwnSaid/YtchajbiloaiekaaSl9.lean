/-
  Save: what it leaves; helpers.
-/
import Derived.Test.YtchajbiloaiekaaSl8
namespace Go.Proofs.Ytchajbiloaiekaa
open Go.RowKit
set_option linter.unusedVariables false
def laidT (T : Nat → List Nat) (b : Nat) (pic : List Nat) (j k : Nat) : List Nat := if b < k ∧ k ≤ b + j then sectN pic (k - b - 1) else T k
def saveT (T : Nat → List Nat) (b t : Nat) (pic : List Nat) (k : Nat) : List Nat := if k = b then headN t pic else laidT T b pic ((pic.length + 63) / 64) k
theorem laidT_zero (T : Nat → List Nat) (b : Nat) (pic : List Nat) (k : Nat) : laidT T b pic 0 k = T k := by unfold laidT; rw [if_neg (by omega)]
theorem laidT_next (T : Nat → List Nat) (b : Nat) (pic : List Nat) (j k : Nat) : laidT T b pic (j + 1) k = if b + 1 + j = k then sectN pic j else laidT T b pic j k := by
  unfold laidT
  by_cases h : b + 1 + j = k
  · rw [if_pos h, if_pos (by omega)]
    congr 1; omega
  · rw [if_neg h]
    by_cases h2 : b < k ∧ k ≤ b + j
    · rw [if_pos h2, if_pos (by omega)]
    · rw [if_neg h2, if_neg (by omega)]
/-- The disk while a Save runs. -/
structure DKeep (w : World) (p N : Nat) (F : Nat → Prop) (s : DS) (w' : World) (F' : Nat → Prop) (s' : DS) (a : Nat) : Prop where
  di : DI w' p N F' s'
  fz : s'.fuse = -1
  grow : ∀ k, k < w.heap.size → F' k → F k
  fr : Fr F w w'
  wr : s'.wr ≤ s.wr + a
  sy : s'.sy ≤ s.sy + a
section
variable {w w1 w2 : World} {p N a : Nat} {F F1 : Nat → Prop} {s s1 s2 : DS}
theorem DKeep.refl (h : DI w p N F s) (hf : s.fuse = -1) : DKeep w p N F s w F s 0 := ⟨h, hf, fun _ _ h => h, Fr.refl _ _, Nat.le_refl _, Nat.le_refl _⟩
theorem DKeep.quiet (h : DKeep w p N F s w1 F1 s1 a) (hf : Fr (fun _ => False) w1 w2) : DKeep w p N F s w2 F1 s1 a := ⟨h.di.fr hf (fun _ _ => id), h.fz, h.grow, h.fr.trans (hf.weak _), h.wr, h.sy⟩
theorem DKeep.far {q : Nat} (h : DKeep w p N F s w1 F1 s1 a) (hf : Fr (fun x => x = q) w1 w2) (hq : ¬ F1 q) (hq2 : w.heap.size ≤ q) : DKeep w p N F s w2 F1 s1 a := ⟨h.di.fr hf (fun k hk e => hq (e ▸ hk)), h.fz, h.grow, h.fr.comp hf (fun i hi e => by have e2 : i = q := e; omega), h.wr, h.sy⟩
theorem DKeep.out (h : DKeep w p N F s w1 F1 s1 a) (ho : DOut w1 p N F1 s2 w2) (hf : s2.fuse = -1) (hw : s2.wr ≤ s1.wr + 1) (hy : s2.sy ≤ s1.sy + 1) : ∃ F2, DKeep w p N F s w2 F2 s2 (a + 1) ∧ Fr F1 w1 w2 ∧ ∀ k, k < w1.heap.size → F2 k → F1 k := by
  obtain ⟨F2, h1, h2, h3⟩ := ho
  have hsz := h.fr.size
  have := h.wr
  have := h.sy
  exact ⟨F2, ⟨h1, hf, fun k hk hk2 => h.grow k hk (h3 k (by omega) hk2), h.fr.comp h2 (fun i hi e => h.grow i hi e), by omega, by omega⟩, h2, h3⟩
theorem spend_neg {f : Int} (h : f = -1) : spend f = -1 := by rw [h]; rfl
theorem write_fz (h : s.fuse = -1) (k : Nat) (d : List Nat) : (s.write k d).fuse = -1 := spend_neg h
theorem sync_fz (h : s.fuse = -1) : s.sync.fuse = -1 := spend_neg h
/-- A sync that is answered OK. -/
theorem ssync_any (h : DI w p N F s) (hf : s.fuse = -1) (hs : s.sy < 8000000000000000000) :
    Calls Try.prog 32 #[.pointer (some ⟨p, 0, none⟩)] w fun e w' => e = .returned (.int .i64 0) ∧ DOut w p N F s.sync w' := by
  have := sync_any h hs
  have e0 : syncN s = 0 := by unfold syncN; rw [if_neg (by omega)]
  unfold DS.syncS at this
  rw [e0, if_pos rfl] at this
  exact this
end
section
variable {w : World} {q p fr n t0 t1 N : Nat} {F : Nat → Prop} {s : DS}
theorem zeroAgg : (((zeros 64).map bn).toArray : Array Value) = zeroS.toArray := by simp [zeros, zeroS, bn]
set_option maxHeartbeats 4000000 in
theorem save_long (h : SAt w q p fr n t0 t1) (hn : 2 ≤ n ∧ n ≤ 70000) (A : Option Addr) (m c : Nat) (hm : 64 * (n - 1) < m) :
    Calls Try.prog 12 #[.pointer (some ⟨q, 0, none⟩), .slice A m c] w fun e w' => e = .returned (.int .i64 121) ∧ Fr (fun _ => False) w w' := by
  obtain ⟨s0, hs0⟩ : ∃ s0, w.heap.size = s0 := ⟨_, rfl⟩
  have hf1 : Fr (fun _ => False) w ((w.alloc (.cells #[.pointer (some ⟨q, 0, none⟩)] 30)).alloc (.cells #[.int .i64 0] 27)) := ((Fr.refl _ _).alloc _).alloc _
  have hE := Bl.newAt (w := w.alloc (.cells #[.pointer (some ⟨q, 0, none⟩)] 30)) (g := s0 + 1) (t := 27) (cs := #[.int .i64 0]) (by simp [hs0])
  have hmo := most_any (h.fr hf1 id) (by omega)
  have cd := (show Bl _ q tStill _ from h.fr hf1 id).cell' (i := 5) (v := .bool false) rfl
  obtain ⟨ms, hms⟩ : ∃ ms, 64 * (n - 1) = ms := ⟨_, rfl⟩
  rw [hms] at hmo hm
  have i1 : (ms : Int) < (m : Int) := by omega
  have Hf1 := hide hf1
  clear h hf1 hms
  go_enter_defers Try.func12, Try.ntmps12
  go_wp2_with fail
  refine hmo.mono ?_
  rintro e w2 ⟨rfl, hf2⟩
  have hE2 := hE.fr hf2 id
  have k2 : w2.cell? ⟨s0 + 1, 0, none⟩ = some (.int .i64 0) := hE2.cell' rfl
  have z2 := hE2.free 0
  have HF2 := hide (Hf1.out.trans hf2)
  have HE2 := hide hE2
  clear hmo hE hE2 hf2
  go_wp2_with fail
  have hF3 : Fr (fun _ => False) w (w2.setCell ⟨s0 + 1, 0, none⟩ (.int .i64 121)) := HF2.out.setIn (.inr (by omega)) _
  have hE3 := HE2.out.set 0 (.int .i64 121)
  generalize w2.setCell ⟨s0 + 1, 0, none⟩ (.int .i64 121) = w3 at hF3 hE3 ⊢
  have k3 : w3.cell? ⟨s0 + 1, 0, none⟩ = some (.int .i64 121) := hE3.cell' rfl
  have HF3 := hide hF3
  clear hF3 hE3 HF2 HE2 k2 z2
  simp [bodyPostD, Leaves, results, Try.results12, go_sem, k3]
  exact HF3.out
set_option maxHeartbeats 4000000 in
theorem save_end (h : SAt w q p fr n t0 t1) (hn : 2 ≤ n ∧ n ≤ 70000) (A : Option Addr) (m c : Nat) (hm : m ≤ 64 * (n - 1)) (ht : 1099511627776 ≤ max t0 t1) :
    Calls Try.prog 12 #[.pointer (some ⟨q, 0, none⟩), .slice A m c] w fun e w' => e = .returned (.int .i64 122) ∧ Fr (fun _ => False) w w' := by
  obtain ⟨s0, hs0⟩ : ∃ s0, w.heap.size = s0 := ⟨_, rfl⟩
  have hf1 : Fr (fun _ => False) w ((w.alloc (.cells #[.pointer (some ⟨q, 0, none⟩)] 30)).alloc (.cells #[.int .i64 0] 27)) := ((Fr.refl _ _).alloc _).alloc _
  have hE := Bl.newAt (w := w.alloc (.cells #[.pointer (some ⟨q, 0, none⟩)] 30)) (g := s0 + 1) (t := 27) (cs := #[.int .i64 0]) (by simp [hs0])
  have hP : Bl ((w.alloc (.cells #[.pointer (some ⟨q, 0, none⟩)] 30)).alloc (.cells #[.int .i64 0] 27)) s0 tPSt #[.pointer (some ⟨q, 0, none⟩)] := (Bl.newAt hs0.symm).alloc _
  have hmo := most_any (h.fr hf1 id) (by omega)
  have Htu := hide (fun W (hW : Fr (fun _ => False) _ W) => turn_any ((h.fr hf1 id).fr hW id))
  have cd := (show Bl _ q tStill _ from h.fr hf1 id).cell' (i := 5) (v := .bool false) rfl
  obtain ⟨ms, hms⟩ : ∃ ms, 64 * (n - 1) = ms := ⟨_, rfl⟩
  obtain ⟨tx, htx⟩ : ∃ tx, max t0 t1 = tx := ⟨_, rfl⟩
  rw [htx] at ht Htu
  rw [hms] at hmo hm
  have i1 : ¬ (ms : Int) < (m : Int) := by omega
  have i2 : (1099511627776 : Int) ≤ (tx : Int) := by omega
  have Hf1 := hide hf1
  clear h hf1 hms htx
  go_enter_defers Try.func12, Try.ntmps12
  go_wp2_with fail
  refine hmo.mono ?_
  rintro e w2 ⟨rfl, hf2⟩
  have hE2 := hE.fr hf2 id
  have hP2 := hP.fr hf2 id
  have kp : w2.cell? ⟨s0, 0, none⟩ = some (.pointer (some ⟨q, 0, none⟩)) := hP2.cell' rfl
  have htu := Htu.out w2 hf2
  have HF2 := hide (Hf1.out.trans hf2)
  have HE2 := hide hE2
  clear hmo hE hE2 hf2 hP hP2 Htu
  go_wp2_with fail
  refine htu.mono ?_
  rintro e w4 ⟨rfl, hf4⟩
  have hE4 := HE2.out.fr hf4 id
  have hF4 := HF2.out.trans hf4
  have k2 : w4.cell? ⟨s0 + 1, 0, none⟩ = some (.int .i64 0) := hE4.cell' rfl
  have z2 := hE4.free 0
  have HF4 := hide hF4
  have HE4 := hide hE4
  clear htu hf4 hE4 hF4 HE2 HF2
  go_wp2_with fail
  have hF3 : Fr (fun _ => False) w (w4.setCell ⟨s0 + 1, 0, none⟩ (.int .i64 122)) := HF4.out.setIn (.inr (by omega)) _
  have hE3 := HE4.out.set 0 (.int .i64 122)
  generalize w4.setCell ⟨s0 + 1, 0, none⟩ (.int .i64 122) = w3 at hF3 hE3 ⊢
  have k3 : w3.cell? ⟨s0 + 1, 0, none⟩ = some (.int .i64 122) := hE3.cell' rfl
  have HF3 := hide hF3
  clear hF3 hE3 HF4 HE4 k2 z2
  simp [bodyPostD, Leaves, results, Try.results12, go_sem, k3]
  exact HF3.out
end
end Go.Proofs.Ytchajbiloaiekaa
