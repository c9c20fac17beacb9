/-
  DiskCrash: the row of laid writes, the state in the midst of the loop.
-/
import Derived.Test.YthcklgelbckffaaDkU
import Derived.Test.YthcklgelbckffaaDkC
import Derived.Test.YthcklgelbckffaaLs
namespace Go.Proofs.Ythcklgelbckffaa
open Go.RowKit
set_option linter.unusedVariables false
set_option linter.unusedSimpArgs false
theorem flat2 {α : Type} (a b : α → Value) : ∀ (l : List α) (i : Nat), (l.flatMap fun x => [a x, b x])[i * 2]? = l[i]?.map a ∧ (l.flatMap fun x => [a x, b x])[i * 2 + 1]? = l[i]?.map b
  | [], i => by simp
  | x :: l, 0 => by simp
  | x :: l, i + 1 => by
    have ih := flat2 a b l i
    rw [show (i + 1) * 2 = i * 2 + 2 by omega]
    simpa using ih
def lcells (rows : List (Nat × List Nat)) (vs : List (Nat × Nat × Nat)) : List Value := (rows.zip vs).flatMap fun x => [.int .i64 (x.1.1 : Int), .slice (some ⟨x.2.1, x.2.2.1, none⟩) 64 x.2.2.2]
/-- The row of laid writes, in memory of its own. -/
structure LaidIn (W wr : World) (F : Nat → Prop) (RA : Option Addr) (rl rc : Nat) (g : Option Nat) (rows : List (Nat × List Nat)) (vs : List (Nat × Nat × Nat)) : Prop where
  len : vs.length = rows.length
  hrl : rl = rows.length
  ow : Ow wr 37 2 RA rl rc (lcells rows vs) g
  it : ∀ (i : Nat) r v, rows[i]? = some r → vs[i]? = some v → Ow wr 5 1 (some ⟨v.1, v.2.1, none⟩) 64 v.2.2 (r.2.map bn) (some v.1) ∧ ¬ F v.1 ∧ g ≠ some v.1
  off : ∀ b, g = some b → ¬ F b ∧ W.heap.size ≤ b
section
variable {W w w' : World} {F F' : Nat → Prop} {RA : Option Addr} {rl rc : Nat} {g : Option Nat} {rows : List (Nat × List Nat)} {vs : List (Nat × Nat × Nat)}
theorem LaidIn.nil_ : LaidIn W w F none 0 0 none [] [] :=
  ⟨rfl, rfl, Ow.nil_ _ _ _, fun i r v h => by simp at h, fun b h => by cases h⟩
theorem LaidIn.step (h : LaidIn W w F RA rl rc g rows vs) (hf : Fr (fun _ => False) w w') : LaidIn W w' F RA rl rc g rows vs :=
  ⟨h.len, h.hrl, h.ow.fr hf (fun _ _ => id), fun i r v h1 h2 => ⟨(h.it i r v h1 h2).1.fr hf (fun _ _ => id), (h.it i r v h1 h2).2⟩, h.off⟩
theorem LaidIn.out (h : LaidIn W w F RA rl rc g rows vs) (hf : Fr F w w') (hF : ∀ k, k < w.heap.size → F' k → F k) : LaidIn W w' F' RA rl rc g rows vs := by
  refine ⟨h.len, h.hrl, h.ow.fr hf (fun b hb => (h.off b hb).1), fun i r v h1 h2 => ?_, fun b hb => ⟨fun e => (h.off b hb).1 (hF b (h.ow.lt b hb) e), (h.off b hb).2⟩⟩
  obtain ⟨q1, q2, q3⟩ := h.it i r v h1 h2
  exact ⟨q1.fr hf (fun b hb => by cases hb; exact q2), fun e => q2 (hF _ (q1.lt _ rfl) e), q3⟩
theorem LaidIn.at_ (h : LaidIn W w F RA rl rc g rows vs) : LaidAt w RA rl rows := by
  refine ⟨h.hrl, fun h0 => ?_⟩
  have hr := h.hrl
  obtain ⟨hl, hn | ⟨b, o, cur, rfl, rfl, hrest⟩⟩ := id h.ow
  · exact absurd hn.2.1 (by omega)
  refine ⟨b, o, rfl, fun i r hi => ?_⟩
  have hil : i < rows.length := (List.getElem?_eq_some_iff.1 hi).1
  obtain ⟨v, hv⟩ : ∃ v, vs[i]? = some v := ⟨_, List.getElem?_eq_getElem (by rw [h.len]; exact hil)⟩
  have hz : (rows.zip vs)[i]? = some (r, v) := by rw [List.getElem?_zip_eq_some]; exact ⟨hi, hv⟩
  obtain ⟨f1, f2⟩ := flat2 (fun x : (Nat × List Nat) × Nat × Nat × Nat => Value.int .i64 (x.1.1 : Int)) (fun x => .slice (some ⟨x.2.1, x.2.2.1, none⟩) 64 x.2.2.2) (rows.zip vs) i
  rw [hz] at f1 f2
  obtain ⟨b1, o1, e1, -, c1, -⟩ := h.ow.look (j := i * 2) f1
  cases e1
  obtain ⟨b1, o1, e1, -, c2, -⟩ := h.ow.look (j := i * 2 + 1) f2
  cases e1
  exact ⟨c1, v.1, v.2.1, v.2.2, c2, (h.it i r v hi hv).1.sl⟩
/-- One write more is laid: the row grows, the bytes are in memory of their own. -/
theorem LaidIn.grow (h : LaidIn W w F RA rl rc g rows vs) (hW : W.heap.size ≤ w.heap.size) (hFlt : ∀ k, F k → k < w.heap.size) {k : Nat} {x : List Nat} {b o c : Nat} (hx : Ow w 5 1 (some ⟨b, o, none⟩) 64 c (x.map bn) (some b)) (hb : ¬ F b) (hg : g ≠ some b) {R3 : Option Addr} {rc3 : Nat} {g3 : Option Nat}
    (hO : Ow w' 37 2 R3 (rl + 1) rc3 (lcells rows vs ++ [.int .i64 (k : Int), .slice (some ⟨b, o, none⟩) 64 c]) g3) (hf : Fr (fun y => some y = g) w w') (hg3 : g3 = g ∨ ∃ y, g3 = some y ∧ w.heap.size ≤ y) :
    LaidIn W w' F R3 (rl + 1) rc3 g3 (rows ++ [(k, x)]) (vs ++ [(b, o, c)]) := by
  have hkeep : ∀ {v : Nat × Nat × Nat} {d : List Nat}, Ow w 5 1 (some ⟨v.1, v.2.1, none⟩) 64 v.2.2 (d.map bn) (some v.1) → ¬ F v.1 → g ≠ some v.1 → Ow w' 5 1 (some ⟨v.1, v.2.1, none⟩) 64 v.2.2 (d.map bn) (some v.1) ∧ ¬ F v.1 ∧ g3 ≠ some v.1 := fun {v d} h1 h2 h3 => by
    refine ⟨h1.fr hf (fun y hy e => by cases hy; exact h3 e.symm), h2, ?_⟩
    rcases hg3 with rfl | ⟨y, rfl, hy⟩
    · exact h3
    · intro e; cases e; have := h1.lt _ rfl; omega
  refine ⟨by rw [List.length_append, List.length_append, h.len]; rfl, by rw [List.length_append, h.hrl]; rfl, ?_, ?_, ?_⟩
  · have : lcells (rows ++ [(k, x)]) (vs ++ [(b, o, c)]) = lcells rows vs ++ [.int .i64 (k : Int), .slice (some ⟨b, o, none⟩) 64 c] := by
      unfold lcells
      rw [List.zip_append h.len.symm, List.flatMap_append]; rfl
    rw [this]; exact hO
  · intro i r v hr hv
    by_cases hi : i < rows.length
    · rw [List.getElem?_append_left hi] at hr
      rw [List.getElem?_append_left (by rw [h.len]; exact hi)] at hv
      obtain ⟨q1, q2, q3⟩ := h.it i r v hr hv
      exact hkeep q1 q2 q3
    · rw [List.getElem?_append_right (by omega)] at hr
      rw [List.getElem?_append_right (by rw [h.len]; omega), h.len] at hv
      have e0 : i - rows.length = 0 := by have := (List.getElem?_eq_some_iff.1 hr).1; simp at this; omega
      rw [e0] at hr hv
      cases hr; cases hv
      exact hkeep (v := (b, o, c)) hx hb hg
  · intro y hy
    rcases hg3 with rfl | ⟨z, rfl, hz⟩
    · exact h.off y hy
    · cases hy
      exact ⟨fun e => by have := hFlt y e; omega, by omega⟩
end
/-- The fuse, told by the acts. -/
def FuOk (fuse f : Int) (acts : Nat) : Prop := (fuse < 0 → f = -1) ∧ (0 ≤ fuse → f = fuse - (acts : Int) ∧ (acts : Int) ≤ fuse)
theorem FuOk.act {fuse f : Int} {acts : Nat} (h : FuOk fuse f acts) (h0 : f ≠ 0) : FuOk fuse (spend f) (acts + 1) := by
  unfold FuOk spend at *
  refine ⟨fun hf => ?_, fun hf => ?_⟩
  · rw [h.1 hf]; rfl
  · obtain ⟨h1, h2⟩ := h.2 hf
    rw [if_pos (by omega)]; omega
structure CrashIn (W wr : World) (p n : Nat) (fuse : Int) (t acts : Nat) (F : Nat → Prop) (s : DS) (RA : Option Addr) (rl rc : Nat) (g : Option Nat) (vs : List (Nat × Nat × Nat)) : Prop where
  dn : DN W wr p n F s
  laid : LaidIn W wr F RA rl rc g s.row vs
  ct : s.wr + s.sy = acts
  le : acts ≤ t
  fu : FuOk fuse s.fuse acts
theorem CrashIn.step {W w w' : World} {p n : Nat} {fuse : Int} {t acts : Nat} {F : Nat → Prop} {s : DS} {RA : Option Addr} {rl rc : Nat} {g : Option Nat} {vs : List (Nat × Nat × Nat)} (h : CrashIn W w p n fuse t acts F s RA rl rc g vs) (hf : Fr (fun _ => False) w w') : CrashIn W w' p n fuse t acts F s RA rl rc g vs :=
  ⟨h.dn.step hf, h.laid.step hf, h.ct, h.le, h.fu⟩
theorem CrashIn.more {W w : World} {p n : Nat} {fuse : Int} {t t' acts : Nat} {F : Nat → Prop} {s : DS} {RA : Option Addr} {rl rc : Nat} {g : Option Nat} {vs : List (Nat × Nat × Nat)} (h : CrashIn W w p n fuse t acts F s RA rl rc g vs) (ht : t ≤ t') : CrashIn W w p n fuse t' acts F s RA rl rc g vs :=
  ⟨h.dn, h.laid, h.ct, by have := h.le; omega, h.fu⟩
end Go.Proofs.Ythcklgelbckffaa
