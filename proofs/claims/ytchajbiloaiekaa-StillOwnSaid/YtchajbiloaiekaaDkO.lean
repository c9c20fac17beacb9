/-
  DiskOwn: lists that are kept, and what the disk tells ahead of a write, while it waits and behind a sync.
-/
import Derived.Test.YtchajbiloaiekaaDkM
import Derived.Test.YtchajbiloaiekaaDkC
namespace Go.Proofs.Ytchajbiloaiekaa
open Go.RowKit
set_option linter.unusedVariables false
set_option linter.unusedSimpArgs false
/-- A list in memory of its own, no part of the disk. -/
structure Kp (w : World) (F : Nat → Prop) (b o n : Nat) (xs : List Nat) : Prop where
  it : It w b o n xs
  off : ¬ F b
theorem Kp.made {w w' : World} {p n0 : Nat} {F : Nat → Prop} {s : DS} (h : DI w p n0 F s) {A : Option Addr} {g : Option Nat} {e0 : TypeId} {n : Nat} {xs : List Nat} (hO : Ow w' e0 1 A n n (xs.map bn) g) (hg : ∀ b, g = some b → w.heap.size ≤ b) (hn : 1 ≤ n) :
    ∃ b o, A = some ⟨b, o, none⟩ ∧ Kp w' F b o n xs ∧ w.heap.size ≤ b ∧ b < w'.heap.size := by
  obtain ⟨hl, h0 | ⟨b, o, cur, rfl, rfl, r⟩⟩ := id hO
  · exact absurd h0.2.1 (by omega)
  · exact ⟨b, o, rfl, ⟨⟨e0, hO⟩, fun hF => by have h1 := h.lt hF; have h2 := hg b rfl; omega⟩, hg b rfl, hO.lt b rfl⟩
theorem Kp.step {w w' : World} {F : Nat → Prop} {b o n : Nat} {xs : List Nat} (h : Kp w F b o n xs) (hf : Fr (fun _ => False) w w') : Kp w' F b o n xs := ⟨h.it.fr hf id, h.off⟩
theorem Kp.out {w w' : World} {F F' : Nat → Prop} {b o n : Nat} {xs : List Nat} (h : Kp w F b o n xs) (hf : Fr F w w') (hF : ∀ k, k < w.heap.size → F' k → F k) : Kp w' F' b o n xs :=
  ⟨h.it.fr hf h.off, fun e => h.off (hF b h.it.lt e)⟩
theorem Kp.over {w w' : World} {F : Nat → Prop} {b o n : Nat} {xs : List Nat} {g : Nat} (h : Kp w F b o n xs) (hf : Fr (fun k => some k = some g) w w') (hg : b ≠ g) : Kp w' F b o n xs := ⟨h.it.fr hf (fun e => hg (by cases e; rfl)), h.off⟩
theorem Kp.sl {w : World} {F : Nat → Prop} {b o n : Nat} {xs : List Nat} (h : Kp w F b o n xs) : Sl w 1 (some ⟨b, o, none⟩) n (xs.map bn) := by
  obtain ⟨e, h⟩ := h.it; exact h.sl
def sec (xs : List Nat) (k : Nat) : List Nat := (xs.drop (k * 64)).take 64
theorem Sl.part {w : World} {b o m n : Nat} {xs : List Nat} (h : Sl w 1 (some ⟨b, o, none⟩) m (xs.map bn)) (hm : m = n * 64) (k : Nat) (hk : k < n) : Sl w 1 (some ⟨b, o + k * 64, none⟩) 64 ((sec xs k).map bn) := by
  have hl : xs.length = n * 64 := by have := h.1; simp at this; omega
  have hh := Nat.mul_le_mul_right 64 (show k + 1 ≤ n by omega)
  refine ⟨by unfold sec; simp; omega, fun _ => ⟨b, o + k * 64, rfl, fun j u hu => ?_⟩⟩
  unfold sec at hu
  rw [List.map_take, List.map_drop] at hu
  have hj : j < 64 := by have := (List.getElem?_eq_some_iff.1 hu).1; rw [List.length_take] at this; omega
  rw [List.getElem?_take_of_lt hj, List.getElem?_drop] at hu
  obtain ⟨b', o', e, c⟩ := h.at_ hu
  cases e
  rw [show o + k * 64 + j = o + (k * 64 + j) by omega]; exact c
theorem sec_len {xs : List Nat} {n k : Nat} (h : xs.length = n * 64) (hk : k < n) : (sec xs k).length = 64 := by
  have hh := Nat.mul_le_mul_right 64 (show k + 1 ≤ n by omega)
  unfold sec; rw [List.length_take, List.length_drop]; omega
theorem sec_put {xs : List Nat} {n k : Nat} {d : List Nat} (h : xs.length = n * 64) (hk : k < n) (hd : d.length = 64) : sec (putSec xs k d) k = d := by
  have hh := Nat.mul_le_mul_right 64 (show k + 1 ≤ n by omega)
  unfold sec putSec
  rw [List.append_assoc, List.drop_append_of_le_length (by rw [List.length_take]; omega), List.drop_eq_nil_of_le (by rw [List.length_take]; omega), List.nil_append, List.take_left' hd]
/-- What the disk tells. -/
structure OwnFacts (n k : Nat) (xs ds : List Nat) (s1 s2 : DS) (er : Int) (D : List Nat) (sf2 : List Nat) : Prop where
  r0 : readN n (loadS xs) k = 0
  v0 : (loadS xs).readS n k = sec xs k
  wr : writeN n (loadS xs) k ds.length = er
  ws : (loadS xs).writeS n k ds = s1
  r1 : readN n s1 k = 0
  v1 : s1.readS n k = D
  i1 : s1.sf = xs
  y1 : s1.sy = 0
  sn : syncN s1 = 0
  ss : s1.syncS = s2
  i2 : s2.sf = sf2
  r2 : readN n s2 k = 0
  v2 : s2.readS n k = D
  l2 : sf2.length = n * 64
  p2 : sec sf2 k = D
  ld : D.length = 64
theorem own_at (n k : Nat) (xs ds : List Nat) (hl : xs.length = n * 64) (hk : k < n) (hd : ds.length = 64) : ∃ s1 s2 sf2, OwnFacts n k xs ds s1 s2 0 ds sf2 := by
  have q : ¬ ((k : Int) < 0 ∨ (n : Int) ≤ (k : Int)) := by omega
  have hw : writeN n (loadS xs) k ds.length = 0 := by unfold writeN; rw [if_neg (by show ¬ (-1 : Int) = 0; omega), if_neg q, if_neg (by omega)]
  have h1 : (loadS xs).writeS n k ds = (loadS xs).write k ds := by unfold DS.writeS; rw [if_pos hw, Int.toNat_natCast]
  have hn : syncN ((loadS xs).write k ds) = 0 := by rfl
  have h2 : ((loadS xs).write k ds).syncS = ((loadS xs).write k ds).sync := by unfold DS.syncS; rw [if_pos hn]
  have e2 : ((loadS xs).write k ds).sync.sf = putSec xs k ds := rfl
  have r0 : readN n (loadS xs) k = 0 := by unfold readN; rw [if_neg (by show ¬ (-1 : Int) = 0; omega), if_neg q]
  have r1 : readN n ((loadS xs).write k ds) k = 0 := by unfold readN; rw [if_neg (by show ¬ spend (-1) = 0; decide), if_neg q]
  have r2 : readN n ((loadS xs).write k ds).sync k = 0 := by unfold readN; rw [if_neg (by show ¬ spend (spend (-1)) = 0; decide), if_neg q]
  refine ⟨_, _, _, r0, ?_, hw, h1, r1, ?_, rfl, rfl, hn, h2, e2, r2, ?_, putSec_len hl hk hd, sec_put hl hk hd, hd⟩
  · unfold DS.readS; rw [if_pos r0, Int.toNat_natCast]; rfl
  · unfold DS.readS; rw [if_pos r1, Int.toNat_natCast]; unfold DS.told
    have : lastOf ((loadS xs).write k ds).row k = some 0 := by show lastOf [(k, ds)] k = _; unfold lastOf lastOf; rw [if_pos rfl]
    rw [this]; rfl
  · unfold DS.readS; rw [if_pos r2, Int.toNat_natCast]; unfold DS.told
    have : lastOf ((loadS xs).write k ds).sync.row k = none := rfl
    rw [this]; show ((putSec xs k ds).drop (k * 64)).take 64 = ds
    exact sec_put hl hk hd
theorem own_off (n k : Nat) (xs ds : List Nat) (hl : xs.length = n * 64) (hk : k < n) (hd : ds.length ≠ 64) : ∃ s1 s2 sf2, OwnFacts n k xs ds s1 s2 82 (sec xs k) sf2 := by
  have q : ¬ ((k : Int) < 0 ∨ (n : Int) ≤ (k : Int)) := by omega
  have hw : writeN n (loadS xs) k ds.length = 82 := by unfold writeN; rw [if_neg (by show ¬ (-1 : Int) = 0; omega), if_neg q, if_pos hd]
  have h1 : (loadS xs).writeS n k ds = loadS xs := by unfold DS.writeS; rw [if_neg (by omega)]
  have r0 : readN n (loadS xs) k = 0 := by unfold readN; rw [if_neg (by show ¬ (-1 : Int) = 0; omega), if_neg q]
  have v0 : (loadS xs).readS n k = sec xs k := by unfold DS.readS; rw [if_pos r0, Int.toNat_natCast]; rfl
  have hn : syncN (loadS xs) = 0 := by rfl
  have h2 : (loadS xs).syncS = (loadS xs).sync := by unfold DS.syncS; rw [if_pos hn]
  have r2 : readN n (loadS xs).sync k = 0 := by unfold readN; rw [if_neg (by show ¬ spend (-1) = 0; decide), if_neg q]
  refine ⟨_, _, _, r0, v0, hw, h1, r0, v0, rfl, rfl, hn, h2, rfl, r2, ?_, hl, rfl, sec_len hl hk⟩
  unfold DS.readS; rw [if_pos r2, Int.toNat_natCast]; rfl
theorem Lent.own {w : World} {A : Option Addr} {n c g : Nat} {xs : List Nat} (h : Lent w A n c xs g) (hl : n = xs.length) : Ow w 5 1 A n c (xs.map bn) (some g) := by
  have := Ow.take (k := n) h (by omega)
  rwa [Nat.mul_one, List.map_append, List.take_left' (by simp [hl])] at this
theorem DN.base {w0 w1 w : World} {p n : Nat} {F : Nat → Prop} {s : DS} (h : DN w1 w p n F s) (hf : Fr (fun _ => False) w0 w1) : DN w0 w p n F s :=
  ⟨h.di, fun k hk => Nat.le_trans hf.size (h.new k hk), hf.trans h.fr⟩
theorem DN.over {w0 w w' : World} {p n : Nat} {F : Nat → Prop} {s : DS} {g : Nat} (h : DN w0 w p n F s) (hf : Fr (fun k => some k = some g) w w') (hg : w0.heap.size ≤ g) (hF : ¬ F g) : DN w0 w' p n F s :=
  ⟨h.di.fr hf (fun k hk e => hF (by cases e; exact hk)), h.new, h.fr.comp hf (fun i hi e => by cases e; omega)⟩
def slc (x : Nat × Nat × Nat × List Nat) : Value := .slice (some ⟨x.1, x.2.1, none⟩) x.2.2.1 x.2.2.1
theorem Its.of {w : World} {t : TypeId} {d : Nat × Nat × Nat × List Nat} : ∀ {items : List (Nat × Nat × Nat × List Nat)}, (∀ x ∈ items, It w x.1 x.2.1 x.2.2.1 x.2.2.2) → items.Pairwise (fun x y => x.1 < y.1) →
    Its (w.alloc (.cells (items.map slc).toArray t)) w.heap.size items.length (fun i => (items.getD i d).1) (fun i => (items.getD i d).2.1) (fun i => (items.getD i d).2.2.1) (fun i => (items.getD i d).2.2.2) := by
  intro items hI hP
  have hg : ∀ i (hi : i < items.length), items.getD i d = items[i] := fun i hi => by rw [List.getD_eq_getElem?_getD, List.getElem?_eq_getElem hi]; rfl
  refine ⟨fun i hi => ?_, fun i hi => ?_, fun i j hi hj e => ?_, fun i hi => ?_⟩
  · refine (Bl.new w t _).cell' ?_
    simp only [hg i hi]
    simp [slc, hi]
  · simp only [hg i hi]
    exact (hI _ (List.getElem_mem hi)).fr (S := fun _ => False) ((Fr.refl _ _).alloc _) id
  · simp only [hg i hi, hg j hj] at e
    rcases Nat.lt_trichotomy i j with h | h | h
    · have := List.pairwise_iff_getElem.1 hP i j hi hj h; omega
    · exact h
    · have := List.pairwise_iff_getElem.1 hP j i hj hi h; omega
  · simp only [hg i hi]
    have := (hI _ (List.getElem_mem hi)).lt
    omega
theorem getD_all {α : Type} {d : α} {items : List α} {P : α → Prop} (h : ∀ x ∈ items, P x) : ∀ i, i < items.length → P (items.getD i d) := by
  intro i hi
  rw [List.getD_eq_getElem?_getD, List.getElem?_eq_getElem hi]
  exact h _ (List.getElem_mem hi)
theorem DN.turn {w0 w w' : World} {p n : Nat} {F : Nat → Prop} {s : DS} {S : Nat → Prop} (h : DN w0 w p n F s) (hf : Fr S w w') (h1 : ∀ k, S k → ¬ F k) (h2 : ∀ k, S k → w0.heap.size ≤ k) : DN w0 w' p n F s :=
  ⟨h.di.fr hf (fun k hk e => h1 k e hk), h.new, h.fr.comp hf (fun i hi e => by have := h2 i e; omega)⟩
end Go.Proofs.Ytchajbiloaiekaa
