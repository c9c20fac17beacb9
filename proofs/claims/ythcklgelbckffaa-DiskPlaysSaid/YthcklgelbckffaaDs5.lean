/-
  DiskPlays: three pairs of disks.
-/
import Derived.Test.YthcklgelbckffaaDs4
namespace Go.Proofs.Ythcklgelbckffaa
open Go.RowKit
set_option linter.unusedVariables false
set_option linter.unusedSimpArgs false
/-- A pair, told by its pointers. -/
def Pair (W w : World) (dp rp : Option Addr) (F G : Nat → Prop) (s : DS) (n : Nat) : Prop := Twos W w (.pointer dp) (.pointer rp) F G s n
def PairOut (W w : World) (dp rp : Option Addr) (F G : Nat → Prop) (s : DS) (n : Nat) (w' : World) : Prop :=
  ∃ F' G' s1, Pair W w' dp rp F' G' s1 n ∧ Fr (fun k => F k ∨ G k) w w' ∧ (∀ k, k < w.heap.size → (F' k ∨ G' k) → (F k ∨ G k)) ∧ s1.wr + s1.sy ≤ s.wr + s.sy + 1
theorem plays_pair {W w : World} {dp rp : Option Addr} {F G : Nat → Prop} {s : DS} {n : Nat} (h : Pair W w dp rp F G s n) (op : OpD) (hO : OpIs W op) {t : Nat} (ht : t ≤ 1700000000000) (hs : s.wr + s.sy ≤ t) :
    Calls Try.prog 29 #[.pointer dp, .pointer rp, .agg op.cells.toArray] w fun e w' => e = .returned (.bool true) ∧ PairOut W w dp rp F G s n w' := by
  rcases h with ⟨p, q, e1, e2, h⟩ | ⟨e1, e2, h1, h2, h3, h4⟩
  · cases e1; cases e2
    have hc := h.dn.di.ok.c1
    refine (plays_any h op hO (by omega) (by omega) (by omega)).mono ?_
    rintro e w' ⟨rfl, s1, ⟨F', G', hT, hf, hb⟩, hct⟩
    exact ⟨rfl, F', G', s1, .inl ⟨p, q, rfl, rfl, hT⟩, hf, hb, hct⟩
  · cases e1; cases e2
    refine (plays_nil h2 op hO).mono ?_
    rintro e w' ⟨rfl, hf⟩
    exact ⟨rfl, F, G, s, .inr ⟨rfl, rfl, Nat.le_trans h1 hf.size, h2.trans hf, h3, h4⟩, hf.weak _, fun _ _ h => h, Nat.le_succ _⟩
theorem counts_pair {W w : World} {dp rp : Option Addr} {F G : Nat → Prop} {s : DS} {n : Nat} (h : Pair W w dp rp F G s n) :
    Calls Try.prog 30 #[.pointer dp, .pointer rp] w fun e w' => e = .returned (.bool true) ∧ Fr (fun _ => False) w w' := by
  rcases h with ⟨p, q, e1, e2, h⟩ | ⟨e1, e2, h1, h2, h3, h4⟩
  · cases e1; cases e2; exact counts_any h
  · cases e1; cases e2; exact counts_nil w
/-- The three pairs, and the rows that hold their pointers. -/
structure Three (W w : World) (db rb : Nat) (dp rp : Nat → Option Addr) (F G : Nat → Nat → Prop) (s : Nat → DS) (n : Nat → Nat) (t : Nat) : Prop where
  pair : ∀ i, i < 3 → Pair W w (dp i) (rp i) (F i) (G i) (s i) (n i)
  apart : ∀ i j, i < 3 → j < 3 → i ≠ j → ∀ k, (F i k ∨ G i k) → ¬ (F j k ∨ G j k)
  off : ∀ i, i < 3 → ∀ k, (F i k ∨ G i k) → k ≠ db ∧ k ≠ rb
  dc : ∀ i, i < 3 → w.cell? ⟨db, i, none⟩ = some (.pointer (dp i))
  rc : ∀ i, i < 3 → w.cell? ⟨rb, i, none⟩ = some (.pointer (rp i))
  ct : ∀ i, i < 3 → (s i).wr + (s i).sy ≤ t
  fr : Fr (fun _ => False) W w
def updF {α : Type} (f : Nat → α) (i : Nat) (x : α) : Nat → α := fun j => if j = i then x else f j
theorem updF_same {α : Type} (f : Nat → α) (i : Nat) (x : α) : updF f i x i = x := if_pos rfl
theorem updF_other {α : Type} (f : Nat → α) {i j : Nat} (x : α) (h : j ≠ i) : updF f i x j = f j := if_neg h
section
variable {W w w' : World} {db rb : Nat} {dp rp : Nat → Option Addr} {F G : Nat → Nat → Prop} {s : Nat → DS} {n : Nat → Nat} {t : Nat}
theorem Three.step (h : Three W w db rb dp rp F G s n t) (hf : Fr (fun _ => False) w w') : Three W w' db rb dp rp F G s n t :=
  ⟨fun i hi => Twos.step (h.pair i hi) hf, h.apart, h.off, fun i hi => (hf.cell (World.block_lt_of_cell? w _ (h.dc i hi)) id).trans (h.dc i hi), fun i hi => (hf.cell (World.block_lt_of_cell? w _ (h.rc i hi)) id).trans (h.rc i hi), h.ct, h.fr.trans hf⟩
theorem Three.more (h : Three W w db rb dp rp F G s n t) {t' : Nat} (ht : t ≤ t') : Three W w db rb dp rp F G s n t' :=
  ⟨h.pair, h.apart, h.off, h.dc, h.rc, fun i hi => Nat.le_trans (h.ct i hi) ht, h.fr⟩
theorem Three.put (h : Three W w db rb dp rp F G s n t) {i : Nat} (hi : i < 3) (ho : PairOut W w (dp i) (rp i) (F i) (G i) (s i) (n i) w') :
    ∃ F' G' s', Three W w' db rb dp rp F' G' s' n (t + 1) ∧ Fr (fun k => F i k ∨ G i k) w w' := by
  obtain ⟨F1, G1, s1, hP, hf, hb, hc⟩ := ho
  have hdb := World.block_lt_of_cell? w _ (h.dc 0 (by omega))
  have hrb := World.block_lt_of_cell? w _ (h.rc 0 (by omega))
  simp only at hdb hrb
  refine ⟨updF F i F1, updF G i G1, updF s i s1, ⟨fun j hj => ?_, fun j l hj hl hne k hk hk2 => ?_, fun j hj k hk => ?_, fun j hj => ?_, fun j hj => ?_, fun j hj => ?_, ?_⟩, hf⟩
  · by_cases e : j = i
    · subst e; rw [updF_same, updF_same, updF_same]; exact hP
    · rw [updF_other _ _ e, updF_other _ _ e, updF_other _ _ e]
      exact Twos.turn (h.pair j hj) hf (fun k hk => ⟨fun hF => h.apart i j hi hj (fun q => e q.symm) k hk (.inl hF), fun hG => h.apart i j hi hj (fun q => e q.symm) k hk (.inr hG)⟩) (fun k hk => Twos.new (h.pair i hi) hk)
  · by_cases e : j = i
    · subst e
      rw [updF_same, updF_same] at hk
      rw [updF_other _ _ (fun q => hne q.symm), updF_other _ _ (fun q => hne q.symm)] at hk2
      exact h.apart j l hj hl hne k (hb k (Twos.lt (h.pair l hl) hk2) hk) hk2
    · by_cases e2 : l = i
      · subst e2
        rw [updF_same, updF_same] at hk2
        rw [updF_other _ _ e, updF_other _ _ e] at hk
        exact h.apart j l hj hl hne k hk (hb k (Twos.lt (h.pair j hj) hk) hk2)
      · rw [updF_other _ _ e, updF_other _ _ e] at hk
        rw [updF_other _ _ e2, updF_other _ _ e2] at hk2
        exact h.apart j l hj hl hne k hk hk2
  · by_cases e : j = i
    · subst e
      rw [updF_same, updF_same] at hk
      by_cases hlt : k < w.heap.size
      · exact h.off j hj k (hb k hlt hk)
      · omega
    · rw [updF_other _ _ e, updF_other _ _ e] at hk
      exact h.off j hj k hk
  · exact (hf.cell (p := ⟨db, j, none⟩) hdb (fun e => (h.off i hi db e).1 rfl)).trans (h.dc j hj)
  · exact (hf.cell (p := ⟨rb, j, none⟩) hrb (fun e => (h.off i hi rb e).2 rfl)).trans (h.rc j hj)
  · by_cases e : j = i
    · subst e; rw [updF_same]; have := h.ct j hj; omega
    · rw [updF_other _ _ e]; exact Nat.le_succ_of_le (h.ct j hj)
  · exact h.fr.comp hf (fun k hk e => by have := Twos.new (h.pair i hi) e; omega)
end
/-! New and Load of both, in one form. -/
def NewIs (w w' : World) (dp : Option Addr) (er : Int) (F : Nat → Prop) (b : Prop) (n : Nat) (s : DS) (eb : Int) : Prop :=
  (b ∧ dp = none ∧ er = eb ∧ (∀ k, ¬ F k) ∧ Fr (fun _ => False) w w') ∨ (¬ b ∧ er = 0 ∧ ∃ p, dp = some ⟨p, 0, none⟩ ∧ DN w w' p n F s)
def RNewIs (w w' : World) (rp : Option Addr) (er : Int) (G : Nat → Prop) (b : Prop) (n : Nat) (s : DS) (eb : Int) : Prop :=
  (b ∧ rp = none ∧ er = eb ∧ (∀ k, ¬ G k) ∧ Fr (fun _ => False) w w') ∨ (¬ b ∧ er = 0 ∧ Fr (fun _ => False) w w' ∧ ∃ q, rp = some ⟨q, 0, none⟩ ∧ RI w' q n G s ∧ ∀ k, G k → w.heap.size ≤ k)
def badNew (k : Int) : Prop := k < 1 ∨ 65536 < k
theorem new_gen (w : World) (k : Int) : Calls Try.prog 9 #[.int .i64 k] w fun e w' => ∃ dp er F, e = .returned (.tuple #[.pointer dp, .int .i64 er]) ∧ NewIs w w' dp er F (badNew k) k.toNat (newS k.toNat) 2 := by
  by_cases h : badNew k
  · refine (new_bad w k h).mono ?_
    rintro e w' ⟨rfl, rfl⟩
    exact ⟨none, 2, fun _ => False, rfl, .inl ⟨h, rfl, rfl, fun _ => id, Fr.refl _ _⟩⟩
  · unfold badNew at h
    obtain ⟨n, rfl⟩ : ∃ n : Nat, k = (n : Int) := ⟨k.toNat, by omega⟩
    refine (new_ok w n (by omega) (by omega)).mono ?_
    intro e w' hN
    obtain ⟨p, F, rfl, hD⟩ := DN.of hN
    exact ⟨_, 0, F, rfl, .inr ⟨h, rfl, p, rfl, hD⟩⟩
theorem rnew_gen (w : World) (k : Int) : Calls Try.prog 26 #[.int .i64 k] w fun e w' => ∃ rp er G, e = .returned (.tuple #[.pointer rp, .int .i64 er]) ∧ RNewIs w w' rp er G (badNew k) k.toNat (newS k.toNat) 2 := by
  by_cases h : badNew k
  · refine (rnew_bad w k h).mono ?_
    rintro e w' ⟨rfl, rfl⟩
    exact ⟨none, 2, fun _ => False, rfl, .inl ⟨h, rfl, rfl, fun _ => id, Fr.refl _ _⟩⟩
  · unfold badNew at h
    obtain ⟨n, rfl⟩ : ∃ n : Nat, k = (n : Int) := ⟨k.toNat, by omega⟩
    refine (rnew_ok w n (by omega) (by omega)).mono ?_
    rintro e w' ⟨q, G, rfl, h1, h2, h3⟩
    exact ⟨_, 0, G, rfl, .inr ⟨h, rfl, h3, q, rfl, h1, h2⟩⟩
theorem load_gen (w : World) (A : Option Addr) (m c : Nat) (xs : List Nat) (hm : m = xs.length) (hc : m ≤ c) (h63 : m ≤ 9223372036854775807) (hS : Sl w 1 A m (xs.map bn)) : Calls Try.prog 23 #[.slice A m c] w fun e w' => ∃ dp er F, e = .returned (.tuple #[.pointer dp, .int .i64 er]) ∧ NewIs w w' dp er F (loadBad m) (m / 64) (loadS xs) 82 := by
  by_cases h : loadBad m
  · refine (load_bad w A m c h63 h).mono ?_
    rintro e w' ⟨rfl, rfl⟩
    exact ⟨none, 82, fun _ => False, rfl, .inl ⟨h, rfl, rfl, fun _ => id, Fr.refl _ _⟩⟩
  · obtain ⟨n, hn1, hn2, rfl⟩ : ∃ n, 1 ≤ n ∧ n ≤ 65536 ∧ m = n * 64 := by
      unfold loadBad at h
      exact ⟨m / 64, by omega, by omega, by omega⟩
    rw [Nat.mul_div_cancel _ (by omega)]
    refine (load_ok w A c n xs hc hm.symm hn1 hn2 hS).mono ?_
    intro e w' hN
    obtain ⟨p, F, rfl, hD⟩ := DN.of hN
    exact ⟨_, 0, F, rfl, .inr ⟨h, rfl, p, rfl, hD⟩⟩
theorem rload_gen (w : World) (A : Option Addr) (m c : Nat) (xs : List Nat) (hm : m = xs.length) (h63 : m ≤ 9223372036854775807) (hS : Sl w 1 A m (xs.map bn)) : Calls Try.prog 27 #[.slice A m c] w fun e w' => ∃ rp er G, e = .returned (.tuple #[.pointer rp, .int .i64 er]) ∧ RNewIs w w' rp er G (loadBad m) (m / 64) (loadS xs) 82 := by
  by_cases h : loadBad m
  · refine (rload_bad w A m c h63 h).mono ?_
    rintro e w' ⟨rfl, rfl⟩
    exact ⟨none, 82, fun _ => False, rfl, .inl ⟨h, rfl, rfl, fun _ => id, Fr.refl _ _⟩⟩
  · obtain ⟨n, hn1, hn2, rfl⟩ : ∃ n, 1 ≤ n ∧ n ≤ 65536 ∧ m = n * 64 := by
      unfold loadBad at h
      exact ⟨m / 64, by omega, by omega, by omega⟩
    rw [Nat.mul_div_cancel _ (by omega)]
    refine (rload_ok w A c n xs hm.symm hn1 hn2 hS).mono ?_
    rintro e w' ⟨q, G, rfl, h1, h2, h3⟩
    exact ⟨_, 0, G, rfl, .inr ⟨h, rfl, h3, q, rfl, h1, h2⟩⟩
section
variable {w w' : World} {dp rp : Option Addr} {er eb : Int} {F G : Nat → Prop} {b : Prop} {n : Nat} {s : DS}
theorem NewIs.fr (h : NewIs w w' dp er F b n s eb) : Fr (fun _ => False) w w' := by
  rcases h with ⟨_, _, _, _, h⟩ | ⟨_, _, p, _, h⟩
  · exact h
  · exact h.fr
theorem RNewIs.fr (h : RNewIs w w' rp er G b n s eb) : Fr (fun _ => False) w w' := by
  rcases h with ⟨_, _, _, _, h⟩ | ⟨_, _, h, _⟩
  · exact h
  · exact h
theorem NewIs.new (h : NewIs w w' dp er F b n s eb) : ∀ k, F k → w.heap.size ≤ k ∧ k < w'.heap.size := by
  intro k hk
  rcases h with ⟨_, _, _, h, _⟩ | ⟨_, _, p, _, h⟩
  · exact absurd hk (h k)
  · exact ⟨h.new k hk, h.di.lt hk⟩
theorem RNewIs.new (h : RNewIs w w' rp er G b n s eb) : ∀ k, G k → w.heap.size ≤ k ∧ k < w'.heap.size := by
  intro k hk
  rcases h with ⟨_, _, _, h, _⟩ | ⟨_, _, _, q, _, h1, h2⟩
  · exact absurd hk (h k)
  · exact ⟨h2 k hk, h1.lt hk⟩
/-- Both together are a pair, in a later world. -/
theorem Pair.of {W w1 w2 w3 w4 wz : World} {er2 : Int} (h : NewIs w1 w2 dp er F b n s eb) (hR : RNewIs w3 w4 rp er2 G b n s eb) (h1 : Fr (fun _ => False) W w1) (h23 : w2.heap.size ≤ w3.heap.size) (hz : Fr (fun _ => False) W wz)
    (hfz : ∀ p, DN w1 w2 p n F s → DN W wz p n F s) (hgz : ∀ q, RI w4 q n G s → RI wz q n G s) (hW3 : W.heap.size ≤ w3.heap.size) : Pair W wz dp rp F G s n ∧ er = er2 ∧ ((dp = none) ↔ (rp = none)) := by
  rcases h with ⟨hb, rfl, rfl, hF, -⟩ | ⟨hb, rfl, p, rfl, hD⟩
  · rcases hR with ⟨-, rfl, rfl, hG, -⟩ | ⟨hb2, -⟩
    · exact ⟨.inr ⟨rfl, rfl, hz.size, hz, hF, hG⟩, rfl, by simp⟩
    · exact absurd hb hb2
  · rcases hR with ⟨hb2, -⟩ | ⟨-, rfl, -, q, rfl, hq, hqn⟩
    · exact absurd hb2 hb
    · refine ⟨.inl ⟨p, q, rfl, rfl, ⟨hfz p hD, ⟨hgz q hq, fun k hk => Nat.le_trans hW3 (hqn k hk)⟩, fun k hF hG => ?_⟩⟩, rfl, by simp⟩
      have h2 := hD.di.lt hF
      have h3 := hqn k hG
      omega
end
end Go.Proofs.Ythcklgelbckffaa
