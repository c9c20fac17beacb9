/-
  disk.Disk: the calls' contracts in one form each; a disk made since a world (DN).
-/
import Derived.Test.YtchajbiloaiekaaDk9
import Derived.Test.YtchajbiloaiekaaDkA
namespace Go.Proofs.Ytchajbiloaiekaa
open Go.RowKit
set_option linter.unusedVariables false
set_option linter.unusedSimpArgs false
/-- A row's cells in a new block. -/
theorem Ow.row (w : World) (t : TypeId) (xs : List Nat) (hx : xs.length ≤ 64) : Ow (w.alloc (.cells (xs.map bn).toArray t)) t 1 (some ⟨w.heap.size, 0, none⟩) xs.length xs.length (xs.map bn) (some w.heap.size) :=
  Ow.made w t 1 xs.length xs.length _ _ (by simp) (Nat.le_refl _) (by unfold maxLen; omega) (by simp [List.take_of_length_le])
theorem told_len {s : DS} {n k : Nat} (h : s.Ok n) (hk : k < n) : (s.told k).length = 64 := by
  unfold DS.told
  split
  · rename_i j hj
    obtain ⟨hl, -⟩ := lastOf_lt hj
    rw [List.getD_eq_getElem?_getD, List.getElem?_eq_getElem hl]
    exact (h.row _ (List.getElem_mem ..)).2
  · have := h.len
    have hh := Nat.mul_le_mul_right 64 (show k + 1 ≤ n by omega)
    rw [List.length_take, List.length_drop]
    omega
/-- What Read tells, in new memory. -/
structure ReadPost (w : World) (xs : List Nat) (er : Int) (e : Ending) (w' : World) : Prop where
  out : ∃ A g e0, e = .returned (.tuple #[.slice A xs.length xs.length, .int .i64 er]) ∧ Ow w' e0 1 A xs.length xs.length (xs.map bn) g ∧ (∀ b, g = some b → w.heap.size ≤ b)
  fr : Fr (fun _ => False) w w'
def DS.readS (s : DS) (n : Nat) (at_ : Int) : List Nat := if readN n s at_ = 0 then s.told at_.toNat else []
theorem readS_len {s : DS} {n : Nat} (h : s.Ok n) (at_ : Int) : (s.readS n at_).length ≤ 64 := by
  unfold DS.readS
  split
  · rename_i h0
    unfold readN at h0
    by_cases q1 : s.fuse = 0
    · rw [if_pos q1] at h0; omega
    · rw [if_neg q1] at h0
      by_cases q2 : at_ < 0 ∨ (n : Int) ≤ at_
      · rw [if_pos q2] at h0; omega
      · exact Nat.le_of_eq (told_len h (by omega))
  · exact Nat.zero_le _
theorem read_any {w : World} {p n : Nat} {F : Nat → Prop} {s : DS} (h : DI w p n F s) (at_ : Int) :
    Calls Try.prog 22 #[.pointer (some ⟨p, 0, none⟩), .int .i64 at_] w (ReadPost w (s.readS n at_) (readN n s at_)) := by
  by_cases h0 : readN n s at_ = 0
  · have hf : s.fuse ≠ 0 := fun e => by rw [readN, if_pos e] at h0; omega
    have hr : ¬ (at_ < 0 ∨ (n : Int) ≤ at_) := fun e => by rw [readN, if_neg hf, if_pos e] at h0; omega
    obtain ⟨k, rfl⟩ : ∃ k : Nat, at_ = (k : Int) := ⟨at_.toNat, by omega⟩
    have hk : k < n := by omega
    have hl := told_len h.ok hk
    unfold DS.readS
    rw [h0, if_pos rfl, Int.toNat_natCast]
    cases hq : lastOf s.row k with
    | none =>
      have ht : s.told k = (s.sf.drop (k * 64)).take 64 := by unfold DS.told; rw [hq]
      refine (read_none h k hf hk hq).mono ?_
      rintro e w' ⟨rfl, rfl⟩
      have := Ow.row w 67 (s.told k) (by omega)
      rw [hl] at this
      rw [ht] at this hl ⊢
      exact ⟨⟨_, _, _, by rw [hl], by rw [hl]; exact this, fun b hb => by cases hb; exact Nat.le_refl _⟩, Fr.alloc (Fr.refl _ _) _⟩
    | some l =>
      have ht : s.told k = (s.row.getD l (0, [])).2 := by unfold DS.told; rw [hq]
      refine (read_some h k hf hk hq).mono ?_
      rintro e w' ⟨rfl, rfl⟩
      have := Ow.row w 67 (s.told k) (by omega)
      rw [hl] at this
      rw [ht] at this hl ⊢
      exact ⟨⟨_, _, _, by rw [hl], by rw [hl]; exact this, fun b hb => by cases hb; exact Nat.le_refl _⟩, Fr.alloc (Fr.refl _ _) _⟩
  · unfold DS.readS
    rw [if_neg h0]
    refine (read_bad h at_ h0).mono ?_
    rintro e w' ⟨rfl, rfl⟩
    exact ⟨⟨none, none, 5, rfl, Ow.nil_ _ _ _, fun b hb => by cases hb⟩, Fr.refl _ _⟩
def DS.writeS (s : DS) (n : Nat) (at_ : Int) (d : List Nat) : DS := if writeN n s at_ d.length = 0 then s.write at_.toNat d else s
theorem write_arg {w : World} {p n : Nat} {F : Nat → Prop} {s : DS} (h : DI w p n F s) (at_ : Int) (A : Option Addr) (m c : Nat) (d : List Nat) (hm : m = d.length) (hd : Sl w 1 A m (d.map bn)) (hr : (s.row.length + 1) * 72 ≤ 140737488355328) (hwr : s.wr < 8000000000000000000)
    (hap : 0 < m → ∀ b, (∃ o, A = some ⟨b, o, none⟩) → ¬ F b) :
    Calls Try.prog 36 #[.pointer (some ⟨p, 0, none⟩), .int .i64 at_, .slice A m c] w fun e w' => e = .returned (.int .i64 (writeN n s at_ m)) ∧ DOut w p n F (s.writeS n at_ d) w' := by
  subst hm
  unfold DS.writeS
  by_cases h0 : writeN n s at_ d.length = 0
  · rw [h0, if_pos rfl]
    have hf : s.fuse ≠ 0 := fun e => by rw [writeN, if_pos e] at h0; omega
    rw [writeN, if_neg hf] at h0
    have hq : ¬ (at_ < 0 ∨ (n : Int) ≤ at_) := fun e => by rw [if_pos e] at h0; omega
    rw [if_neg hq] at h0
    have hl : d.length = 64 := by
      by_cases q : d.length = 64
      · exact q
      · rw [if_pos q] at h0; omega
    obtain ⟨k, rfl⟩ : ∃ k : Nat, at_ = (k : Int) := ⟨at_.toNat, by omega⟩
    rw [Int.toNat_natCast]
    have hap2 := hap (by omega)
    rw [hl] at hd ⊢
    exact write_ok h k A c d hd hf (by omega) hr hwr hap2
  · rw [if_neg h0]
    refine (write_bad h at_ A d.length c h0).mono ?_
    rintro e w' ⟨rfl, rfl⟩
    exact ⟨rfl, DOut.refl h (Fr.refl _ _)⟩
theorem write_any {w : World} {p n : Nat} {F : Nat → Prop} {s : DS} (h : DI w p n F s) (at_ : Int) (A : Option Addr) (m c : Nat) (d : List Nat) (hm : m = d.length) (hd : Sl w 1 A m (d.map bn)) (hr : (s.row.length + 1) * 72 ≤ 140737488355328) (hwr : s.wr < 8000000000000000000)
    (hap : ∀ b, (∃ o, A = some ⟨b, o, none⟩) → ¬ F b) :
    Calls Try.prog 36 #[.pointer (some ⟨p, 0, none⟩), .int .i64 at_, .slice A m c] w fun e w' => e = .returned (.int .i64 (writeN n s at_ m)) ∧ DOut w p n F (s.writeS n at_ d) w' := write_arg h at_ A m c d hm hd hr hwr (fun _ => hap)
def DS.syncS (s : DS) : DS := if syncN s = 0 then s.sync else s
theorem sync_any {w : World} {p n : Nat} {F : Nat → Prop} {s : DS} (h : DI w p n F s) (hs : s.sy < 8000000000000000000) :
    Calls Try.prog 32 #[.pointer (some ⟨p, 0, none⟩)] w fun e w' => e = .returned (.int .i64 (syncN s)) ∧ DOut w p n F s.syncS w' := by
  unfold DS.syncS
  by_cases h0 : s.fuse = 0
  · have e : syncN s = 80 := by unfold syncN; rw [if_pos h0]
    rw [e, if_neg (by omega)]
    refine (sync_bad h h0).mono ?_
    rintro e w' ⟨rfl, rfl⟩
    exact ⟨rfl, DOut.refl h (Fr.refl _ _)⟩
  · have e : syncN s = 0 := by unfold syncN; rw [if_neg h0]
    rw [e, if_pos rfl]
    exact sync_ok h h0 hs
/-- A disk that was made since w0. -/
structure DN (w0 w : World) (p n : Nat) (F : Nat → Prop) (s : DS) : Prop where
  di : DI w p n F s
  new : ∀ k, F k → w0.heap.size ≤ k
  fr : Fr (fun _ => False) w0 w
theorem DN.out {w0 w w' : World} {p n : Nat} {F : Nat → Prop} {s s' : DS} (h : DN w0 w p n F s) (ho : DOut w p n F s' w') : ∃ F', DN w0 w' p n F' s' ∧ Fr F w w' ∧ ∀ k, k < w.heap.size → F' k → F k := by
  obtain ⟨F', h1, h2, h3⟩ := ho
  have hs := h.fr.size
  exact ⟨F', ⟨h1, fun k hk => by
    by_cases q : k < w.heap.size
    · exact h.new k (h3 k q hk)
    · omega, h.fr.comp h2 (fun i hi e => by have := h.new i e; omega)⟩, h2, h3⟩
theorem DN.step {w0 w w' : World} {p n : Nat} {F : Nat → Prop} {s : DS} (h : DN w0 w p n F s) (hf : Fr (fun _ => False) w w') : DN w0 w' p n F s :=
  ⟨h.di.fr hf (fun _ _ => id), h.new, h.fr.trans hf⟩
theorem DN.of {w : World} {n : Nat} {s : DS} {e : Ending} {w' : World} (h : NewOut w n s e w') : ∃ p F, e = .returned (.tuple #[.pointer (some ⟨p, 0, none⟩), .int .i64 0]) ∧ DN w w' p n F s := by
  obtain ⟨p, F, h1, h2, h3, h4⟩ := h
  exact ⟨p, F, h1, h2, h3, h4⟩
theorem Ow.apart {w w' : World} {p n : Nat} {F : Nat → Prop} {s : DS} (h : DI w p n F s) {A : Option Addr} {g : Option Nat} {e0 : TypeId} {m c : Nat} {xs : List Value} (hO : Ow w' e0 1 A m c xs g) (hg : ∀ b, g = some b → w.heap.size ≤ b) : ∀ b, (∃ o, A = some ⟨b, o, none⟩) → ¬ F b := by
  rintro b ⟨o, rfl⟩ hF
  rcases hO.2 with ⟨h1, _⟩ | ⟨b', o', cur, hA, hgb, _⟩
  · cases h1
  · cases hA
    have h1 := hg b hgb
    have h2 := h.lt hF
    omega
end Go.Proofs.Ytchajbiloaiekaa
