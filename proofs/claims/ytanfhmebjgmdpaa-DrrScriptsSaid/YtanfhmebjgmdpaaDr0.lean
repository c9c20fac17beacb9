/-
  drr: what queues hold (DS), how they lie in memory (DAt); no program in sight.
-/
import Derived.Test.YtanfhmebjgmdpaaRq0
namespace Go.Proofs.Ytanfhmebjgmdpaa
open Go.RowKit
set_option linter.unusedVariables false

/-- A queue: its ring's block and cells, its things, its deficit. -/
structure LN (X : Type) where
  p : Nat
  g : Option Nat
  things : List X
  df : Int
/-- A server. -/
structure DS (X : Type) where
  quantum : Nat
  room : Nat
  lines : List (LN X)
  busy : Bool
section
variable {X : Type} (cost : X → Int)
def csum : List X → Int
  | [] => 0
  | x :: l => cost x + csum l
theorem csum_append (a b : List X) : csum cost (a ++ b) = csum cost a + csum cost b := by
  induction a with
  | nil => simp [csum]
  | cons x a ih => simp [csum, ih]; omega
theorem csum_bd {cost : X → Int} (h : ∀ x, 1 ≤ cost x ∧ cost x ≤ 8) : ∀ l : List X, 0 ≤ csum cost l ∧ csum cost l ≤ 8 * l.length
  | [] => by simp [csum]
  | x :: l => by
    have := csum_bd h l; have := h x
    simp only [csum, List.length_cons]; omega
theorem csum_bd' {cost : X → Int} : ∀ l : List X, (∀ x ∈ l, 1 ≤ cost x ∧ cost x ≤ 8) → 0 ≤ csum cost l ∧ csum cost l ≤ 8 * l.length
  | [], _ => by simp [csum]
  | x :: l, h => by
    have := csum_bd' l (fun y hy => h y (by simp [hy])); have := h x (by simp)
    simp only [csum, List.length_cons]; omega
def lcells (l : LN X) : List Value := [.pointer (some ⟨l.p, 0, none⟩), .int .i64 l.df, .int .i64 (csum cost l.things)]
theorem lcells_len (l : LN X) : (lcells cost l).length = 3 := rfl
structure DS.Ok (D : Int) (s : DS X) : Prop where
  q1 : 8 ≤ s.quantum
  q2 : s.quantum ≤ 1024
  n1 : 1 ≤ s.lines.length
  n2 : s.lines.length ≤ 1024
  d1 : 0 ≤ D
  d2 : D ≤ 4611686018427387904
  co : ∀ l ∈ s.lines, ∀ x ∈ l.things, 1 ≤ cost x ∧ cost x ≤ 8
  df : ∀ l ∈ s.lines, 0 ≤ l.df ∧ l.df ≤ D
end
/-- The blocks that a server turns. -/
def drfoot {X : Type} (d L : Nat) (s : DS X) : Nat → Prop := fun x => x = d ∨ x = L ∨ ∃ l ∈ s.lines, qfoot l.p l.g x
/-- The types of the blocks of a server. -/
structure DT where
  tD : TypeId
  tL : TypeId
  tR : TypeId
  tE : TypeId
structure DT.Ok (T : DT) : Prop where
  dl : T.tD ≠ T.tL
  dr : T.tD ≠ T.tR
  de : T.tD ≠ T.tE
  lr : T.tL ≠ T.tR
  le : T.tL ≠ T.tE
  re : T.tR ≠ T.tE
section
variable {X : Type} (T : DT) (sz : Nat) (enc : X → List Value) (cost : X → Int)
structure DrAt (w : World) (d L : Nat) (D : Int) (s : DS X) : Prop where
  bl : Bl w d T.tD #[.int .i64 (s.quantum : Int), .slice (some ⟨L, 0, none⟩) s.lines.length s.lines.length, .bool s.busy]
  ls : Bl w L T.tL (cellsOf (lcells cost) s.lines).toArray
  ring : ∀ l ∈ s.lines, QI T.tR T.tE sz enc w l.p l.g s.room l.things
  ap : s.lines.Pairwise (fun a b => ∀ x, qfoot a.p a.g x → ¬ qfoot b.p b.g x)
  ok : s.Ok cost D
variable {T sz enc cost} {w w' : World} {d L : Nat} {D : Int} {s : DS X}
theorem DrAt.fr {S : Nat → Prop} (h : DrAt T sz enc cost w d L D s) (hf : Fr S w w') (hS : ∀ x, drfoot d L s x → ¬ S x) : DrAt T sz enc cost w' d L D s :=
  ⟨h.bl.fr hf (hS _ (.inl rfl)), h.ls.fr hf (hS _ (.inr (.inl rfl))), fun l hl => (h.ring l hl).fr hf (fun b hb => hS b (.inr (.inr ⟨l, hl, hb⟩))), h.ap, h.ok⟩
theorem DrAt.quiet (h : DrAt T sz enc cost w d L D s) (hf : Fr (fun _ => False) w w') : DrAt T sz enc cost w' d L D s := h.fr hf fun _ _ => id
theorem DrAt.lt (h : DrAt T sz enc cost w d L D s) {x : Nat} (hx : drfoot d L s x) : x < w.heap.size := by
  rcases hx with rfl | rfl | ⟨l, hl, hx⟩
  · exact h.bl.lt
  · exact h.ls.lt
  · exact (h.ring l hl).lt hx
/-- Each block of a server has one of four types. -/
theorem DrAt.ty (h : DrAt T sz enc cost w d L D s) {x : Nat} (hx : drfoot d L s x) : ∃ t cs, Bl w x t cs ∧ (t = T.tD ∨ t = T.tL ∨ t = T.tR ∨ t = T.tE) := by
  rcases hx with rfl | rfl | ⟨l, hl, rfl | hx⟩
  · exact ⟨_, _, h.bl, .inl rfl⟩
  · exact ⟨_, _, h.ls, .inr (.inl rfl)⟩
  · obtain ⟨cs, hc⟩ := (h.ring l hl).ty.1
    exact ⟨_, _, hc, .inr (.inr (.inl rfl))⟩
  · obtain ⟨cs, hc⟩ := (h.ring l hl).ty.2 x hx.symm
    exact ⟨_, _, hc, .inr (.inr (.inr rfl))⟩
theorem DrAt.ring_ty (h : DrAt T sz enc cost w d L D s) {l : LN X} (hl : l ∈ s.lines) {x : Nat} (hx : qfoot l.p l.g x) : ∃ t cs, Bl w x t cs ∧ (t = T.tR ∨ t = T.tE) := by
  rcases hx with rfl | hx
  · obtain ⟨cs, hc⟩ := (h.ring l hl).ty.1
    exact ⟨_, _, hc, .inl rfl⟩
  · obtain ⟨cs, hc⟩ := (h.ring l hl).ty.2 x hx.symm
    exact ⟨_, _, hc, .inr rfl⟩
theorem DrAt.dL (h : DrAt T sz enc cost w d L D s) (hT : T.Ok) : d ≠ L := h.bl.apart h.ls hT.dl
theorem DrAt.dring (h : DrAt T sz enc cost w d L D s) (hT : T.Ok) {l : LN X} (hl : l ∈ s.lines) : ¬ qfoot l.p l.g d := fun hx => by
  obtain ⟨t, cs, hc, rfl | rfl⟩ := h.ring_ty hl hx
  · exact hT.dr (h.bl.same hc).2
  · exact hT.de (h.bl.same hc).2
theorem DrAt.Lring (h : DrAt T sz enc cost w d L D s) (hT : T.Ok) {l : LN X} (hl : l ∈ s.lines) : ¬ qfoot l.p l.g L := fun hx => by
  obtain ⟨t, cs, hc, rfl | rfl⟩ := h.ring_ty hl hx
  · exact hT.lr (h.ls.same hc).2
  · exact hT.le (h.ls.same hc).2
/-- The cells of a line. -/
theorem DrAt.cellp (h : DrAt T sz enc cost w d L D s) {i : Nat} {l : LN X} (hl : s.lines[i]? = some l) :
    w.cell? ⟨L, i * 3, none⟩ = some (.pointer (some ⟨l.p, 0, none⟩)) ∧ w.cell? ⟨L, i * 3 + 1, none⟩ = some (.int .i64 l.df) ∧ w.cell? ⟨L, i * 3 + 2, none⟩ = some (.int .i64 (csum cost l.things)) := by
  have h0 := cellsOf_at (enc := lcells cost) (lcells_len cost) s.lines i l hl 0 (by omega)
  have h1 := cellsOf_at (enc := lcells cost) (lcells_len cost) s.lines i l hl 1 (by omega)
  have h2 := cellsOf_at (enc := lcells cost) (lcells_len cost) s.lines i l hl 2 (by omega)
  rw [Nat.add_zero] at h0
  exact ⟨h.ls.cell' (by rw [List.getElem?_toArray]; exact h0), h.ls.cell' (by rw [List.getElem?_toArray]; exact h1), h.ls.cell' (by rw [List.getElem?_toArray]; exact h2)⟩
theorem lset1 (ls : List (LN X)) (i : Nat) (l : LN X) (hl : ls[i]? = some l) (v : Int) : (cellsOf (lcells cost) ls).toArray.setIfInBounds (i * 3 + 1) (.int .i64 v) = (cellsOf (lcells cost) (ls.set i { l with df := v })).toArray := by
  have hi : i < ls.length := (List.getElem?_eq_some_iff.1 hl).1
  have hlen := cellsOf_length (enc := lcells cost) (lcells_len cost) ls
  apply Array.ext_getElem?
  intro j
  simp only [Array.getElem?_setIfInBounds, List.getElem?_toArray, List.size_toArray]
  rw [cellsOf_set (lcells_len cost) ls i _ hi j]
  by_cases hj : i * 3 ≤ j ∧ j < i * 3 + 3
  · rw [if_pos hj]
    obtain ⟨k, hk, rfl⟩ : ∃ k, k < 3 ∧ j = i * 3 + k := ⟨j - i * 3, by omega, by omega⟩
    have h0 := cellsOf_at (enc := lcells cost) (lcells_len cost) ls i l hl k hk
    rw [show i * 3 + k - i * 3 = k by omega, h0]
    match k, hk with
    | 0, _ => rw [if_neg (by omega)]; rfl
    | 1, _ => rw [if_pos rfl, if_pos (by omega)]; rfl
    | 2, _ => rw [if_neg (by omega)]; rfl
  · rw [if_neg hj, if_neg (by omega)]
theorem lset2 (ls : List (LN X)) (i : Nat) (l l' : LN X) (hl : ls[i]? = some l) (hp : l'.p = l.p) (hd : l'.df = l.df) : (cellsOf (lcells cost) ls).toArray.setIfInBounds (i * 3 + 2) (.int .i64 (csum cost l'.things)) = (cellsOf (lcells cost) (ls.set i l')).toArray := by
  have hi : i < ls.length := (List.getElem?_eq_some_iff.1 hl).1
  have hlen := cellsOf_length (enc := lcells cost) (lcells_len cost) ls
  apply Array.ext_getElem?
  intro j
  simp only [Array.getElem?_setIfInBounds, List.getElem?_toArray, List.size_toArray]
  rw [cellsOf_set (lcells_len cost) ls i _ hi j]
  by_cases hj : i * 3 ≤ j ∧ j < i * 3 + 3
  · rw [if_pos hj]
    obtain ⟨k, hk, rfl⟩ : ∃ k, k < 3 ∧ j = i * 3 + k := ⟨j - i * 3, by omega, by omega⟩
    have h0 := cellsOf_at (enc := lcells cost) (lcells_len cost) ls i l hl k hk
    rw [show i * 3 + k - i * 3 = k by omega, h0]
    match k, hk with
    | 0, _ => rw [if_neg (by omega)]; simp [lcells, hp]
    | 1, _ => rw [if_neg (by omega)]; simp [lcells, hd]
    | 2, _ => rw [if_pos rfl, if_pos (by omega)]; rfl
  · rw [if_neg hj, if_neg (by omega)]
/-- Line i is another one: what may be said of all is said anew. -/
def DS.put (s : DS X) (i : Nat) (l : LN X) : DS X := { s with lines := s.lines.set i l }
theorem DS.put_len (s : DS X) (i : Nat) (l : LN X) : (s.put i l).lines.length = s.lines.length := by simp [DS.put]
theorem ap_set {l l' : LN X} : ∀ {ls : List (LN X)} {i : Nat}, ls[i]? = some l → ls.Pairwise (fun a b => ∀ x, qfoot a.p a.g x → ¬ qfoot b.p b.g x) → (∀ x, qfoot l'.p l'.g x → qfoot l.p l.g x ∨ ∀ b ∈ ls, ¬ qfoot b.p b.g x) →
    (ls.set i l').Pairwise (fun a b => ∀ x, qfoot a.p a.g x → ¬ qfoot b.p b.g x) ∧ ∀ b ∈ ls.set i l', b ∈ ls ∨ b = l'
  | [], _, h, _, _ => by simp at h
  | a :: ls, 0, h, hp, hn => by
    simp at h; subst h
    rw [List.pairwise_cons] at hp
    refine ⟨?_, fun b hb => ?_⟩
    · rw [List.set_cons_zero, List.pairwise_cons]
      exact ⟨fun b hb x hx => (hn x hx).elim (fun h => hp.1 b hb x h) (fun h => h b (by simp [hb])), hp.2⟩
    · rw [List.set_cons_zero] at hb
      rcases List.mem_cons.1 hb with rfl | hb
      · exact .inr rfl
      · exact .inl (by simp [hb])
  | a :: ls, i + 1, h, hp, hn => by
    rw [List.pairwise_cons] at hp
    obtain ⟨h1, h2⟩ := ap_set (i := i) (by simpa using h) hp.2 (fun x hx => (hn x hx).imp id fun h b hb => h b (by simp [hb]))
    have hl : l ∈ ls := List.mem_of_getElem? (by simpa using h)
    refine ⟨?_, fun b hb => ?_⟩
    · rw [List.set_cons_succ, List.pairwise_cons]
      refine ⟨fun b hb x hx => ?_, h1⟩
      rcases h2 b hb with hb | rfl
      · exact hp.1 b hb x hx
      · intro hx'
        rcases hn x hx' with h3 | h3
        · exact hp.1 l hl x hx h3
        · exact h3 a (by simp) hx
    · rw [List.set_cons_succ] at hb
      rcases List.mem_cons.1 hb with rfl | hb
      · exact .inl (by simp)
      · exact (h2 b hb).imp (fun h => by simp [h]) id
theorem ap_other {l : LN X} : ∀ {ls : List (LN X)} {i : Nat}, ls[i]? = some l → ls.Pairwise (fun a b => ∀ x, qfoot a.p a.g x → ¬ qfoot b.p b.g x) → ∀ {k : Nat} {b : LN X}, ls[k]? = some b → k ≠ i → ∀ x, qfoot l.p l.g x → ¬ qfoot b.p b.g x
  | ls, i, h, hp, k, b, hk, hne, x, hx, hb => by
    obtain ⟨hi, rfl⟩ := List.getElem?_eq_some_iff.1 h
    obtain ⟨hk', rfl⟩ := List.getElem?_eq_some_iff.1 hk
    rcases Nat.lt_or_gt_of_ne hne with h1 | h1
    · exact (List.pairwise_iff_getElem.1 hp k i hk' hi h1) x hb hx
    · exact (List.pairwise_iff_getElem.1 hp i k hi hk' h1) x hx hb
/-- A ring of a line turned: the server with that line anew, but for the line's own numbers. -/
theorem DrAt.turn (h : DrAt T sz enc cost w d L D s) (hT : T.Ok) {i : Nat} {l : LN X} (hl : s.lines[i]? = some l) (l' : LN X) (hf : Fr (fun x => qfoot l.p l.g x ∨ x = L) w w') (hp : l'.p = l.p)
    (hg : ∀ x, qfoot l'.p l'.g x → qfoot l.p l.g x ∨ w.heap.size ≤ x) (hI : QI T.tR T.tE sz enc w' l'.p l'.g s.room l'.things) (hls : Bl w' L T.tL (cellsOf (lcells cost) (s.lines.set i l')).toArray)
    (hco : ∀ x ∈ l'.things, 1 ≤ cost x ∧ cost x ≤ 8) (hdf : 0 ≤ l'.df ∧ l'.df ≤ D) : DrAt T sz enc cost w' d L D (s.put i l') := by
  have hm : l ∈ s.lines := List.mem_of_getElem? hl
  have hap := ap_set (l' := l') hl h.ap (fun x hx => (hg x hx).imp id fun h1 b hb hx' => by have := (h.ring b hb).lt hx'; omega)
  refine ⟨?_, hls, fun b hb => ?_, hap.1, ⟨h.ok.q1, h.ok.q2, ?_, ?_, h.ok.d1, h.ok.d2, fun b hb => ?_, fun b hb => ?_⟩⟩
  · have := h.bl.fr hf (fun e => e.elim (h.dring hT hm) (h.dL hT))
    show Bl w' d T.tD #[.int .i64 (s.quantum : Int), .slice (some ⟨L, 0, none⟩) (s.put i l').lines.length (s.put i l').lines.length, .bool s.busy]
    rw [DS.put_len]; exact this
  · obtain ⟨k, hk⟩ := List.mem_iff_getElem?.1 hb
    by_cases hki : k = i
    · subst hki
      have : b = l' := by
        have hlt : k < s.lines.length := (List.getElem?_eq_some_iff.1 hl).1
        have h2 : (s.lines.set k l')[k]? = some l' := List.getElem?_set_self hlt
        have h3 : (s.lines.set k l')[k]? = some b := hk
        rw [h2] at h3; cases h3; rfl
      subst this; exact hI
    · have hk2 : s.lines[k]? = some b := by
        have h3 : (s.lines.set i l')[k]? = some b := hk
        rwa [List.getElem?_set_ne (fun e => hki e.symm)] at h3
      refine (h.ring b (List.mem_of_getElem? hk2)).fr hf fun x hx e => ?_
      rcases e with e | rfl
      · exact ap_other hl h.ap hk2 hki x e hx
      · exact h.Lring hT (List.mem_of_getElem? hk2) hx
  · rw [DS.put_len]; exact h.ok.n1
  · rw [DS.put_len]; exact h.ok.n2
  · rcases hap.2 b hb with hb | rfl
    · exact h.ok.co b hb
    · exact hco
  · rcases hap.2 b hb with hb | rfl
    · exact h.ok.df b hb
    · exact hdf
/-- A line's numbers turned alone. -/
theorem DrAt.num (h : DrAt T sz enc cost w d L D s) (hT : T.Ok) {i : Nat} {l : LN X} (hl : s.lines[i]? = some l) (v : Int) (hv : 0 ≤ v ∧ v ≤ D) : DrAt T sz enc cost (w.setCell ⟨L, i * 3 + 1, none⟩ (.int .i64 v)) d L D (s.put i { l with df := v }) := by
  have hm : l ∈ s.lines := List.mem_of_getElem? hl
  have hF : Fr (fun x => x = L) w (w.setCell ⟨L, i * 3 + 1, none⟩ (.int .i64 v)) := (Fr.refl _ _).setAt _
  exact h.turn hT hl _ (hF.mono fun x _ e => .inr e) rfl (fun x hx => .inl hx) ((h.ring l hm).fr hF fun b hb e => h.Lring hT hm (e ▸ hb)) (by rw [← lset1 _ _ _ hl]; exact h.ls.set _ _) (h.ok.co l hm) hv
/-- Busy or not. -/
theorem DrAt.mark (h : DrAt T sz enc cost w d L D s) (hT : T.Ok) (b : Bool) : DrAt T sz enc cost (w.setCell ⟨d, 2, none⟩ (.bool b)) d L D { s with busy := b } := by
  have hF : Fr (fun x => x = d) w (w.setCell ⟨d, 2, none⟩ (.bool b)) := (Fr.refl _ _).setAt _
  refine ⟨?_, h.ls.fr hF (fun e => h.dL hT e.symm), fun l hl => (h.ring l hl).fr hF fun x hx e => h.dring hT hl (e ▸ hx), h.ap, ⟨h.ok.q1, h.ok.q2, h.ok.n1, h.ok.n2, h.ok.d1, h.ok.d2, h.ok.co, h.ok.df⟩⟩
  have := h.bl.set 2 (.bool b)
  simpa using this
theorem DrAt.up (h : DrAt T sz enc cost w d L D s) {D' : Int} (hD : D ≤ D') (hD' : D' ≤ 4611686018427387904) : DrAt T sz enc cost w d L D' s :=
  ⟨h.bl, h.ls, h.ring, h.ap, ⟨h.ok.q1, h.ok.q2, h.ok.n1, h.ok.n2, by have := h.ok.d1; omega, hD', h.ok.co, fun l hl => by have := h.ok.df l hl; omega⟩⟩
end
end Go.Proofs.Ytanfhmebjgmdpaa
