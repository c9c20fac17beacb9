/-
  A ring of things of any size: what it holds (QS), how it lies in memory (QAt, QI, QOut); no program in sight.
-/
import Derived.Test.YtanfhmebjgmdpaaRow3
import Derived.Laws.MakeOwn
namespace Go.Proofs.Ytanfhmebjgmdpaa
open Go.RowKit
set_option linter.unusedVariables false

/-- A ring: its room, its first place, its cells, what it holds. -/
structure QS (X : Type) where
  room : Nat
  first : Nat
  vals : List X
  xs : List X
structure QS.Ok {X : Type} (s : QS X) : Prop where
  r1 : 1 ≤ s.room
  r2 : s.room ≤ 65536
  l1 : s.xs.length ≤ s.vals.length
  l2 : s.vals.length ≤ s.room
  f : s.first = 0 ∨ s.first < s.vals.length
  at_ : ∀ i : Nat, i < s.xs.length → s.vals[(s.first + i) % s.vals.length]? = s.xs[i]?
section
variable {X : Type}
theorem QS.pos {s : QS X} (h : s.Ok) {i : Nat} (hi : i < s.xs.length) : 0 < s.vals.length ∧ s.first ≤ 70000 ∧ i ≤ 70000 ∧ s.vals.length ≤ 70000 := by
  have := h.l1; have := h.l2; have := h.r2
  rcases h.f with h0 | h0 <;> omega
/-- One thing less. -/
def QS.pop (z : X) (s : QS X) : QS X := ⟨s.room, (s.first + 1) % s.vals.length, s.vals.set s.first z, s.xs.drop 1⟩
theorem QS.pop_ok (z : X) {s : QS X} (h : s.Ok) (h0 : 0 < s.xs.length) : (s.pop z).Ok := by
  obtain ⟨hn, -, -, -⟩ := QS.pos h h0
  have hfl : s.first < s.vals.length := by rcases h.f with h1 | h1 <;> omega
  have hl1 := h.l1
  refine ⟨h.r1, h.r2, ?_, ?_, .inr ?_, fun i hi => ?_⟩
  · show (s.xs.drop 1).length ≤ (s.vals.set s.first z).length
    rw [List.length_drop, List.length_set]; omega
  · show (s.vals.set s.first z).length ≤ s.room
    rw [List.length_set]; exact h.l2
  · show (s.first + 1) % s.vals.length < (s.vals.set s.first z).length
    rw [List.length_set]; exact Nat.mod_lt _ hn
  · have hi' : i + 1 < s.xs.length := by
      have : i < (s.xs.drop 1).length := hi
      rw [List.length_drop] at this; omega
    show (s.vals.set s.first z)[((s.first + 1) % s.vals.length + i) % (s.vals.set s.first z).length]? = (s.xs.drop 1)[i]?
    rw [List.length_set, Nat.mod_add_mod, show s.first + 1 + i = s.first + (i + 1) by omega, List.getElem?_drop, Nat.add_comm 1 i]
    have hne : s.first ≠ (s.first + (i + 1)) % s.vals.length := by
      intro e
      by_cases hb : s.first + (i + 1) < s.vals.length
      · rw [Nat.mod_eq_of_lt hb] at e; omega
      · rw [Nat.mod_eq_sub_mod (by omega), Nat.mod_eq_of_lt (by omega)] at e; omega
    rw [List.getElem?_set_ne hne, h.at_ (i + 1) hi']
/-- One thing more. -/
def QS.push (s : QS X) (x : X) : QS X := ⟨s.room, s.first, s.vals.set ((s.first + s.xs.length) % s.vals.length) x, s.xs ++ [x]⟩
theorem QS.push_ok {s : QS X} (h : s.Ok) (h0 : s.xs.length < s.vals.length) (x : X) : (s.push x).Ok := by
  have hl2 := h.l2
  have hf := h.f
  refine ⟨h.r1, h.r2, ?_, ?_, ?_, fun i hi => ?_⟩
  · show (s.xs ++ [x]).length ≤ (s.vals.set _ x).length
    rw [List.length_append, List.length_set]; exact h0
  · show (s.vals.set _ x).length ≤ s.room
    rw [List.length_set]; exact hl2
  · show s.first = 0 ∨ s.first < (s.vals.set _ x).length
    rw [List.length_set]; exact hf
  · have hi' : i < s.xs.length + 1 := by
      have : i < (s.xs ++ [x]).length := hi
      rw [List.length_append] at this; exact this
    have hn : 0 < s.vals.length := by omega
    show (s.vals.set ((s.first + s.xs.length) % s.vals.length) x)[(s.first + i) % (s.vals.set ((s.first + s.xs.length) % s.vals.length) x).length]? = (s.xs ++ [x])[i]?
    rw [List.length_set]
    by_cases he : i = s.xs.length
    · subst he
      rw [List.getElem?_set_self (Nat.mod_lt _ hn), List.getElem?_append_right (Nat.le_refl _), Nat.sub_self]
      rfl
    · have hne : (s.first + s.xs.length) % s.vals.length ≠ (s.first + i) % s.vals.length := by
        intro e
        have hfl : s.first < s.vals.length := by omega
        by_cases h1 : s.first + s.xs.length < s.vals.length
        · rw [Nat.mod_eq_of_lt h1, Nat.mod_eq_of_lt (by omega)] at e; omega
        · rw [Nat.mod_eq_sub_mod (by omega), Nat.mod_eq_of_lt (by omega)] at e
          by_cases h2 : s.first + i < s.vals.length
          · rw [Nat.mod_eq_of_lt h2] at e; omega
          · rw [Nat.mod_eq_sub_mod (by omega), Nat.mod_eq_of_lt (by omega)] at e; omega
      rw [List.getElem?_set_ne hne, h.at_ i (by omega), List.getElem?_append_left (by omega)]
end

theorem Ow.tyOf {w : World} {e : TypeId} {size n c : Nat} {A : Option Addr} {xs : List Value} {b : Nat} (h : Ow w e size A n c xs (some b)) : ∃ cs, Bl w b e cs := by
  rcases h.2 with ⟨_, _, _, h⟩ | ⟨b', o, cur, hA, hg, hh, _⟩
  · cases h
  · cases hg; exact ⟨cur, hh⟩

def qfoot (p : Nat) (g : Option Nat) : Nat → Prop := fun x => x = p ∨ some x = g
section
variable {X : Type} (tR tE : TypeId) (sz : Nat) (enc : X → List Value)
/-- A ring lies at block p, its cells in g. -/
structure QAt (w : World) (p : Nat) (C : Option Addr) (cc : Nat) (g : Option Nat) (s : QS X) : Prop where
  bl : Bl w p tR #[.slice C s.vals.length cc, .int .i64 (s.room : Int), .int .i64 (s.first : Int), .int .i64 (s.xs.length : Int)]
  ow : Ow w tE sz C s.vals.length cc (cellsOf enc s.vals) g
  ok : s.Ok
/-- Block p is a ring of that room that holds xs; its cells are in block g. -/
def QI (w : World) (p : Nat) (g : Option Nat) (room : Nat) (xs : List X) : Prop := ∃ C cc s, s.room = room ∧ s.xs = xs ∧ QAt tR tE sz enc w p C cc g s
/-- The ring behind a call that may turn it. -/
def QOut (w : World) (p : Nat) (g : Option Nat) (room : Nat) (xs : List X) (w' : World) : Prop :=
  ∃ g', QI tR tE sz enc w' p g' room xs ∧ Fr (qfoot p g) w w' ∧ (g' = g ∨ ∃ b, g' = some b ∧ w.heap.size ≤ b)
/-- The ring behind a call that may turn it, but not where it lies. -/
def QKeep (w : World) (p : Nat) (g : Option Nat) (room : Nat) (xs : List X) (w' : World) : Prop := QI tR tE sz enc w' p g room xs ∧ Fr (qfoot p g) w w'
/-- Behind a Drop of k things. -/
def QDropOut (w : World) (p : Nat) (C : Option Addr) (cc : Nat) (g : Option Nat) (s : QS X) (k : Nat) (w' : World) : Prop :=
  ∃ s' : QS X, s'.room = s.room ∧ s'.xs = s.xs.drop k ∧ s'.vals.length = s.vals.length ∧ QAt tR tE sz enc w' p C cc g s' ∧ Fr (qfoot p g) w w'
/-- Behind a fit: the same things, and room for so many more. -/
def QFitOut (w : World) (p : Nat) (g : Option Nat) (s : QS X) (n : Nat) (w' : World) : Prop :=
  ∃ C cc g' s', s'.room = s.room ∧ s'.xs = s.xs ∧ s.xs.length + n ≤ s'.vals.length ∧ QAt tR tE sz enc w' p C cc g' s' ∧ Fr (qfoot p g) w w' ∧ (g' = g ∨ ∃ b, g' = some b ∧ w.heap.size ≤ b)
variable {tR tE sz enc} {w w' : World} {p : Nat} {C : Option Addr} {cc : Nat} {g : Option Nat} {s : QS X} {room : Nat} {xs : List X} {S : Nat → Prop}
theorem QAt.ne (hne : tE ≠ tR) (h : QAt tR tE sz enc w p C cc g s) : g ≠ some p := by
  intro e
  have h1 := h.ow
  rw [e] at h1
  obtain ⟨cs, hc⟩ := h1.tyOf
  exact hne (h.bl.same hc).2.symm
theorem QAt.fr (h : QAt tR tE sz enc w p C cc g s) (hf : Fr S w w') (h1 : ¬ S p) (h2 : ∀ b, g = some b → ¬ S b) : QAt tR tE sz enc w' p C cc g s :=
  ⟨h.bl.fr hf h1, h.ow.fr hf h2, h.ok⟩
theorem QI.fr (h : QI tR tE sz enc w p g room xs) (hf : Fr S w w') (hS : ∀ b, qfoot p g b → ¬ S b) : QI tR tE sz enc w' p g room xs := by
  obtain ⟨C, cc, s, e1, e2, h⟩ := h
  exact ⟨C, cc, s, e1, e2, h.fr hf (hS p (.inl rfl)) (fun b hb => hS b (.inr hb.symm))⟩
theorem QI.lt (h : QI tR tE sz enc w p g room xs) {b : Nat} (hb : qfoot p g b) : b < w.heap.size := by
  obtain ⟨C, cc, s, e1, e2, h⟩ := h
  rcases hb with rfl | hb
  · exact h.bl.lt
  · exact h.ow.lt b hb.symm
/-- The blocks of a ring hold cells, of these types. -/
theorem QI.ty (h : QI tR tE sz enc w p g room xs) : (∃ cs, Bl w p tR cs) ∧ ∀ b, g = some b → ∃ cs, Bl w b tE cs := by
  obtain ⟨C, cc, s, e1, e2, h⟩ := h
  exact ⟨⟨_, h.bl⟩, fun b hb => (hb ▸ h.ow).tyOf⟩
theorem QI.bounds (h : QI tR tE sz enc w p g room xs) : 1 ≤ room ∧ room ≤ 65536 ∧ xs.length ≤ room := by
  obtain ⟨C, cc, s, rfl, rfl, h⟩ := h
  have := h.ok.r1; have := h.ok.r2; have := h.ok.l1; have := h.ok.l2
  omega
theorem QOut.refl (h : QI tR tE sz enc w p g room xs) (hf : Fr (fun _ => False) w w') : QOut tR tE sz enc w p g room xs w' :=
  ⟨g, h.fr hf (fun _ _ => id), hf.weak _, .inl rfl⟩
theorem QOut.fr_ (h : QOut tR tE sz enc w p g room xs w') : Fr (qfoot p g) w w' := by
  obtain ⟨g', _, hf, _⟩ := h
  exact hf
theorem QKeep.out (h : QKeep tR tE sz enc w p g room xs w') : QOut tR tE sz enc w p g room xs w' := ⟨g, h.1, h.2, .inl rfl⟩
theorem QKeep.ofDrop {k : Nat} (h : QDropOut tR tE sz enc w p C cc g s k w') : QKeep tR tE sz enc w p g s.room (s.xs.drop k) w' := by
  obtain ⟨s', e1, e2, e3, h, hf⟩ := h
  exact ⟨⟨C, cc, s', e1, e2, h⟩, hf⟩
theorem qfoot_new {g1 : Option Nat} {n : Nat} (hg : g1 = g ∨ ∃ b, g1 = some b ∧ n ≤ b) : ∀ i, i < n → qfoot p g1 i → qfoot p g i := by
  intro i hi h1
  rcases h1 with rfl | h1
  · exact .inl rfl
  · rcases hg with rfl | ⟨b, rfl, hb⟩
    · exact .inr h1
    · cases h1; omega
theorem QOut.trans {w1 w2 : World} {g1 : Option Nat} {ys : List X} (hf : Fr (qfoot p g) w w1) (hg : g1 = g ∨ ∃ b, g1 = some b ∧ w.heap.size ≤ b) (h : QOut tR tE sz enc w1 p g1 room ys w2) : QOut tR tE sz enc w p g room ys w2 := by
  obtain ⟨g2, h2, f2, k2⟩ := h
  refine ⟨g2, h2, hf.comp f2 (qfoot_new hg), ?_⟩
  rcases k2 with rfl | ⟨b, rfl, hb⟩
  · exact hg
  · exact .inr ⟨b, rfl, Nat.le_trans hf.size hb⟩
end
theorem madeCells_of {X : Type} {enc : X → List Value} {sz : Nat} (hs : ∀ x, (enc x).length = sz) (h0 : 0 < sz) (z : X) (n : Nat) : (madeCells (enc z).toArray (n * sz)).toList = cellsOf enc (List.replicate n z) := by
  have hl := cellsOf_length hs (List.replicate n z)
  rw [List.length_replicate] at hl
  apply List.ext_getElem?
  intro j
  by_cases hj : j < n * sz
  · obtain ⟨q, r, hr, rfl⟩ : ∃ q r, r < sz ∧ j = q * sz + r := ⟨j / sz, j % sz, Nat.mod_lt _ h0, by rw [Nat.mul_comm]; exact (Nat.div_add_mod j sz).symm⟩
    have hq : q < n := by
      rcases Nat.lt_or_ge q n with h | h
      · exact h
      · have := Nat.mul_le_mul_right sz h; omega
    rw [cellsOf_at hs _ q z (by rw [List.getElem?_replicate, if_pos hq]) r hr]
    have hz := hs z
    have hm : (q * sz + r) % sz = r := by rw [Nat.mul_comm, Nat.mul_add_mod, Nat.mod_eq_of_lt hr]
    simp only [madeCells, Array.toList_map, Array.toList_range, List.getElem?_map, List.getElem?_range hj, Option.map_some, List.size_toArray, hz, hm]
    rw [List.getElem?_eq_getElem (by omega)]
    simp [hr, hz]
  · rw [List.getElem?_eq_none (by simp [madeCells]; omega), List.getElem?_eq_none (by omega)]
/-- A slice of things that is read: thing i. -/
theorem Sl.load {P : Program} {X : Type} {enc : X → List Value} {w : World} {sz n b o : Nat} {xs : List X} (h : Sl w sz (some ⟨b, o, none⟩) n (cellsOf enc xs)) (hs : ∀ x, (enc x).length = sz) {i : Nat} {x : X} (hx : xs[i]? = some x)
    {ty : TypeId} {d : TypeDesc} (hu : P.underlying ty = some d) (hd : (match d with | .struct _ | .array _ _ => true | _ => false) = true) (hi : (P.info? ty).map (·.size) = some sz) (h0 : 0 < sz) :
    (Instr.loadAt ty (.pointer (some ⟨b, o + i * sz, none⟩))).run P w = .ok (.agg (enc x).toArray) w := by
  have hlen := h.1
  rw [cellsOf_length hs] at hlen
  have hn : xs.length = n := Nat.eq_of_mul_eq_mul_right h0 hlen
  have hin : i < n := by rw [← hn]; exact (List.getElem?_eq_some_iff.1 hx).1
  obtain ⟨b', o', hA, hc⟩ := h.2 (by omega)
  cases hA
  have hl : (loadCells ⟨b, o + i * sz, none⟩ (enc x).length).run P w = .ok (enc x).toArray w :=
    run_loadCells_list (P := P) w ⟨b, o + i * sz, none⟩ (enc x) (fun j v hv => by
      rw [add_at, Nat.add_assoc]
      have hj : j < sz := by rw [← hs x]; exact (List.getElem?_eq_some_iff.1 hv).1
      exact hc _ v (by rw [cellsOf_at hs xs i x hx j hj]; exact hv))
  cases hq : P.info? ty with
  | none => simp [hq] at hi
  | some inf =>
    have hss : inf.size = sz := by simpa [hq] using hi
    have hagg : (isAgg ty).run P w = .ok true w := by
      unfold isAgg
      rw [Sem.run_bind, run_underlying hu w]
      cases d <;> simp_all
    rw [hs x] at hl
    simp [Instr.loadAt, Instr.sureAddr, loadVar, Sem.run_bind, hagg, sizeOf, typeInfo, hq, hss, hl]
end Go.Proofs.Ytanfhmebjgmdpaa
