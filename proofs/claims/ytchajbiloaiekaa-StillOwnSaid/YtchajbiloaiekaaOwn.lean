/-
  A slice of the call's own memory, whole with its spare room (Ow); a slice that is only read (Sl); append, both arms.
-/
import Derived.Test.YtchajbiloaiekaaMem
import Derived.ArgAppend
namespace Go.Proofs.Ytchajbiloaiekaa
open Go.RowKit
set_option linter.unusedVariables false

/-- The slice value '.slice A n c' leads to the cells xs (size cells an element). -/
def Sl (w : World) (size : Nat) (A : Option Addr) (n : Nat) (xs : List Value) : Prop :=
  xs.length = n * size ∧ (0 < n → ∃ b o, A = some ⟨b, o, none⟩ ∧ ∀ j u, xs[j]? = some u → w.cell? ⟨b, o + j, none⟩ = some u)

/-- The slice value '.slice A n c' holds xs, of element type e, size cells each, in block g; that block is writable, its spare room there. -/
def Ow (w : World) (e : TypeId) (size : Nat) (A : Option Addr) (n c : Nat) (xs : List Value) (g : Option Nat) : Prop :=
  xs.length = n * size ∧ ((A = none ∧ n = 0 ∧ c = 0 ∧ g = none) ∨
    ∃ b o cur, A = some ⟨b, o, none⟩ ∧ g = some b ∧ w.heap[b]? = some (.cells cur e (0, 0)) ∧ o + c * size ≤ cur.size ∧ n ≤ c ∧ c ≤ maxLen ∧ ∀ j, j < n * size → cur[o + j]? = xs[j]?)

section
variable {w w' : World} {e : TypeId} {size n c : Nat} {A : Option Addr} {xs : List Value} {g : Option Nat} {S : Nat → Prop}
theorem Ow.nil_ (w : World) (e : TypeId) (size : Nat) : Ow w e size none 0 0 [] none := ⟨by simp, .inl ⟨rfl, rfl, rfl, rfl⟩⟩
theorem Ow.fr (h : Ow w e size A n c xs g) (hf : Fr S w w') (hg : ∀ b, g = some b → ¬ S b) : Ow w' e size A n c xs g := by
  refine ⟨h.1, ?_⟩
  rcases h.2 with h0 | ⟨b, o, cur, hA, rfl, hh, r⟩
  · exact .inl h0
  · exact .inr ⟨b, o, cur, hA, rfl, (hf.block b (Array.getElem?_eq_some_iff.1 hh).1 (hg b rfl)).trans hh, r⟩
theorem Ow.lt (h : Ow w e size A n c xs g) : ∀ b, g = some b → b < w.heap.size := by
  intro b hb
  rcases h.2 with ⟨_, _, _, rfl⟩ | ⟨b', o, cur, hA, rfl, hh, r⟩
  · cases hb
  · cases hb; exact (Array.getElem?_eq_some_iff.1 hh).1
theorem Ow.sl (h : Ow w e size A n c xs g) : Sl w size A n xs := by
  refine ⟨h.1, fun hn => ?_⟩
  rcases h.2 with ⟨_, h0, _⟩ | ⟨b, o, cur, hA, rfl, hh, h1, h2, h3, h4⟩
  · omega
  · refine ⟨b, o, hA, fun j u hu => ?_⟩
    have hj : j < n * size := by rw [← h.1]; exact (List.getElem?_eq_some_iff.1 hu).1
    simp [World.cell?, hh, h4 j hj, hu]
theorem Ow.cap (h : Ow w e size A n c xs g) : n ≤ c ∧ c ≤ maxLen := by
  rcases h.2 with ⟨_, rfl, rfl, _⟩ | ⟨b, o, cur, hA, rfl, hh, h1, h2, h3, h4⟩
  · exact ⟨Nat.le_refl _, Nat.zero_le _⟩
  · exact ⟨h2, h3⟩
theorem Ow.clip (h : Ow w e size A n c xs g) : Ow w e size A n n xs g := by
  refine ⟨h.1, ?_⟩
  rcases h.2 with ⟨h1, h2, h3, h4⟩ | ⟨b, o, cur, hA, rfl, hh, h1, h2, h3, h4⟩
  · exact .inl ⟨h1, h2, h2, h4⟩
  · exact .inr ⟨b, o, cur, hA, rfl, hh, by have := Nat.mul_le_mul_right size h2; omega, Nat.le_refl _, by omega, h4⟩
/-- A new block, its first elements. -/
theorem Ow.made (w : World) (e : TypeId) (size n c : Nat) (cur : Array Value) (xs : List Value) (hs : cur.size = c * size) (hn : n ≤ c) (hc : c ≤ maxLen) (hx : cur.toList.take (n * size) = xs) :
    Ow (w.alloc (.cells cur e)) e size (some ⟨w.heap.size, 0, none⟩) n c xs (some w.heap.size) := by
  have h0 : n * size ≤ cur.size := by rw [hs]; exact Nat.mul_le_mul_right size hn
  refine ⟨by rw [← hx, List.length_take]; simp; omega, .inr ⟨w.heap.size, 0, cur, rfl, rfl, heap_alloc_new w _, by omega, hn, hc, fun j hj => ?_⟩⟩
  rw [← hx, List.getElem?_take_of_lt hj, Nat.zero_add]; simp
theorem Sl.nil_ (w : World) (size : Nat) (A : Option Addr) : Sl w size A 0 [] := ⟨by simp, fun h => absurd h (by omega)⟩
theorem Sl.fr {B : Nat} (h : Sl w size A n xs) (hf : Fr S w w') (hg : ∀ b, (∃ o, A = some ⟨b, o, none⟩) → b < w.heap.size → ¬ S b) : Sl w' size A n xs := by
  refine ⟨h.1, fun hn => ?_⟩
  obtain ⟨b, o, hA, hc⟩ := h.2 hn
  refine ⟨b, o, hA, fun j u hu => ?_⟩
  have h1 := hc j u hu
  have hb : b < w.heap.size := World.block_lt_of_cell? w _ h1
  exact (hf.cell (p := ⟨b, o + j, none⟩) hb (hg b ⟨o, hA⟩ hb)).trans h1
theorem Sl.below (h : Sl w size A n xs) (hf : Fr S w w') (hS : ∀ k, k < w.heap.size → ¬ S k) : Sl w' size A n xs := h.fr (B := 0) hf fun b _ hb => hS b hb
/-- cell j of a slice that is read. -/
theorem Sl.at_ (h : Sl w size A n xs) {j : Nat} {u : Value} (hu : xs[j]? = some u) : ∃ b o, A = some ⟨b, o, none⟩ ∧ w.cell? ⟨b, o + j, none⟩ = some u := by
  have hj : j < n * size := by rw [← h.1]; exact (List.getElem?_eq_some_iff.1 hu).1
  have hn : 0 < n := by
    rcases Nat.eq_zero_or_pos n with h0 | h0
    · subst h0; simp at hj
    · exact h0
  obtain ⟨b, o, hA, hc⟩ := h.2 hn
  exact ⟨b, o, hA, hc j u hu⟩
theorem Ow.ofOwns {base : Nat} {v : Value} (h : w.ownsRow base e size v n xs) : ∃ A c g, v = .slice A n c ∧ Ow w e size A n c xs g ∧ (∀ b, g = some b → base ≤ b) := by
  obtain ⟨h0, h1⟩ := h
  rcases h1 with ⟨rfl, rfl⟩ | ⟨b, cap, cur, rfl, hb, hh, hn, hc, hs, hx⟩
  · exact ⟨none, 0, none, rfl, ⟨h0, .inl ⟨rfl, rfl, rfl, rfl⟩⟩, fun b h => by cases h⟩
  · refine ⟨_, cap, some b, rfl, ⟨h0, .inr ⟨b, 0, cur, rfl, rfl, hh, by omega, hn, hc, fun j hj => ?_⟩⟩, fun b' h => by cases h; exact hb⟩
    rw [← hx, List.getElem?_take_of_lt hj, Nat.zero_add]; simp
end

/-- A store into a place of the slice. -/
theorem Ow.put {w : World} {e : TypeId} {size n c b o : Nat} {xs : List Value} {g : Option Nat} (h : Ow w e size (some ⟨b, o, none⟩) n c xs g) {j : Nat} (hj : j < n * size) (u : Value) :
    Ow (w.setCell ⟨b, o + j, none⟩ u) e size (some ⟨b, o, none⟩) n c (xs.set j u) g := by
  obtain ⟨h0, h1⟩ := h
  refine ⟨by simpa using h0, ?_⟩
  rcases h1 with ⟨h1, _⟩ | ⟨b', o', cur, hA, rfl, hh, h2, h3, h4, h5⟩
  · cases h1
  · cases hA
    have hs := Nat.mul_le_mul_right size h3
    refine .inr ⟨b, o, cur.setIfInBounds (o + j) u, rfl, rfl, by simp [World.setCell, Array.getElem?_modify, hh], by simpa using h2, h3, h4, fun i hi => ?_⟩
    by_cases hij : i = j
    · subst hij
      rw [Array.getElem?_setIfInBounds_self_of_lt (by omega), List.getElem?_set_self (by omega)]
    · rw [Array.getElem?_setIfInBounds_ne (by omega), List.getElem?_set_ne (by omega)]
      exact h5 i hi
/-- A beginning of the slice. -/
theorem Ow.take {w : World} {e : TypeId} {size n c : Nat} {A : Option Addr} {xs : List Value} {g : Option Nat} (h : Ow w e size A n c xs g) {k : Nat} (hk : k ≤ n) : Ow w e size A k c (xs.take (k * size)) g := by
  have hs := Nat.mul_le_mul_right size hk
  refine ⟨by rw [List.length_take, h.1]; omega, ?_⟩
  rcases h.2 with ⟨h1, h2, h3, h4⟩ | ⟨b, o, cur, hA, hg, hh, h2, h3, h4, h5⟩
  · exact .inl ⟨h1, by omega, h3, h4⟩
  · exact .inr ⟨b, o, cur, hA, hg, hh, h2, by omega, h4, fun j hj => by rw [h5 j (by omega), List.getElem?_take_of_lt hj]⟩
/-- Its cells and marks, for the walk. -/
theorem Ow.look {w : World} {e : TypeId} {size n c : Nat} {A : Option Addr} {xs : List Value} {g : Option Nat} (h : Ow w e size A n c xs g) {j : Nat} {u : Value} (hu : xs[j]? = some u) :
    ∃ b o, A = some ⟨b, o, none⟩ ∧ g = some b ∧ w.cell? ⟨b, o + j, none⟩ = some u ∧ w.frozen? ⟨b, o + j, none⟩ = false := by
  have hj : j < n * size := by rw [← h.1]; exact (List.getElem?_eq_some_iff.1 hu).1
  rcases h.2 with ⟨h1, h2, h3, h4⟩ | ⟨b, o, cur, hA, hg, hh, h2, h3, h4, h5⟩
  · subst h2; simp at hj
  · exact ⟨b, o, hA, hg, by simp [World.cell?, hh, h5 j hj, hu], by simp [World.frozen?, hh]⟩

theorem heap_setCells (b : Nat) : ∀ (vs : List Value) (o : Nat) (w : World) (cur : Array Value) (e : TypeId), w.heap[b]? = some (.cells cur e (0, 0)) → (∀ u ∈ vs, True) →
    ∃ cur', (w.setCells b o vs).heap[b]? = some (.cells cur' e (0, 0)) ∧ cur'.size = cur.size ∧ (∀ j, j < o ∨ o + vs.length ≤ j → cur'[j]? = cur[j]?) ∧ (o + vs.length ≤ cur.size → ∀ j u, vs[j]? = some u → cur'[o + j]? = some u)
  | [], o, w, cur, e, h, _ => ⟨cur, h, rfl, fun _ _ => rfl, fun _ j u hu => by simp at hu⟩
  | v :: vs, o, w, cur, e, h, _ => by
    have h1 : (w.setCell ⟨b, o, none⟩ v).heap[b]? = some (.cells (cur.setIfInBounds o v) e (0, 0)) := by
      simp [World.setCell, Array.getElem?_modify, h]
    obtain ⟨cur', a1, a2, a3, a4⟩ := heap_setCells b vs (o + 1) (w.setCell ⟨b, o, none⟩ v) _ e h1 (fun _ _ => trivial)
    refine ⟨cur', a1, by simpa using a2, fun j hj => ?_, fun hs j u hu => ?_⟩
    · rw [a3 j (by simp at hj; omega), Array.getElem?_setIfInBounds_ne (by simp at hj; omega)]
    · simp at hs
      rcases j with _ | j
      · simp at hu; subst hu
        rw [Nat.add_zero, a3 o (by omega), Array.getElem?_setIfInBounds_self_of_lt (by omega)]
      · have := a4 (by simp; omega) j u (by simpa using hu)
        rw [show o + (j + 1) = o + 1 + j by omega]; exact this

theorem fr_setCells (b : Nat) : ∀ (vs : List Value) (o : Nat) (w : World), Fr (fun k => k = b) w (w.setCells b o vs)
  | [], o, w => Fr.refl _ _
  | v :: vs, o, w => ((Fr.refl _ _).setAt v).trans (fr_setCells b vs (o + 1) _)

section
variable {P : Program} (w : World)
/-- append, whatever the destination (nil, with room or without) and whatever the source. -/
theorem run_append_ow (t ty e : TypeId) (i : TypeInfo) (z : Value) (size bytes : Nat) (ht : P.underlying t = some (.slice e)) (hi : P.info? e = some i) (hz : i.zero = some z)
    (hsize : i.size = size) (hby : i.bytes = bytes) (hzs : z.cells.size = size) (hsz : 0 < size)
    (A : Option Addr) (n c : Nat) (xs : List Value) (g : Option Nat) (hown : Ow w e size A n c xs g)
    (A' : Option Addr) (m c' : Nat) (news : List Value) (hsrc : Sl w size A' m news) (h1 : ∀ u ∈ news, u.oneCell' = true)
    (h63 : n + m ≤ maxLen) (hbytes : (n + m) * bytes ≤ 140737488355328) :
    ∃ A2 c2 w2 g2, (Builtin.append_ #[t, t] ty #[.slice A n c, .slice A' m c']).run P w = .ok (.slice A2 (n + m) c2) w2 ∧ Ow w2 e size A2 (n + m) c2 (xs ++ news) g2 ∧ Fr (fun k => some k = g) w w2 ∧ (g2 = g ∨ ∃ b, g2 = some b ∧ w.heap.size ≤ b) := by
  have hlx := hown.1
  have hln := hsrc.1
  by_cases hm : m = 0
  · subst hm
    have hn : news = [] := List.eq_nil_of_length_eq_zero (by simpa using hln)
    subst hn
    have hcap := hown.cap
    refine ⟨A, c, w, g, ?_, by simpa using hown, Fr.refl _ _, .inl rfl⟩
    cases A <;> cases A' <;> simp [Builtin.append_, run_underlying ht, sizeOf, typeInfo, hi, Builtin.lenOf, Builtin.firstCells, hcap.1, storeCells, loadCells, loadCellsFrom]
  · obtain ⟨b', o', rfl, hc'⟩ := hsrc.2 (by omega)
    have hnews : ∀ j u, news[j]? = some u → w.cell? ((⟨b', o', none⟩ : Addr).add j) = some u := fun j u hu => by rw [Addr.add_lit]; exact hc' j u hu
    rcases hown.2 with ⟨rfl, rfl, rfl, rfl⟩ | ⟨b, o, cur, rfl, rfl, hh, h2, h3, h4, h5⟩
    · obtain rfl : xs = [] := List.eq_nil_of_length_eq_zero (by simpa using hlx)
      obtain ⟨v', w', hrun, r1, r2, _⟩ := run_append_own (P := P) w w.heap.size t ty e i z size bytes ht hi hz hsize hby hzs hsz (.slice none 0 0) 0 [] (World.ownsRow_nil w _ e size) ⟨b', o', none⟩ m c' news hln hnews h1 h63 hbytes (Nat.le_refl _)
      obtain ⟨A2, c2, g2, rfl, ho, hb⟩ := Ow.ofOwns r1
      refine ⟨A2, c2, w', g2, hrun, ho, (Fr.ofGrown r2).mono fun k hk e => by simp [Value.ownBlock] at e, ?_⟩
      cases g2 with
      | none => exact .inl rfl
      | some x => exact .inr ⟨x, rfl, hb x rfl⟩
    · by_cases hr : n + m ≤ c
      · have hlast : o + n * size + news.length ≤ cur.size := by
          have := Nat.mul_le_mul_right size hr
          rw [Nat.add_mul] at this; omega
        have hrun := run_append_room_cells (P := P) w t ty e i ht hi b o n c ⟨b', o', none⟩ m c' news (by rw [hsize]; exact hln) hnews h1 hr
          (fun j hj => by rw [hsize]; simp [World.cell?, hh]; omega) (fun j hj => by simp [World.frozen?, hh])
        rw [hsize] at hrun
        obtain ⟨cur', a1, a2, a3, a4⟩ := heap_setCells b news (o + n * size) w cur e hh (fun _ _ => trivial)
        refine ⟨_, _, _, _, hrun, ⟨by rw [List.length_append, hlx, hln, Nat.add_mul], .inr ⟨b, o, cur', rfl, rfl, a1, by rw [a2]; exact h2, hr, h4, fun j hj => ?_⟩⟩, (fr_setCells b news _ w).mono fun k _ e => by rw [e], .inl rfl⟩
        by_cases hjn : j < n * size
        · rw [a3 _ (.inl (by omega)), h5 j hjn, List.getElem?_append_left (by omega)]
        · have hjm : j - n * size < news.length := by rw [hln]; rw [Nat.add_mul] at hj; omega
          have := a4 hlast (j - n * size) _ (List.getElem?_eq_getElem hjm)
          rw [show o + n * size + (j - n * size) = o + j by omega] at this
          rw [this, List.getElem?_append_right (by omega), hlx, List.getElem?_eq_getElem hjm]
      · obtain ⟨v', w', hrun, r1, r2⟩ := run_append_arg_grows (P := P) w t ty e i z size bytes ht hi hz hsize hby hzs hsz ⟨b, o, none⟩ n c xs hlx (fun j u hu => by
            rw [Addr.add_lit]
            have hj : j < n * size := by rw [← hlx]; exact (List.getElem?_eq_some_iff.1 hu).1
            simp [World.cell?, hh, h5 j hj, hu]) ⟨b', o', none⟩ m c' news hln hnews (by omega) h63 hbytes
        obtain ⟨A2, c2, g2, rfl, ho, hb⟩ := Ow.ofOwns r1
        refine ⟨A2, c2, w', g2, hrun, ho, (Fr.ofGrown r2).mono fun k hk e => by simp at e, ?_⟩
        rcases ho.2 with ⟨_, h0, _⟩ | ⟨bb, oo, cc, _, rfl, _⟩
        · omega
        · exact .inr ⟨bb, rfl, hb bb rfl⟩

theorem wpList_append_ow {ops : Array Oper} {rest : List Oper} {o : Oper} {a : Act} {Q : Exit → Act → World → Prop} (hgd : o.guard = none) (s x : Operand) (t : TypeId)
    (ho : o.op = .call { callee := .builtin .append, args := #[s, x], argTypes := #[t, t] })
    (e : TypeId) (i : TypeInfo) (z : Value) (size bytes : Nat) (ht : P.underlying t = some (.slice e)) (hi : P.info? e = some i) (hz : i.zero = some z)
    (hsize : i.size = size) (hby : i.bytes = bytes) (hzs : z.cells.size = size) (hsz : 0 < size)
    (A : Option Addr) (n c : Nat) (xs : List Value) (g : Option Nat) (hs : a.eval s = .slice A n c) (hown : Ow w e size A n c xs g)
    (A' : Option Addr) (m c' : Nat) (news : List Value) (hx : a.eval x = .slice A' m c') (hsrc : Sl w size A' m news) (h1 : ∀ u ∈ news, u.oneCell' = true)
    (h63 : n + m ≤ maxLen) (hbytes : (n + m) * bytes ≤ 140737488355328)
    (h : ∀ A2 c2 w2 g2, Ow w2 e size A2 (n + m) c2 (xs ++ news) g2 → Fr (fun k => some k = g) w w2 → (g2 = g ∨ ∃ b, g2 = some b ∧ w.heap.size ≤ b) → wpList P ops Q rest (a.put o.dst (.slice A2 (n + m) c2)) w2) : wpList P ops Q (o :: rest) a w := by
  refine wpList_plain hgd fun K hK => ?_
  obtain ⟨A2, c2, w2, g2, hrun, h2, h3, h4⟩ := run_append_ow (P := P) w t o.type e i z size bytes ht hi hz hsize hby hzs hsz A n c xs g hown A' m c' news hsrc h1 h63 hbytes
  unfold Oper.wp execOp
  simp only [ho, resolve, invoke, builtin, Sem.run_bind, Sem.run_pure, Result.andThen_ok, List.map_toArray, List.map_cons, List.map_nil, hs, hx, hrun]
  exact hK _ _ (h A2 c2 w2 g2 h2 h3 h4)
end
#print axioms wpList_append_ow
end Go.Proofs.Ytchajbiloaiekaa
