/-
  Texts merged into one, to keep the claim small: Own, TlvSpec, TlvShort, Bytes, TlvLaw, TlvRead.
-/
import Derived.Test.YtlcjhbemgagchaaMc0
import Derived.ArgAppend
import Derived.Test.YtlcjhbemgagchaaRows
import Derived.WalkLawsBesides
import Derived.WalkSpells
import Derived.Deep.QuietTactic
import Derived.BigQuiet
import Derived.Laws.BitsAllLaws
import Derived.Laws.BitsLemmas
import Derived.Laws.ShiftsVarLaws
section
/-
  A slice of the call's own memory, whole with its spare room (Ow); a slice that is only read (Sl); append, both arms.
-/
namespace Go.Proofs.Ytlcjhbemgagchaa
open Go.RowKit
set_option linter.unusedVariables false

/-- The slice value '.slice A n c' leads to the cells xs (size cells an element). -/
def Sl (w : World) (size : Nat) (A : Option Addr) (n : Nat) (xs : List Value) : Prop :=
  xs.length = n * size ∧ (0 < n → ∃ b o, A = some ⟨b, o, none⟩ ∧ ∀ j u, xs[j]? = some u → w.cell? ⟨b, o + j, none⟩ = some u)

/-- The slice value '.slice A n c' holds xs, of element type e, size cells each, in block g; that block is writable, its spare room there. -/
def Ow (w : World) (e : TypeId) (size : Nat) (A : Option Addr) (n c : Nat) (xs : List Value) (g : Option Nat) : Prop :=
  xs.length = n * size ∧ ((A = none ∧ n = 0 ∧ c = 0 ∧ g = none) ∨
    ∃ b o cur, A = some ⟨b, o, none⟩ ∧ g = some b ∧ w.heap[b]? = some (.cells cur e (0, 0)) ∧ o + c * size ≤ cur.size ∧ n ≤ c ∧ c ≤ maxLen ∧ ∀ j, j < n * size → cur[o + j]? = xs[j]?)

section
variable {w w' : World} {e : TypeId} {size n c : Nat} {A : Option Addr} {xs : List Value} {g : Option Nat} {S : Nat → Prop}
theorem Ow.nil_ (w : World) (e : TypeId) (size : Nat) : Ow w e size none 0 0 [] none := ⟨by simp, .inl ⟨rfl, rfl, rfl, rfl⟩⟩
theorem Ow.fr (h : Ow w e size A n c xs g) (hf : Fr S w w') (hg : ∀ b, g = some b → ¬ S b) : Ow w' e size A n c xs g := by
  refine ⟨h.1, ?_⟩
  rcases h.2 with h0 | ⟨b, o, cur, hA, rfl, hh, r⟩
  · exact .inl h0
  · exact .inr ⟨b, o, cur, hA, rfl, (hf.block b (Array.getElem?_eq_some_iff.1 hh).1 (hg b rfl)).trans hh, r⟩
theorem Ow.lt (h : Ow w e size A n c xs g) : ∀ b, g = some b → b < w.heap.size := by
  intro b hb
  rcases h.2 with ⟨_, _, _, rfl⟩ | ⟨b', o, cur, hA, rfl, hh, r⟩
  · cases hb
  · cases hb; exact (Array.getElem?_eq_some_iff.1 hh).1
theorem Ow.sl (h : Ow w e size A n c xs g) : Sl w size A n xs := by
  refine ⟨h.1, fun hn => ?_⟩
  rcases h.2 with ⟨_, h0, _⟩ | ⟨b, o, cur, hA, rfl, hh, h1, h2, h3, h4⟩
  · omega
  · refine ⟨b, o, hA, fun j u hu => ?_⟩
    have hj : j < n * size := by rw [← h.1]; exact (List.getElem?_eq_some_iff.1 hu).1
    simp [World.cell?, hh, h4 j hj, hu]
theorem Ow.cap (h : Ow w e size A n c xs g) : n ≤ c ∧ c ≤ maxLen := by
  rcases h.2 with ⟨_, rfl, rfl, _⟩ | ⟨b, o, cur, hA, rfl, hh, h1, h2, h3, h4⟩
  · exact ⟨Nat.le_refl _, Nat.zero_le _⟩
  · exact ⟨h2, h3⟩
theorem Ow.clip (h : Ow w e size A n c xs g) : Ow w e size A n n xs g := by
  refine ⟨h.1, ?_⟩
  rcases h.2 with ⟨h1, h2, h3, h4⟩ | ⟨b, o, cur, hA, rfl, hh, h1, h2, h3, h4⟩
  · exact .inl ⟨h1, h2, h2, h4⟩
  · exact .inr ⟨b, o, cur, hA, rfl, hh, by have := Nat.mul_le_mul_right size h2; omega, Nat.le_refl _, by omega, h4⟩
/-- A new block, its first elements. -/
theorem Ow.made (w : World) (e : TypeId) (size n c : Nat) (cur : Array Value) (xs : List Value) (hs : cur.size = c * size) (hn : n ≤ c) (hc : c ≤ maxLen) (hx : cur.toList.take (n * size) = xs) :
    Ow (w.alloc (.cells cur e)) e size (some ⟨w.heap.size, 0, none⟩) n c xs (some w.heap.size) := by
  have h0 : n * size ≤ cur.size := by rw [hs]; exact Nat.mul_le_mul_right size hn
  refine ⟨by rw [← hx, List.length_take]; simp; omega, .inr ⟨w.heap.size, 0, cur, rfl, rfl, heap_alloc_new w _, by omega, hn, hc, fun j hj => ?_⟩⟩
  rw [← hx, List.getElem?_take_of_lt hj, Nat.zero_add]; simp
theorem Sl.nil_ (w : World) (size : Nat) (A : Option Addr) : Sl w size A 0 [] := ⟨by simp, fun h => absurd h (by omega)⟩
theorem Sl.fr {B : Nat} (h : Sl w size A n xs) (hf : Fr S w w') (hg : ∀ b, (∃ o, A = some ⟨b, o, none⟩) → b < w.heap.size → ¬ S b) : Sl w' size A n xs := by
  refine ⟨h.1, fun hn => ?_⟩
  obtain ⟨b, o, hA, hc⟩ := h.2 hn
  refine ⟨b, o, hA, fun j u hu => ?_⟩
  have h1 := hc j u hu
  have hb : b < w.heap.size := World.block_lt_of_cell? w _ h1
  exact (hf.cell (p := ⟨b, o + j, none⟩) hb (hg b ⟨o, hA⟩ hb)).trans h1
theorem Sl.below (h : Sl w size A n xs) (hf : Fr S w w') (hS : ∀ k, k < w.heap.size → ¬ S k) : Sl w' size A n xs := h.fr (B := 0) hf fun b _ hb => hS b hb
/-- cell j of a slice that is read. -/
theorem Sl.at_ (h : Sl w size A n xs) {j : Nat} {u : Value} (hu : xs[j]? = some u) : ∃ b o, A = some ⟨b, o, none⟩ ∧ w.cell? ⟨b, o + j, none⟩ = some u := by
  have hj : j < n * size := by rw [← h.1]; exact (List.getElem?_eq_some_iff.1 hu).1
  have hn : 0 < n := by
    rcases Nat.eq_zero_or_pos n with h0 | h0
    · subst h0; simp at hj
    · exact h0
  obtain ⟨b, o, hA, hc⟩ := h.2 hn
  exact ⟨b, o, hA, hc j u hu⟩
theorem Ow.ofOwns {base : Nat} {v : Value} (h : w.ownsRow base e size v n xs) : ∃ A c g, v = .slice A n c ∧ Ow w e size A n c xs g ∧ (∀ b, g = some b → base ≤ b) := by
  obtain ⟨h0, h1⟩ := h
  rcases h1 with ⟨rfl, rfl⟩ | ⟨b, cap, cur, rfl, hb, hh, hn, hc, hs, hx⟩
  · exact ⟨none, 0, none, rfl, ⟨h0, .inl ⟨rfl, rfl, rfl, rfl⟩⟩, fun b h => by cases h⟩
  · refine ⟨_, cap, some b, rfl, ⟨h0, .inr ⟨b, 0, cur, rfl, rfl, hh, by omega, hn, hc, fun j hj => ?_⟩⟩, fun b' h => by cases h; exact hb⟩
    rw [← hx, List.getElem?_take_of_lt hj, Nat.zero_add]; simp
end

/-- A store into a place of the slice. -/
theorem Ow.put {w : World} {e : TypeId} {size n c b o : Nat} {xs : List Value} {g : Option Nat} (h : Ow w e size (some ⟨b, o, none⟩) n c xs g) {j : Nat} (hj : j < n * size) (u : Value) :
    Ow (w.setCell ⟨b, o + j, none⟩ u) e size (some ⟨b, o, none⟩) n c (xs.set j u) g := by
  obtain ⟨h0, h1⟩ := h
  refine ⟨by simpa using h0, ?_⟩
  rcases h1 with ⟨h1, _⟩ | ⟨b', o', cur, hA, rfl, hh, h2, h3, h4, h5⟩
  · cases h1
  · cases hA
    have hs := Nat.mul_le_mul_right size h3
    refine .inr ⟨b, o, cur.setIfInBounds (o + j) u, rfl, rfl, by simp [World.setCell, Array.getElem?_modify, hh], by simpa using h2, h3, h4, fun i hi => ?_⟩
    by_cases hij : i = j
    · subst hij
      rw [Array.getElem?_setIfInBounds_self_of_lt (by omega), List.getElem?_set_self (by omega)]
    · rw [Array.getElem?_setIfInBounds_ne (by omega), List.getElem?_set_ne (by omega)]
      exact h5 i hi
/-- A beginning of the slice. -/
theorem Ow.take {w : World} {e : TypeId} {size n c : Nat} {A : Option Addr} {xs : List Value} {g : Option Nat} (h : Ow w e size A n c xs g) {k : Nat} (hk : k ≤ n) : Ow w e size A k c (xs.take (k * size)) g := by
  have hs := Nat.mul_le_mul_right size hk
  refine ⟨by rw [List.length_take, h.1]; omega, ?_⟩
  rcases h.2 with ⟨h1, h2, h3, h4⟩ | ⟨b, o, cur, hA, hg, hh, h2, h3, h4, h5⟩
  · exact .inl ⟨h1, by omega, h3, h4⟩
  · exact .inr ⟨b, o, cur, hA, hg, hh, h2, by omega, h4, fun j hj => by rw [h5 j (by omega), List.getElem?_take_of_lt hj]⟩
/-- Its cells and marks, for the walk. -/
theorem Ow.look {w : World} {e : TypeId} {size n c : Nat} {A : Option Addr} {xs : List Value} {g : Option Nat} (h : Ow w e size A n c xs g) {j : Nat} {u : Value} (hu : xs[j]? = some u) :
    ∃ b o, A = some ⟨b, o, none⟩ ∧ g = some b ∧ w.cell? ⟨b, o + j, none⟩ = some u ∧ w.frozen? ⟨b, o + j, none⟩ = false := by
  have hj : j < n * size := by rw [← h.1]; exact (List.getElem?_eq_some_iff.1 hu).1
  rcases h.2 with ⟨h1, h2, h3, h4⟩ | ⟨b, o, cur, hA, hg, hh, h2, h3, h4, h5⟩
  · subst h2; simp at hj
  · exact ⟨b, o, hA, hg, by simp [World.cell?, hh, h5 j hj, hu], by simp [World.frozen?, hh]⟩

theorem heap_setCells (b : Nat) : ∀ (vs : List Value) (o : Nat) (w : World) (cur : Array Value) (e : TypeId), w.heap[b]? = some (.cells cur e (0, 0)) → (∀ u ∈ vs, True) →
    ∃ cur', (w.setCells b o vs).heap[b]? = some (.cells cur' e (0, 0)) ∧ cur'.size = cur.size ∧ (∀ j, j < o ∨ o + vs.length ≤ j → cur'[j]? = cur[j]?) ∧ (o + vs.length ≤ cur.size → ∀ j u, vs[j]? = some u → cur'[o + j]? = some u)
  | [], o, w, cur, e, h, _ => ⟨cur, h, rfl, fun _ _ => rfl, fun _ j u hu => by simp at hu⟩
  | v :: vs, o, w, cur, e, h, _ => by
    have h1 : (w.setCell ⟨b, o, none⟩ v).heap[b]? = some (.cells (cur.setIfInBounds o v) e (0, 0)) := by
      simp [World.setCell, Array.getElem?_modify, h]
    obtain ⟨cur', a1, a2, a3, a4⟩ := heap_setCells b vs (o + 1) (w.setCell ⟨b, o, none⟩ v) _ e h1 (fun _ _ => trivial)
    refine ⟨cur', a1, by simpa using a2, fun j hj => ?_, fun hs j u hu => ?_⟩
    · rw [a3 j (by simp at hj; omega), Array.getElem?_setIfInBounds_ne (by simp at hj; omega)]
    · simp at hs
      rcases j with _ | j
      · simp at hu; subst hu
        rw [Nat.add_zero, a3 o (by omega), Array.getElem?_setIfInBounds_self_of_lt (by omega)]
      · have := a4 (by simp; omega) j u (by simpa using hu)
        rw [show o + (j + 1) = o + 1 + j by omega]; exact this

theorem fr_setCells (b : Nat) : ∀ (vs : List Value) (o : Nat) (w : World), Fr (fun k => k = b) w (w.setCells b o vs)
  | [], o, w => Fr.refl _ _
  | v :: vs, o, w => ((Fr.refl _ _).setAt v).trans (fr_setCells b vs (o + 1) _)

section
variable {P : Program} (w : World)
/-- append, whatever the destination (nil, with room or without) and whatever the source. -/
theorem run_append_ow (t ty e : TypeId) (i : TypeInfo) (z : Value) (size bytes : Nat) (ht : P.underlying t = some (.slice e)) (hi : P.info? e = some i) (hz : i.zero = some z)
    (hsize : i.size = size) (hby : i.bytes = bytes) (hzs : z.cells.size = size) (hsz : 0 < size)
    (A : Option Addr) (n c : Nat) (xs : List Value) (g : Option Nat) (hown : Ow w e size A n c xs g)
    (A' : Option Addr) (m c' : Nat) (news : List Value) (hsrc : Sl w size A' m news) (h1 : ∀ u ∈ news, u.oneCell' = true)
    (h63 : n + m ≤ maxLen) (hbytes : (n + m) * bytes ≤ 140737488355328) :
    ∃ A2 c2 w2 g2, (Builtin.append_ #[t, t] ty #[.slice A n c, .slice A' m c']).run P w = .ok (.slice A2 (n + m) c2) w2 ∧ Ow w2 e size A2 (n + m) c2 (xs ++ news) g2 ∧ Fr (fun k => some k = g) w w2 ∧ (g2 = g ∨ ∃ b, g2 = some b ∧ w.heap.size ≤ b) := by
  have hlx := hown.1
  have hln := hsrc.1
  by_cases hm : m = 0
  · subst hm
    have hn : news = [] := List.eq_nil_of_length_eq_zero (by simpa using hln)
    subst hn
    have hcap := hown.cap
    refine ⟨A, c, w, g, ?_, by simpa using hown, Fr.refl _ _, .inl rfl⟩
    cases A <;> cases A' <;> simp [Builtin.append_, run_underlying ht, sizeOf, typeInfo, hi, Builtin.lenOf, Builtin.firstCells, hcap.1, storeCells, loadCells, loadCellsFrom]
  · obtain ⟨b', o', rfl, hc'⟩ := hsrc.2 (by omega)
    have hnews : ∀ j u, news[j]? = some u → w.cell? ((⟨b', o', none⟩ : Addr).add j) = some u := fun j u hu => by rw [Addr.add_lit]; exact hc' j u hu
    rcases hown.2 with ⟨rfl, rfl, rfl, rfl⟩ | ⟨b, o, cur, rfl, rfl, hh, h2, h3, h4, h5⟩
    · obtain rfl : xs = [] := List.eq_nil_of_length_eq_zero (by simpa using hlx)
      obtain ⟨v', w', hrun, r1, r2, _⟩ := run_append_own (P := P) w w.heap.size t ty e i z size bytes ht hi hz hsize hby hzs hsz (.slice none 0 0) 0 [] (World.ownsRow_nil w _ e size) ⟨b', o', none⟩ m c' news hln hnews h1 h63 hbytes (Nat.le_refl _)
      obtain ⟨A2, c2, g2, rfl, ho, hb⟩ := Ow.ofOwns r1
      refine ⟨A2, c2, w', g2, hrun, ho, (Fr.ofGrown r2).mono fun k hk e => by simp [Value.ownBlock] at e, ?_⟩
      cases g2 with
      | none => exact .inl rfl
      | some x => exact .inr ⟨x, rfl, hb x rfl⟩
    · by_cases hr : n + m ≤ c
      · have hlast : o + n * size + news.length ≤ cur.size := by
          have := Nat.mul_le_mul_right size hr
          rw [Nat.add_mul] at this; omega
        have hrun := run_append_room_cells (P := P) w t ty e i ht hi b o n c ⟨b', o', none⟩ m c' news (by rw [hsize]; exact hln) hnews h1 hr
          (fun j hj => by rw [hsize]; simp [World.cell?, hh]; omega) (fun j hj => by simp [World.frozen?, hh])
        rw [hsize] at hrun
        obtain ⟨cur', a1, a2, a3, a4⟩ := heap_setCells b news (o + n * size) w cur e hh (fun _ _ => trivial)
        refine ⟨_, _, _, _, hrun, ⟨by rw [List.length_append, hlx, hln, Nat.add_mul], .inr ⟨b, o, cur', rfl, rfl, a1, by rw [a2]; exact h2, hr, h4, fun j hj => ?_⟩⟩, (fr_setCells b news _ w).mono fun k _ e => by rw [e], .inl rfl⟩
        by_cases hjn : j < n * size
        · rw [a3 _ (.inl (by omega)), h5 j hjn, List.getElem?_append_left (by omega)]
        · have hjm : j - n * size < news.length := by rw [hln]; rw [Nat.add_mul] at hj; omega
          have := a4 hlast (j - n * size) _ (List.getElem?_eq_getElem hjm)
          rw [show o + n * size + (j - n * size) = o + j by omega] at this
          rw [this, List.getElem?_append_right (by omega), hlx, List.getElem?_eq_getElem hjm]
      · obtain ⟨v', w', hrun, r1, r2⟩ := run_append_arg_grows (P := P) w t ty e i z size bytes ht hi hz hsize hby hzs hsz ⟨b, o, none⟩ n c xs hlx (fun j u hu => by
            rw [Addr.add_lit]
            have hj : j < n * size := by rw [← hlx]; exact (List.getElem?_eq_some_iff.1 hu).1
            simp [World.cell?, hh, h5 j hj, hu]) ⟨b', o', none⟩ m c' news hln hnews (by omega) h63 hbytes
        obtain ⟨A2, c2, g2, rfl, ho, hb⟩ := Ow.ofOwns r1
        refine ⟨A2, c2, w', g2, hrun, ho, (Fr.ofGrown r2).mono fun k hk e => by simp at e, ?_⟩
        rcases ho.2 with ⟨_, h0, _⟩ | ⟨bb, oo, cc, _, rfl, _⟩
        · omega
        · exact .inr ⟨bb, rfl, hb bb rfl⟩

theorem wpList_append_ow {ops : Array Oper} {rest : List Oper} {o : Oper} {a : Act} {Q : Exit → Act → World → Prop} (hgd : o.guard = none) (s x : Operand) (t : TypeId)
    (ho : o.op = .call { callee := .builtin .append, args := #[s, x], argTypes := #[t, t] })
    (e : TypeId) (i : TypeInfo) (z : Value) (size bytes : Nat) (ht : P.underlying t = some (.slice e)) (hi : P.info? e = some i) (hz : i.zero = some z)
    (hsize : i.size = size) (hby : i.bytes = bytes) (hzs : z.cells.size = size) (hsz : 0 < size)
    (A : Option Addr) (n c : Nat) (xs : List Value) (g : Option Nat) (hs : a.eval s = .slice A n c) (hown : Ow w e size A n c xs g)
    (A' : Option Addr) (m c' : Nat) (news : List Value) (hx : a.eval x = .slice A' m c') (hsrc : Sl w size A' m news) (h1 : ∀ u ∈ news, u.oneCell' = true)
    (h63 : n + m ≤ maxLen) (hbytes : (n + m) * bytes ≤ 140737488355328)
    (h : ∀ A2 c2 w2 g2, Ow w2 e size A2 (n + m) c2 (xs ++ news) g2 → Fr (fun k => some k = g) w w2 → (g2 = g ∨ ∃ b, g2 = some b ∧ w.heap.size ≤ b) → wpList P ops Q rest (a.put o.dst (.slice A2 (n + m) c2)) w2) : wpList P ops Q (o :: rest) a w := by
  refine wpList_plain hgd fun K hK => ?_
  obtain ⟨A2, c2, w2, g2, hrun, h2, h3, h4⟩ := run_append_ow (P := P) w t o.type e i z size bytes ht hi hz hsize hby hzs hsz A n c xs g hown A' m c' news hsrc h1 h63 hbytes
  unfold Oper.wp execOp
  simp only [ho, resolve, invoke, builtin, Sem.run_bind, Sem.run_pure, Result.andThen_ok, List.map_toArray, List.map_cons, List.map_nil, hs, hx, hrun]
  exact hK _ _ (h A2 c2 w2 g2 h2 h3 h4)
end
#print axioms wpList_append_ow
end Go.Proofs.Ytlcjhbemgagchaa
end

section
/-
  tlv: what the functions compute, in plain lists of numbers. No program in sight.
-/
namespace Go.Proofs.Ytlcjhbemgagchaa
set_option linter.unusedVariables false

/-- 2^64, behind a name. -/
def U64 : Nat := 18446744073709551616
theorem U64_eq : U64 = 18446744073709551616 := rfl
/-- A short number. -/
def short (n : Nat) : List Nat := if h : n < 128 then [n] else (n % 128 + 128) :: short (n / 128)
termination_by n
decreasing_by omega
theorem short_small {n : Nat} (h : n < 128) : short n = [n] := by rw [short, dif_pos h]
theorem short_big {n : Nat} (h : ¬ n < 128) : short n = (n % 128 + 128) :: short (n / 128) := by rw [short, dif_neg h]
theorem short_len : ∀ (k n : Nat), n < 128 ^ (k + 1) → 1 ≤ (short n).length ∧ (short n).length ≤ k + 1
  | 0, n, h => by rw [short_small (by omega)]; simp
  | k + 1, n, h => by
    by_cases hn : n < 128
    · rw [short_small hn]; simp
    · rw [short_big hn]
      have := short_len k (n / 128) (by rw [Nat.pow_succ] at h; omega)
      simp; omega
theorem short_le {n : Nat} (h : n < U64) : 1 ≤ (short n).length ∧ (short n).length ≤ 10 := short_len 9 n (by have : (128 : Nat) ^ 10 = 1180591620717411303424 := rfl; unfold U64 at h; omega)
theorem short_bytes : ∀ (k n : Nat), n ≤ k → ∀ x ∈ short n, x < 256
  | 0, n, h, x, hx => by rw [short_small (by omega)] at hx; simp at hx; omega
  | k + 1, n, h, x, hx => by
    by_cases hn : n < 128
    · rw [short_small hn] at hx; simp at hx; omega
    · rw [short_big hn] at hx
      simp at hx
      rcases hx with rfl | hx
      · omega
      · exact short_bytes k (n / 128) (by omega) x hx

/-- A short number read: k bytes are behind, n is their worth; the number, how many bytes it has, what is wrong. -/
def readF : Nat → Nat → Nat → List Nat → Nat × Nat × Nat
  | 0, _, _, _ => (0, 0, 20)
  | _ + 1, _, _, [] => (0, 0, 22)
  | f + 1, k, n, c :: l =>
    if k = 9 ∧ 1 < c then (0, 0, 20)
    else if c < 128 then (if 0 < k ∧ c = 0 then (0, 0, 20) else (n + c % 128 * 128 ^ k, k + 1, 0))
    else readF f (k + 1) (n + c % 128 * 128 ^ k) l
/-- ReadShort: the number, the place behind it, the error. -/
def readShort (b : List Nat) (at_ : Int) : Nat × Int × Int :=
  if at_ < 0 ∨ (b.length : Int) < at_ then (0, 0, 2)
  else
    let r := readF 10 0 0 (b.drop at_.toNat)
    if r.2.2 = 0 then (r.1, at_ + r.2.1, 0) else (0, 0, r.2.2)
end Go.Proofs.Ytlcjhbemgagchaa
end

section
/-
  tlv.Short, the reference's Short; same, over.
-/
namespace Go.Proofs.Ytlcjhbemgagchaa
open Go.RowKit
set_option linter.unusedVariables false

/-- A byte. -/
def bn (x : Nat) : Value := .int .u8 (x : Int)
theorem bn_one (xs : List Nat) : ∀ u ∈ xs.map bn, u.oneCell' = true := by
  intro u hu; obtain ⟨_, _, rfl⟩ := List.mem_map.1 hu; rfl
theorem Sl.one (w : World) (v : Value) (t : TypeId) : Sl (w.alloc (.cells #[v] t)) 1 (some ⟨w.heap.size, 0, none⟩) 1 [v] :=
  ⟨by simp, fun _ => ⟨w.heap.size, 0, rfl, fun j u hu => by
    have h := (Bl.new w t #[v]).cell j
    simp only [Nat.zero_add]
    rw [h]; simpa using hu⟩⟩
theorem info5 : (Try.prog.info? 5).map (fun i => (i.zero, i.size, i.bytes)) = some (some (.int .u8 0), 1, 1) := by kernel_rfl
theorem or128_nat : ∀ m : Fin 256, m.val ||| 128 = m.val % 128 + 128 := by decide +kernel
theorem or128 (y : Nat) : bits .or .u8 ((y : Int) % 256) 128 = (y : Int) % 128 + 128 := by
  have h := or128_nat ⟨y % 256, by omega⟩
  simp only at h
  have e : ((y : Int) % 256) = ((y % 256 : Nat) : Int) := by omega
  rw [e, show (128 : Int) = ((128 : Nat) : Int) from rfl, u8_or_nat _ _ (by omega) (by omega), h]
  omega

/-- Behind Short: a slice of its own, as long as its room. -/
def ShortPost (xs : List Nat) (w : World) (e : Ending) (w' : World) : Prop :=
  ∃ A c g, e = .returned (.slice A xs.length c) ∧ Ow w' 5 1 A xs.length c (xs.map bn) g ∧ (∀ b, g = some b → w.heap.size ≤ b) ∧ Fr (fun _ => False) w w'

set_option maxHeartbeats 1000000 in
set_option maxRecDepth 4000 in
theorem rshort_any (w : World) (x : Nat) (hx : x < U64) : Calls Try.prog 114 #[.int .u64 (x : Int)] w (ShortPost (short x) w) := by
  obtain ⟨i0, hi, hz0, hz1, hz2⟩ := info_parts info5
  have hlen := short_le hx
  go_enter Try.func114, Try.ntmps114
  go_wp2_with fail
  go_loopw [0, 3] (fun s v wr => ∃ (y : Nat) (done : List Nat) (A : Option Addr) (c : Nat) (g : Option Nat), s = .int .u64 (y : Int) ∧ v = .slice A done.length c ∧ y < U64 ∧
    Hid (done ++ short y = short x) ∧ Ow wr 5 1 A done.length c (done.map bn) g ∧ (∀ b, g = some b → w.heap.size ≤ b) ∧ Fr (fun _ => False) w wr) (fun s _ _ => (intOf s).toNat)
  case atStart => exact ⟨x, [], none, 0, none, rfl, rfl, hx, rfl, Ow.nil_ _ _ _, (fun b h => by cases h), Fr.refl _ _⟩
  case round =>
    obtain ⟨y, done, A, c, g, rfl, rfl, hy, hD, hO, hg, hf⟩ := hrel
    have hdl : done.length + 1 ≤ 10 := by
      have h1 := congrArg List.length hD.out
      have h2 := short_le hy
      rw [List.length_append] at h1; omega
    have hu : IntKind.u64.wrap ((y : Int) % 128) = (y : Int) % 128 := IntWalk.u64_in _ (by unfold U64 at hy; omega)
    have hu2 : IntKind.u64.wrap ((y : Int) / 128) = (y : Int) / 128 := IntWalk.u64_in _ (by unfold U64 at hy; omega)
    have hu3 : (y : Int).tmod 128 = (y : Int) % 128 := Int.tmod_eq_emod_of_nonneg (by omega)
    have hu4 : (y : Int).tdiv 128 = (y : Int) / 128 := Int.tdiv_eq_ediv_of_nonneg (by omega)
    have hu5 : IntKind.u8.wrap ((y : Int) % 128) = (y : Int) % 128 := IntWalk.u8_in _ (by omega)
    have hu6 : IntKind.u8.wrap ((y : Int) % 128 + 128) = (y : Int) % 128 + 128 := IntWalk.u8_in _ (by omega)
    by_cases hb : y < 128
    · have hsm : Hid (done ++ [y] = short x) := by rw [← hD.out, short_small hb]; rfl
      go_wp2_with (at_builtin; refine wpList_append_ow _ rfl _ _ 22 rfl 5 i0 (.int .u8 0) 1 1 Try.underlying22 hi hz0 hz1 hz2 rfl (by decide) _ _ _ _ _ rfl (hO.fr ((Fr.refl _ _).alloc _) (fun _ _ => id)) _ _ _ _ rfl (Sl.one _ _ _) (bn_one [_]) (by unfold maxLen; omega) (by omega) ?_)
      intro A2 c2 w2 g2 hO2 hf2 hg2
      go_wp2_with fail
      go_ret
      refine ⟨A2, c2, g2, ?_, ?_, ?_, ?_⟩
      · rw [← hsm.out]; simp
      · rw [← hsm.out]; simpa [bn] using hO2
      · intro b hb'
        have := hf.size
        rcases hg2 with rfl | ⟨b', rfl, h⟩
        · exact hg b hb'
        · cases hb'; omega
      · exact (hf.alloc _).comp hf2 fun i hi e => by have := hg i e.symm; omega
    · have hsm : Hid (done ++ [y % 128 + 128] ++ short (y / 128) = short x) := by rw [← hD.out, short_big hb]; simp [hide]
      go_wp2_with (at_builtin; refine wpList_append_ow _ rfl _ _ 22 rfl 5 i0 (.int .u8 0) 1 1 Try.underlying22 hi hz0 hz1 hz2 rfl (by decide) _ _ _ _ _ rfl (hO.fr ((Fr.refl _ _).alloc _) (fun _ _ => id)) _ _ _ _ rfl (Sl.one _ _ _) (bn_one [_]) (by unfold maxLen; omega) (by omega) ?_)
      intro A2 c2 w2 g2 hO2 hf2 hg2
      go_wp2_with fail
      go_roundw
      case rel =>
        refine ⟨y / 128, done ++ [y % 128 + 128], A2, c2, g2, by go_num, by simp, ?_, hsm, ?_, ?_, ?_⟩
        · unfold U64 at hy ⊢; omega
        · simpa [bn] using hO2
        · intro b hb'
          have := hf.size
          rcases hg2 with rfl | ⟨b', rfl, h⟩
          · exact hg b hb'
          · cases hb'; omega
        · exact (hf.alloc _).comp hf2 fun i hi e => by have := hg i e.symm; omega
      case measure => simp [intOf]; omega

set_option maxHeartbeats 1000000 in
set_option maxRecDepth 4000 in
theorem short_any (w : World) (x : Nat) (hx : x < U64) : Calls Try.prog 109 #[.int .u64 (x : Int)] w (ShortPost (short x) w) := by
  obtain ⟨i0, hi, hz0, hz1, hz2⟩ := info_parts info5
  have hlen := short_le hx
  have hmk : ∀ w : World, (Instr.makeSlice 22 (.int .i64 0) (.int .i64 10)).run Try.prog w = .ok (.slice (some ⟨w.heap.size, 0, none⟩) 0 10) (w.alloc (.cells #[.int .u8 0, .int .u8 0, .int .u8 0, .int .u8 0, .int .u8 0, .int .u8 0, .int .u8 0, .int .u8 0, .int .u8 0, .int .u8 0] 5)) := fun _ => by kernel_rfl
  go_enter Try.func109, Try.ntmps109
  go_wp2_with fail
  clear hmk
  go_loopw [0, 3] (fun s v wr => ∃ (y : Nat) (done : List Nat) (A : Option Addr) (c : Nat) (g : Option Nat), s = .int .u64 (y : Int) ∧ v = .slice A done.length c ∧ y < U64 ∧
    Hid (done ++ short y = short x) ∧ Ow wr 5 1 A done.length c (done.map bn) g ∧ (∀ b, g = some b → w.heap.size ≤ b) ∧ Fr (fun _ => False) w wr) (fun s _ _ => (intOf s).toNat)
  case atStart => exact ⟨x, [], _, 10, _, rfl, rfl, hx, rfl, Ow.made w 5 1 0 10 _ [] rfl (by omega) (by unfold maxLen; omega) (by simp), (fun b h => by cases h; exact Nat.le_refl _), (Fr.refl _ _).alloc _⟩
  case round =>
    obtain ⟨y, done, A, c, g, rfl, rfl, hy, hD, hO, hg, hf⟩ := hrel
    have hdl : done.length + 1 ≤ 10 := by
      have h1 := congrArg List.length hD.out
      have h2 := short_le hy
      rw [List.length_append] at h1; omega
    have hu1 : IntKind.u8.wrap (y : Int) = (y : Int) % 256 := by rw [IntKind.wrap_u8]
    have hu2 := or128 y
    by_cases hb : y < 128
    · have hsm : Hid (done ++ [y] = short x) := by rw [← hD.out, short_small hb]; rfl
      have hb' : ¬ 127 < y := by omega
      clear hu1 hu2
      have hu1 : IntKind.u8.wrap (y : Int) = (y : Int) := IntWalk.u8_in _ (by omega)
      go_wp2_with (at_builtin; refine wpList_append_ow _ rfl _ _ 22 rfl 5 i0 (.int .u8 0) 1 1 Try.underlying22 hi hz0 hz1 hz2 rfl (by decide) _ _ _ _ _ rfl (hO.fr ((Fr.refl _ _).alloc _) (fun _ _ => id)) _ _ _ _ rfl (Sl.one _ _ _) (bn_one [_]) (by unfold maxLen; omega) (by omega) ?_)
      intro A2 c2 w2 g2 hO2 hf2 hg2
      have hcc := hO2.cap
      have hc1 := hcc.1
      have hc2 := hcc.2
      unfold maxLen at hc2
      clear hcc
      go_wp2_with fail
      go_ret
      refine ⟨A2, (short x).length, g2, ?_, ?_, ?_, ?_⟩
      · rw [← hsm.out]; simp
      · rw [← hsm.out]; simpa [bn] using hO2.clip
      · intro b hb'
        have := hf.size
        rcases hg2 with rfl | ⟨b', rfl, h⟩
        · exact hg b hb'
        · cases hb'; omega
      · exact (hf.alloc _).comp hf2 fun i hi e => by have := hg i e.symm; omega
    · have hsm : Hid (done ++ [y % 128 + 128] ++ short (y / 128) = short x) := by rw [← hD.out, short_big hb]; simp [hide]
      have hb' : 127 < y := by omega
      go_wp2_with (at_builtin; refine wpList_append_ow _ rfl _ _ 22 rfl 5 i0 (.int .u8 0) 1 1 Try.underlying22 hi hz0 hz1 hz2 rfl (by decide) _ _ _ _ _ rfl (hO.fr ((Fr.refl _ _).alloc _) (fun _ _ => id)) _ _ _ _ rfl (Sl.one _ _ _) (bn_one [_]) (by unfold maxLen; omega) (by omega) ?_)
      intro A2 c2 w2 g2 hO2 hf2 hg2
      go_wp2_with fail
      go_roundw
      case rel =>
        refine ⟨y / 128, done ++ [y % 128 + 128], A2, c2, g2, by go_num, by simp, ?_, hsm, ?_, ?_, ?_⟩
        · unfold U64 at hy ⊢; omega
        · simpa [bn] using hO2
        · intro b hb'
          have := hf.size
          rcases hg2 with rfl | ⟨b', rfl, h⟩
          · exact hg b hb'
          · cases hb'; omega
        · exact (hf.alloc _).comp hf2 fun i hi e => by have := hg i e.symm; omega
      case measure => simp [intOf]; omega
end Go.Proofs.Ytlcjhbemgagchaa
end

section
/-
  An argument that is a slice of bytes, opened.
-/
namespace Go.Proofs.Ytlcjhbemgagchaa
open Go.ChangeShapes Go.WideShapes Go.ChangeAt Go.RowKit Go.Deep Go.Joins
set_option linter.unusedVariables false

section
variable {H : Type} {enc : TypeId × Value → H} {P : Program} {w : World} {base : Nat} {spare : Nat → Bool} {held : Bool}
theorem open_bytes {t e : TypeId} {fuel : Nat} {cs : List Value} {x : DataW H × List MemPlace} (ht : P.underlying t = some (.slice e)) (he : P.underlying e = some (.int .u8)) (hC : P.cellsOf e = 1)
    (h : DataW.trod enc P w base spare held fuel t cs = some x) :
    ∃ (A : Option Addr) (n c : Nat) (xs : List Nat), cs = [.slice A n c] ∧ n ≤ c ∧ c ≤ maxLen ∧ n = xs.length ∧ (∀ y ∈ xs, y < 256) ∧ Sl w 1 A n (xs.map bn) ∧ (n = 0 ∨ ∃ el sp, x.1 = .slice el sp ∧ el.length = n) := by
  obtain ⟨A, n, c, f, hcs, hn, hc, hlen, hcell, hfld⟩ := open_ones ht hC h
  have hf : ∀ i, i < n → ∃ z : Nat, f i 0 = bn z ∧ z < 256 := fun i hi => by
    obtain ⟨y, m, hy⟩ := hfld i hi
    obtain ⟨z, e, _, wf⟩ := DataW.trod_int he hy
    have b := bdu8 wf
    refine ⟨z.toNat, ?_, by omega⟩
    have : f i 0 = .int .u8 z := by simpa using e
    rw [this]; unfold bn; congr 1; omega
  refine ⟨A, n, c, (List.range n).map fun i => (intOf (f i 0)).toNat, hcs, hn, hc, by simp, ?_, ⟨by simp, ?_⟩, hlen⟩
  · intro y hy
    simp only [List.mem_map, List.mem_range] at hy
    obtain ⟨i, hi, rfl⟩ := hy
    obtain ⟨z, e, hz⟩ := hf i hi
    rw [e]; simp [bn, intOf, hz]
  · intro hn0
    obtain ⟨b, o, hA, hb, hcc⟩ := hcell hn0
    refine ⟨b, o, hA, fun j u hu => ?_⟩
    have hj : j < n := by simpa using (List.getElem?_eq_some_iff.1 hu).1
    obtain ⟨z, e, hz⟩ := hf j hj
    have := hcc j 0 hj (by omega)
    rw [Nat.mul_one, Nat.add_zero, e] at this
    rw [this]
    simp [hj, e] at hu
    rw [← hu]; simp [bn, intOf]
end
end Go.Proofs.Ytlcjhbemgagchaa
end

section
/-
  The law's helpers: same, over, lent, kept, num.
-/
namespace Go.Proofs.Ytlcjhbemgagchaa
open Go.RowKit
set_option linter.unusedVariables false

theorem bn_get {xs : List Nat} {k : Nat} (h : k < xs.length) : (xs.map bn)[k]? = some (.int .u8 ((xs.getD k 0 : Nat) : Int)) := by
  simp [bn, List.getElem?_eq_getElem h, List.getD]

/-- The marks behind a slice that is lent. -/
def marks (k : Nat) : List Nat := (List.range k).map (201 + ·)
theorem marks_succ (k : Nat) : marks (k + 1) = marks k ++ [201 + k] := by simp [marks, List.range_succ]
theorem marks_len (k : Nat) : (marks k).length = k := by simp [marks]
/-- Behind lent: the bytes xs in memory of their own, the marks behind them. -/
def Lent (w : World) (A : Option Addr) (n c : Nat) (xs : List Nat) (g : Nat) : Prop := Ow w 5 1 A (n + 5) c ((xs ++ marks 5).map bn) (some g)
def LentPost (n : Nat) (xs : List Nat) (w : World) (e : Ending) (w' : World) : Prop :=
  ∃ A c g, e = .returned (.slice A n c) ∧ Lent w' A n c xs g ∧ w.heap.size ≤ g ∧ Fr (fun _ => False) w w'

end Go.Proofs.Ytlcjhbemgagchaa
end

section
/-
  The reference's ReadShort and tlv.ReadShort: both are readShort.
-/
namespace Go.Proofs.Ytlcjhbemgagchaa
open Go.RowKit
set_option linter.unusedVariables false

theorem readF_nil (f k n : Nat) : readF (f + 1) k n [] = (0, 0, 22) := rfl
theorem readF_far (f n c : Nat) (l : List Nat) (h : 1 < c) : readF (f + 1) 9 n (c :: l) = (0, 0, 20) := by rw [readF, if_pos ⟨rfl, h⟩]
theorem readF_zero (f k n : Nat) (l : List Nat) (h : 0 < k) : readF (f + 1) k n (0 :: l) = (0, 0, 20) := by
  rw [readF, if_neg (by omega), if_pos (by omega), if_pos ⟨h, rfl⟩]
theorem readF_last (f k n c : Nat) (l : List Nat) (h : ¬ (k = 9 ∧ 1 < c)) (hc : c < 128) (h0 : ¬ (0 < k ∧ c = 0)) : readF (f + 1) k n (c :: l) = (n + c % 128 * 128 ^ k, k + 1, 0) := by
  rw [readF, if_neg h, if_pos hc, if_neg h0]
theorem readF_on (f k n c : Nat) (l : List Nat) (h : ¬ (k = 9 ∧ 1 < c)) (hc : ¬ c < 128) : readF (f + 1) k n (c :: l) = readF f (k + 1) (n + c % 128 * 128 ^ k) l := by
  rw [readF, if_neg h, if_neg hc]
theorem pow128_le {k : Nat} (h : k ≤ 9) : 128 ^ k ≤ 9223372036854775808 := by
  have := Nat.pow_le_pow_right (show 0 < 128 by omega) h
  have e : (128 : Nat) ^ 9 = 9223372036854775808 := rfl
  omega
/-- What the round reckons stays a number of 64 bits. -/
theorem read_fits {k N W c : Nat} (hk : k ≤ 9) (hN : N < 128 ^ k) (hW : W = 128 ^ k) (h : ¬ (k = 9 ∧ 1 < c)) : W * (c % 128) < U64 ∧ N + W * (c % 128) < U64 ∧ N + W * (c % 128) = N + c % 128 * 128 ^ k := by
  have h1 : N + W * (c % 128) < U64 := by
    unfold U64
    by_cases h9 : k = 9
    · subst h9
      have e : (128 : Nat) ^ 9 = 9223372036854775808 := rfl
      rw [e] at hN hW
      have hc : c ≤ 1 := by omega
      subst hW
      have : c % 128 ≤ 1 := by omega
      have := Nat.mul_le_mul_left 9223372036854775808 this
      omega
    · have h8 : 128 ^ k ≤ 128 ^ 8 := Nat.pow_le_pow_right (by omega) (by omega)
      have e : (128 : Nat) ^ 8 = 72057594037927936 := rfl
      rw [e] at h8
      have h2 : W * (c % 128) ≤ 72057594037927936 * 127 := Nat.mul_le_mul (by omega) (by omega)
      omega
  exact ⟨by omega, h1, by rw [hW, Nat.mul_comm]⟩
theorem read_next {k N c : Nat} (hk : k ≤ 9) (hN : N < 128 ^ k) (h : ¬ (k = 9 ∧ 1 < c)) : N + c % 128 * 128 ^ k < 128 ^ (k + 1) := by
  have h1 : c % 128 * 128 ^ k ≤ 127 * 128 ^ k := Nat.mul_le_mul_right _ (by omega)
  rw [Nat.pow_succ]; omega

/-- What ReadShort answers. -/
def ReadVal (xs : List Nat) (at_ : Int) : Value := .tuple #[.int .u64 ((readShort xs at_).1 : Int), .int .i64 (readShort xs at_).2.1, .int .i64 ((readShort xs at_).2.2 : Int)]
theorem readVal_out {xs : List Nat} {at_ : Int} (h : at_ < 0 ∨ (xs.length : Int) < at_) : ReadVal xs at_ = .tuple #[.int .u64 0, .int .i64 0, .int .i64 2] := by
  unfold ReadVal readShort; rw [if_pos h]; rfl
theorem readVal_bad {xs : List Nat} {a : Nat} {e : Nat} (h : a ≤ xs.length) (hr : readF 10 0 0 (xs.drop a) = (0, 0, e)) (he : e ≠ 0) : ReadVal xs (a : Int) = .tuple #[.int .u64 0, .int .i64 0, .int .i64 (e : Int)] := by
  unfold ReadVal readShort; rw [if_neg (by omega), Int.toNat_natCast, hr]; simp [he]
theorem readVal_ok {xs : List Nat} {a N k : Nat} (h : a ≤ xs.length) (hr : readF 10 0 0 (xs.drop a) = (N, k + 1, 0)) : ReadVal xs (a : Int) = .tuple #[.int .u64 (N : Int), .int .i64 ((a : Int) + k + 1), .int .i64 0] := by
  unfold ReadVal readShort; rw [if_neg (by omega), Int.toNat_natCast, hr]; simp [Int.add_assoc]

set_option maxHeartbeats 1000000 in
set_option maxRecDepth 4000 in
theorem rread_any (w : World) (xs : List Nat) (A : Option Addr) (n c : Nat) (at_ : Int) (hn : n ≤ 140737488355328) (hl : n = xs.length) (h256 : ∀ x ∈ xs, x < 256) (hA : Sl w 1 A n (xs.map bn)) :
    Calls Try.prog 118 #[.slice A n c, .int .i64 at_] w fun e w' => e = .returned (ReadVal xs at_) ∧ w = w' := by
  have Hl := hide hl
  clear hl
  by_cases h0 : at_ < 0
  · have hv := hide (readVal_out (xs := xs) (at_ := at_) (.inl h0))
    go_enter Try.func118, Try.ntmps118
    go_wp2
    go_ret3
    exact ⟨by rw [hv.out]; rfl, rfl⟩
  by_cases h1 : (n : Int) < at_
  · have hv := hide (readVal_out (xs := xs) (at_ := at_) (.inr (by rw [← Hl.out]; exact h1)))
    go_enter Try.func118, Try.ntmps118
    go_wp2
    go_ret3
    exact ⟨by rw [hv.out]; rfl, rfl⟩
  obtain ⟨a, rfl⟩ : ∃ a : Nat, at_ = (a : Int) := ⟨at_.toNat, by omega⟩
  have ha : a ≤ n := by omega
  have ha' : a ≤ xs.length := by rw [← Hl.out]; exact ha
  go_enter Try.func118, Try.ntmps118
  go_wp2_with fail
  go_loop [7, 8, 9] (fun s t i => ∃ (k N W : Nat), k ≤ 10 ∧ s = .int .u64 (N : Int) ∧ t = .int .u64 (W : Int) ∧ i = .int .i64 (k : Int) ∧ Hid (N < 128 ^ k) ∧ Hid (k ≤ 9 → W = 128 ^ k) ∧
    Hid (readF (10 - k) k N (xs.drop (a + k)) = readF 10 0 0 (xs.drop a))) (fun _ _ i => 10 - (intOf i).toNat)
  case atStart => exact ⟨0, 0, 1, by omega, rfl, rfl, rfl, show 0 < 1 by omega, fun _ => rfl, rfl⟩
  case round =>
    obtain ⟨k, N, W, hk, rfl, rfl, rfl, hN, hW, hR⟩ := hrel
    by_cases hk9 : k ≤ 9
    · obtain ⟨f, hf⟩ : ∃ f, 10 - k = f + 1 := ⟨9 - k, by omega⟩
      have HF := hide hf
      clear hf
      by_cases hend : n ≤ a + k
      · have hv := hide (readVal_bad (e := 22) ha' (by rw [← hR.out, HF.out, List.drop_eq_nil_of_le (by rw [← Hl.out]; exact hend)]; rfl) (by omega))
        go_wp2_with fail
        go_ret3
        exact ⟨by rw [hv.out]; rfl, rfl⟩
      · have hak : a + k < xs.length := by rw [← Hl.out]; omega
        have hu := bn_get hak
        obtain ⟨b, o, rfl, c0⟩ := hA.at_ hu
        obtain ⟨y, hy⟩ : ∃ y, xs.getD (a + k) 0 = y := ⟨_, rfl⟩
        have hd : Hid (xs.drop (a + k) = y :: xs.drop (a + k + 1)) := by
          show _ = _
          rw [List.drop_eq_getElem_cons hak, ← hy]; simp [List.getD, hak]
        have hy256 : y < 256 := h256 y (by rw [← hy]; simp [List.getD, hak])
        rw [hy] at c0
        clear hu hy hA h256 hak
        by_cases hfar : k = 9 ∧ 1 < y
        · obtain ⟨h9, hy1⟩ := hfar
          have hv := hide (readVal_bad (e := 20) ha' (by rw [← hR.out, HF.out, hd.out, h9, readF_far _ _ _ _ hy1]) (by omega))
          have h9' : 9 ≤ k := by omega
          clear hd h9
          go_wp2_with fail
          all_goals (go_ret3; exact ⟨by rw [hv.out]; rfl, rfl⟩)
        · obtain ⟨q1, q2, q3⟩ := read_fits hk9 hN.out (hW.out hk9) hfar
          have qn := hide (read_next hk9 hN.out hfar)
          obtain ⟨M, hM⟩ : ∃ M, W * (y % 128) = M := ⟨_, rfl⟩
          have hMi : (W : Int) * ((y : Int) % 128) = (M : Int) := by rw [← hM]; simp
          rw [hM] at q1 q2 q3
          obtain ⟨N2, hN2⟩ : ∃ N2, N + M = N2 := ⟨_, rfl⟩
          obtain ⟨W2, hW2⟩ : ∃ W2, W * 128 % U64 = W2 := ⟨_, rfl⟩
          have e1 : IntKind.u64.wrap ((W : Int) * ((y : Int) % 128)) = (M : Int) := by
            rw [hMi, IntWalk.u64_in _ (by unfold U64 at q1; omega)]
          have e2 : IntKind.u64.wrap ((N : Int) + (M : Int)) = (N2 : Int) := by
            rw [IntWalk.u64_in _ (by unfold U64 at q2; omega)]; omega
          have e3 : IntKind.u64.wrap ((W : Int) * 128) = (W2 : Int) := by
            rw [← hW2]; unfold U64; rw [IntKind.wrap_u64]; omega
          have hWn : Hid (k + 1 ≤ 9 → W2 = 128 ^ (k + 1)) := fun h => by
            have e := hW.out hk9
            have h8 := pow128_le h
            rw [← hW2, e, ← Nat.pow_succ]; exact Nat.mod_eq_of_lt (by unfold U64; omega)
          have hNN : Hid (N + y % 128 * 128 ^ k = N2) := show _ = _ by rw [← q3, hN2]
          clear hM hMi hN2 hW2 q1 q2 q3
          have hnf : k = 9 → y ≤ 1 := fun h => by have := hfar; omega
          have Hfar := hide hfar
          clear hfar
          by_cases hlast : y < 128
          · by_cases hz : 0 < k ∧ y = 0
            · obtain ⟨hz1, hz2⟩ := hz
              have hv := hide (readVal_bad (e := 20) ha' (by rw [← hR.out, HF.out, hd.out, hz2, readF_zero _ _ _ _ hz1]) (by omega))
              have hz3 : y ≤ 0 := by omega
              clear hd hNN hz2
              go_wp2_with fail
              all_goals (go_ret3; exact ⟨by rw [hv.out]; rfl, rfl⟩)
            · have hv := hide (readVal_ok (k := k) (N := N2) ha' (by rw [← hR.out, HF.out, hd.out, readF_last _ _ _ _ _ Hfar.out hlast hz, hNN.out]))
              clear hd hNN
              by_cases hk0 : 0 < k
              · have hy0 : ¬ y = 0 := fun h => hz ⟨hk0, h⟩
                have hy0' : 0 < y := by omega
                clear hz
                by_cases h9 : k = 9
                · have hy1 := hnf h9
                  have h9' : 9 ≤ k := by omega
                  clear h9 hnf
                  go_wp2_with fail
                  go_ret3
                  obtain rfl : k = 9 := by omega
                  exact ⟨by rw [hv.out]; rfl, rfl⟩
                · go_wp2_with fail
                  go_ret3
                  exact ⟨by rw [hv.out]; rfl, rfl⟩
              · have hk0' : k ≤ 0 := by omega
                clear hz
                go_wp2_with fail
                all_goals (go_ret3; exact ⟨by rw [hv.out]; rfl, rfl⟩)
          · have hR2 : Hid (readF (10 - (k + 1)) (k + 1) N2 (xs.drop (a + (k + 1))) = readF 10 0 0 (xs.drop a)) := by
              show _ = _
              rw [← hR.out, HF.out, hd.out, readF_on _ _ _ _ _ Hfar.out hlast, hNN.out, show 10 - (k + 1) = f by have := HF.out; omega, Nat.add_assoc]
            have qn2 : Hid (N2 < 128 ^ (k + 1)) := by have := qn.out; rw [hNN.out] at this; exact this
            clear hd hNN
            by_cases h9 : k = 9
            · subst h9
              have := hnf rfl
              omega
            · go_wp2_with fail
              exact ⟨⟨k + 1, N2, W2, by omega, rfl, rfl, by go_num, qn2, hWn, hR2⟩, by simp [intOf]; omega⟩
    · obtain rfl : k = 10 := by omega
      have hv := hide (readVal_bad (e := 20) ha' (by rw [← hR.out]; rfl) (by omega))
      go_wp2_with fail
      go_ret3
      exact ⟨by rw [hv.out]; rfl, rfl⟩
end Go.Proofs.Ytlcjhbemgagchaa
end
