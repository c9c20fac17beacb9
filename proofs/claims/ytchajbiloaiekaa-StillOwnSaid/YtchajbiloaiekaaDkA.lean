/-
  The law's helpers of chapter 08: same, over, lent, kept, num.
-/
import Derived.Test.YtchajbiloaiekaaDk7
namespace Go.Proofs.Ytchajbiloaiekaa
open Go.RowKit
set_option linter.unusedVariables false

theorem Sl.one (w : World) (v : Value) (t : TypeId) : Sl (w.alloc (.cells #[v] t)) 1 (some ⟨w.heap.size, 0, none⟩) 1 [v] :=
  ⟨by simp, fun _ => ⟨w.heap.size, 0, rfl, fun j u hu => by
    have h := (Bl.new w t #[v]).cell j
    simp only [Nat.zero_add]
    rw [h]; simpa using hu⟩⟩
/-! append where the block's own type may be another one (an array's). -/
section
variable {P : Program} (w : World)
/-- append, whatever the destination (nil, with room or without) and whatever the source. -/
theorem run_append_ob (t ty e : TypeId) (i : TypeInfo) (z : Value) (size bytes : Nat) (ht : P.underlying t = some (.slice e)) (hi : P.info? e = some i) (hz : i.zero = some z)
    (hsize : i.size = size) (hby : i.bytes = bytes) (hzs : z.cells.size = size) (hsz : 0 < size)
    (A : Option Addr) (n c : Nat) (xs : List Value) (g : Option Nat) (e0 : TypeId) (hown : Ow w e0 size A n c xs g)
    (A' : Option Addr) (m c' : Nat) (news : List Value) (hsrc : Sl w size A' m news) (h1 : ∀ u ∈ news, u.oneCell' = true)
    (h63 : n + m ≤ maxLen) (hbytes : (n + m) * bytes ≤ 140737488355328) :
    ∃ A2 c2 w2 g2 e2, (Builtin.append_ #[t, t] ty #[.slice A n c, .slice A' m c']).run P w = .ok (.slice A2 (n + m) c2) w2 ∧ Ow w2 e2 size A2 (n + m) c2 (xs ++ news) g2 ∧ Fr (fun k => some k = g) w w2 ∧ (g2 = g ∨ ∃ b, g2 = some b ∧ w.heap.size ≤ b) := by
  have hlx := hown.1
  have hln := hsrc.1
  by_cases hm : m = 0
  · subst hm
    have hn : news = [] := List.eq_nil_of_length_eq_zero (by simpa using hln)
    subst hn
    have hcap := hown.cap
    refine ⟨A, c, w, g, e0, ?_, by simpa using hown, Fr.refl _ _, .inl rfl⟩
    cases A <;> cases A' <;> simp [Builtin.append_, run_underlying ht, sizeOf, typeInfo, hi, Builtin.lenOf, Builtin.firstCells, hcap.1, storeCells, loadCells, loadCellsFrom]
  · obtain ⟨b', o', rfl, hc'⟩ := hsrc.2 (by omega)
    have hnews : ∀ j u, news[j]? = some u → w.cell? ((⟨b', o', none⟩ : Addr).add j) = some u := fun j u hu => by rw [Addr.add_lit]; exact hc' j u hu
    rcases hown.2 with ⟨rfl, rfl, rfl, rfl⟩ | ⟨b, o, cur, rfl, rfl, hh, h2, h3, h4, h5⟩
    · obtain rfl : xs = [] := List.eq_nil_of_length_eq_zero (by simpa using hlx)
      obtain ⟨v', w', hrun, r1, r2, _⟩ := run_append_own (P := P) w w.heap.size t ty e i z size bytes ht hi hz hsize hby hzs hsz (.slice none 0 0) 0 [] (World.ownsRow_nil w _ e size) ⟨b', o', none⟩ m c' news hln hnews h1 h63 hbytes (Nat.le_refl _)
      obtain ⟨A2, c2, g2, rfl, ho, hb⟩ := Ow.ofOwns r1
      refine ⟨A2, c2, w', g2, e, hrun, ho, (Fr.ofGrown r2).mono fun k hk e => by simp [Value.ownBlock] at e, ?_⟩
      cases g2 with
      | none => exact .inl rfl
      | some x => exact .inr ⟨x, rfl, hb x rfl⟩
    · by_cases hr : n + m ≤ c
      · have hlast : o + n * size + news.length ≤ cur.size := by
          have := Nat.mul_le_mul_right size hr
          rw [Nat.add_mul] at this; omega
        have hrun := run_append_room_cells (P := P) w t ty e i ht hi b o n c ⟨b', o', none⟩ m c' news (by rw [hsize]; exact hln) hnews h1 hr
          (fun j hj => by rw [hsize]; simp [World.cell?, hh]; omega) (fun j hj => by simp [World.frozen?, hh])
        rw [hsize] at hrun
        obtain ⟨cur', a1, a2, a3, a4⟩ := heap_setCells b news (o + n * size) w cur e0 hh (fun _ _ => trivial)
        refine ⟨_, _, _, _, e0, hrun, ⟨by rw [List.length_append, hlx, hln, Nat.add_mul], .inr ⟨b, o, cur', rfl, rfl, a1, by rw [a2]; exact h2, hr, h4, fun j hj => ?_⟩⟩, (fr_setCells b news _ w).mono fun k _ e => by rw [e], .inl rfl⟩
        by_cases hjn : j < n * size
        · rw [a3 _ (.inl (by omega)), h5 j hjn, List.getElem?_append_left (by omega)]
        · have hjm : j - n * size < news.length := by rw [hln]; rw [Nat.add_mul] at hj; omega
          have := a4 hlast (j - n * size) _ (List.getElem?_eq_getElem hjm)
          rw [show o + n * size + (j - n * size) = o + j by omega] at this
          rw [this, List.getElem?_append_right (by omega), hlx, List.getElem?_eq_getElem hjm]
      · obtain ⟨v', w', hrun, r1, r2⟩ := run_append_arg_grows (P := P) w t ty e i z size bytes ht hi hz hsize hby hzs hsz ⟨b, o, none⟩ n c xs hlx (fun j u hu => by
            rw [Addr.add_lit]
            have hj : j < n * size := by rw [← hlx]; exact (List.getElem?_eq_some_iff.1 hu).1
            simp [World.cell?, hh, h5 j hj, hu]) ⟨b', o', none⟩ m c' news hln hnews (by omega) h63 hbytes
        obtain ⟨A2, c2, g2, rfl, ho, hb⟩ := Ow.ofOwns r1
        refine ⟨A2, c2, w', g2, e, hrun, ho, (Fr.ofGrown r2).mono fun k hk e => by simp at e, ?_⟩
        rcases ho.2 with ⟨_, h0, _⟩ | ⟨bb, oo, cc, _, rfl, _⟩
        · omega
        · exact .inr ⟨bb, rfl, hb bb rfl⟩

theorem wpList_append_ob {ops : Array Oper} {rest : List Oper} {o : Oper} {a : Act} {Q : Exit → Act → World → Prop} (hgd : o.guard = none) (s x : Operand) (t : TypeId)
    (ho : o.op = .call { callee := .builtin .append, args := #[s, x], argTypes := #[t, t] })
    (e : TypeId) (i : TypeInfo) (z : Value) (size bytes : Nat) (ht : P.underlying t = some (.slice e)) (hi : P.info? e = some i) (hz : i.zero = some z)
    (hsize : i.size = size) (hby : i.bytes = bytes) (hzs : z.cells.size = size) (hsz : 0 < size)
    (A : Option Addr) (n c : Nat) (xs : List Value) (g : Option Nat) (hs : a.eval s = .slice A n c) (e0 : TypeId) (hown : Ow w e0 size A n c xs g)
    (A' : Option Addr) (m c' : Nat) (news : List Value) (hx : a.eval x = .slice A' m c') (hsrc : Sl w size A' m news) (h1 : ∀ u ∈ news, u.oneCell' = true)
    (h63 : n + m ≤ maxLen) (hbytes : (n + m) * bytes ≤ 140737488355328)
    (h : ∀ A2 c2 w2 g2 e2, Ow w2 e2 size A2 (n + m) c2 (xs ++ news) g2 → Fr (fun k => some k = g) w w2 → (g2 = g ∨ ∃ b, g2 = some b ∧ w.heap.size ≤ b) → wpList P ops Q rest (a.put o.dst (.slice A2 (n + m) c2)) w2) : wpList P ops Q (o :: rest) a w := by
  refine wpList_plain hgd fun K hK => ?_
  obtain ⟨A2, c2, w2, g2, e2, hrun, h2, h3, h4⟩ := run_append_ob (P := P) w t o.type e i z size bytes ht hi hz hsize hby hzs hsz A n c xs g e0 hown A' m c' news hsrc h1 h63 hbytes
  unfold Oper.wp execOp
  simp only [ho, resolve, invoke, builtin, Sem.run_bind, Sem.run_pure, Result.andThen_ok, List.map_toArray, List.map_cons, List.map_nil, hs, hx, hrun]
  exact hK _ _ (h A2 c2 w2 g2 e2 h2 h3 h4)
end
/-- The marks behind a slice that is lent. -/
def marks (k : Nat) : List Nat := (List.range k).map (201 + ·)
theorem marks_succ (k : Nat) : marks (k + 1) = marks k ++ [201 + k] := by simp [marks, List.range_succ]
theorem marks_len (k : Nat) : (marks k).length = k := by simp [marks]
/-- Behind lent: the bytes xs in memory of their own, the marks behind them. -/
def Lent (w : World) (A : Option Addr) (n c : Nat) (xs : List Nat) (g : Nat) : Prop := Ow w 5 1 A (n + 5) c ((xs ++ marks 5).map bn) (some g)
def LentPost (n : Nat) (xs : List Nat) (w : World) (e : Ending) (w' : World) : Prop :=
  ∃ A c g, e = .returned (.slice A n c) ∧ Lent w' A n c xs g ∧ w.heap.size ≤ g ∧ Fr (fun _ => False) w w'

theorem fr_of_drewN {w w' : World} (h : ∃ m, w' = w.drewN m) : Fr (fun _ => False) w w' := by obtain ⟨m, rfl⟩ := h; exact (Fr.refl _ _).drewN _

theorem quiet_ex {P : Program} {f : FuncId} {args : Array Value} {w : World} {n : Nat} {v : Value}
    (h : Calls P f args (w.drewN n) fun e w' => e = .returned v ∧ ∃ m, w' = (w.drewN n).drewN m) : Calls P f args (w.drewN n) fun e w'' => e = .returned v ∧ ∃ m, w'' = w.drewN m := Calls.quiet_of h

/-- A sector of one byte. -/
def FullPost (b : Nat) (w : World) (e : Ending) (w' : World) : Prop :=
  ∃ A c g, e = .returned (.slice A 64 c) ∧ Ow w' 5 1 A 64 c ((List.replicate 64 b).map bn) (some g) ∧ w.heap.size ≤ g ∧ Fr (fun _ => False) w w'
end Go.Proofs.Ytchajbiloaiekaa

