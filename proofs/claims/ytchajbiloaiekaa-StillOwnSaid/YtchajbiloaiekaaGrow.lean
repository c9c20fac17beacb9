/-
  append, told cell by cell: what stands ahead of the slice's end stays (TF). Readable slices that outlive it (Safe).
-/
import Derived.Test.YtchajbiloaiekaaOwn
namespace Go.Proofs.Ytchajbiloaiekaa
open Go.RowKit
set_option linter.unusedVariables false

/-- Cells that were there stay, but those behind the end of the slice at A. -/
def TF (A : Option Addr) (n : Nat) (w w' : World) : Prop :=
  ∀ b o, b < w.heap.size → (∀ b' o', A = some ⟨b', o', none⟩ → b = b' → o < o' + n) → w'.cell? ⟨b, o, none⟩ = w.cell? ⟨b, o, none⟩
theorem TF.ofFr {A : Option Addr} {n : Nat} {w w' : World} (h : Fr (fun _ => False) w w') : TF A n w w' := fun b o hb _ => h.cell (p := ⟨b, o, none⟩) hb id
theorem TF.pre {A : Option Addr} {n : Nat} {w w1 w2 : World} (h : Fr (fun _ => False) w w1) (k : TF A n w1 w2) : TF A n w w2 := fun b o hb hA =>
  (k b o (Nat.lt_of_lt_of_le hb h.size) hA).trans (h.cell (p := ⟨b, o, none⟩) hb id)
section
variable {P : Program} (w : World)
theorem run_append_tf (t ty e : TypeId) (i : TypeInfo) (z : Value) (bytes : Nat) (ht : P.underlying t = some (.slice e)) (hi : P.info? e = some i) (hz : i.zero = some z)
    (hsize : i.size = 1) (hby : i.bytes = bytes) (hzs : z.cells.size = 1)
    (A : Option Addr) (n c : Nat) (xs : List Value) (g : Option Nat) (hown : Ow w e 1 A n c xs g)
    (A' : Option Addr) (m c' : Nat) (news : List Value) (hsrc : Sl w 1 A' m news) (h1 : ∀ u ∈ news, u.oneCell' = true)
    (h63 : n + m ≤ maxLen) (hbytes : (n + m) * bytes ≤ 140737488355328) :
    ∃ A2 c2 w2 g2, (Builtin.append_ #[t, t] ty #[.slice A n c, .slice A' m c']).run P w = .ok (.slice A2 (n + m) c2) w2 ∧ Ow w2 e 1 A2 (n + m) c2 (xs ++ news) g2 ∧ Fr (fun k => some k = g) w w2 ∧ (g2 = g ∧ A2 = A ∨ (∃ b, g2 = some b ∧ w.heap.size ≤ b)) ∧ TF A n w w2 := by
  have hlx := hown.1
  have hln := hsrc.1
  by_cases hm : m = 0
  · subst hm
    have hn : news = [] := List.eq_nil_of_length_eq_zero (by simpa using hln)
    subst hn
    have hcap := hown.cap
    refine ⟨A, c, w, g, ?_, by simpa using hown, Fr.refl _ _, .inl ⟨rfl, rfl⟩, TF.ofFr (Fr.refl _ _)⟩
    cases A <;> cases A' <;> simp [Builtin.append_, run_underlying ht, sizeOf, typeInfo, hi, Builtin.lenOf, Builtin.firstCells, hcap.1, storeCells, loadCells, loadCellsFrom]
  · obtain ⟨b', o', rfl, hc'⟩ := hsrc.2 (by omega)
    have hnews : ∀ j u, news[j]? = some u → w.cell? ((⟨b', o', none⟩ : Addr).add j) = some u := fun j u hu => by rw [Addr.add_lit]; exact hc' j u hu
    rcases hown.2 with ⟨rfl, rfl, rfl, rfl⟩ | ⟨b, o, cur, rfl, rfl, hh, h2, h3, h4, h5⟩
    · obtain rfl : xs = [] := List.eq_nil_of_length_eq_zero (by simpa using hlx)
      obtain ⟨v', w', hrun, r1, r2, _⟩ := run_append_own (P := P) w w.heap.size t ty e i z 1 bytes ht hi hz hsize hby hzs (by decide) (.slice none 0 0) 0 [] (World.ownsRow_nil w _ e 1) ⟨b', o', none⟩ m c' news hln hnews h1 h63 hbytes (Nat.le_refl _)
      obtain ⟨A2, c2, g2, rfl, ho, hb⟩ := Ow.ofOwns r1
      have hf0 : Fr (fun _ => False) w w' := (Fr.ofGrown r2).mono fun k hk e => by simp [Value.ownBlock] at e
      refine ⟨A2, c2, w', g2, hrun, ho, hf0.weak _, ?_, TF.ofFr hf0⟩
      cases g2 with
      | none =>
        rcases ho.2 with ⟨_, h0, _⟩ | ⟨bb, oo, cc, _, e, _⟩
        · omega
        · cases e
      | some x => exact .inr ⟨x, rfl, hb x rfl⟩
    · by_cases hr : n + m ≤ c
      · have hlast : o + n * 1 + news.length ≤ cur.size := by omega
        have hrun := run_append_room_cells (P := P) w t ty e i ht hi b o n c ⟨b', o', none⟩ m c' news (by rw [hsize]; exact hln) hnews h1 hr
          (fun j hj => by rw [hsize]; simp [World.cell?, hh]; omega) (fun j hj => by simp [World.frozen?, hh])
        rw [hsize] at hrun
        obtain ⟨cur', a1, a2, a3, a4⟩ := heap_setCells b news (o + n * 1) w cur e hh (fun _ _ => trivial)
        have hF := (fr_setCells b news (o + n * 1) w)
        refine ⟨_, _, _, _, hrun, ⟨by rw [List.length_append, hlx, hln, Nat.add_mul], .inr ⟨b, o, cur', rfl, rfl, a1, by rw [a2]; exact h2, hr, h4, fun j hj => ?_⟩⟩, hF.mono fun k _ e => by rw [e], .inl ⟨rfl, rfl⟩, fun b2 o2 hb2 hA => ?_⟩
        · by_cases hjn : j < n * 1
          · rw [a3 _ (.inl (by omega)), h5 j hjn, List.getElem?_append_left (by omega)]
          · have hjm : j - n * 1 < news.length := by rw [hln]; rw [Nat.add_mul] at hj; omega
            have := a4 hlast (j - n * 1) _ (List.getElem?_eq_getElem hjm)
            rw [show o + n * 1 + (j - n * 1) = o + j by omega] at this
            rw [this, List.getElem?_append_right (by omega), hlx, List.getElem?_eq_getElem hjm]
        · by_cases hbb : b2 = b
          · subst hbb
            have := hA b2 o rfl rfl
            simp only [World.cell?, a1, hh]
            rw [a3 o2 (.inl (by omega))]
          · exact hF.cell (p := ⟨b2, o2, none⟩) hb2 hbb
      · obtain ⟨v', w', hrun, r1, r2⟩ := run_append_arg_grows (P := P) w t ty e i z 1 bytes ht hi hz hsize hby hzs (by decide) ⟨b, o, none⟩ n c xs hlx (fun j u hu => by
            rw [Addr.add_lit]
            have hj : j < n * 1 := by rw [← hlx]; exact (List.getElem?_eq_some_iff.1 hu).1
            simp [World.cell?, hh, h5 j hj, hu]) ⟨b', o', none⟩ m c' news hln hnews (by omega) h63 hbytes
        obtain ⟨A2, c2, g2, rfl, ho, hb⟩ := Ow.ofOwns r1
        have hf0 : Fr (fun _ => False) w w' := (Fr.ofGrown r2).mono fun k hk e => by simp at e
        refine ⟨A2, c2, w', g2, hrun, ho, hf0.weak _, ?_, TF.ofFr hf0⟩
        rcases ho.2 with ⟨_, h0, _⟩ | ⟨bb, oo, cc, _, rfl, _⟩
        · omega
        · exact .inr ⟨bb, rfl, hb bb rfl⟩

theorem wpList_append_tf {ops : Array Oper} {rest : List Oper} {o : Oper} {a : Act} {Q : Exit → Act → World → Prop} (hgd : o.guard = none) (s x : Operand) (t : TypeId)
    (ho : o.op = .call { callee := .builtin .append, args := #[s, x], argTypes := #[t, t] })
    (e : TypeId) (i : TypeInfo) (z : Value) (bytes : Nat) (ht : P.underlying t = some (.slice e)) (hi : P.info? e = some i) (hz : i.zero = some z)
    (hsize : i.size = 1) (hby : i.bytes = bytes) (hzs : z.cells.size = 1)
    (A : Option Addr) (n c : Nat) (xs : List Value) (g : Option Nat) (hs : a.eval s = .slice A n c) (hown : Ow w e 1 A n c xs g)
    (A' : Option Addr) (m c' : Nat) (news : List Value) (hx : a.eval x = .slice A' m c') (hsrc : Sl w 1 A' m news) (h1 : ∀ u ∈ news, u.oneCell' = true)
    (h63 : n + m ≤ maxLen) (hbytes : (n + m) * bytes ≤ 140737488355328)
    (h : ∀ A2 c2 w2 g2, Ow w2 e 1 A2 (n + m) c2 (xs ++ news) g2 → Fr (fun k => some k = g) w w2 → (g2 = g ∧ A2 = A ∨ (∃ b, g2 = some b ∧ w.heap.size ≤ b)) → TF A n w w2 → wpList P ops Q rest (a.put o.dst (.slice A2 (n + m) c2)) w2) : wpList P ops Q (o :: rest) a w := by
  refine wpList_plain hgd fun K hK => ?_
  obtain ⟨A2, c2, w2, g2, hrun, h2, h3, h4, h5⟩ := run_append_tf (P := P) w t o.type e i z bytes ht hi hz hsize hby hzs A n c xs g hown A' m c' news hsrc h1 h63 hbytes
  unfold Oper.wp execOp
  simp only [ho, resolve, invoke, builtin, Sem.run_bind, Sem.run_pure, Result.andThen_ok, List.map_toArray, List.map_cons, List.map_nil, hs, hx, hrun]
  exact hK _ _ (h A2 c2 w2 g2 h2 h3 h4 h5)
end

/-- A slice that is only read from now on: its address, its length, what it holds. -/
structure RSl where
  A : Option Addr
  n : Nat
  xs : List Value
/-- It reads, and what is written at X's end does not touch it. -/
def RSl.Ok (w : World) (r : RSl) : Prop := Sl w 1 r.A r.n r.xs ∧ ∀ b o, r.A = some ⟨b, o, none⟩ → 0 < r.n → b < w.heap.size
/-- Writes behind the end of X's n elements leave r as it is. -/
def RSl.Clear (r : RSl) (X : Option Addr) (n : Nat) : Prop := ∀ b o b' o', 0 < r.n → r.A = some ⟨b, o, none⟩ → X = some ⟨b', o', none⟩ → b = b' → o = o' ∧ r.n ≤ n
theorem RSl.tf {w w' : World} {r : RSl} {X : Option Addr} {n : Nat} (h : r.Ok w) (hc : r.Clear X n) (ht : TF X n w w') (hs : w.heap.size ≤ w'.heap.size) : r.Ok w' := by
  refine ⟨⟨h.1.1, fun hn => ?_⟩, fun b o e h0 => Nat.lt_of_lt_of_le (h.2 b o e h0) hs⟩
  obtain ⟨b, o, hA, hcell⟩ := h.1.2 hn
  refine ⟨b, o, hA, fun j u hu => ?_⟩
  have hj : j < r.n := by
    have h1 := (List.getElem?_eq_some_iff.1 hu).1
    rw [h.1.1] at h1; omega
  refine (ht b (o + j) (h.2 b o hA hn) fun b' o' hX hb => ?_).trans (hcell j u hu)
  obtain ⟨h1, h2⟩ := hc b o b' o' hn hA hX hb
  omega
theorem RSl.fr {w w' : World} {r : RSl} {S : Nat → Prop} (h : r.Ok w) (hf : Fr S w w') (hS : ∀ b o, 0 < r.n → r.A = some ⟨b, o, none⟩ → ¬ S b) : r.Ok w' := by
  refine ⟨⟨h.1.1, fun hn => ?_⟩, fun b o e h0 => Nat.lt_of_lt_of_le (h.2 b o e h0) hf.size⟩
  obtain ⟨b, o, hA, hcell⟩ := h.1.2 hn
  exact ⟨b, o, hA, fun j u hu => (hf.cell (p := ⟨b, o + j, none⟩) (h.2 b o hA hn) (hS b o hn hA)).trans (hcell j u hu)⟩
end Go.Proofs.Ytchajbiloaiekaa
