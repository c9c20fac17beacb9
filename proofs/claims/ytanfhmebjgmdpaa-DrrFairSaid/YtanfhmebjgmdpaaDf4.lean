/-
  DrrFair: between two steps of the script.
-/
import Derived.Test.YtanfhmebjgmdpaaDf2
namespace Go.Proofs.Ytanfhmebjgmdpaa.Qj
open Go.RowKit
set_option linter.unusedVariables false
set_option linter.unusedSimpArgs false
def LvB (lv : Bool) (one two : Int) (s : DS X) (a b : Nat) : Prop :=
  lv = true → ∃ K da db, (0 ≤ da ∧ da ≤ 7) ∧ (0 ≤ db ∧ db ≤ 7) ∧ DueB K da one s a ∧ DueB K db two s b ∧ NE s a ∧ NE s b
structure FT (w0 : World) (q : FQ) (ps : Array Value) (d L n room : Nat) (quantum : Int) (a b m : Nat) (s : DS X) (ds : List Deferred) (one two : Int) (lv : Bool) (W : World) : Prop where
  fo : FO q ps d n room quantum a b one two lv W
  dr : DrrAt W d L 7 s
  fb : FB n quantum s
  nb : s.busy = false
  rm : s.room = room
  b1 : BdB m one s a
  b2 : BdB m two s b
  lv : LvB lv one two s a b
  fr : Fr (fun _ => False) w0 W
  fd : ∀ x, drfoot d L s x → w0.heap.size ≤ x
  f3 : w0.heap.size ≤ q.ob ∧ w0.heap.size ≤ q.tb ∧ w0.heap.size ≤ q.vb
  ma : Marks w0.heap.size W ds
section
variable {w0 W W' : World} {q : FQ} {ps : Array Value} {d L n room : Nat} {quantum : Int} {a b m : Nat} {s : DS X} {ds : List Deferred} {one two : Int} {lv : Bool}
theorem BdB.more {one : Int} (h : BdB m one s a) : BdB (m + 1) one s a := ⟨h.1, fun l hl => by have := h.2 l hl; push_cast; omega⟩
theorem FT.more (h : FT w0 q ps d L n room quantum a b m s ds one two lv W) : FT w0 q ps d L n room quantum a b (m + 1) s ds one two lv W :=
  ⟨h.fo, h.dr, h.fb, h.nb, h.rm, h.b1.more, h.b2.more, h.lv, h.fr, h.fd, h.f3, h.ma⟩
theorem FT.quiet (h : FT w0 q ps d L n room quantum a b m s ds one two lv W) (hf : Fr (fun _ => False) W W') : FT w0 q ps d L n room quantum a b m s ds one two lv W' :=
  ⟨h.fo.keep hf (fun _ _ _ _ _ => id), h.dr.quiet hf, h.fb, h.nb, h.rm, h.b1, h.b2, h.lv, h.fr.trans hf, h.fd, h.f3, h.ma.keep hf fun _ e => e.elim⟩
theorem put_foot2 {i : Nat} {l : LN X} {ts : List X} {g' : Option Nat} (hl : s.lines[i]? = some l) {y : Nat} (h : drfoot d L (s.put i { l with things := ts, g := g' }) y) : drfoot d L s y ∨ some y = g' := by
  have hi : i < s.lines.length := (List.getElem?_eq_some_iff.1 hl).1
  rcases h with rfl | rfl | ⟨b, hb, hx⟩
  · exact .inl (.inl rfl)
  · exact .inl (.inr (.inl rfl))
  · obtain ⟨k, hk⟩ := List.mem_iff_getElem?.1 hb
    have h2 : (s.lines.set i { l with things := ts, g := g' })[k]? = some b := hk
    by_cases hki : k = i
    · subst hki
      rw [List.getElem?_set_self hi] at h2
      cases h2
      rcases hx with hx | hx
      · exact .inl (.inr (.inr ⟨l, List.mem_of_getElem? hl, .inl hx⟩))
      · exact .inr hx
    · rw [List.getElem?_set_ne (fun e => hki e.symm)] at h2
      exact .inl (.inr (.inr ⟨b, List.mem_of_getElem? h2, hx⟩))
/-- From here on. -/
theorem FT.from (h : FT w0 q ps d L n room quantum a b m s ds one two lv W) (hq : q.Ok) (ha : a < n) (hb : b < n) {lv' : Bool} (hl : lv' = true → NE s a ∧ NE s b) (hf : Fr (fun x => x = q.ob ∨ x = q.tb ∨ x = q.vb) W W')
    (ho : Bl W' q.ob tInt #[.int .i64 0]) (ht : Bl W' q.tb tInt #[.int .i64 0]) (hv : Bl W' q.vb tBool #[.bool lv']) : FT w0 q ps d L n room quantum a b m s ds 0 0 lv' W' := by
  have hty : ∀ x, x = q.ob ∨ x = q.tb ∨ x = q.vb → ∃ t cs, Bl W x t cs ∧ (t = tInt ∨ t = tBool) := fun x e => by
    rcases e with rfl | rfl | rfl
    · exact ⟨_, _, h.fo.o, .inl rfl⟩
    · exact ⟨_, _, h.fo.t, .inl rfl⟩
    · exact ⟨_, _, h.fo.v, .inr rfl⟩
  have fa := h.fb.from (m := m) (a := a) (one := one) (get_of h.fb.ll ha)
  have fb := h.fb.from (m := m) (a := b) (one := two) (get_of h.fb.ll hb)
  refine ⟨h.fo.put hq hf ho ht hv, h.dr.fr hf fun x hx e => ?_, h.fb, h.nb, h.rm, fa.2 h.b1, fb.2 h.b2, fun e => ?_, h.fr.comp hf fun x hx e => ?_, h.fd, h.f3, h.ma.keep hf fun x hx e => ?_⟩
  · obtain ⟨t, cs, hc, ht'⟩ := hty x e
    exact dr_ne2 h.dr hc (by rcases ht' with rfl | rfl <;> simp) hx
  · obtain ⟨na, nb⟩ := hl e
    obtain ⟨da, a1, a2, a3⟩ := fa.1
    obtain ⟨db, b1, b2, b3⟩ := fb.1
    exact ⟨0, da, db, ⟨a1, a2⟩, ⟨b1, b2⟩, a3, b3, na, nb⟩
  · obtain ⟨f1, f2, f3⟩ := h.f3
    rcases e with rfl | rfl | rfl <;> omega
  · obtain ⟨t, cs, hc, _⟩ := hty x hx
    unfold Bl at hc
    rw [hc] at e; cases e
/-- What Add makes of the server, taken or refused. -/
def AddRes (W : World) (d L : Nat) (s : DS X) (i : Nat) (c : Int) (W' : World) : Prop :=
  Fr (fun _ => False) W W' ∨ ∃ l, s.lines[i]? = some l ∧ AddOut W d L 7 s i l (((0 : Int), c), c) W'
theorem AddRes.later {W0 : World} {i : Nat} {c : Int} (hf : Fr (fun _ => False) W0 W) (hlt : ∀ x, drfoot d L s x → x < W0.heap.size) (h : AddRes W d L s i c W') : AddRes W0 d L s i c W' := by
  rcases h with h | ⟨l, hl, g', hat, h2, hg⟩
  · exact .inl (hf.trans h)
  · exact .inr ⟨l, hl, g', hat, (hf.weak _).trans h2, hg.imp id fun ⟨b, e, hb⟩ => ⟨b, e, Nat.le_trans hf.size hb⟩⟩
theorem AddRes.op {i : Nat} {c : Int} {x : Nat} {cs : Array Value} (hd : DrrAt W d L 7 s) {t : TypeId} (ht : t = tOp ∨ t = tPD ∨ t = tShape) (h : AddRes W d L s i c W') (hb : Bl W x t cs) : Bl W' x t cs := by
  rcases h with h | ⟨l, hl, g', hat, h2, hg⟩
  · exact hb.fr h id
  · exact hb.fr h2 (dr_ne2 hd hb (by rcases ht with rfl | rfl | rfl <;> simp))
theorem Add_res (h : DrrAt W d L 7 s) {i : Nat} (hi : i < s.lines.length) (hb : s.busy = false) {c : Int} (hc : 1 ≤ c ∧ c ≤ 8) :
    Calls Try.prog 11 #[.pointer (some ⟨d, 0, none⟩), .int .i64 (i : Int), .int .i64 c, .agg #[.int .i64 0, .int .i64 c]] W fun e W' => (∃ v, e = .returned v) ∧ AddRes W d L s i c W' := by
  obtain ⟨l, hl⟩ : ∃ l, s.lines[i]? = some l := ⟨_, List.getElem?_eq_getElem hi⟩
  by_cases hr : s.room ≤ l.things.length
  · exact (Add_full W h i l (((0 : Int), c), c) hl hb hc hr).mono fun e W' ⟨he, hf⟩ => ⟨⟨_, he⟩, .inl hf⟩
  · exact (Add_ok W h i l (((0 : Int), c), c) hl hb hc (by omega)).mono fun e W' ⟨he, hf⟩ => ⟨⟨_, he⟩, .inr ⟨l, hl, hf⟩⟩
theorem FT.add {i : Nat} {c : Int} (h : FT w0 q ps d L n room quantum a b m s ds one two lv W) (ho : AddRes W d L s i c W') : ∃ s', FT w0 q ps d L n room quantum a b (m + 1) s' ds one two lv W' := by
  rcases ho with hf | ⟨l, hl, g', hat, hf, hg⟩
  · exact ⟨s, (h.quiet hf).more⟩
  · have fa := fun (K d0 : Int) => h.fb.add (K := K) (d0 := d0) (one := one) (a := a) (m := m) hl c g'
    have fb := fun (K d0 : Int) => h.fb.add (K := K) (d0 := d0) (one := two) (a := b) (m := m) hl c g'
    refine ⟨_, h.fo.keep hf fun x t cs hb ht => dr_ne2 h.dr hb (by rcases ht with rfl | rfl | rfl | rfl | rfl <;> simp), hat, (fa 0 0).1, h.nb, h.rm, (fa 0 0).2.2 h.b1, (fb 0 0).2.2 h.b2, fun e => ?_, h.fr.comp hf fun x hx e => (by have := h.fd x e; omega), fun x hx => ?_, h.f3, h.ma.keep hf fun x hx e => ?_⟩
    · obtain ⟨K, da, db, g1, g2, g3, g4, g5, g6⟩ := h.lv e
      have ra := (fa K da).2.1 g3 g5
      have rb := (fb K db).2.1 g4 g6
      exact ⟨K, da, db, g1, g2, ra.1, rb.1, ra.2, rb.2⟩
    · rcases put_foot2 hl hx with hx | hx
      · exact h.fd x hx
      · rcases hg with e | ⟨y, e, hy⟩
        · exact h.fd x (.inr (.inr ⟨l, List.mem_of_getElem? hl, .inr (hx.trans e)⟩))
        · have h5 : some x = some y := hx.trans e
          cases h5
          have := h.fr.size; omega
    · obtain ⟨t, cs, hc, _⟩ := h.dr.ty hx
      unfold Bl at hc
      rw [hc] at e; cases e
/-- A round begins. -/
theorem FT.begin {bx : Nat} (hq : 8 ≤ quantum) (h : FT w0 q ps d L n room quantum a b m s ds one two lv W) (hbx : Bl W bx tPD #[.pointer (some ⟨d, 0, none⟩)]) :
    FJs w0 q ps bx d L n room quantum a b m s ds W.heap.size ⟨s, 0, false, none, false⟩ W := by
  have st := fun (K d0 one : Int) (a : Nat) => h.fb.start (K := K) (d0 := d0) (one := one) (a := a) (m := m) hq
  refine ⟨fun d hd r e => (h.ma.lt d hd r e).1, one, two, lv, ⟨h.dr.up (by omega) (by omega), hbx, ⟨fun j l hl _ => (h.dr.ok.df l (List.mem_of_getElem? hl)).2⟩, fun e => (by cases e)⟩, (st 0 0 0 0).1, h.fo, (st 0 0 one a).2.2 h.b1, (st 0 0 two b).2.2 h.b2, fun e => ?_, fun e => (by cases e), Alike.refl _, h.fr, h.fd, h.f3, h.ma⟩
  obtain ⟨K, da, db, g1, g2, g3, g4, g5, g6⟩ := h.lv e
  exact ⟨K, da, db, g1, g2, (st K da one a).2.1 g3, (st K db two b).2.1 g4, fun _ => ⟨g5, g6⟩⟩
/-- A round is over. -/
theorem FJs.done {bx D B : Nat} {r : RSt X} (hq : 8 ≤ quantum) (hrm : s.room = room) (hf : r.fin = true) (h : FJs w0 q ps bx d L n room quantum a b m s ds B r W) (hD : B ≤ D) (hB0 : w0.heap.size ≤ B) (hW : W.heap[D]? = some (.deferred (some []))) :
    ∃ one two lv, FT w0 q ps d L n room quantum a b m r.s ({ target := .collected D, args := #[] } :: ds) one two lv W ∧ (lv = true → one - two < 16 ∧ two - one < 16) := by
  obtain ⟨hB, one, two, lv, h⟩ := h
  have hp : r.pend = none := by
    cases hp : r.pend with
    | none => rfl
    | some v =>
      obtain ⟨_, _, h3, _⟩ := h.fi.pend v.1 v.2 hp
      rw [hf] at h3; cases h3
  have dn := fun (K d0 one : Int) (a : Nat) => h.fi.done (K := K) (d0 := d0) (one := one) (a := a) (m := m) hp hf
  refine ⟨one, two, lv, ⟨h.fo, h.rh.at_.down xc (by omega) (by omega) (fun l hl => ?_), (dn 0 0 0 0).1, h.nb hf, h.al.1.trans hrm, (dn 0 0 one a).2.2 h.b1, (dn 0 0 two b).2.2 h.b2, fun e => ?_, h.fr, fun x hx => h.fd x ((h.al.2.2.2 d L x).1 hx), h.f3, ⟨⟨D, Nat.le_trans hB0 hD, rfl, hW, fun d' hd e => ?_⟩, h.ma⟩⟩, fun e => ?_⟩
  · obtain ⟨i, hi⟩ := List.mem_iff_getElem?.1 hl
    exact ((dn 0 0 0 0).1.df i l hi).2
  · obtain ⟨K, da, db, g1, g2, g3, g4, g5⟩ := h.lv e
    obtain ⟨na, nb⟩ := g5 hp
    exact ⟨K + quantum, da, db, g1, g2, (dn K da one a).2.1 g3, (dn K db two b).2.1 g4, na, nb⟩
  · have := hB d' hd D e; omega
  · obtain ⟨K, da, db, g1, g2, g3, g4, g5⟩ := h.lv e
    obtain ⟨na, nb⟩ := g5 hp
    exact (h.fi.gap hp hq g3 g4 na nb g1 g2).2.2 hf
end
end Go.Proofs.Ytanfhmebjgmdpaa.Qj
