/-
  DrrFair: the walk's own things in memory; marks.
-/
import Derived.Test.YtanfhmebjgmdpaaDf1
import Derived.Test.YtanfhmebjgmdpaaDr8
namespace Go.Proofs.Ytanfhmebjgmdpaa.Qj
open Go.RowKit
set_option linter.unusedVariables false
set_option linter.unusedSimpArgs false
abbrev tPair : TypeId := 46
abbrev tOp : TypeId := 35
theorem dr_ne2 {w : World} {d L x : Nat} {D : Int} {s : DS X} {t : TypeId} {cs : Array Value} (h : DrrAt w d L D s) (hb : Bl w x t cs) (ht : t = tPair ∨ t = tOp ∨ t = tInt ∨ t = tBool ∨ t = tShape ∨ t = 39 ∨ t = tPD) : ¬ drfoot d L s x := fun e => by
  obtain ⟨t', cs', hc, ht'⟩ := h.ty e
  have := (hb.same hc).2
  subst this
  rcases ht with rfl | rfl | rfl | rfl | rfl | rfl | rfl <;> (revert ht'; decide)
/-- The marks of the rounds that were run. -/
def Marks (lo : Nat) (W : World) : List Deferred → Prop
  | [] => True
  | d :: ds => (∃ r, lo ≤ r ∧ d = { target := .collected r, args := #[] } ∧ W.heap[r]? = some (.deferred (some [])) ∧ ∀ d' ∈ ds, d'.target ≠ .collected r) ∧ Marks lo W ds
theorem Marks.keep {lo : Nat} {W W' : World} {S : Nat → Prop} (hf : Fr S W W') (hS : ∀ x, S x → W.heap[x]? ≠ some (.deferred (some []))) : ∀ {ds : List Deferred}, Marks lo W ds → Marks lo W' ds
  | [], _ => trivial
  | d :: ds, ⟨⟨r, hlo, e, hr, hn⟩, h⟩ => ⟨⟨r, hlo, e, (hf.block r (Array.getElem?_eq_some_iff.1 hr).1 (fun hs => hS r hs hr)).trans hr, hn⟩, Marks.keep hf hS h⟩
theorem Marks.lt {lo : Nat} {W : World} : ∀ {ds : List Deferred}, Marks lo W ds → ∀ d ∈ ds, ∀ r, d.target = .collected r → r < W.heap.size ∧ W.heap[r]? = some (.deferred (some []))
  | [], _, d, h, _, _ => by cases h
  | d :: ds, ⟨⟨r, hlo, e, hr, hn⟩, h⟩, d', hd, r', e' => by
    rcases List.mem_cons.1 hd with rfl | hd
    · subst e
      have e2 : (Target.collected r) = .collected r' := e'
      cases e2
      exact ⟨(Array.getElem?_eq_some_iff.1 hr).1, hr⟩
    · exact Marks.lt h d' hd r' e'
theorem leave_marks {lo : Nat} {F : Fence} {n : Nat} {P : Program} {fn : Func} {tmps : Array Value} {R : Ending → World → Prop} : ∀ (ds : List Deferred) (W : World), Marks lo W ds →
    (∀ W', Fr (fun x => lo ≤ x ∧ W.heap[x]? = some (.deferred (some []))) W W' → LeavesIn F n P fn tmps R [] .returning W') → LeavesInM F n P fn tmps R ds .returning W
  | [], W, _, h => h W (Fr.refl _ _)
  | d :: ds, W, ⟨⟨r, hlo, e, hr, hn⟩, hm⟩, h => by
    subst e
    have hf : Fr (fun x => x = r) W (W.putObj r (.deferred none)) := (Fr.ofGrown (grownBy_putObj' W r _)).mono fun x _ e => by cases e; rfl
    have hm2 : Marks lo (W.putObj r (.deferred none)) ds := by
      clear h
      have : ∀ (ds' : List Deferred), (∀ d' ∈ ds', d'.target ≠ .collected r) → Marks lo W ds' → Marks lo (W.putObj r (.deferred none)) ds' := by
        intro ds'
        induction ds' with
        | nil => intro _ _; trivial
        | cons d' ds' ih =>
          rintro hn' ⟨⟨r', hlo', e', hr', hn2⟩, hm'⟩
          have hne : r' ≠ r := fun e => hn' d' List.mem_cons_self (by rw [e', e])
          exact ⟨⟨r', hlo', e', (hf.block r' (Array.getElem?_eq_some_iff.1 hr').1 hne).trans hr', hn2⟩, ih (fun d'' hd => hn' d'' (List.mem_cons_of_mem _ hd)) hm'⟩
      exact this ds hn hm
    refine ⟨by simp, .inl ⟨r, _, rfl, run_takeDeferred hr, leave_marks ds _ hm2 fun W' hf' => h W' (((hf.mono fun x _ e => by rw [e]; exact ⟨hlo, hr⟩)).comp hf' fun x hx e => ?_)⟩⟩
    by_cases hxr : x = r
    · rw [hxr]; exact ⟨hlo, hr⟩
    · have h1 := hf.block x hx hxr
      rw [h1] at e; exact e
/-- Where the walk's own things lie. -/
structure FQ where
  sp : Nat
  rb : Nat
  db : Nat
  yb : Nat
  ab : Nat
  bb : Nat
  ob : Nat
  tb : Nat
  vb : Nat
structure FQ.Ok (q : FQ) : Prop where
  n1 : q.ob ≠ q.tb
  n2 : q.ab ≠ q.ob
  n3 : q.bb ≠ q.ob
  n4 : q.ab ≠ q.tb
  n5 : q.bb ≠ q.tb
  n6 : q.rb ≠ q.vb
/-- The walk's own things. -/
structure FO (q : FQ) (ps : Array Value) (d n : Nat) (room quantum : Int) (a b : Nat) (one two : Int) (lv : Bool) (W : World) : Prop where
  p : Bl W q.sp tPair ps
  r : Bl W q.rb tBool #[.bool false]
  d : Bl W q.db tPD #[.pointer (some ⟨d, 0, none⟩)]
  y : Bl W q.yb tShape #[.int .i64 (n : Int), .int .i64 room, .int .i64 quantum]
  a : Bl W q.ab tInt #[.int .i64 (a : Int)]
  b : Bl W q.bb tInt #[.int .i64 (b : Int)]
  o : Bl W q.ob tInt #[.int .i64 one]
  t : Bl W q.tb tInt #[.int .i64 two]
  v : Bl W q.vb tBool #[.bool lv]
section
variable {q : FQ} {ps : Array Value} {d n : Nat} {room quantum : Int} {a b : Nat} {one two : Int} {lv : Bool} {W W' : World}
theorem FO.keep {S : Nat → Prop} (h : FO q ps d n room quantum a b one two lv W) (hf : Fr S W W') (hS : ∀ x t cs, Bl W x t cs → t = tPair ∨ t = tBool ∨ t = tPD ∨ t = tShape ∨ t = tInt → ¬ S x) : FO q ps d n room quantum a b one two lv W' :=
  ⟨h.p.fr hf (hS _ _ _ h.p (by simp)), h.r.fr hf (hS _ _ _ h.r (by simp)), h.d.fr hf (hS _ _ _ h.d (by simp)), h.y.fr hf (hS _ _ _ h.y (by simp)), h.a.fr hf (hS _ _ _ h.a (by simp)), h.b.fr hf (hS _ _ _ h.b (by simp)), h.o.fr hf (hS _ _ _ h.o (by simp)), h.t.fr hf (hS _ _ _ h.t (by simp)), h.v.fr hf (hS _ _ _ h.v (by simp))⟩
/-- The numbers are turned. -/
theorem FO.put (h : FO q ps d n room quantum a b one two lv W) (hq : q.Ok) (hf : Fr (fun x => x = q.ob ∨ x = q.tb ∨ x = q.vb) W W') {one' two' : Int} {lv' : Bool} (ho : Bl W' q.ob tInt #[.int .i64 one']) (ht : Bl W' q.tb tInt #[.int .i64 two']) (hv : Bl W' q.vb tBool #[.bool lv']) :
    FO q ps d n room quantum a b one' two' lv' W' := by
  have hn : ∀ {x t cs}, Bl W x t cs → t ≠ tInt → t ≠ tBool → ¬ (x = q.ob ∨ x = q.tb ∨ x = q.vb) := fun {x t cs} hb h1 h2 e => by
    rcases e with rfl | rfl | rfl
    · exact h1 (hb.same h.o).2
    · exact h1 (hb.same h.t).2
    · exact h2 (hb.same h.v).2
  refine ⟨h.p.fr hf (hn h.p (by decide) (by decide)), h.r.fr hf fun e => ?_, h.d.fr hf (hn h.d (by decide) (by decide)), h.y.fr hf (hn h.y (by decide) (by decide)), h.a.fr hf fun e => ?_, h.b.fr hf fun e => ?_, ho, ht, hv⟩
  · rcases e with e | e | e
    · exact h.r.apart h.o (by decide) e
    · exact h.r.apart h.t (by decide) e
    · exact hq.n6 e
  · rcases e with e | e | e
    · exact hq.n2 e
    · exact hq.n4 e
    · exact h.a.apart h.v (by decide) e
  · rcases e with e | e | e
    · exact hq.n3 e
    · exact hq.n5 e
    · exact h.b.apart h.v (by decide) e
end
theorem go_lines (r : RSt X) {D : Int} (hok : r.s.Ok xc D) (hk : r.vis = true → r.k < r.s.lines.length) (hp : (r.go xc).pend = none) : (r.go xc).s.lines = r.s.lines := by
  rcases go_cases r hok hk with ⟨l, x, t, _, _, _, _, hg⟩ | ⟨_, ⟨k', l, x, t, _, _, _, _, s1, _, _, hg⟩ | ⟨_, s1, k', h1, _, hg⟩⟩
  · rw [hg] at hp; cases hp
  · rw [hg] at hp; cases hp
  · rw [hg]; exact h1
/-- While both are never empty. -/
def LvR (lv : Bool) (quantum one two : Int) (r : RSt X) (a b : Nat) : Prop :=
  lv = true → ∃ K da db, (0 ≤ da ∧ da ≤ 7) ∧ (0 ≤ db ∧ db ≤ 7) ∧ Due K da quantum one r a ∧ Due K db quantum two r b ∧ (r.pend = none → NE r.s a ∧ NE r.s b)
/-- The round's invariant. -/
structure FJ (w0 : World) (q : FQ) (ps : Array Value) (bx d L n : Nat) (room quantum : Int) (a b m : Nat) (s0 : DS X) (ds : List Deferred) (one two : Int) (lv : Bool) (r : RSt X) (W : World) : Prop where
  rh : RH bx d L 7 r W
  fi : FI n quantum r
  fo : FO q ps d n room quantum a b one two lv W
  b1 : Bd m one r a
  b2 : Bd m two r b
  lv : LvR lv quantum one two r a b
  nb : r.fin = true → r.s.busy = false
  al : Alike s0 r.s
  fr : Fr (fun _ => False) w0 W
  fd : ∀ x, drfoot d L s0 x → w0.heap.size ≤ x
  f3 : w0.heap.size ≤ q.ob ∧ w0.heap.size ≤ q.tb ∧ w0.heap.size ≤ q.vb
  ma : Marks w0.heap.size W ds
def FJs (w0 : World) (q : FQ) (ps : Array Value) (bx d L n : Nat) (room quantum : Int) (a b m : Nat) (s0 : DS X) (ds : List Deferred) (B : Nat) (r : RSt X) (W : World) : Prop :=
  (∀ d ∈ ds, ∀ r, d.target = .collected r → r < B) ∧ ∃ one two lv, FJ w0 q ps bx d L n room quantum a b m s0 ds one two lv r W
section
variable {w0 : World} {q : FQ} {ps : Array Value} {bx d L n : Nat} {room quantum : Int} {a b m : Nat} {s0 : DS X} {ds : List Deferred} {B : Nat}
theorem FJs.turn (hq : 8 ≤ quantum) {r r' : RSt X} {W W' : World} (h : FJs w0 q ps bx d L n room quantum a b m s0 ds B r W) (ht : TnY bx d L 7 r W r' W') : FJs w0 q ps bx d L n room quantum a b m s0 ds B r' W' ∧ ∀ C, KeepsFrom C W W' := by
  obtain ⟨hB, one, two, lv, h⟩ := h
  obtain ⟨hp, hfin, rfl, hrh', hfr⟩ := ht
  have hal := go_alike xc r
  have hft : ∀ x, drfoot d L r.s x → w0.heap.size ≤ x := fun x hx => h.fd x ((h.al.2.2.2 d L x).1 hx)
  refine ⟨⟨hB, one, two, lv, hrh', (h.fi.turn (K := 0) (d0 := 0) (one := 0) (a := a) (m := 0) hp hfin h.rh.at_.ok hq).1, h.fo.keep hfr fun x t cs hb ht => dr_ne2 h.rh.at_ hb (by rcases ht with rfl | rfl | rfl | rfl | rfl <;> simp),
    (h.fi.turn (K := 0) (d0 := 0) hp hfin h.rh.at_.ok hq).2.2 h.b1, (h.fi.turn (K := 0) (d0 := 0) hp hfin h.rh.at_.ok hq).2.2 h.b2, fun hl => ?_, hal.2, h.al.trans hal.1, h.fr.comp hfr fun x hx e => by have := hft x e; omega, h.fd, h.f3, h.ma.keep hfr fun x hx e => ?_⟩, fun C => h.rh.at_.keeps hfr C⟩
  · obtain ⟨K, da, db, h1, h2, h3, h4, h5⟩ := h.lv hl
    obtain ⟨na, nb⟩ := h5 hp
    refine ⟨K, da, db, h1, h2, (h.fi.turn (m := 0) hp hfin h.rh.at_.ok hq).2.1 h3 na, (h.fi.turn (m := 0) hp hfin h.rh.at_.ok hq).2.1 h4 nb, fun hp' => ?_⟩
    have hln := go_lines r h.rh.at_.ok (fun e => by rw [h.fi.ll]; exact h.fi.visk e) hp'
    unfold NE
    rw [hln]
    exact ⟨na, nb⟩
  · obtain ⟨t, cs, hc, _⟩ := h.rh.at_.ty hx
    unfold Bl at hc
    rw [hc] at e; cases e
theorem FJs.own (hB : w0.heap.size ≤ B) : OwnFrom B (FJs w0 q ps bx d L n room quantum a b m s0 ds B) := by
  rintro r W W' row ⟨hBm, one, two, lv, h⟩ hg hr
  have hr' : ∀ r, row = some r → ∃ o : Obj, W.heap[r]? = some o ∧ o.isCells = false := fun r e => (hr r e).2
  refine ⟨hBm, one, two, lv, ⟨h.rh.at_.own hg hr', h.rh.box.own hg hr', h.rh.ok, h.rh.busy⟩, h.fi, h.fo.keep (Fr.ofGrown hg) fun x t cs hb _ => row_ne (W' := W') hb hr', h.b1, h.b2, h.lv, h.nb, h.al, h.fr.comp (Fr.ofGrown hg) fun k hk e => (by have := (hr k e.symm).1; omega), h.fd, h.f3, ?_⟩
  have : ∀ ds' : List Deferred, (∀ d ∈ ds', ∀ r, d.target = .collected r → r < B) → Marks w0.heap.size W ds' → Marks w0.heap.size W' ds' := by
    intro ds'
    induction ds' with
    | nil => intro _ _; trivial
    | cons d' ds' ih =>
      rintro hn' ⟨⟨r', hlo', e', hr1, hn2⟩, hm'⟩
      have hlt := hn' d' List.mem_cons_self r' (by rw [e'])
      exact ⟨⟨r', hlo', e', ((Fr.ofGrown hg).block r' (Array.getElem?_eq_some_iff.1 hr1).1 (fun e => by have := (hr r' e.symm).1; omega)).trans hr1, hn2⟩, ih (fun d'' hd => hn' d'' (List.mem_cons_of_mem _ hd)) hm'⟩
  exact this ds hBm h.ma
/-- A service is counted in memory. -/
theorem FJ.book (hq : q.Ok) {one two : Int} {lv lv' : Bool} {r : RSt X} {W W' : World} (hB : ∀ d ∈ ds, ∀ r, d.target = .collected r → r < B) (h : FJ w0 q ps bx d L n room quantum a b m s0 ds one two lv r W) {qk : Nat} {x : X} (hp : r.pend = some (qk, x)) (hl : lv' = true → lv = true ∧ NE r.s a ∧ NE r.s b)
    (hf : Fr (fun x => x = q.ob ∨ x = q.tb ∨ x = q.vb) W W') (ho : Bl W' q.ob tInt #[.int .i64 (one + if qk = a then x.1.2 else 0)]) (ht : Bl W' q.tb tInt #[.int .i64 (two + if qk = b then x.1.2 else 0)]) (hv : Bl W' q.vb tBool #[.bool lv']) :
    FJs w0 q ps bx d L n room quantum a b m s0 ds B { r with pend := none } W' ∧ KpY W W' ∧ ∀ C, KeepsFrom C W W' := by
  have hty : ∀ x, x = q.ob ∨ x = q.tb ∨ x = q.vb → ∃ t cs, Bl W x t cs ∧ (t = tInt ∨ t = tBool) := fun x e => by
    rcases e with rfl | rfl | rfl
    · exact ⟨_, _, h.fo.o, .inl rfl⟩
    · exact ⟨_, _, h.fo.t, .inl rfl⟩
    · exact ⟨_, _, h.fo.v, .inr rfl⟩
  have hne : ∀ {x t cs}, Bl W x t cs → t ≠ tInt → t ≠ tBool → ¬ (x = q.ob ∨ x = q.tb ∨ x = q.vb) := fun {x t cs} hb h1 h2 e => by
    obtain ⟨t', cs', hc, ht'⟩ := hty x e
    have := (hb.same hc).2
    rcases ht' with rfl | rfl
    · exact h1 this
    · exact h2 this
  refine ⟨⟨hB, _, _, lv', ⟨h.rh.at_.fr hf fun x hx e => ?_, h.rh.box.fr hf (hne h.rh.box (by decide) (by decide)), ⟨h.rh.ok.small⟩, h.rh.busy⟩, (h.fi.book (K := 0) (d0 := 0) (one := 0) (a := a) (m := 0) hp).1, h.fo.put hq hf ho ht hv, (h.fi.book (K := 0) (d0 := 0) hp).2.2 h.b1, (h.fi.book (K := 0) (d0 := 0) hp).2.2 h.b2, fun e => ?_, h.nb, h.al, h.fr.comp hf fun x hx e => ?_, h.fd, h.f3, h.ma.keep hf fun x hx e => ?_⟩, fun x cs hb => hb.fr hf (hne hb (by decide) (by decide)), fun C => hf.keepsFrom fun x hx => ?_⟩
  · obtain ⟨t, cs, hc, ht'⟩ := hty x e
    exact dr_ne2 h.rh.at_ hc (by rcases ht' with rfl | rfl <;> simp) hx
  · obtain ⟨e1, e2, e3⟩ := hl e
    obtain ⟨K, da, db, g1, g2, g3, g4, g5⟩ := h.lv e1
    exact ⟨K, da, db, g1, g2, (h.fi.book (m := 0) hp).2.1 g3, (h.fi.book (m := 0) hp).2.1 g4, fun _ => ⟨e2, e3⟩⟩
  · obtain ⟨f1, f2, f3⟩ := h.f3
    rcases e with rfl | rfl | rfl <;> omega
  · obtain ⟨t, cs, hc, _⟩ := hty x hx
    unfold Bl at hc
    rw [hc] at e; cases e
  · obtain ⟨t, cs, hc, _⟩ := hty x hx
    exact .inr ⟨_, _, _, hc⟩
theorem FJ.gap (hq : 8 ≤ quantum) {one two : Int} {lv : Bool} {r : RSt X} {W : World} (h : FJ w0 q ps bx d L n room quantum a b m s0 ds one two lv r W) {qk : Nat} {x : X} (hp : r.pend = some (qk, x)) (hl : lv = true) (hna : NE r.s a) (hnb : NE r.s b) :
    (one + if qk = a then x.1.2 else 0) - (two + if qk = b then x.1.2 else 0) ≤ quantum + 16 ∧ (two + if qk = b then x.1.2 else 0) - (one + if qk = a then x.1.2 else 0) ≤ quantum + 16 := by
  obtain ⟨K, da, db, g1, g2, g3, g4, g5⟩ := h.lv hl
  have f0 := (h.fi.book (K := 0) (d0 := 0) (one := 0) (a := a) (m := 0) hp).1
  have ga := (h.fi.book (m := 0) hp).2.1 g3
  have gb := (h.fi.book (m := 0) hp).2.1 g4
  have := f0.gap rfl hq ga gb hna hnb g1 g2
  exact ⟨this.1, this.2.1⟩
end
end Go.Proofs.Ytanfhmebjgmdpaa.Qj
