/-
  DrrTime: what a round leaves alike (plain); a round's invariant in memory.
-/
import Derived.Test.YtanfhmebjgmdpaaDt5
import Derived.Test.YtanfhmebjgmdpaaStl
namespace Go.Proofs.Ytanfhmebjgmdpaa
open Go.RowKit
set_option linter.unusedVariables false
/-- One result that lies in a box. -/
theorem results_cell1 {P : Program} {fn : Func} {p : Tmp} {ty : TypeId} (h : fn.results = #[.cell p ty]) (tmps : Array Value) (w : World) (g : Nat) (v : Value) (d : TypeDesc)
    (hp : tmps.getD p undef = .pointer (some ⟨g, 0, none⟩)) (hc : w.cell? ⟨g, 0, none⟩ = some v) (hu : P.underlying ty = some d) (hd : (match d with | .struct _ | .array _ _ => true | _ => false) = false) : (results fn tmps).run P w = .ok v w := by
  have hp' : tmps[p]?.getD undef = .pointer (some ⟨g, 0, none⟩) := by simpa using hp
  have h1 : (isAgg ty).run P w = .ok false w := by
    unfold isAgg
    rw [Sem.run_bind, run_underlying hu w]
    cases d <;> simp_all
  simp [results, h, hp', asAddr, go_sem, Sem.run_bind, loadVar, h1, hc]
section
variable {X : Type} (cost : X → Int)
/-- The same room, the same number of lines, the same blocks. -/
def Alike (s s' : DS X) : Prop := s'.room = s.room ∧ s'.quantum = s.quantum ∧ s'.lines.length = s.lines.length ∧ ∀ d L x, drfoot d L s' x ↔ drfoot d L s x
theorem Alike.refl (s : DS X) : Alike s s := ⟨rfl, rfl, rfl, fun _ _ _ => Iff.rfl⟩
theorem Alike.trans {a b c : DS X} (h : Alike a b) (k : Alike b c) : Alike a c := ⟨k.1.trans h.1, k.2.1.trans h.2.1, k.2.2.1.trans h.2.2.1, fun d L x => (k.2.2.2 d L x).trans (h.2.2.2 d L x)⟩
theorem Alike.busy (s : DS X) (b : Bool) : Alike s { s with busy := b } := ⟨rfl, rfl, rfl, fun _ _ _ => Iff.rfl⟩
theorem Alike.put {s : DS X} {k : Nat} {l l' : LN X} (hl : s.lines[k]? = some l) (hp : l'.p = l.p) (hg : l'.g = l.g) : Alike s (s.put k l') := ⟨rfl, rfl, DS.put_len _ _ _, fun d L x => drfoot_put hl hp hg x⟩
theorem vstep_alike {s : DS X} {k : Nat} {r : RSt X} (h : vstep cost s k = some r) : Alike s r.s ∧ r.fin = false := by
  unfold vstep at h
  split at h
  · cases h
  · rename_i l hl
    split at h
    · cases h
    · split at h
      · cases h; exact ⟨Alike.put hl rfl rfl, rfl⟩
      · cases h
theorem adv_alike : ∀ (m : Nat) (s : DS X) (k : Nat), Alike s (adv cost m s k).s ∧ ((adv cost m s k).fin = true → (adv cost m s k).s.busy = false)
  | 0, s, k => ⟨Alike.busy s false, fun _ => rfl⟩
  | m + 1, s, k => by
    rw [adv]
    split
    · exact ⟨Alike.busy s false, fun _ => rfl⟩
    · rename_i l hl
      split
      · exact adv_alike m s (k + 1)
      · have hv : Alike s (visit s k l) := Alike.put hl rfl rfl
        split
        · rename_i r hr
          have := vstep_alike cost hr
          exact ⟨hv.trans this.1, fun e => by rw [this.2] at e; cases e⟩
        · have := adv_alike m (visit s k l) (k + 1)
          exact ⟨hv.trans this.1, this.2⟩
theorem go_alike (r : RSt X) : Alike r.s (r.go cost).s ∧ ((r.go cost).fin = true → (r.go cost).s.busy = false) := by
  unfold RSt.go
  split
  · unfold goOn
    split
    · rename_i r' hr
      have := vstep_alike cost hr
      exact ⟨this.1, fun e => by rw [this.2] at e; cases e⟩
    · exact adv_alike cost _ _ _
  · have := adv_alike cost (r.s.lines.length - r.k) { r.s with busy := true } r.k
    exact ⟨(Alike.busy r.s true).trans this.1, this.2⟩
theorem DrAt.down {T : DT} {sz : Nat} {enc : X → List Value} {w : World} {d L : Nat} {D D' : Int} {s : DS X} (h : DrAt T sz enc cost w d L D s) (hD : 0 ≤ D') (hD' : D' ≤ 4611686018427387904) (hl : ∀ l ∈ s.lines, l.df ≤ D') : DrAt T sz enc cost w d L D' s :=
  ⟨h.bl, h.ls, h.ring, h.ap, ⟨h.ok.q1, h.ok.q2, h.ok.n1, h.ok.n2, hD, hD', h.ok.co, fun l hm => ⟨(h.ok.df l hm).1, hl l hm⟩⟩⟩
end
namespace Qj
/-- A server's blocks hold no numbers, no books. -/
theorem dr_ne {w : World} {d L x : Nat} {D : Int} {s : DS X} {t : TypeId} {cs : Array Value} (h : DrrAt w d L D s) (hb : Bl w x t cs) (ht : t = tInt ∨ t = tInts ∨ t = tBook ∨ t = 4 ∨ t = 29 ∨ t = 23 ∨ t = 39 ∨ t = tPD) : ¬ drfoot d L s x := fun e => by
  obtain ⟨t', cs', hc, ht'⟩ := h.ty e
  have := (hb.same hc).2
  subst this
  rcases ht with rfl | rfl | rfl | rfl | rfl | rfl | rfl | rfl <;> (revert ht'; decide)
theorem bk_dr {w : World} {d L x : Nat} {D : Int} {s : DS X} {p : BL} {b : BK} (h : DrrAt w d L D s) (hb : BkAt w p b) (hx : bfoot p x) : ¬ drfoot d L s x := by
  obtain ⟨t, cs, hc, ht⟩ := hb.ty hx
  exact dr_ne h hc (by rcases ht with rfl | rfl | rfl <;> simp)
/-- Where whole's own things lie. -/
structure WB where
  sb : Nat
  yb : Nat
  rb : Nat
  cb : Nat
  lb : Nat
  bx : Nat
  A : Option Addr
  c : Nat
  g : Option Nat
abbrev tPB : TypeId := 29
abbrev tShape : TypeId := 23
abbrev tBool : TypeId := 4
/-- Whole's own things. -/
structure WO (w0 : World) (q : WB) (pb n : Nat) (room quantum : Int) (costs : List Int) (last : Int) (W : World) : Prop where
  s : Bl W q.sb tPB #[.pointer (some ⟨pb, 0, none⟩)]
  y : Bl W q.yb tShape #[.int .i64 (n : Int), .int .i64 room, .int .i64 quantum]
  r : Bl W q.rb tBool #[.bool false]
  c : Bl W q.cb tInts #[.slice q.A n q.c]
  o : Ow W tInt 1 q.A n q.c (costs.map iv) q.g
  l : Bl W q.lb tInt #[.int .i64 last]
  g : ∀ x, q.g = some x → w0.heap.size ≤ x ∧ x ≠ q.lb
  g1 : w0.heap.size ≤ q.cb
  g2 : w0.heap.size ≤ q.lb
theorem WO.keep {w0 W W' : World} {q : WB} {pb n : Nat} {room quantum : Int} {costs : List Int} {last : Int} {S : Nat → Prop} (h : WO w0 q pb n room quantum costs last W) (hf : Fr S W W') (hS : ∀ x t cs, Bl W x t cs → (t = tInt ∧ w0.heap.size ≤ x) ∨ t = tInts ∧ w0.heap.size ≤ x ∨ t = tBool ∨ t = tPB ∨ t = tShape → ¬ S x) : WO w0 q pb n room quantum costs last W' :=
  ⟨h.s.fr hf (hS _ _ _ h.s (by simp)), h.y.fr hf (hS _ _ _ h.y (by simp)), h.r.fr hf (hS _ _ _ h.r (by simp)), h.c.fr hf (hS _ _ _ h.c (.inr (.inl ⟨rfl, h.g1⟩))), h.o.fr hf (fun x e => by
    obtain ⟨cs, hc⟩ := Ow.tyAt h.o e
    exact hS _ _ _ hc (.inl ⟨rfl, (h.g x e).1⟩)), h.l.fr hf (hS _ _ _ h.l (.inl ⟨rfl, h.g2⟩)), h.g, h.g1, h.g2⟩
theorem WO.own {w0 W W' : World} {q : WB} {pb n : Nat} {room quantum : Int} {costs : List Int} {last : Int} {row : Option Nat} (h : WO w0 q pb n room quantum costs last W) (hg : W.grownBy W' row) (hr : ∀ r, row = some r → ∃ o : Obj, W.heap[r]? = some o ∧ o.isCells = false) : WO w0 q pb n room quantum costs last W' :=
  h.keep (Fr.ofGrown hg) fun x t cs hb _ => row_ne (W' := W') hb hr
/-- The round's invariant. -/
structure WJ (w0 : World) (q : WB) (p : BL) (b0 : BK) (d L n : Nat) (room quantum : Int) (s0 : DS X) (b : BK) (costs : List Int) (last : Int) (r : RSt X) (W : World) : Prop where
  rh : RH q.bx d L 7 r W
  pi : PInv n quantum b costs last r
  bk : BkAt W p b
  ea : b.added = b0.added
  er : b.rounds = b0.rounds
  eu : b.until_ = b0.until_
  wo : WO w0 q p.pb n room quantum costs last W
  nb : r.fin = true → r.s.busy = false
  al : Alike s0 r.s
  fr : Fr (fun x => bfoot p x ∨ drfoot d L s0 x) w0 W
  lo : ∀ x, bfoot p x → x < w0.heap.size
def WI (w0 : World) (q : WB) (p : BL) (b0 : BK) (d L n : Nat) (room quantum : Int) (s0 : DS X) (r : RSt X) (W : World) : Prop := ∃ b costs last, WJ w0 q p b0 d L n room quantum s0 b costs last r W
/-- A book's round is counted. -/
theorem BkAt.round {W : World} {p : BL} {b : BK} (h : BkAt W p b) (v : Int) : BkAt (W.setCell ⟨p.pb, 3, none⟩ (.int .i64 v)) p { b with rounds := v } := by
  have hF : Fr (fun x => x = p.pb) W (W.setCell ⟨p.pb, 3, none⟩ (.int .i64 v)) := (Fr.refl _ _).setAt _
  have hne : ∀ {x t cs}, Bl W x t cs → t ≠ tBook → ¬ x = p.pb := fun {x t cs} hb ht e => by
    subst e; exact ht (hb.same h.bl).2
  have ho : ∀ {e A n c xs g}, Ow W e 1 A n c xs g → e ≠ tBook → ∀ y, g = some y → ¬ y = p.pb := fun {e A n c xs g} ho ht y hy => by
    obtain ⟨cs, hc⟩ := Ow.tyAt ho hy
    exact hne hc ht
  refine ⟨h.bl.set 3 _, h.ls, h.lu, h.lr, h.oa.fr hF (ho h.oa (by decide)), h.os.fr hF (ho h.os (by decide)), h.ou.fr hF (ho h.ou (by decide)), fun i r v hr hv => (h.orow i r v hr hv).fr hF (ho (h.orow i r v hr hv) (by decide)), h.apAS, h.apR, h.apRR⟩
section
variable {w0 : World} {q : WB} {p : BL} {b0 : BK} {d L n : Nat} {room quantum : Int} {s0 : DS X}
theorem WJ.bt {b : BK} {costs : List Int} {last : Int} {r : RSt X} {W : World} (h : WJ w0 q p b0 d L n room quantum s0 b costs last r W) {x : Nat} {t : TypeId} {cs : Array Value} (hb : Bl W x t cs) (ht : t = tInt ∧ w0.heap.size ≤ x ∨ t = tInts ∧ w0.heap.size ≤ x ∨ t = tBool ∨ t = tPB ∨ t = tShape) : ¬ bfoot p x := fun e => by
  have hlo := h.lo x e
  obtain ⟨t', cs', hc, ht'⟩ := h.bk.ty e
  have := (hb.same hc).2
  subst this
  rcases ht with ⟨rfl, h2⟩ | ⟨rfl, h2⟩ | rfl | rfl | rfl
  · omega
  · omega
  all_goals (revert ht'; decide)
theorem WI.turn {r r' : RSt X} {W W' : World} (h : WI w0 q p b0 d L n room quantum s0 r W) (ht : TnY q.bx d L 7 r W r' W') (B : Nat) : WI w0 q p b0 d L n room quantum s0 r' W' ∧ KeepsFrom B W W' := by
  obtain ⟨b, costs, last, h⟩ := h
  obtain ⟨hp, hfin, rfl, hrh', hfr⟩ := ht
  have hal := go_alike xc r
  refine ⟨⟨b, costs, last, hrh', h.pi.turn hp hfin h.rh.at_.ok, h.bk.fr hfr fun x hx => bk_dr h.rh.at_ h.bk hx, h.ea, h.er, h.eu, h.wo.keep hfr fun x t cs hb ht => dr_ne h.rh.at_ hb (by rcases ht with ⟨rfl, _⟩ | ⟨rfl, _⟩ | rfl | rfl | rfl <;> simp), hal.2, h.al.trans hal.1, h.fr.trans (hfr.mono fun x _ hx => .inr ((h.al.2.2.2 d L x).1 hx)), h.lo⟩, h.rh.at_.keeps hfr _⟩
theorem WI.own {B : Nat} (hB : w0.heap.size ≤ B) : OwnFrom B (WI w0 q p b0 d L n room quantum s0) := by
  rintro r W W' row ⟨b, costs, last, h⟩ hg hr
  have hr' : ∀ r, row = some r → ∃ o : Obj, W.heap[r]? = some o ∧ o.isCells = false := fun r e => (hr r e).2
  exact ⟨b, costs, last, ⟨h.rh.at_.own hg hr', h.rh.box.own hg hr', h.rh.ok, h.rh.busy⟩, h.pi, h.bk.own hg hr', h.ea, h.er, h.eu, h.wo.own hg hr', h.nb, h.al, h.fr.comp (Fr.ofGrown hg) fun k hk e => by have := (hr k e.symm).1; omega, h.lo⟩
/-- A service is booked in memory, and its cost. -/
theorem WJ.book {b : BK} {costs : List Int} {last : Int} {r : RSt X} {W W' W2 : World} (h : WJ w0 q p b0 d L n room quantum s0 b costs last r W) {qk : Nat} {y : X} (hp : r.pend = some (qk, y)) {sv : Nat} {cc : Int} (hs : b.served[qk]? = some sv) (hc : costs[qk]? = some cc)
    (hb : BkAt W' p { b with served := b.served.set qk (sv + 1) }) (hf : Fr (fun x => some x = p.gS) W W') (hf2 : Fr (fun _ => False) W' W2) {xc oc : Nat} (hA : q.A = some ⟨xc, oc, none⟩) (hg : q.g = some xc) :
    WI w0 q p b0 d L n room quantum s0 { r with pend := none } ((W2.setCell ⟨xc, oc + qk, none⟩ (.int .i64 (cc + y.1.2))).setCell ⟨q.lb, 0, none⟩ (.int .i64 (qk : Int))) ∧ KpY W ((W2.setCell ⟨xc, oc + qk, none⟩ (.int .i64 (cc + y.1.2))).setCell ⟨q.lb, 0, none⟩ (.int .i64 (qk : Int))) ∧
      ∀ B, KeepsFrom B W ((W2.setCell ⟨xc, oc + qk, none⟩ (.int .i64 (cc + y.1.2))).setCell ⟨q.lb, 0, none⟩ (.int .i64 (qk : Int))) := by
  have hF2 : Fr (fun x => some x = p.gS) W W2 := hf.comp hf2 fun _ _ e => e.elim
  have hF3 : Fr (fun x => x = xc) W2 (W2.setCell ⟨xc, oc + qk, none⟩ (.int .i64 (cc + y.1.2))) := (Fr.refl _ _).setAt _
  have hF4 : Fr (fun x => x = q.lb) (W2.setCell ⟨xc, oc + qk, none⟩ (.int .i64 (cc + y.1.2))) ((W2.setCell ⟨xc, oc + qk, none⟩ (.int .i64 (cc + y.1.2))).setCell ⟨q.lb, 0, none⟩ (.int .i64 (qk : Int))) := (Fr.refl _ _).setAt _
  have hF34 : Fr (fun x => x = xc ∨ x = q.lb) W2 ((W2.setCell ⟨xc, oc + qk, none⟩ (.int .i64 (cc + y.1.2))).setCell ⟨q.lb, 0, none⟩ (.int .i64 (qk : Int))) := (hF3.mono fun x _ e => .inl e).trans (hF4.mono fun x _ e => .inr e)
  have hF : Fr (fun x => some x = p.gS ∨ x = xc ∨ x = q.lb) W ((W2.setCell ⟨xc, oc + qk, none⟩ (.int .i64 (cc + y.1.2))).setCell ⟨q.lb, 0, none⟩ (.int .i64 (qk : Int))) := (hF2.mono fun x _ e => .inl e).trans (hF34.mono fun x _ e => .inr e)
  obtain ⟨csx, tx⟩ := Ow.tyAt h.wo.o hg
  have hxl := h.wo.g xc hg
  have hpS : ∀ x, some x = p.gS → bfoot p x := fun x e => .inr (.inr (.inl e))
  have hty : ∀ x, some x = p.gS ∨ x = xc ∨ x = q.lb → ∃ cs, Bl W x tInt cs := fun x e => by
    rcases e with e | rfl | rfl
    · exact Ow.tyAt h.bk.os e.symm
    · exact ⟨_, tx⟩
    · exact ⟨_, h.wo.l⟩
  have hne : ∀ {x t cs}, Bl W x t cs → t ≠ tInt → ¬ (some x = p.gS ∨ x = xc ∨ x = q.lb) := fun {x t cs} hb ht e => by
    obtain ⟨cs', hc⟩ := hty x e
    exact ht (hb.same hc).2
  have hwo2 : WO w0 q p.pb n room quantum costs last W2 := h.wo.keep hF2 fun x t cs hb ht e => h.bt hb ht (hpS x e)
  refine ⟨⟨{ b with served := b.served.set qk (sv + 1) }, costs.set qk (cc + y.1.2), qk, ⟨h.rh.at_.fr hF fun x hx e => ?_, h.rh.box.fr hF (hne h.rh.box (by decide)), ⟨h.rh.ok.small⟩, h.rh.busy⟩, h.pi.book hp hs hc, (hb.fr hf2 fun _ _ => id).fr hF34 fun x hx e => ?_, h.ea, h.er, h.eu, ?_, h.nb, h.al, ?_, h.lo⟩, fun x cs hb => hb.fr hF (hne hb (by decide)), fun B => hF.keepsFrom fun x hx => ?_⟩
  · obtain ⟨cs, hc⟩ := hty x e
    exact dr_ne h.rh.at_ hc (.inl rfl) hx
  · have h1 := h.lo x hx
    rcases e with rfl | rfl
    · omega
    · have := h.wo.g2; omega
  · refine ⟨(hwo2.s.fr hF34 ?_), (hwo2.y.fr hF34 ?_), (hwo2.r.fr hF34 ?_), (hwo2.c.fr hF34 ?_), ?_, ?_, h.wo.g, h.wo.g1, h.wo.g2⟩
    · exact fun e => hne h.wo.s (by decide) (.inr e)
    · exact fun e => hne h.wo.y (by decide) (.inr e)
    · exact fun e => hne h.wo.r (by decide) (.inr e)
    · exact fun e => hne h.wo.c (by decide) (.inr e)
    · have ho := hwo2.o
      rw [hA] at ho ⊢
      have hq : qk < n := by have := (List.getElem?_eq_some_iff.1 hc).1; rw [h.pi.lc] at this; exact this
      have := ho.put (j := qk) (by omega) (.int .i64 (cc + y.1.2))
      rw [show (costs.set qk (cc + y.1.2)).map iv = (costs.map iv).set qk (.int .i64 (cc + y.1.2)) by rw [List.map_set]; rfl]
      refine this.fr hF4 fun x e e' => ?_
      rw [hg] at e; cases e
      exact hxl.2 e'
    · have hl := hwo2.l.fr hF3 (fun e => hxl.2 e.symm)
      exact hl.set 0 _
  · exact h.fr.comp hF fun x hx e => by
      rcases e with e | rfl | rfl
      · exact .inl (hpS x e)
      · omega
      · have := h.wo.g2; omega
  · obtain ⟨cs, hc⟩ := hty x hx
    exact .inr ⟨_, _, _, hc⟩
end
end Qj
end Go.Proofs.Ytanfhmebjgmdpaa
