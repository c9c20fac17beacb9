/-
  bazaar/drr.Drr[int]: Round.
-/
import Derived.Test.YtanfhmebjgmdpaaDr2i
import Derived.Test.YtanfhmebjgmdpaaDr3
import Derived.Test.YtanfhmebjgmdpaaRf
import Derived.DefersIn
import Derived.Shelf.Abstract
import Derived.Shelf.RegionOpen
import Derived.OwnWalkIn
import Derived.TacticsInMore
import Derived.LoopNIn
import Derived.LoopIn
import Derived.Deep.CutBlock
namespace Go.Proofs.Ytanfhmebjgmdpaa.Qi
open Go.RowKit Go.Shelf
set_option linter.unusedVariables false
attribute [local go_sem ↓] storeJ_

abbrev tPD : TypeId := 51
theorem served_eq (l : LN X) (x : X) (t : List X) : served l x t = l.served xc x t := rfl
/-- What is yielded. -/
def encY (x : Nat × X) : Array Value := #[.int .i64 (x.1 : Int), tv x.2]
def KpY (W W' : World) : Prop := True
/-- The round's state in memory. -/
structure RH (bx d L : Nat) (D : Int) (r : RSt X) (W : World) : Prop where
  at_ : DrrAt W d L (D + 1024) r.s
  box : Bl W bx tPD #[.pointer (some ⟨d, 0, none⟩)]
  ok : r.Ok D
  busy : r.vis = true → r.s.busy = true
def TnY (bx d L : Nat) (D : Int) (r : RSt X) (W : World) (r' : RSt X) (W' : World) : Prop := r.pend = none ∧ r.fin = false ∧ r' = r.go xc ∧ RH bx d L D r' W' ∧ Fr (drfoot d L r.s) W W'
def LTY (bx d L : Nat) (D : Int) (r : RSt X) (W : World) (r' : RSt X) (W' : World) : Prop := r' = ⟨{ r.s with busy := false }, r.k, false, none, true⟩ ∧ DrrAt W' d L (D + 1024) r'.s ∧ Fr (drfoot d L r.s) W W'
def RdY (r : RSt X) (x : Nat × X) : Prop := r.pend = some x ∧ r.vis = true ∧ r.fin = false
def AfY (r : RSt X) (_ : Nat × X) (r' : RSt X) : Prop := r' = { r with pend := none }
/-- What the last yield left: the invariant, in an older world of at most b0 blocks. -/
structure Since (J : RSt X → World → Prop) (bx d L b0 : Nat) (r0 : RSt X) (W0 : World) (s : DS X) (wr : World) : Prop where
  inv : J r0 W0
  pend : r0.pend = none
  fin : r0.fin = false
  fr : Fr (drfoot d L r0.s) W0 wr
  ft : ∀ x, drfoot d L s x ↔ drfoot d L r0.s x
  bx : Bl wr bx tPD #[.pointer (some ⟨d, 0, none⟩)]
  lo : W0.heap.size ≤ b0
/-- Ahead of line k. -/
def Head (J : RSt X → World → Prop) (bx d L : Nat) (D : Int) (n b0 k : Nat) (wr : World) : Prop :=
  ∃ (r0 : RSt X) (W0 : World) (s : DS X), Since J bx d L b0 r0 W0 s wr ∧ r0.go xc = adv xc (s.lines.length - k) s k ∧ DrrAt wr d L (D + 1024) s ∧ s.busy = true ∧ s.lines.length = n ∧ (∀ j l, s.lines[j]? = some l → k ≤ j → l.df ≤ D)
/-- Within line k, whose ring is p and holds c things: ahead of a service. -/
def Mid (J : RSt X → World → Prop) (bx d L : Nat) (D : Int) (n b0 k p c : Nat) (wr : World) : Prop :=
  ∃ (r0 : RSt X) (W0 : World) (s : DS X) (l : LN X), Since J bx d L b0 r0 W0 s wr ∧ r0.go xc = goOn xc s k ∧ DrrAt wr d L (D + 1024) s ∧ s.busy = true ∧ s.lines.length = n ∧ s.lines[k]? = some l ∧ l.p = p ∧ l.things.length = c ∧
    (∀ j l, s.lines[j]? = some l → k < j → l.df ≤ D)
/-- Behind a service that there was: it can be yielded. -/
def Got (J : RSt X → World → Prop) (bx d L : Nat) (D : Int) (n b0 k p c : Nat) (y : X) (wr : World) : Prop :=
  ∃ (r0 : RSt X) (W0 : World) (r : RSt X) (l : LN X), Since J bx d L b0 r0 W0 r.s wr ∧ r = r0.go xc ∧ RH bx d L D r wr ∧ r.pend = some (k, y) ∧ r.k = k ∧ r.vis = true ∧ r.fin = false ∧ r.s.lines.length = n ∧ r.s.lines[k]? = some l ∧ l.p = p ∧ l.things.length = c
section
variable {J : RSt X → World → Prop} {bx d L : Nat} {D : Int} {n k p c : Nat}
theorem ne_bx {w : World} {s : DS X} {D : Int} (h : DrrAt w d L D s) {v : Array Value} (hb : Bl w bx tPD v) : ¬ drfoot d L s bx := fun e => by
  obtain ⟨t, cs, hc, ht⟩ := h.ty e
  have := (hb.same hc).2
  subst this
  revert ht
  decide
theorem Since.fr_ {b0 : Nat} {r0 : RSt X} {W0 : World} {s : DS X} {w w' : World} {S : Nat → Prop} (h : Since J bx d L b0 r0 W0 s w) (hf : Fr S w w') (hS : ∀ i, i < b0 → S i → drfoot d L s i) (hb : ¬ S bx) : Since J bx d L b0 r0 W0 s w' :=
  ⟨h.inv, h.pend, h.fin, h.fr.comp hf fun i hi hs => (h.ft i).1 (hS i (Nat.lt_of_lt_of_le hi h.lo) hs), h.ft, h.bx.fr hf hb, h.lo⟩
theorem kp_of {w w' : World} {s : DS X} {D : Int} (h : DrrAt w d L D s) (hf : Fr (drfoot d L s) w w') : KpY w w' := trivial
theorem serve_mid {b0 : Nat} (w : World) (h : Mid J bx d L D n b0 k p c w) :
    Calls Try.prog 82 #[.pointer (some ⟨L, k * 3, none⟩)] w fun e w' => ∃ (ok : Bool) (y : X), e = .returned (.tuple #[tv y, .bool ok]) ∧ ((ok = true ∧ ∃ c', c' < c ∧ Got J bx d L D n b0 k p c' y w') ∨ (ok = false ∧ Head J bx d L D n b0 (k + 1) w')) ∧ KpY w w' ∧ w.heap.size ≤ w'.heap.size := by
  obtain ⟨r0, W0, s, l, hs, hgo, hat, hb, hn, hl, hlp, hlc, hsm⟩ := h
  have hnb := ne_bx hat hs.bx
  by_cases hsv : ∃ x t, l.things = x :: t ∧ x.2 ≤ l.df
  · obtain ⟨x, t, hx, hc⟩ := hsv
    refine (serve_some w hat k l hl x t hx hc).mono ?_
    rintro e w' ⟨rfl, hat', hfr'⟩
    have hi : k < s.lines.length := (List.getElem?_eq_some_iff.1 hl).1
    have hgo' := goOn_some xc hl hx hc
    have hs' := hs.fr_ hfr' (fun _ _ h => h) hnb
    refine ⟨true, x, rfl, .inl ⟨rfl, t.length, by rw [← hlc, hx]; simp, r0, W0, r0.go xc, served l x t, ?_, rfl, ?_, ?_⟩, kp_of hat hfr', hfr'.size⟩
    · rw [hgo, hgo']
      exact ⟨hs'.inv, hs'.pend, hs'.fin, hs'.fr, fun y => (drfoot_put (l' := served l x t) hl rfl rfl y).trans (hs'.ft y), hs'.bx, hs'.lo⟩
    · rw [hgo, hgo']
      refine ⟨hat', hs'.bx, ⟨fun j b hb' hj => ?_⟩, fun _ => hb⟩
      have hj' : k < j := by simpa using hj
      have hb2 : (s.lines.set k (served l x t))[j]? = some b := hb'
      rw [List.getElem?_set_ne (by omega)] at hb2
      exact hsm j b hb2 hj'
    · rw [hgo, hgo']
      exact ⟨rfl, rfl, rfl, rfl, by show (s.put k _).lines.length = n; rw [DS.put_len]; exact hn, List.getElem?_set_self hi, hlp, rfl⟩
  · have hx : ∀ x t, l.things = x :: t → l.df < x.2 := fun x t e => by
      rcases Int.lt_or_le l.df x.2 with h | h
      · exact h
      · exact absurd ⟨x, t, e, h⟩ hsv
    refine (serve_none w hat k l hl hx).mono ?_
    rintro e w' ⟨rfl, hfr'⟩
    refine ⟨false, zeroX, rfl, .inr ⟨rfl, r0, W0, s, hs.fr_ hfr' (fun _ _ h => h.elim) id, ?_, hat.quiet hfr', hb, hn, fun j b hb' hj => hsm j b hb' hj⟩, kp_of hat (hfr'.weak _), hfr'.size⟩
    rw [hgo, goOn_none xc hl hx]
def lenAt (w : World) (p : Nat) : Nat := match w.cell? ⟨p, 3, none⟩ with | some (.int _ n) => n.toNat | _ => 0
theorem lenAt_of {w : World} {g : Option Nat} {room : Nat} {xs : List X} (h : RI w p g room xs) : lenAt w p = xs.length := by
  obtain ⟨C, cc, s, e1, e2, h⟩ := h
  have := h.bl.cell' (i := 3) rfl
  unfold lenAt
  rw [this, e2]
  simp
set_option maxHeartbeats 1000000 in
theorem unbusy (w : World) (u : FrameMode) (m : Nat) (cb : w.cell? ⟨bx, 0, none⟩ = some (.pointer (some ⟨d, 0, none⟩))) (c2 : ∃ v, w.cell? ⟨d, 2, none⟩ = some v) (z2 : w.frozen? ⟨d, 2, none⟩ = false) :
    CallsDIn Fence.wide m Try.prog 81 #[.pointer (some ⟨bx, 0, none⟩)] u w fun e u' w' => u' = u ∧ (e = .returned (.tuple #[]) ∧ w.setCell ⟨d, 2, none⟩ (.bool false) = w') := by
  obtain ⟨v, c2⟩ := c2
  refine callsDIn_of_wp Try.func81 rfl trivial ?_ rfl
  simp only [Try.ntmps81, List.size_toArray, List.length_cons, List.length_nil, Nat.reduceAdd, Nat.reduceSub, Array.replicate_succ, Array.replicate_zero, List.push_toArray, List.append_toArray, List.nil_append, List.cons_append]
  refine wpIn_wide.2 ?_
  go_wp2_with fail
  go_end0
  exact ⟨rfl, rfl⟩
theorem leave_round (m : Nat) (tmps : Array Value) (w : World) (R : Ending → World → Prop) (cb : w.cell? ⟨bx, 0, none⟩ = some (.pointer (some ⟨d, 0, none⟩))) (c2 : ∃ v, w.cell? ⟨d, 2, none⟩ = some v) (z2 : w.frozen? ⟨d, 2, none⟩ = false)
    (h : R (.returned (.tuple #[])) (w.setCell ⟨d, 2, none⟩ (.bool false))) :
    LeavesIn Fence.wide m Try.prog Try.f80 tmps R [{ target := .fn (.func 81) #[.pointer (some ⟨bx, 0, none⟩)], args := #[] }] .returning w := by
  refine ⟨by simp, (fun h => by cases h), .func 81, #[.pointer (some ⟨bx, 0, none⟩)], 81, #[.pointer (some ⟨bx, 0, none⟩)], rfl, by simp [invoke, go_sem], fun g hg => trivial, ?_⟩
  obtain ⟨hF, hc⟩ := unbusy w .returning (m - 1) cb c2 z2
  refine ⟨hF, fun c cs hm hr => ?_⟩
  obtain ⟨e, u', w', fr, ⟨rfl, rfl, rfl⟩, h2⟩ := hc c cs hm hr
  have hl : LeavesIn Fence.wide m Try.prog Try.f80 tmps R [] (settle .returning) (w.setCell ⟨d, 2, none⟩ (.bool false)) := ⟨_, results_none rfl _ _ _, h⟩
  exact ⟨.returned (.tuple #[]), .returning, w.setCell ⟨d, 2, none⟩ (.bool false), fr, hl, h2⟩
set_option maxHeartbeats 4000000 in
set_option maxRecDepth 100000 in
theorem round_seq (m : Nat) (s : DS X) (hbz : s.busy = false) (hD : 0 ≤ D) :
    SeqJ Fence.wide m Try.prog 80 #[.pointer (some ⟨bx, 0, none⟩)] encY (RH bx d L D) KpY (TnY bx d L D) RdY AfY AfY (LTY bx d L D) ⟨s, 0, false, none, false⟩ (fun r => r.fin = true) (fun r => r.fin = true) := fun l J Jx W hJH hJxH hT hLT hY h0 => by
  have hr := hJH _ _ h0
  have hat := hr.at_
  have hbx := hr.box
  have hsm := hr.ok.small
  have hnbx := ne_bx hat hbx
  have hbd : bx ≠ d := fun e => hnbx (.inl e)
  have hbl := hat.bl
  have hLd := hat.dL TT_ok
  simp only at hat hbl hsm
  rw [hbz] at hbl
  have hok := hat.ok
  obtain ⟨n, hn⟩ : ∃ n, s.lines.length = n := ⟨_, rfl⟩
  have cb : W.cell? ⟨bx, 0, none⟩ = some (.pointer (some ⟨d, 0, none⟩)) := hbx.cell' rfl
  have c2 : W.cell? ⟨d, 2, none⟩ = some (.bool false) := hbl.cell' rfl
  have z2 := hbl.free 2
  have hat1 := hat.mark TT_ok true
  have hF1 : Fr (fun x => x = d) W (W.setCell ⟨d, 2, none⟩ (.bool true)) := (Fr.refl _ _).setAt _
  have hH : Head J bx d L D n W.heap.size 0 (W.setCell ⟨d, 2, none⟩ (.bool true)) := ⟨_, W, { s with busy := true }, ⟨h0, rfl, rfl, hF1.mono fun x _ e => .inl e, fun x => Iff.rfl, hbx.fr hF1 hbd, Nat.le_refl _⟩, rfl, hat1, rfl, hn, fun j b hb hj => hsm j b hb (Nat.zero_le _)⟩
  have HH := hide hH
  have d1 : W.cell? ⟨d, 1, none⟩ = some (.slice (some ⟨L, 0, none⟩) n n) := by rw [← hn]; exact hbl.cell' rfl
  have hn2 : n ≤ 1024 := by rw [← hn]; exact hok.n2
  clear hH hat hok hr h0 hat1 hF1 hn hbz hsm hbx hbl hnbx
  refine callsIn_of_wp_defers Try.func80 rfl trivial ?_ rfl
  simp only [Try.ntmps80, List.size_toArray, List.length_cons, List.length_nil, Nat.reduceAdd, Nat.reduceSub, Array.replicate_succ, Array.replicate_zero, List.push_toArray, List.append_toArray, List.nil_append, List.cons_append]
  refine wpIn_wide.2 ?_
  go_wp2_with fail
  have H1 := HH
  clear HH cb c2 z2 d1
  go_loopw [24] (fun i wr => ∃ k : Nat, i = .int .i64 (k : Int) ∧ k ≤ n ∧ ∃ b0, b0 ≤ wr.heap.size ∧ Head J bx d L D n b0 k wr) (fun i _ => n - (intOf i).toNat)
  case atStart => exact ⟨0, rfl, Nat.zero_le _, _, by simp [World.setCell], H1.out⟩
  case round =>
    obtain ⟨k, rfl, hk, b0, hb0, hH⟩ := hrel
    clear H1
    obtain ⟨wo, rfl⟩ : ∃ wo, wo = wr := ⟨_, rfl⟩
    by_cases hlt : k < n
    · have HHd := hide hH
      obtain ⟨r0, W0, sk, hs0, hgo, hat, hb, hn, hsm⟩ := hH
      have hbx := hs0.bx
      have hbd2 := hbd.symm
      have hbxL : bx ≠ L := fun e => ne_bx hat hbx (.inr (.inl e))
      obtain ⟨lk, hlk⟩ : ∃ lk, sk.lines[k]? = some lk := ⟨_, List.getElem?_eq_getElem (by omega)⟩
      have hm := List.mem_of_getElem? hlk
      obtain ⟨e0, e1, -⟩ := hat.cellp hlk
      have cb : wo.cell? ⟨bx, 0, none⟩ = some (.pointer (some ⟨d, 0, none⟩)) := hbx.cell' rfl
      have hbl := hat.bl
      rw [hn] at hbl
      have d1 : wo.cell? ⟨d, 1, none⟩ = some (.slice (some ⟨L, 0, none⟩) n n) := hbl.cell' rfl
      have d0 : wo.cell? ⟨d, 0, none⟩ = some (.int .i64 (sk.quantum : Int)) := hbl.cell' rfl
      have hlen := lenR_any wo (hat.ring lk hm)
      have hdf := hat.ok.df lk hm
      have hdD := hsm k lk hlk (Nat.le_refl _)
      have hq := hat.ok.q2
      have hd2 := hat.ok.d2
      have i1 : (0 : Int) ≤ (k : Int) := by omega
      have i2 : (k : Int) < (n : Int) := by omega
      have z1 := hat.ls.free (k * 3 + 1)
      have iw : IntKind.i64.wrap (lk.df + (sk.quantum : Int)) = lk.df + (sk.quantum : Int) := IntWalk.i64_in _ (by omega)
      by_cases hth : lk.things = []
      · have hlen' : Calls Try.prog 40 #[.pointer (some ⟨lk.p, 0, none⟩)] wo fun e w' => e = .returned (.int .i64 0) ∧ wo = w' := by rw [hth] at hlen; exact hlen
        have HH2 : Hid (Head J bx d L D n b0 (k + 1) wo) := ⟨r0, W0, sk, hs0, by rw [hgo, adv_skip xc hlk hth], hat, hb, hn, fun j b hb' hj => hsm j b hb' (by omega)⟩
        clear hlen hat hsm hbx hbl hgo hth HHd hs0
        go_wp2_with fail
        refine hlen'.mono ?_
        rintro e w' ⟨rfl, rfl⟩
        go_wp2_with fail
        exact ⟨⟨k + 1, by go_num, hlt, b0, hb0, HH2.out⟩, by simp [intOf]; omega⟩
      · obtain ⟨c, hc⟩ : ∃ c, lk.things.length = c := ⟨_, rfl⟩
        have hc0 : c ≠ 0 := fun e => hth (List.eq_nil_of_length_eq_zero (by omega))
        rw [hc] at hlen
        have hcz : ¬ (c : Int) = 0 := by omega
        have HM : Hid (∀ w1, Fr (fun _ => False) wo w1 → Mid J bx d L D n b0 k lk.p c (w1.setCell ⟨L, k * 3 + 1, none⟩ (.int .i64 (lk.df + (sk.quantum : Int))))) := fun w1 hf1 => by
          have hF : Fr (fun x => x = L) wo (w1.setCell ⟨L, k * 3 + 1, none⟩ (.int .i64 (lk.df + (sk.quantum : Int)))) := (hf1.weak _).setAt _
          have hs1 := hs0.fr_ hF (fun i _ e => .inr (.inl e)) hbxL
          refine ⟨r0, W0, visit sk k lk, _, ⟨hs1.inv, hs1.pend, hs1.fin, hs1.fr, fun x => (drfoot_put (s := sk) (l' := { lk with df := lk.df + sk.quantum }) hlk rfl rfl x).trans (hs1.ft x), hs1.bx, hs1.lo⟩, by rw [hgo, adv_visit xc hlk hth], (hat.quiet hf1).num TT_ok hlk _ (by omega), hb, by rw [visit_len]; exact hn, visit_at hlk, rfl, hc, fun j b hb' hj => ?_⟩
          rw [visit_other (by omega)] at hb'
          exact hsm j b hb' (by omega)
        clear hat hsm hbx hbl hgo hth HHd hs0
        go_wp2_with fail
        refine hlen.mono ?_
        rintro e w' ⟨rfl, rfl⟩
        go_wp2_with fail
        refine region_tail 11 (by kernel_rfl) (by kernel_rfl) ?_
        intro w1 Hw1 hcw1 hzw1 hsw1
        simp only [List.take_succ_cons, List.take_zero, List.drop_succ_cons, List.drop_zero]
        repeat still_step
        refine wpStill_nil ?_
        have hM1 := HM.out w1 (by rw [Hw1.out]; exact (Fr.refl _ _).drew)
        have hb1 : b0 ≤ w1.heap.size := by rw [hsw1]; exact hb0
        have HM1 := hide hM1
        clear hM1 HM Hw1
        go_wp2_with fail
        clear hcw1 hzw1 hsw1 e0 e1 cb d1 d0 z1 hlen
        refine (serve_mid _ HM1.out).mono ?_
        rintro e w2 ⟨ok, y, rfl, hres, -, hsz2⟩
        have hb2 : b0 ≤ w2.heap.size := by simp [World.setCell] at hsz2; omega
        have HI := hide hres
        clear hres HM1 hsz2 hb1
        go_wp2_with fail
        go_loopw [5, 6] (fun x5 x6 wi => ∃ (b0 : Nat) (ok : Bool) (y : X), x5 = tv y ∧ x6 = .bool ok ∧ b0 ≤ wi.heap.size ∧ ((ok = true ∧ ∃ c', Got J bx d L D n b0 k lk.p c' y wi) ∨ (ok = false ∧ Head J bx d L D n b0 (k + 1) wi))) (fun _ x6 wi => match x6 with | .bool true => 1 + lenAt wi lk.p | _ => 0)
        case atStart => exact ⟨b0, ok, y, rfl, rfl, hb2, HI.out.imp (fun ⟨e, c', _, h⟩ => ⟨e, c', h⟩) id⟩
        case round =>
          obtain ⟨b2, ok2, y2, rfl, rfl, hb2, hI2⟩ := hrel
          clear HI
          have HI2 := hide hI2
          clear hI2
          cases ok2 with
          | false =>
            have hH2 : Hid (Head J bx d L D n b2 (k + 1) wr) := by rcases HI2.out with ⟨e, _⟩ | ⟨_, h⟩; cases e; exact h
            clear HI2
            go_wp2_with fail
            exact ⟨⟨k + 1, by go_num, hlt, b2, hb2, hH2.out⟩, by simp [intOf]; omega⟩
          | true =>
            obtain ⟨c', r0', W0', r, l', hs2, hrg, hrh, hpd, hrk, hrv, hrf, hrn, hrl, hlp, hlc⟩ : ∃ c', Got J bx d L D n b2 k lk.p c' y2 wr := by rcases HI2.out with ⟨_, h⟩ | ⟨e, _⟩; exact h; cases e
            have hJ : J r wr := hT r0' W0' r wr hs2.inv ⟨hs2.pend, hs2.fin, hrg, hrh, hs2.fr⟩
            have hy := hY r (k, y2) wr hJ ⟨hpd, hrv, hrf⟩
            obtain ⟨fn, tm, as_, bd, hyl, hRd⟩ := hy
            dsimp only [encY, tv] at hyl
            have HRd := hide hRd
            have HJ := hide hJ
            clear hRd hJ HI2 hs2 hrg hrh
            simp only [tv]
            go_upto_region 12 with fail
            go_cut [65] from 55 to 65 (fun s65 wx => ∃ b : Bool, s65 = .bool b ∧ ((b = false ∧ KpY wr wx ∧ J { r with pend := none } wx) ∨ (b = true ∧ Jx { r with pend := none } wx)))
            case first =>
              refine (wpIn_wide (n := m)).1 ?_
              gi_wp2
              refine ⟨(fun h => by cases h), HRd.out.mono ?_⟩
              rintro e W3 (⟨rfl, hk3, r3, hr3, hJ3⟩ | ⟨rfl, r3, hr3, hJ3⟩)
              · have hr3' : r3 = { r with pend := none } := hr3
                subst hr3'
                have HJ3 := hide hJ3
                have HK3 := hide hk3
                clear hJ3 hk3 hyl
                gi_wp2
                go_meet
                case rel => exact ⟨false, rfl, .inl ⟨rfl, HK3.out, HJ3.out⟩⟩
              · have hr3' : r3 = { r with pend := none } := hr3
                subst hr3'
                have HJ3 := hide hJ3
                clear hJ3 hyl
                gi_wp2
                go_meet
                case rel => exact ⟨true, rfl, .inr ⟨rfl, HJ3.out⟩⟩
            case rest =>
            obtain ⟨b, rfl, hres⟩ := hcut
            have HRs := hide hres
            clear hres hyl HRd
            cases b with
            | false =>
              obtain ⟨hkp, hJ3⟩ : KpY wr wc ∧ J { r with pend := none } wc := by rcases HRs.out with ⟨_, h⟩ | ⟨e, _⟩; exact h; cases e
              have h3 := hJH _ _ hJ3
              have hM3 : Mid J bx d L D n wc.heap.size k lk.p c' wc := ⟨{ r with pend := none }, wc, r.s, l', ⟨hJ3, rfl, hrf, Fr.refl _ _, fun x => Iff.rfl, h3.box, Nat.le_refl _⟩, by simp only [RSt.go, hrv, if_true, hrk], h3.at_, h3.busy hrv, hrn, hrl, hlp, hlc, fun j b hb' hj => h3.ok.small j b hb' (by simp only [hrv, if_true, hrk]; exact hj)⟩
              have h1 := hJH _ _ HJ.out
              have hla : Hid (lenAt wr lk.p = c') := by
                have := lenAt_of (h1.at_.ring l' (List.mem_of_getElem? hrl))
                show _ = _
                rw [← hlp, this, hlc]
              have HM3 := hide hM3
              clear hkp hJ3 h3 hM3 h1 HRs HJ
              go_wp2_with fail
              refine (serve_mid _ HM3.out).mono ?_
              rintro e w4 ⟨ok4, y4, rfl, hres4, -, hsz4⟩
              have HI4 := hide hres4
              clear hres4 HM3
              simp only [tv]
              go_wp2_with fail
              refine ⟨⟨_, ok4, y4, rfl, rfl, hsz4, HI4.out.imp (fun ⟨e, c4, _, h⟩ => ⟨e, c4, h⟩) id⟩, ?_⟩
              have hla' := hla.out
              rcases HI4.out with ⟨rfl, c4, hc4, hg4⟩ | ⟨rfl, -⟩
              · obtain ⟨r5, W5, r4, l4, -, -, h4, -, -, -, -, -, hl4, hp4, hc5⟩ := hg4
                have := lenAt_of (h4.at_.ring l4 (List.mem_of_getElem? hl4))
                rw [hp4] at this
                simp [hla', this]; omega
              · simp; omega
            | true =>
              have hJx : Jx { r with pend := none } wc := by rcases HRs.out with ⟨e, _⟩ | ⟨_, h⟩; cases e; exact h
              have HJx := hide hJx
              clear hJx HRs HJ
              go_wp2_with fail
              have hx := hJxH _ _ HJx.out
              have hbl := hx.at_.bl
              have hbx := hx.box
              refine leave_round m _ wc _ (hbx.cell' rfl) ⟨_, hbl.cell' rfl⟩ (hbl.free 2) ?_
              exact ⟨⟨_, rfl⟩, .inr ⟨_, rfl, hLT _ _ _ _ HJx.out ⟨rfl, hx.at_.mark TT_ok false, (Fr.setAt (p := d) (Fr.refl _ _) _).mono fun x _ e => .inl e⟩⟩⟩
    · obtain rfl : k = n := by omega
      obtain ⟨r0, W0, sk, hs0, hgo, hat, hb, hn, hsm⟩ := hH
      have hbx := hs0.bx
      have hF : Fr (drfoot d L r0.s) W0 (wo.setCell ⟨d, 2, none⟩ (.bool false)) := hs0.fr.setIn (.inl (.inl rfl)) _
      have hbd2 := hbd.symm
      have hJe : Hid (J ⟨{ sk with busy := false }, k, false, none, true⟩ (wo.setCell ⟨d, 2, none⟩ (.bool false))) := hT r0 W0 _ _ hs0.inv ⟨hs0.pend, hs0.fin, by rw [hgo, adv_end xc _ _ _ (by omega)], ⟨hat.mark TT_ok false, hbx.far hbd _, ⟨fun j b hb' hj => hsm j b hb' (by simpa using hj)⟩, fun e => by cases e⟩, hF⟩
      have hbl := hat.bl
      have cb : wo.cell? ⟨bx, 0, none⟩ = some (.pointer (some ⟨d, 0, none⟩)) := hbx.cell' rfl
      have c2 : wo.cell? ⟨d, 2, none⟩ = some (.bool sk.busy) := hbl.cell' rfl
      have z2 := hbl.free 2
      have HC := hide (And.intro cb (And.intro c2 z2))
      clear hat hsm hbx hbl hgo hs0 hF cb c2 z2
      go_wp2_with fail
      exact leave_round m _ wo _ HC.out.1 ⟨_, HC.out.2.1⟩ HC.out.2.2 ⟨⟨_, rfl⟩, .inl ⟨_, rfl, hJe.out⟩⟩
end
end Go.Proofs.Ytanfhmebjgmdpaa.Qi
