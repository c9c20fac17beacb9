/-
  A reader of the program and one of the reference side by side.
-/
import Derived.Test.YtbglloafbmamoaaTlvS5
import Derived.Test.YtbglloafbmamoaaTlvW5
namespace Go.Proofs.Ytbglloafbmamoaa
open Go.RowKit
set_option linter.unusedVariables false
attribute [local go_sem ↓] Go.wp_at_zero Go.wp_at_succ

/-- Both readers of a pair, in one state, and both faults. -/
structure PS (w : World) (pf b : Nat) (r : TRd) (wq : Nat) (q : RRd) (d : RD) (f : RF) : Prop where
  tr : TR w pf b r d
  rr : RR w wq q d
  ft : Flt w 135 pf f
  fq : Flt w 139 wq f
/-- What a call on a pair may turn. -/
def PSet (pf : Nat) (r : TRd) (wq : Nat) (q : RRd) (x : Nat) : Prop := (x = pf ∨ r.foot x) ∨ (x = wq ∨ q.foot x)
theorem PS.withinT {w : World} {pf b : Nat} {r : TRd} {wq : Nat} {q : RRd} {d : RD} {f : RF} (h : PS w pf b r wq q d f) : Within w (fun x => x = pf ∨ r.foot x) := h.ft.within.or h.tr.within
theorem PS.withinR {w : World} {pf b : Nat} {r : TRd} {wq : Nat} {q : RRd} {d : RD} {f : RF} (h : PS w pf b r wq q d f) : Within w (fun x => x = wq ∨ q.foot x) := h.fq.withinR.or h.rr.within
theorem typed_ne {w : World} {b b' : Nat} {t t' : TypeId} (h : Typed w b t) (h' : Typed w b' t') (hne : t ≠ t') : ¬ b = b' := fun e => hne (h.same (e ▸ h'))
/-- A call of the reference leaves the program's reader. -/
theorem TR.byR {w w' : World} {pf b : Nat} {r : TRd} {d d2 : RD} {wq : Nat} {q : RRd} {f2 : RF} (hT : TR w pf b r d) (hR : RR w wq q d2) (hF : Flt w 139 wq f2) (hf : Fr (fun x => x = wq ∨ q.foot x) w w') : TR w' pf b r d := by
  refine hT.fr hf (hF.withinR.or hR.within) fun x hx e => ?_
  obtain ⟨t, h1, h2⟩ := hT.within x hx
  obtain ⟨y, hy, rfl⟩ := hx
  obtain ⟨i, hi, rfl⟩ := List.getElem_of_mem hy
  have h3 := (hT.at_ i hi).bl.typed
  rcases e with e | e
  · rw [e] at h3; exact absurd (h3.same (Bl.typed hF)) (by decide)
  · exact absurd (h3.same (hR.ls.typed _ e.symm)) (by decide)
theorem Flt.byR {w w' : World} {pf : Nat} {f f2 : RF} {d2 : RD} {wq : Nat} {q : RRd} (h : Flt w 135 pf f) (hR : RR w wq q d2) (hF : Flt w 139 wq f2) (hf : Fr (fun x => x = wq ∨ q.foot x) w w') : Flt w' 135 pf f := by
  refine h.fr hf fun e => ?_
  rcases e with e | e
  · exact absurd ((Bl.typed h).same (e ▸ Bl.typed hF)) (by decide)
  · exact absurd ((Bl.typed h).same (hR.ls.typed _ e.symm)) (by decide)
/-- A call of the program leaves the reference's reader. -/
theorem RR.byT {w w' : World} {pf b : Nat} {r : TRd} {d d2 : RD} {wq : Nat} {q : RRd} {f2 : RF} (hR : RR w wq q d) (hT : TR w pf b r d2) (hF : Flt w 135 pf f2) (hf : Fr (fun x => x = pf ∨ r.foot x) w w') : RR w' wq q d := by
  refine hR.fr hf (hF.within.or hT.within) fun x hx e => ?_
  have h3 := hR.ls.typed x hx.symm
  rcases e with e | e
  · rw [e] at h3; exact absurd (h3.same (Bl.typed hF)) (by decide)
  · obtain ⟨y, hy, rfl⟩ := e
    obtain ⟨i, hi, rfl⟩ := List.getElem_of_mem hy
    exact absurd (h3.same (hT.at_ i hi).bl.typed) (by decide)
theorem Flt.byT {w w' : World} {pf b : Nat} {r : TRd} {f f2 : RF} {d2 : RD} {wq : Nat} (h : Flt w 139 wq f) (hT : TR w pf b r d2) (hF : Flt w 135 pf f2) (hf : Fr (fun x => x = pf ∨ r.foot x) w w') : Flt w' 139 wq f := by
  refine h.fr hf fun e => ?_
  rcases e with e | ⟨y, hy, e⟩
  · exact absurd ((Bl.typed h).same (e ▸ Bl.typed hF)) (by decide)
  · obtain ⟨i, hi, rfl⟩ := List.getElem_of_mem hy
    exact absurd ((Bl.typed h).same (e ▸ (hT.at_ i hi).bl.typed)) (by decide)
/-- First the reference, then the program. -/
theorem PS.both {w w1 w2 : World} {pf b : Nat} {r : TRd} {wq : Nat} {q : RRd} {d d' : RD} {f f' : RF} (h : PS w pf b r wq q d f) (hR : RPost w wq q d' f' w1) (hT : TPost w1 pf b r d' f' w2) : PS w2 pf b r wq q d' f' ∧ Fr (PSet pf r wq q) w w2 :=
  ⟨⟨hT.tr, hR.rr.byT (h.tr.byR h.rr h.fq hR.fr) (h.ft.byR h.rr h.fq hR.fr) hT.fr, hT.flt, hR.flt.byT (h.tr.byR h.rr h.fq hR.fr) (h.ft.byR h.rr h.fq hR.fr) hT.fr⟩, (hR.fr.mono fun _ _ e => .inr e).trans (hT.fr.mono fun _ _ e => .inl e)⟩
theorem PS.quiet {w w' : World} {pf b : Nat} {r : TRd} {wq : Nat} {q : RRd} {d : RD} {f : RF} (h : PS w pf b r wq q d f) (hf : Fr (fun _ => False) w w') : PS w' pf b r wq q d f := ⟨h.tr.quiet hf, h.rr.quiet hf, h.ft.fr hf id, h.fq.fr hf id⟩
/-- What turns later blocks only leaves the pair. -/
theorem PS.far {w w2 w3 : World} {pf b : Nat} {r : TRd} {wq : Nat} {q : RRd} {d0 d : RD} {f0 f : RF} {S : Nat → Prop} (h0 : PS w pf b r wq q d0 f0) (h : PS w2 pf b r wq q d f) (hf : Fr S w2 w3) (hS : ∀ x, S x → w.heap.size ≤ x) : PS w3 pf b r wq q d f := by
  have no : ∀ {x : Nat}, x < w.heap.size → ¬ S x := fun hx hs => by have := hS _ hs; omega
  refine ⟨⟨h.tr.bl.fr hf (no h0.tr.bl.lt), h.tr.ls.fr hf (fun x e => no (h0.tr.ls.lt x e)), h.tr.eq, fun i hi => (h.tr.at_ i hi).fr hf (no (h0.tr.at_ i hi).bl.lt) ?_, h.tr.ord, fun h1 => (h.tr.buf h1).fr hf ?_, h.tr.ok⟩, ⟨h.rr.bl.fr hf (no h0.rr.bl.lt), h.rr.ls.fr hf (fun x e => no (h0.rr.ls.lt x e)), h.rr.eq, fun x hx => (h.rr.own x hx).fr hf fun y e => no ((h0.rr.own x hx).lt y e), h.rr.ok⟩, h.ft.fr hf (no (Bl.lt h0.ft)), h.fq.fr hf (no (Bl.lt h0.fq))⟩
  · obtain ⟨c, hc⟩ := h0.tr.buf (by omega)
    exact no (Array.getElem?_eq_some_iff.1 hc).1
  · obtain ⟨c, hc⟩ := h0.tr.buf h1
    exact no (Array.getElem?_eq_some_iff.1 hc).1

/-- What a step of both answers: the readers that come out of it; the state behind it. -/
def ReadsOut (w : World) (pf b : Nat) (r : TRd) (wq : Nat) (q : RRd) (e : Ending) (w' : World) : Prop :=
  ∃ d' f' rs qs ds X Y k c c' gx gy, e = .returned (.tuple #[.slice X k c, .slice Y k c', .bool true]) ∧ Ow w' 84 1 X k c (rs.map fun r => rp r.p) gx ∧ Ow w' 87 1 Y k c' (qs.map fun r => rp r.q) gy ∧ (∀ b, gx = some b → w.heap.size ≤ b) ∧ (∀ b, gy = some b → w.heap.size ≤ b) ∧
    Rds w' pf b w.heap.size rs ds ∧ Rrs w' wq w.heap.size qs ds ∧ PS w' pf b r wq q d' f' ∧ Fr (PSet pf r wq q) w w'
theorem ReadsOut.none_ {w w' : World} {pf b : Nat} {r : TRd} {wq : Nat} {q : RRd} {d' : RD} {f' : RF} (h : PS w' pf b r wq q d' f') (hf : Fr (PSet pf r wq q) w w') : ReadsOut w pf b r wq q (.returned (.tuple #[.slice none 0 0, .slice none 0 0, .bool true])) w' :=
  ⟨d', f', [], [], [], none, none, 0, 0, 0, none, none, rfl, Ow.nil_ _ _ _, Ow.nil_ _ _ _, (fun b h => by cases h), (fun b h => by cases h), Rds.nil_ _ _ _ _, Rrs.nil_ _ _ _, h, hf⟩
theorem ReadsOut.behind {w w1 w' : World} {pf b : Nat} {r : TRd} {wq : Nat} {q : RRd} {e : Ending} (hf : Fr (fun _ => False) w w1) (h : ReadsOut w1 pf b r wq q e w') : ReadsOut w pf b r wq q e w' := by
  obtain ⟨d', f', rs, qs, ds, X, Y, k, c, c', gx, gy, h1, h2, h3, h4, h5, h6, h7, h8, h9⟩ := h
  exact ⟨d', f', rs, qs, ds, X, Y, k, c, c', gx, gy, h1, h2, h3, fun b e => Nat.le_trans hf.size (h4 b e), fun b e => Nat.le_trans hf.size (h5 b e), h6.more hf.size, h7.more hf.size, h8, (hf.weak _).trans h9⟩
/-- Only blocks of a foreign type turn. -/
theorem TR.off {w w' : World} {pf b : Nat} {r : TRd} {d : RD} {S : Nat → Prop} {t : TypeId} (h : TR w pf b r d) (hf : Fr S w w') (hS : ∀ x, S x → Typed w x t) (h1 : 147 ≠ t) (h2 : 128 ≠ t) (h3 : 130 ≠ t) (h4 : 5 ≠ t) : TR w' pf b r d := by
  have hnt : ∀ {x t'}, Typed w x t' → t' ≠ t → ¬ S x := fun hx hne e => hne (hx.same (hS _ e))
  exact ⟨h.bl.fr hf (hnt h.bl.typed h1), h.ls.fr hf (fun b e => hnt (h.ls.typed b e) h2), h.eq, fun i hi => (h.at_ i hi).fr hf (hnt (h.at_ i hi).bl.typed h3) (hnt (h.buf (by omega)) h4), h.ord, fun h0 => (h.buf h0).fr hf (hnt (h.buf h0) h4), h.ok⟩
theorem RR.off {w w' : World} {wq : Nat} {q : RRd} {d : RD} {S : Nat → Prop} {t : TypeId} (h : RR w wq q d) (hf : Fr S w w') (hS : ∀ x, S x → Typed w x t) (h1 : 154 ≠ t) (h2 : 42 ≠ t) (h4 : 5 ≠ t) : RR w' wq q d := by
  have hnt : ∀ {x t'}, Typed w x t' → t' ≠ t → ¬ S x := fun hx hne e => hne (hx.same (hS _ e))
  exact ⟨h.bl.fr hf (hnt h.bl.typed h1), h.ls.fr hf (fun b e => hnt (h.ls.typed b e) h2), h.eq, fun x hx => (h.own x hx).fr hf (fun b e => hnt ((h.own x hx).typed b e) h4), h.ok⟩
theorem Rds.off {w w' : World} {pf b B : Nat} {rs : List TRd} {ds : List RD} {S : Nat → Prop} {t : TypeId} (h : Rds w pf b B rs ds) (hf : Fr S w w') (hS : ∀ x, S x → Typed w x t) (h1 : 147 ≠ t) (h2 : 128 ≠ t) (h3 : 130 ≠ t) (h4 : 5 ≠ t) : Rds w' pf b B rs ds :=
  ⟨h.len, fun i hi hj => (h.tr i hi hj).off hf hS h1 h2 h3 h4, h.new, h.ap⟩
theorem Rrs.off {w w' : World} {wq B : Nat} {qs : List RRd} {ds : List RD} {S : Nat → Prop} {t : TypeId} (h : Rrs w wq B qs ds) (hf : Fr S w w') (hS : ∀ x, S x → Typed w x t) (h1 : 154 ≠ t) (h2 : 42 ≠ t) (h4 : 5 ≠ t) : Rrs w' wq B qs ds :=
  ⟨h.len, fun i hi hj => (h.rr i hi hj).off hf hS h1 h2 h4, h.new, h.ap⟩
theorem Rds.quiet {w w' : World} {pf b B : Nat} {rs : List TRd} {ds : List RD} (h : Rds w pf b B rs ds) (hf : Fr (fun _ => False) w w') : Rds w' pf b B rs ds := h.fr hf (Within.none_ w) fun _ _ _ _ => id
theorem Rrs.quiet {w w' : World} {wq B : Nat} {qs : List RRd} {ds : List RD} (h : Rrs w wq B qs ds) (hf : Fr (fun _ => False) w w') : Rrs w' wq B qs ds := h.fr hf (Within.none_ w) fun _ _ _ _ => id
/-- The reference's new readers under a call of the program. -/
theorem Rrs.byT {w w' : World} {pf b B : Nat} {r : TRd} {d2 : RD} {wq : Nat} {qs : List RRd} {ds : List RD} {f2 : RF} (h : Rrs w wq B qs ds) (hT : TR w pf b r d2) (hF : Flt w 135 pf f2) (hf : Fr (fun x => x = pf ∨ r.foot x) w w') : Rrs w' wq B qs ds :=
  ⟨h.len, fun i hi hj => (h.rr i hi hj).byT hT hF hf, h.new, h.ap⟩
def rbox (who kind tag most : Int) (above : Nat) : Array Value := #[.int .i64 who, .int .i64 kind, .int .i64 tag, .int .i64 most, .int .u64 (above : Int)]

set_option maxHeartbeats 8000000 in
set_option maxRecDepth 100000 in
theorem reads_some (w : World) (pf b : Nat) (r : TRd) (wq : Nat) (q : RRd) (d : RD) (f : RF) (who kind tag most : Int) (above : Nat) (ha : above < U64) (h : PS w pf b r wq q d f) :
    Calls Try.prog 43 #[rp r.p, rp q.q, .agg (rbox who kind tag most above)] w fun e w' => ReadsOut w pf b r wq q e w' := by
  obtain ⟨j0, hj, hj0, hj1, hj2⟩ := info_parts infoR
  have hbox : ∀ c : Array Value, Fr (fun _ => False) w (w.alloc (.cells c 91)) := fun c => (Fr.refl _ _).alloc _
  obtain ⟨W, hW⟩ : ∃ W, w.alloc (.cells (rbox who kind tag most above) 91) = W := ⟨_, rfl⟩
  have hnew := Bl.new w 91 (rbox who kind tag most above)
  rw [hW] at hnew
  have hwW : Fr (fun _ => False) w W := by rw [← hW]; exact hbox _
  have hlt : w.heap.size < W.heap.size := hnew.lt
  have H := hide (h.quiet hwW)
  have hbx0 : ∀ x, PSet pf r wq q x → x < w.heap.size := by
    rintro x ((rfl | hx) | (rfl | hx))
    · exact Bl.lt h.ft
    · exact h.tr.lt x hx
    · exact Bl.lt h.fq
    · exact h.rr.lt x hx
  obtain ⟨bx, hbx⟩ : ∃ bx, w.heap.size = bx := ⟨_, rfl⟩
  rw [hbx] at hnew hlt hbx0
  have c1 : W.cell? ⟨bx, 1, none⟩ = some (.int .i64 kind) := hnew.cell' rfl
  have c2 : W.cell? ⟨bx, 2, none⟩ = some (.int .i64 tag) := hnew.cell' rfl
  have c3 : W.cell? ⟨bx, 3, none⟩ = some (.int .i64 most) := hnew.cell' rfl
  have c4 : W.cell? ⟨bx, 4, none⟩ = some (.int .u64 (above : Int)) := hnew.cell' rfl
  have Hw := hide hwW
  clear h hwW
  -- cells of the step, behind a call of the reference
  have keep : ∀ (w' : World) (S : Nat → Prop), Fr S W w' → (∀ x, S x → PSet pf r wq q x) → ∀ (j : Nat) (u : Value), W.cell? ⟨bx, j, none⟩ = some u → w'.cell? ⟨bx, j, none⟩ = some u := fun w' S hf hS j u hc =>
    (hf.cell (p := ⟨bx, j, none⟩) hlt (fun e => Nat.lt_irrefl _ (hbx0 bx (hS bx e)))).trans hc
  have Keep := hide keep
  clear keep
  unfold rbox at hW ⊢
  go_enter Try.func43, Try.ntmps43
  by_cases k1 : kind = 1
  · subst k1
    go_wp2_with fail
    refine (rrnum_any W wq q d f tag above ha H.out.rr H.out.fq).mono ?_
    rintro e w1 ⟨rfl, hR⟩
    have m2 := Keep.out w1 _ hR.fr (fun x e => .inr e) _ _ c2
    have m4 := Keep.out w1 _ hR.fr (fun x e => .inr e) _ _ c4
    go_wp2_with fail
    refine (trnum_any w1 pf b r d f tag above ha (H.out.tr.byR H.out.rr H.out.fq hR.fr) (H.out.ft.byR H.out.rr H.out.fq hR.fr)).mono ?_
    rintro e w2 ⟨rfl, hT⟩
    go_wp2_with fail
    go_ret3
    obtain ⟨hP, hf⟩ := H.out.both hR hT
    exact ReadsOut.behind Hw.out (ReadsOut.none_ hP hf)
  by_cases k2 : kind = 2
  · subst k2
    go_wp2_with fail
    refine (rrraw_any W wq q d f tag most H.out.rr H.out.fq).mono ?_
    rintro e w1 ⟨A1, n1, e1, g1, rfl, hn1, hO1, hg1, _, hR⟩
    have m2 := Keep.out w1 _ hR.fr (fun x e => .inr e) _ _ c2
    have m3 := Keep.out w1 _ hR.fr (fun x e => .inr e) _ _ c3
    have Hn1 : Hid (n1 = (rawS d f tag most).1.length) := hO1.len
    go_wp2_with fail
    refine (trawR_any w1 pf b r d f tag most (H.out.tr.byR H.out.rr H.out.fq hR.fr) (H.out.ft.byR H.out.rr H.out.fq hR.fr)).mono ?_
    rintro e w2 ⟨A2, n2, e2, g2, rfl, hn2, hO2, hg2, hT⟩
    obtain rfl : n2 = n1 := by rw [hO2.len, Hn1.out]
    obtain ⟨hP, hf⟩ := H.out.both hR hT
    have hO12 := hO1.fr hT.fr (fun x e1 e2 => by
      have h1 := hg1 x e1
      have h2 := hbx0 x (.inl e2)
      omega)
    have HP := hide hP
    have HO2 := hide hO2
    have s1 := hR.fr.size
    clear hP hO2
    go_wp2_with fail
    refine (same_q _ (rawS d f tag most).1 A2 A1 e2 e1 n2 Hn1.out (by omega) HO2.out.sl hO12.sl).mono ?_
    rintro e w3 ⟨rfl, hd3⟩
    have hf3 := fr_of_drewN hd3
    clear hd3
    go_wp2_with fail
    refine (over_any _ (rawS d f tag most).1 A2 n2 e2 g2 (HO2.out.fr hf3 (fun _ _ => id)) (by omega)).mono ?_
    rintro e w4 ⟨rfl, hf4⟩
    go_wp2_with fail
    go_ret3
    have hS4 : ∀ x, some x = g2 → W.heap.size ≤ x := fun x e => Nat.le_trans s1 (hg2 x e.symm)
    exact ReadsOut.behind Hw.out (ReadsOut.none_ (H.out.far (HP.out.quiet hf3) hf4 hS4) ((hf.comp hf3 (fun _ _ e => e.elim)).comp hf4 fun x hx e => by have := hS4 x e; omega))
  by_cases k3 : kind = 3
  · subst k3
    go_wp2_with fail
    refine (rrtext_any W wq q d f tag most H.out.rr H.out.fq).mono ?_
    rintro e w1 ⟨rfl, hR⟩
    have m2 := Keep.out w1 _ hR.fr (fun x e => .inr e) _ _ c2
    have m3 := Keep.out w1 _ hR.fr (fun x e => .inr e) _ _ c3
    go_wp2_with fail
    refine (trtext_any w1 pf b r d f tag most (H.out.tr.byR H.out.rr H.out.fq hR.fr) (H.out.ft.byR H.out.rr H.out.fq hR.fr)).mono ?_
    rintro e w2 ⟨rfl, hT⟩
    go_wp2_with fail
    go_ret3
    obtain ⟨hP, hf⟩ := H.out.both hR hT
    exact ReadsOut.behind Hw.out (ReadsOut.none_ hP hf)
  by_cases k4 : kind = 4
  · subst k4
    go_wp2_with fail
    refine (rrlist_any W wq q d f tag most H.out.rr H.out.fq).mono ?_
    rintro e w1 ⟨ls, D1, n1, e1, g1, rfl, hx1, hn1, hO1, hg1, hB1, hR⟩
    have m2 := Keep.out w1 _ hR.fr (fun x e => .inr e) _ _ c2
    have m3 := Keep.out w1 _ hR.fr (fun x e => .inr e) _ _ c3
    have Hx1 := hide hx1
    go_wp2_with fail
    refine (trlist_any w1 pf b r d f tag most (H.out.tr.byR H.out.rr H.out.fq hR.fr) (H.out.ft.byR H.out.rr H.out.fq hR.fr)).mono ?_
    rintro e w2 ⟨ms, D2, n2, g2, rfl, hx2, hn2, hO2, hg2, hB2, hT⟩
    have Hx2 := hide hx2
    obtain rfl : n2 = n1 := by
      have h1 := hO1.1
      have h2 := hO2.1
      have h3 := congrArg List.length (Hx1.out.trans Hx2.out.symm)
      simp at h1 h2 h3; omega
    obtain ⟨hP, hf⟩ := H.out.both hR hT
    have hno : ∀ x, W.heap.size ≤ x → ¬ (x = pf ∨ r.foot x) := fun x h1 h2 => by
      have := hbx0 x (.inl h2); omega
    have hL1 := (hB1.fr hT.fr (fun x h1 _ => hno x h1)).lat' (hO1.fr hT.fr (fun x e => hno x (hg1 x e)))
    have hL2 := hB2.lat' hO2
    rw [Hx1.out] at hL1
    rw [Hx2.out] at hL2
    have hM : Hid (∀ x ∈ itVals d (itS d f tag most), x.length ≤ 140737488355000) := by
      intro x hx
      rw [← Hx2.out] at hx
      obtain ⟨y, hy, rfl⟩ := List.mem_map.1 hx
      have h1 := hB2.ow hy
      have h2 : y.n ≤ 1048576 := by
        have hz : y.xs ∈ itVals d (itS d f tag most) := by rw [← Hx2.out]; exact List.mem_map.2 ⟨y, hy, rfl⟩
        have hok := H.out.tr.ok
        rw [h1.len]
        unfold itVals itS at hz
        rcases hfl : d.fld f tag with _ | F
        · simp [hfl] at hz
        · simp only [hfl] at hz
          split at hz
          · cases hz
          · rename_i F' hx'
            have h3 := hok.at_ F (fld_mem hfl)
            have h4 := hok.le
            split at hx'
            · cases hx'
            · rename_i z1
              split at hx'
              · cases hx'
              · rename_i z2
                cases hx'
                rw [if_neg z1, if_neg z2] at hz
                obtain ⟨G, hG, e⟩ := List.mem_map.1 hz
                have h5 := itemsAll_at (F.val d.bs) G hG
                rw [← e, GF.val_len h5.2]
                rw [GF.val_len h3.2.1] at h5
                omega
      rw [← h1.len]; omega
    have HP := hide hP
    have HB2 := hide hB2
    have HO2 := hide hO2
    have s1 := hR.fr.size
    clear hP hB2 hO2
    go_wp2_with fail
    refine (alike_q _ _ D2 D1 n2 n2 e1 _ _ hM.out (by omega) hL2 hL1).mono ?_
    rintro e w3 ⟨rfl, hd3⟩
    have hf3 := fr_of_drewN hd3
    clear hd3
    have hrn : Hid (∀ y ∈ ms, y.n ≤ 140737488355000) := fun y hy => by
      rw [(HB2.out.ow hy).len]
      exact hM.out _ (by rw [← Hx2.out]; exact List.mem_map.2 ⟨y, hy, rfl⟩)
    go_wp2_with fail
    refine (overAll_any _ ms D2 n2 n2 0 _ g2 (by omega) (HO2.out.fr hf3 (fun _ _ => id)) (HB2.out.quiet hf3) hrn.out).mono ?_
    rintro e w4 ⟨rfl, hf4⟩
    go_wp2_with fail
    go_ret3
    have hS4 : ∀ x, (some x = g2 ∨ ∃ y ∈ ms, some x = y.g) → W.heap.size ≤ x := fun x e => by
      rcases e with e | ⟨y, hy, e⟩
      · exact Nat.le_trans s1 (hg2 x e.symm)
      · exact Nat.le_trans s1 (HB2.out.new y hy x e.symm)
    exact ReadsOut.behind Hw.out (ReadsOut.none_ (H.out.far (HP.out.quiet hf3) hf4 hS4) ((hf.comp hf3 (fun _ _ e => e.elim)).comp hf4 fun x hx e => by have := hS4 x e; omega))
  by_cases k7 : kind = 7
  · subst k7
    go_wp2_with fail
    refine (rend_any W wq q d f H.out.rr H.out.fq).mono ?_
    rintro e w1 ⟨rfl, hR⟩
    obtain ⟨pl, hpl⟩ : ∃ pl, (endS d f).place = pl := ⟨_, rfl⟩
    obtain ⟨ee, hee⟩ : ∃ ee, (endS d f).e = ee := ⟨_, rfl⟩
    rw [hpl, hee]
    have Hpl := hide hpl
    have Hee := hide hee
    clear hpl hee
    go_wp2_with fail
    refine (tend_any w1 pf b r d f (H.out.tr.byR H.out.rr H.out.fq hR.fr) (H.out.ft.byR H.out.rr H.out.fq hR.fr)).mono ?_
    rintro e w2 ⟨rfl, hT⟩
    rw [Hpl.out, Hee.out]
    go_wp2_with fail
    refine (num_any _ _).mono ?_
    rintro e w' ⟨rfl, rfl⟩
    go_wp2_with fail
    go_ret3
    obtain ⟨hP, hf⟩ := H.out.both hR hT
    exact ReadsOut.behind Hw.out (ReadsOut.none_ hP hf)
  by_cases k5 : kind = 5
  · subst k5
    go_wp2_with fail
    refine (rrrecord_any W wq q d f tag H.out.rr H.out.fq).mono ?_
    rintro e w1 ⟨q', rfl, hR, hRR, hq'⟩
    have m2 := Keep.out w1 _ hR.fr (fun x e => .inr e) _ _ c2
    have hTw := H.out.tr.byR H.out.rr H.out.fq hR.fr
    have hFw := H.out.ft.byR H.out.rr H.out.fq hR.fr
    go_wp2_with fail
    refine (trrecord_any w1 pf b r d f tag hTw hFw).mono ?_
    rintro e w2 ⟨r', rfl, hT, hTR, hr'⟩
    obtain ⟨hP, hf⟩ := H.out.both hR hT
    have hRR2 := hRR.byT hTw hFw hT.fr
    have s1 := hR.fr.size
    have HP := hide hP
    have HRR := hide hRR2
    have HTR := hide hTR
    have HT := hide hT
    clear hP hRR hRR2 hTR hT hTw hFw
    simp only [rp]
    go_wp2_with fail
    go_ret3
    have hfa : Fr (fun _ => False) w2 ((w2.alloc (.cells #[rp r'.p] 84)).alloc (.cells #[rp q'.q] 87)) := ((Fr.refl _ _).alloc _).alloc _
    have hX := (Ow.made w2 84 1 1 1 #[rp r'.p] [rp r'.p] rfl (by omega) (by unfold maxLen; omega) rfl).fr (S := fun _ => False) ((Fr.refl _ _).alloc (.cells #[rp q'.q] 87)) (fun _ _ => id)
    have hY := Ow.made (w2.alloc (.cells #[rp r'.p] 84)) 87 1 1 1 #[rp q'.q] [rp q'.q] rfl (by omega) (by unfold maxLen; omega) rfl
    have s2 := HT.out.fr.size
    refine ReadsOut.behind Hw.out ⟨_, _, [r'], [q'], [(recordS d f tag).1], _, _, 1, 1, 1, _, _, ?_, hX, hY, ?_, ?_, ⟨rfl, ?_, ?_, by simp⟩, ⟨rfl, ?_, ?_, by simp⟩, HP.out.quiet hfa, hf.comp hfa fun _ _ e => e.elim⟩
    · simp [rp]
    · intro x e; cases e; omega
    · intro x e; cases e; simp; omega
    · intro i hi hj
      have h0 : i = 0 := by simp at hi; exact hi
      subst h0
      exact HTR.out.quiet hfa
    · intro x hx y hy
      simp at hx; subst hx
      exact Nat.le_trans s1 (hr' y hy)
    · intro i hi hj
      have h0 : i = 0 := by simp at hi; exact hi
      subst h0
      exact HRR.out.quiet hfa
    · intro x hx y hy
      simp at hx; subst hx
      exact hq' y hy
  by_cases k8 : kind = 8
  · subst k8
    go_wp2_with fail
    refine (rrrecords_any W wq q d f tag most H.out.rr H.out.fq).mono ?_
    rintro e w1 ⟨⟨qs, O1, n1, e1, g1, rfl, hO1, hg1, hQs, hn1⟩, hR⟩
    have m2 := Keep.out w1 _ hR.fr (fun x e => .inr e) _ _ c2
    have m3 := Keep.out w1 _ hR.fr (fun x e => .inr e) _ _ c3
    have hTw := H.out.tr.byR H.out.rr H.out.fq hR.fr
    have hFw := H.out.ft.byR H.out.rr H.out.fq hR.fr
    go_wp2_with fail
    refine (trrecords_any w1 pf b r d f tag most hTw hFw).mono ?_
    rintro e w2 ⟨rs, O2, n2, g2, rfl, hO2, hg2, hRs, hn2, hT⟩
    have Hn2 : Hid (n2 = rs.length) := by have := hO2.1; simp at this; exact this.symm
    obtain rfl : n2 = n1 := by
      have h1 := hO1.1
      have h2 := hQs.len
      have h3 := hRs.len
      simp at h1
      rw [Hn2.out]; omega
    obtain ⟨hP, hf⟩ := H.out.both hR hT
    have hQs2 := hQs.byT hTw hFw hT.fr
    have hO12 := hO1.fr hT.fr (fun x e1 e2 => by
      have h1 := hg1 x e1
      have h2 := hbx0 x (.inl e2)
      omega)
    have s1 := hR.fr.size
    have s2 := hT.fr.size
    have HP := hide hP
    have HQs := hide hQs2
    have HRs := hide hRs
    have HO2 := hide hO2
    clear hP hQs hQs2 hRs hT hTw hFw hO2
    go_wp2_with (first | (at_builtin; refine wpList_append_ow _ rfl _ _ 86 rfl 84 j0 (.pointer none) 1 8 Try.underlying86 hj hj0 hj1 hj2 rfl (by decide) _ _ _ _ _ rfl (Ow.nil_ _ _ _) _ _ _ (rs.map fun r => rp r.p) rfl HO2.out.sl (by intro u hu; obtain ⟨y, _, rfl⟩ := List.mem_map.1 hu; rfl) (by unfold maxLen; omega) (by omega) ?_) | go_in)
    intro X cX w3 gX hX hf3 hgX
    replace hX : Ow w3 84 1 X n2 cX (rs.map fun r => rp r.p) gX := by simpa using hX
    have hf3' : Fr (fun _ => False) w2 w3 := hf3.mono fun _ _ e => by cases e
    have HX := hide hX
    have hO23 := HO2.out.fr hf3' (fun _ _ => id)
    clear hX
    have hgX' : ∀ x, gX = some x → w2.heap.size ≤ x := fun x e => by
      rcases hgX with h | ⟨y, h, hy⟩
      · rw [h] at e; cases e
      · rw [h] at e; cases e; exact hy
    have hg2l : ∀ x, g2 = some x → x < w2.heap.size := HO2.out.lt
    try rw [Nat.zero_add]
    go_wp2_with fail
    go_loopw [22] (fun i wr => ∃ (j : Nat) (ys : List Value), j ≤ n2 ∧ i = .int .i64 j ∧ Ow wr 84 1 O2 n2 n2 ys g2 ∧ Hid (∀ m (hm : m < rs.length), j ≤ m → ys[m]? = some (rp rs[m].p)) ∧ Fr (fun x => some x = g2) w3 wr) (fun i _ => n2 - (intOf i).toNat)
    case atStart => exact ⟨0, _, by omega, rfl, hO23, (fun m hm _ => by simp [hm]), Fr.refl _ _⟩
    case round =>
      obtain ⟨j, ys, hjn, rfl, hY, hys, hfr⟩ := hrel
      by_cases hlt' : j < n2
      · have hjr : j < rs.length := by rw [← Hn2.out]; exact hlt'
        obtain ⟨bm, om, rfl, rfl, cm, fm⟩ := hY.look (hys.out j hjr (Nat.le_refl _))
        have cm' : wr.cell? ⟨bm, om + j, none⟩ = some (.pointer (some ⟨rs[j].p, 0, none⟩)) := cm
        have HY := hide hY
        clear cm hY
        have i0 : (0 : Int) ≤ (j : Int) := by omega
        have i1 : (j : Int) < (n2 : Int) := by omega
        go_wp2_with fail
        refine ⟨⟨j + 1, _, by omega, by go_num, HY.out.put (j := j) (by omega) (.pointer none), fun m hm hjm => ?_, Fr.setIn (S := fun x => some x = some bm) hfr (Or.inl rfl) _⟩, by simp [intOf]; omega⟩
        rw [List.getElem?_set_ne (by omega)]
        exact hys.out m hm (by omega)
      · obtain rfl : j = n2 := by omega
        clear hlt' hY
        go_wp2_with fail
        go_ret3
        have hS : ∀ x, some x = g2 → W.heap.size ≤ x := fun x e => Nat.le_trans s1 (hg2 x e.symm)
        have hty : ∀ x, some x = g2 → Typed w3 x 84 := fun x e => hO23.typed x e.symm
        refine ReadsOut.behind Hw.out ⟨_, _, rs, qs, _, X, O1, j, cX, e1, gX, g1, rfl, ?_, ?_, ?_, ?_, ((HRs.out.quiet hf3').off hfr hty (by decide) (by decide) (by decide) (by decide)).more s1, (HQs.out.quiet hf3').off hfr hty (by decide) (by decide) (by decide), H.out.far (HP.out.quiet hf3') hfr hS, (hf.comp hf3' (fun _ _ e => e.elim)).comp hfr fun x hx e => by have := hS x e; omega⟩
        · exact HX.out.fr hfr fun x e e' => by have := hgX' x e; have := hg2l x e'.symm; omega
        · exact (hO12.fr hf3' (fun _ _ => id)).fr hfr fun x e e' => by
            have h1 := (hO12.fr hf3' (fun _ _ => id)).typed x e
            exact absurd (h1.same (hty x e')) (by decide)
        · intro x e; have := hgX' x e; omega
        · exact hg1
  go_wp2_with fail
  refine (rfault_any W wq q d f H.out.rr H.out.fq).mono ?_
  rintro e w1 ⟨rfl, hf1⟩
  obtain ⟨pl, hpl⟩ : ∃ pl, f.place = pl := ⟨_, rfl⟩
  obtain ⟨ee, hee⟩ : ∃ ee, f.e = ee := ⟨_, rfl⟩
  rw [hpl, hee]
  have Hpl := hide hpl
  have Hee := hide hee
  clear hpl hee
  go_wp2_with fail
  refine (tfault_any w1 pf b r d f (H.out.tr.quiet hf1) (H.out.ft.fr hf1 id)).mono ?_
  rintro e w2 ⟨rfl, hf2⟩
  rw [Hpl.out, Hee.out]
  go_wp2_with fail
  refine (num_any _ _).mono ?_
  rintro e w' ⟨rfl, rfl⟩
  go_wp2_with fail
  go_ret3
  exact ReadsOut.behind Hw.out (ReadsOut.none_ ((H.out.quiet hf1).quiet hf2) ((hf1.trans hf2).weak _))
end Go.Proofs.Ytbglloafbmamoaa
