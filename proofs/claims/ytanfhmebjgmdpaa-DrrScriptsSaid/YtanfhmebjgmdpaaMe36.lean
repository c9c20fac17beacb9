/-
  Texts merged into one, to keep the claim small: DxF.
-/
import Derived.Test.YtanfhmebjgmdpaaMe35
/-
  DrrScripts: goes: the walk.
-/
namespace Go.Proofs.Ytanfhmebjgmdpaa
theorem results_cell1 {P : Program} {fn : Func} {p : Tmp} {ty : TypeId} (h : fn.results = #[.cell p ty]) (tmps : Array Value) (w : World) (g : Nat) (v : Value) (d : TypeDesc)
    (hp : tmps.getD p undef = .pointer (some ⟨g, 0, none⟩)) (hc : w.cell? ⟨g, 0, none⟩ = some v) (hu : P.underlying ty = some d) (hd : (match d with | .struct _ | .array _ _ => true | _ => false) = false) : (results fn tmps).run P w = .ok v w := by
  have hp' : tmps[p]?.getD undef = .pointer (some ⟨g, 0, none⟩) := by simpa using hp
  have h1 : (isAgg ty).run P w = .ok false w := by
    unfold isAgg
    rw [Sem.run_bind, run_underlying hu w]
    cases d <;> simp_all
  simp [results, h, hp', asAddr, go_sem, Sem.run_bind, loadVar, h1, hc]
end Go.Proofs.Ytanfhmebjgmdpaa
namespace Go.Proofs.Ytanfhmebjgmdpaa.Qi
open Go.RowKit Go.Shelf
set_option linter.unusedVariables false
set_option linter.unusedSimpArgs false
attribute [local go_sem] Oper.semAt_some
section
variable {w0 W W' : World} {s nb d L : Nat} {D : Int} {q : Nat} {b : DB} {F F1 : Nat → Prop} {op : Array Value} {r r' : RSt (Int × Int)}
/-- Behind the document's Next. -/
theorem GJ.after (h : GJ w0 s nb d L D q b F F1 op r W) (hap : ∀ x, F1 x → ¬ F x) {rd : DR} (hD : DAt W' q b rd) (hft : ∀ x, dfoot q b rd x → F x) (hl : Like r.s rd) {k : Nat} (ha : rd.at_ = (k : Int)) (hv : rd.vis = true) (hrv : r.vis = true) (hf : r.fin = false) (hk : r.k = k) (hkn : k < rd.lines.length) (hfr : Fr F W W') :
    GJ w0 s nb d L D q b F F1 op { r with pend := none } W' := by
  obtain ⟨nv, h7⟩ := h.b7
  have hne : ∀ x, s ≤ x → ¬ F x := fun x hx e => by have := h.l2 x e; omega
  have hnb := h.nbs
  have hrh := h.rh.frX hfr (fun x hx => hap x (h.ft x hx)) (hne _ (by omega))
  exact ⟨⟨hrh.at_, hrh.box, ⟨hrh.ok.small⟩, hrh.busy⟩, ⟨h.low.all, ⟨h.low.ok.small⟩⟩, ⟨rd, { r with pend := none }, hD, hft, rfl, hf, .inl rfl, hl, by rw [ha, hk], by rw [hv, hrv], by show r.k ≤ _; omega, fun _ => by show r.k < _; omega, hl.fine h.rh.at_ (room_of h.rh.at_)⟩,
    h.b3.fr hfr (hne _ (by omega)), h.b4.fr hfr (hne _ (by omega)), h.b5.fr hfr (hne _ (by omega)), h.b6.fr hfr (hne _ (by omega)), ⟨nv, h7.fr hfr (hne _ (by omega))⟩, h.fr.trans (hfr.mono fun x _ e => .inr (.inl e)), h.ft, h.l1, h.l2, h.sz, h.nbs⟩
theorem GJ.quiet (h : GJ w0 s nb d L D q b F F1 op r W) (hf : Fr (fun _ => False) W W') : GJ w0 s nb d L D q b F F1 op r W' := h.fr_ hf fun _ e => e.elim
theorem GJ.count (h : GJ w0 s nb d L D q b F F1 op r W) (v : Int) : GJ w0 s nb d L D q b F F1 op r (W.setCell ⟨nb, 0, none⟩ (.int .i64 v)) := by
  obtain ⟨nv, h7⟩ := h.b7
  obtain ⟨rd, r0, hd⟩ := h.docs
  have hf : Fr (fun x => x = nb) W (W.setCell ⟨nb, 0, none⟩ (.int .i64 v)) := (Fr.refl _ _).setAt _
  have hnb := h.nbs
  exact ⟨h.rh.frX hf (fun x hx e => by have := h.l1 x (h.ft x hx); omega) (by omega), h.low, ⟨rd, r0, hd.at_.fr hf (fun x hx e => by have := h.l2 x (hd.ft x hx); omega), hd.ft, hd.p0, hd.f0, hd.e, hd.like, hd.a, hd.v, hd.kn, hd.vn, hd.fine⟩,
    h.b3.fr hf (by omega), h.b4.fr hf (by omega), h.b5.fr hf (by omega), h.b6.fr hf (by omega), ⟨v, h7.set 0 _⟩, h.fr.trans (hf.mono fun x _ e => .inr (.inr (by omega))), h.ft, h.l1, h.l2, h.sz, h.nbs⟩
/-- The round is left. -/
theorem GJ.left (h : GJ w0 s nb d L D q b F F1 op r W) (hap : ∀ x, F1 x → ¬ F x) {rd : DR} (hD : DAt W' q b rd) (hft : ∀ x, dfoot q b rd x → F x) (hl : Like r.s rd) (ha : rd.at_ = -1) (hq : F q) (hfr : Fr (fun x => x = q) W W') (hz : r.fin = true → r.s.busy = false) :
    GX w0 s nb d L D q b F F1 r (W'.setCell ⟨s + 3, 0, none⟩ (.bool true)) := by
  have hf3 : Fr (fun x => x = s + 3) W' (W'.setCell ⟨s + 3, 0, none⟩ (.bool true)) := (Fr.refl _ _).setAt _
  have hqs := h.l2 q hq
  have hnb := h.nbs
  have hall : Fr (fun x => x = q ∨ x = s + 3) W (W'.setCell ⟨s + 3, 0, none⟩ (.bool true)) := (hfr.mono fun x _ e => .inl e).trans (hf3.mono fun x _ e => .inr e)
  exact ⟨h.rh.frX hall (fun x hx e => e.elim (fun e => hap x (h.ft x hx) (e ▸ hq)) (fun e => by have := h.l1 x (h.ft x hx); omega)) (fun e => by omega), h.low.all, ⟨rd, hD.fr hf3 (fun x hx e => by have := h.l2 x (hft x hx); omega), hft, hl, ha⟩,
    (h.b6.fr hfr (by omega)).set 0 _, hz, h.fr.trans (hall.mono fun x _ e => e.elim (fun e => .inr (.inl (e ▸ hq))) (fun e => .inr (.inr (by omega)))), h.ft, h.l1, h.l2, h.sz⟩
end
/-- Behind goes. -/
def GoesOut (w : World) (d L : Nat) (D : Int) (s : DS (Int × Int)) (q : Nat) (b : DB) (rd : DR) (w' : World) : Prop :=
  ∃ s' rd', DrrAt w' d L (D + 1024) s' ∧ s'.busy = false ∧ DAt w' q b rd' ∧ rd'.at_ = -1 ∧ Like s' rd' ∧ (∀ x, drfoot d L s' x → drfoot d L s x) ∧ (∀ x, dfoot q b rd' x → dfoot q b rd x) ∧ Fr (fun x => drfoot d L s x ∨ dfoot q b rd x) w w'
theorem GX.out {w W : World} {z nb d L : Nat} {D : Int} {s : DS (Int × Int)} {q : Nat} {b : DB} {rd : DR} {r : RSt (Int × Int)} (h : GX w z nb d L D q b (dfoot q b rd) (drfoot d L s) r W) (hD : 0 ≤ D) (hD2 : D + 4096 ≤ 4611686018427387904) (hf : r.fin = true) : GoesOut w d L D s q b rd W := by
  obtain ⟨rd', h1, h2, h3, h4⟩ := h.docs
  exact ⟨r.s, rd', DrrAt.down_ h.rh.at_ (by omega) (by omega) h.all, h.bz hf, h1, h4, h3, h.ft, h2, h.fr.mono fun x hx e => e.elim .inl fun e => e.elim .inr fun e => by have := h.sz; omega⟩
set_option maxHeartbeats 8000000 in
set_option maxRecDepth 100000 in
theorem goes_any (w : World) (d L : Nat) (D : Int) (s : DS (Int × Int)) (q : Nat) (b : DB) (rd : DR) (hd : DrrAt w d L D s) (hb : s.busy = false) (hm : DAt w q b rd) (ha : rd.at_ = -1) (hk : Like s rd) (hap : ∀ x, drfoot d L s x → ¬ dfoot q b rd x) (hD : 0 ≤ D) (hD2 : D + 4096 ≤ 4611686018427387904) (kd wh qu co x mo : Int) :
    Calls Try.prog 49 #[.pointer (some ⟨d, 0, none⟩), .pointer (some ⟨q, 0, none⟩), .agg #[.int .i64 kd, .int .i64 wh, .int .i64 qu, .int .i64 co, .int .i64 x, .int .i64 mo]] w fun e w' => e = .returned (.bool true) ∧ GoesOut w d L D s q b rd w' := by
  refine (callsIn_wide (n := 5)).1 ?_
  refine callsIn_of_wp_marks Try.func49 rfl trivial ?_ rfl
  simp only [Try.ntmps49, List.size_toArray, List.length_cons, List.length_nil, Nat.reduceAdd, Nat.reduceSub, Array.replicate_succ, Array.replicate_zero, List.push_toArray, List.append_toArray, List.nil_append, List.cons_append]
  refine wpIn_wide.2 ?_
  obtain ⟨z, hz⟩ : ∃ z, w.heap.size = z := ⟨_, rfl⟩
  have Hz := hide hz
  clear hz
  have Hd := hide hd
  have Hb := hide hb
  have Hm := hide hm
  have Ha := hide ha
  have Hk := hide hk
  have Hap := hide hap
  clear hd hb hm ha hk hap
  go_wp2_with fail
  obtain ⟨w4, hw4⟩ : ∃ w4, (((w.alloc (.cells #[.pointer (some ⟨d, 0, none⟩)] tPD)).alloc (.cells #[.pointer (some ⟨q, 0, none⟩)] tPM)).alloc (.cells #[.int .i64 kd, .int .i64 wh, .int .i64 qu, .int .i64 co, .int .i64 x, .int .i64 mo] tOp)).alloc (.cells #[.bool false] 4) = w4 := ⟨_, rfl⟩
  rw [hw4]
  have hf4 : Fr (fun _ => False) w w4 := by rw [← hw4]; (repeat (first | with_reducible exact Fr.refl _ _ | with_reducible assumption | with_reducible refine Fr.drew ?_ | with_reducible refine Fr.drewN ?_ _ | with_reducible refine Fr.alloc ?_ _ | with_reducible refine Fr.setIn ?_ (by first | exact Or.inl rfl | exact Or.inr (by simp; done) | exact Or.inr (by simp; omega) | exact Or.inr (by omega)) _))
  have k3 : Bl w4 z tPD #[.pointer (some ⟨d, 0, none⟩)] := by rw [← hw4, ← Hz.out]; (repeat (first | with_reducible assumption | with_reducible refine Bl.drew ?_ | with_reducible refine Bl.drewN ?_ _ | with_reducible refine Bl.far ?_ (by first | (simp; done) | (simp; omega)) _ | with_reducible exact Bl.newAt (by simp) | with_reducible refine Bl.alloc ?_ _))
  have k4 : Bl w4 (z + 1) tPM #[.pointer (some ⟨q, 0, none⟩)] := by rw [← hw4, ← Hz.out]; (repeat (first | with_reducible assumption | with_reducible refine Bl.drew ?_ | with_reducible refine Bl.drewN ?_ _ | with_reducible refine Bl.far ?_ (by first | (simp; done) | (simp; omega)) _ | with_reducible exact Bl.newAt (by simp) | with_reducible refine Bl.alloc ?_ _))
  have k5 : Bl w4 (z + 2) tOp #[.int .i64 kd, .int .i64 wh, .int .i64 qu, .int .i64 co, .int .i64 x, .int .i64 mo] := by rw [← hw4, ← Hz.out]; (repeat (first | with_reducible assumption | with_reducible refine Bl.drew ?_ | with_reducible refine Bl.drewN ?_ _ | with_reducible refine Bl.far ?_ (by first | (simp; done) | (simp; omega)) _ | with_reducible exact Bl.newAt (by simp) | with_reducible refine Bl.alloc ?_ _))
  have k6 : Bl w4 (z + 3) 4 #[.bool false] := by rw [← hw4, ← Hz.out]; (repeat (first | with_reducible assumption | with_reducible refine Bl.drew ?_ | with_reducible refine Bl.drewN ?_ _ | with_reducible refine Bl.far ?_ (by first | (simp; done) | (simp; omega)) _ | with_reducible exact Bl.newAt (by simp) | with_reducible refine Bl.alloc ?_ _))
  have hz4 : w4.heap.size = z + 4 := by rw [← hw4, ← Hz.out]; simp only [World.size_alloc]
  rw [Hz.out]
  clear hw4
  refine (Begin_ok w4 (Hm.out.quiet hf4) Ha.out).mono ?_
  rintro e w1 ⟨rfl, hD1, hf1⟩
  have hqz : q < z := by rw [← Hz.out]; exact Hm.out.lt_ (.inl rfl)
  have k3 := k3.fr hf1 (by omega)
  have k4 := k4.fr hf1 (by omega)
  have k5 := k5.fr hf1 (by omega)
  have k6 := k6.fr hf1 (by omega)
  have hz1 := hf1.size
  obtain ⟨nb, hnb⟩ : ∃ nb, w1.heap.size = nb := ⟨_, rfl⟩
  have c3 : w1.cell? ⟨z, 0, none⟩ = some (.pointer (some ⟨d, 0, none⟩)) := k3.cell' rfl
  have Hnb := hide hnb
  have HB := hide (And.intro k3 (And.intro k4 (And.intro k5 k6)))
  have hzl : z < w1.heap.size := by omega
  have hzne : z ≠ w1.heap.size := by omega
  have hzne2 : w1.heap.size ≠ z := by omega
  have c3' : ∀ o, (w1.alloc o).cell? ⟨z, 0, none⟩ = some (.pointer (some ⟨d, 0, none⟩)) := fun o => (k3.alloc o).cell' rfl
  clear k3 k4 k5 k6 hnb
  go_wp2_with fail
  refine (Round_any _ _ ⟨_, rfl⟩).mono ?_
  rintro e w5 ⟨rfl, hw5⟩
  have hfn := func_nilD
  go_wp2_with fail
  clear hfn
  have hf5 : Fr (fun _ => False) w1 w5 := by rw [← hw5]; (repeat (first | with_reducible exact Fr.refl _ _ | with_reducible assumption | with_reducible refine Fr.drew ?_ | with_reducible refine Fr.drewN ?_ _ | with_reducible refine Fr.alloc ?_ _ | with_reducible refine Fr.setIn ?_ (by first | exact Or.inl rfl | exact Or.inr (by simp; done) | exact Or.inr (by simp; omega) | exact Or.inr (by omega)) _))
  have hz5 : w5.heap.size = nb + 2 := by rw [← hw5, ← Hnb.out]; simp only [World.size_alloc]
  have hbx : Bl w5 (nb + 1) tPD #[.pointer (some ⟨d, 0, none⟩)] := by rw [← hw5, ← Hnb.out]; (repeat (first | with_reducible assumption | with_reducible refine Bl.drew ?_ | with_reducible refine Bl.drewN ?_ _ | with_reducible refine Bl.far ?_ (by first | (simp; done) | (simp; omega)) _ | with_reducible exact Bl.newAt (by simp) | with_reducible refine Bl.alloc ?_ _))
  have hnv : Bl w5 nb 3 #[.int .i64 0] := by rw [← hw5, ← Hnb.out]; (repeat (first | with_reducible assumption | with_reducible refine Bl.drew ?_ | with_reducible refine Bl.drewN ?_ _ | with_reducible refine Bl.far ?_ (by first | (simp; done) | (simp; omega)) _ | with_reducible exact Bl.newAt (by simp) | with_reducible refine Bl.alloc ?_ _))
  have hznb : z + 4 ≤ nb := by have := Hnb.out; omega
  have hf04 : Fr (fun x => drfoot d L s x ∨ dfoot q b rd x ∨ z ≤ x) w w5 := (hf4.weak _).trans ((hf1.mono fun y _ e => .inr (.inl (.inl e))).trans (hf5.weak _))
  have hapq : ∀ y, drfoot d L s y → y ≠ q := fun y hy e => Hap.out y hy (.inl e)
  have hat5 : DrrAt w5 d L (D + 1024 + 1024) s := (((Hd.out.quiet hf4).fr hf1 (fun y hy e => hapq y hy e)).quiet hf5).up (by omega) (by omega)
  have hlk : Like s { rd with at_ := 0, vis := false } := ⟨Hk.out.quantum, Hk.out.room, Hk.out.lines⟩
  have hlow : Low D ⟨s, 0, false, none, false⟩ := ⟨fun l hl => by have := (Hd.out.ok.df l hl).2; show l.df ≤ D + 1024; omega, ⟨fun j l hl _ => (Hd.out.ok.df l (List.mem_of_getElem? hl)).2⟩⟩
  have hJ0 : GJ w z nb d L D q b (dfoot q b rd) (drfoot d L s) #[.int .i64 kd, .int .i64 wh, .int .i64 qu, .int .i64 co, .int .i64 x, .int .i64 mo] ⟨s, 0, false, none, false⟩ w5 :=
    ⟨⟨hat5, hbx, ⟨fun j l hl _ => by have := (Hd.out.ok.df l (List.mem_of_getElem? hl)).2; show l.df ≤ D + 1024; omega⟩, fun e => by cases e⟩, hlow,
      ⟨{ rd with at_ := 0, vis := false }, ⟨s, 0, false, none, false⟩, hD1.quiet hf5, fun _ h => h, rfl, rfl, .inl rfl, hlk, rfl, rfl, Nat.zero_le _, (fun e => by cases e), hlk.fine Hd.out (room_of (r := ⟨s, 0, false, none, false⟩) Hd.out)⟩,
      HB.out.1.fr hf5 id, HB.out.2.1.fr hf5 id, HB.out.2.2.1.fr hf5 id, HB.out.2.2.2.fr hf5 id, ⟨0, hnv⟩, hf04, fun _ h => h, fun y hy => by rw [← Hz.out]; exact Hd.out.lt hy, fun y hy => by rw [← Hz.out]; exact Hm.out.lt_ hy, Hz.out, hznb⟩
  rw [Hnb.out]
  clear hw5 hbx hnv hf04 hat5 hlow
  refine (wpIn_wide (n := 5)).1 ?_
  refine wpIn_rangeFunc_K (fun a x a' W => a' = { tmps := (((a.tmps.setIfInBounds 29 (.int .i64 (x.1 : Int))).setIfInBounds 30 (.int .i64 x.2.1)).setIfInBounds 9 (.int .i64 (x.1 : Int))).setIfInBounds 10 (.int .i64 x.2.1), defers := [] })
    rfl (by omega) (gf := 80) (lb := #[.pointer (some ⟨nb + 1, 0, none⟩)]) rfl trivial (enters_of Try.func80 (by kernel_rfl) rfl)
    (round_seq (bx := nb + 1) (d := d) (L := L) (D := D + 1024) 4 s Hb.out (by omega)) (fun x => rfl) (fun _ _ => trivial) (fun _ _ _ _ _ _ => trivial)
    (GJ w z nb d L D q b (dfoot q b rd) (drfoot d L s) #[.int .i64 kd, .int .i64 wh, .int .i64 qu, .int .i64 co, .int .i64 x, .int .i64 mo]) (fun c r W => c = .ret ∧ GX w z nb d L D q b (dfoot q b rd) (drfoot d L s) r W) (fun _ _ h => h.rh) (fun _ _ _ h => h.2.rh) ?turn ?left (GJ.own (by omega)) ?ownx hJ0
    ?ax ?assign ?body ?done ?stop
  case ax =>
    intro x a' _ W W' row e hg hr
    exact e
  case turn =>
    intro r W r' W' hj ht
    exact hj.turn hD (by omega) Hap.out ht _
  case left =>
    rintro c r W r' W' ⟨rfl, hj⟩ ht
    obtain ⟨h1, h2⟩ := hj.turn (by omega) Hap.out hznb ht w5.heap.size
    exact ⟨⟨rfl, h1⟩, h2⟩
  case ownx =>
    rintro c r W W' row ⟨rfl, hj⟩ hg hr
    exact ⟨rfl, GX.own (by omega) r W W' row hj hg hr⟩
  case assign =>
    intro l r x W K hJ hR hK
    simp only [encY, tv]
    gi_wp2
    exact hK _ _ ((Fr.refl (fun _ => False) W).keepsFrom fun _ e => e.elim) trivial hJ rfl
  case body =>
    rintro l r ⟨k, y⟩ a' W hl - hJ hA ⟨hp, hv, hf⟩
    replace hA : a' = _ := hA
    subst hA
    have hN := hJ.served hp hf
    have c4 : W.cell? ⟨z + 1, 0, none⟩ = some (.pointer (some ⟨q, 0, none⟩)) := hJ.b4.cell' rfl
    have HJ := hide hJ
    clear hJ hJ0
    gi_wp2
    refine ⟨trivial, ((callsIn_wide.2 hN).inRound l).mono ?_⟩
    rintro e W2 ⟨rfl, rd', hD', hft', hL', ha', hv', hrk, hkn, hF2⟩
    have hJ2 := HJ.out.after Hap.out hD' hft' hL' ha' hv' hv hf hrk hkn hF2
    have HK2 : Hid (KeepsFrom w5.heap.size W W2) := hF2.keepsFrom fun y hy => .inl (by have := HJ.out.l2 y hy; omega)
    have HDoc := hide (And.intro hD' (And.intro hft' (And.intro hL' ha')))
    have d3 : W2.cell? ⟨z, 0, none⟩ = some (.pointer (some ⟨d, 0, none⟩)) := hJ2.b3.cell' rfl
    have d4 : W2.cell? ⟨z + 1, 0, none⟩ = some (.pointer (some ⟨q, 0, none⟩)) := hJ2.b4.cell' rfl
    have e0 : W2.cell? ⟨z + 2, 0, none⟩ = some (.int .i64 kd) := hJ2.b5.cell' rfl
    have e1 : W2.cell? ⟨z + 2, 1, none⟩ = some (.int .i64 wh) := hJ2.b5.cell' rfl
    have e2 : W2.cell? ⟨z + 2, 2, none⟩ = some (.int .i64 qu) := hJ2.b5.cell' rfl
    have e3 : W2.cell? ⟨z + 2, 3, none⟩ = some (.int .i64 co) := hJ2.b5.cell' rfl
    have e4 : W2.cell? ⟨z + 2, 4, none⟩ = some (.int .i64 x) := hJ2.b5.cell' rfl
    have e5 : W2.cell? ⟨z + 2, 5, none⟩ = some (.int .i64 mo) := hJ2.b5.cell' rfl
    have ht := turn_any W2 hJ2.rh.at_ (hJ2.rh.busy hv) hD' (by rw [ha']; omega) hL' kd wh qu co x mo
    have HJ2 := hide hJ2
    clear HJ hN hD' hft' hL' ha' hv' hF2 hJ2 hrk hkn
    gi_wp2
    refine ⟨trivial, ((callsIn_wide.2 ht).inRound l).mono ?_⟩
    rintro e W3 ⟨rfl, hf3⟩
    have hJ3 := HJ2.out.quiet hf3
    obtain ⟨nv, hnv⟩ := hJ3.b7
    have c7 : W3.cell? ⟨nb, 0, none⟩ = some (.int .i64 nv) := hnv.cell' rfl
    have z7 := hnv.free 0
    have c4 : W3.cell? ⟨z + 1, 0, none⟩ = some (.pointer (some ⟨q, 0, none⟩)) := hJ3.b4.cell' rfl
    have c5 : W3.cell? ⟨z + 2, 5, none⟩ = some (.int .i64 mo) := hJ3.b5.cell' rfl
    have c6 : W3.cell? ⟨z + 3, 0, none⟩ = some (.bool false) := hJ3.b6.cell' rfl
    have z6 := hJ3.b6.free 0
    obtain ⟨nv', hnv'⟩ : ∃ v, IntKind.i64.wrap (nv + 1) = v := ⟨_, rfl⟩
    have hJ4 := hJ3.count nv'
    have HJ4 := hide hJ4
    have HD4 : Hid (DAt (W3.setCell ⟨nb, 0, none⟩ (.int .i64 nv')) q b rd') := (HDoc.out.1.quiet hf3).fr (S := fun y => y = nb) ((Fr.refl _ _).setAt _) (fun y hy e => by have := HJ2.out.l2 y (HDoc.out.2.1 y hy); omega)
    have HK4 : Hid (KeepsFrom w5.heap.size W (W3.setCell ⟨nb, 0, none⟩ (.int .i64 nv'))) := (HK2.out.trans (hf3.keepsFrom fun _ e => e.elim)).trans (((Fr.refl (fun y => y = nb) W3).setAt _).keepsFrom fun y e => .inl (by omega))
    have nbz : nb ≠ z + 3 := by omega
    have nbz1 : nb ≠ z + 1 := by omega
    have nbz2 : nb ≠ z + 2 := by omega
    obtain ⟨b1, hb1⟩ : ∃ b1, (nv' == mo) = b1 := ⟨_, rfl⟩
    clear ht hJ3 hnv hJ4 HJ2 HK2 hf3
    cases b1 with
    | false =>
      gi_wp2
      exact ⟨HK4.out, trivial, _, rfl, HJ4.out⟩
    | true =>
      gi_wp2
      refine ⟨trivial, ((callsIn_wide.2 (End_any _ HD4.out)).inRound l).mono ?_⟩
      rintro e W5 ⟨rfl, hD5, hf5'⟩
      have c65 : W5.cell? ⟨z + 3, 0, none⟩ = some (.bool false) := (HJ4.out.b6.fr hf5' (by omega)).cell' rfl
      have z65 := (HJ4.out.b6.fr hf5' (by omega)).free 0
      have hX := HJ4.out.left Hap.out hD5 HDoc.out.2.1 (show Like r.s _ from ⟨HDoc.out.2.2.1.quantum, HDoc.out.2.2.1.room, HDoc.out.2.2.1.lines⟩) rfl (.inl rfl) hf5' (fun e => by rw [show ({ r with pend := none } : RSt (Int × Int)).fin = r.fin from rfl, hf] at e; cases e)
      have HX := hide hX
      have HK5 : Hid (KeepsFrom w5.heap.size W (W5.setCell ⟨z + 3, 0, none⟩ (.bool true))) := (HK4.out.trans (hf5'.keepsFrom fun y e => .inl (by omega))).trans (((Fr.refl (fun y => y = z + 3) W5).setAt _).keepsFrom fun y e => .inl (by omega))
      clear hX hD5 hf5'
      gi_wp2
      exact ⟨HK5.out, _, rfl, rfl, HX.out⟩
  case done =>
    intro D' r W hD' hfin hJ hW
    have hN := hJ.over hfin
    have c4 : W.cell? ⟨z + 1, 0, none⟩ = some (.pointer (some ⟨q, 0, none⟩)) := hJ.b4.cell' rfl
    have hbz : r.s.busy = false := by
      obtain ⟨rd1, r0, hd⟩ := hJ.docs
      rcases hd.e with e | ⟨e, -⟩
      · rw [e, hd.f0] at hfin; cases hfin
      · have h1 := (go_alike xc r0).2
        rw [← e] at h1
        exact h1 hfin
    have HJ := hide hJ
    have HW := hide hW
    have HD' := hide hD'
    have Hfin := hide (And.intro hfin hbz)
    clear hJ hW hD' hfin hJ0 hbz
    go_wp2_with fail
    refine hN.mono ?_
    rintro e W2 ⟨rfl, rd', hD2', hft2, hL2, hF2⟩
    have hne : ∀ y, z ≤ y → ¬ dfoot q b rd y := fun y hy e => by have := HJ.out.l2 y e; omega
    have c42 : W2.cell? ⟨z + 1, 0, none⟩ = some (.pointer (some ⟨q, 0, none⟩)) := (HJ.out.b4.fr hF2 (hne _ (by omega))).cell' rfl
    have hb62 := HJ.out.b6.fr hF2 (hne _ (by omega))
    have HD2 := hide (And.intro hD2' (And.intro hft2 (And.intro hL2 (And.intro hF2 hb62))))
    clear hN hD2' hft2 hL2 hF2 hb62
    go_wp2_with fail
    refine (End_any _ HD2.out.1).mono ?_
    rintro e W3 ⟨rfl, hD3, hf3⟩
    have hb63 := HD2.out.2.2.2.2.fr hf3 (by omega)
    have c6 : W3.cell? ⟨z + 3, 0, none⟩ = some (.bool false) := hb63.cell' rfl
    have z6 := hb63.free 0
    have hf6 : Fr (fun y => y = z + 3) W3 (W3.setCell ⟨z + 3, 0, none⟩ (.bool true)) := (Fr.refl _ _).setAt _
    have hall : Fr (fun y => dfoot q b rd y ∨ y = z + 3) W (W3.setCell ⟨z + 3, 0, none⟩ (.bool true)) := ((HD2.out.2.2.2.1.mono fun y _ e => .inl e).trans (hf3.mono fun y _ e => .inl (by subst e; exact .inl rfl))).trans (hf6.mono fun y _ e => .inr e)
    have hX : GX w z nb d L D q b (dfoot q b rd) (drfoot d L s) r (W3.setCell ⟨z + 3, 0, none⟩ (.bool true)) :=
      ⟨HJ.out.rh.frX hall (fun y hy e => e.elim (fun e => Hap.out y (HJ.out.ft y hy) e) (fun e => by have := HJ.out.l1 y (HJ.out.ft y hy); omega)) (fun e => e.elim (hne _ (by omega)) (by omega)), HJ.out.low.all,
        ⟨_, hD3.fr hf6 (fun y hy e => by have := HJ.out.l2 y (HD2.out.2.1 y hy); omega), HD2.out.2.1, ⟨HD2.out.2.2.1.quantum, HD2.out.2.2.1.room, HD2.out.2.2.1.lines⟩, rfl⟩, hb63.set 0 _, fun _ => Hfin.out.2,
        HJ.out.fr.trans (hall.mono fun y _ e => e.elim (fun e => .inr (.inl e)) (fun e => .inr (.inr (by omega)))), HJ.out.ft, HJ.out.l1, HJ.out.l2, HJ.out.sz⟩
    have HX := hide hX
    have hD9 : (W3.setCell ⟨z + 3, 0, none⟩ (.bool true)).heap[D']? = some (.deferred (some [])) := by
      have hd0 := HD'.out
      exact (hall.block D' (Array.getElem?_eq_some_iff.1 HW.out).1 (fun e => e.elim (hne _ (by omega)) (by omega))).trans HW.out
    clear hX hD3 hf3 hb63 hall
    go_wp2_with fail
    refine ⟨by simp, .inl ⟨_, _, rfl, run_takeDeferred hD9, ?_⟩⟩
    have hX2 := GX.own (B := w5.heap.size) (by omega) r _ ((W3.setCell ⟨z + 3, 0, none⟩ (.bool true)).putObj D' (.deferred none)) (some D') HX.out (grownBy_putObj' _ D' _) (fun r e => by cases e; exact ⟨HD'.out, _, hD9, rfl⟩)
    exact ⟨_, results_cell1 rfl _ _ (z + 3) (.bool true) _ rfl (hX2.b6.cell' rfl) Try.underlying4 rfl, rfl, hX2.out hD hD2 Hfin.out.1⟩
  case stop =>
    rintro D' c r W hD' hfin ⟨rfl, hJ⟩ hW
    have c6 : W.cell? ⟨z + 3, 0, none⟩ = some (.bool true) := hJ.b6.cell' rfl
    have HJ := hide hJ
    have HW := hide hW
    have HD' := hide hD'
    have Hfin := hide hfin
    clear hJ hW hD' hJ0 hfin
    refine wpIn_wide.2 ?_
    go_wp2_with fail
    refine ⟨by simp, .inl ⟨_, _, rfl, run_takeDeferred HW.out, ?_⟩⟩
    have hX2 := GX.own (B := w5.heap.size) (by omega) r _ (W.putObj D' (.deferred none)) (some D') HJ.out (grownBy_putObj' _ D' _) (fun r e => by cases e; exact ⟨HD'.out, _, HW.out, rfl⟩)
    exact ⟨_, results_cell1 rfl _ _ (z + 3) (.bool true) _ rfl (hX2.b6.cell' rfl) Try.underlying4 rfl, rfl, hX2.out hD hD2 Hfin.out⟩
end Go.Proofs.Ytanfhmebjgmdpaa.Qi
