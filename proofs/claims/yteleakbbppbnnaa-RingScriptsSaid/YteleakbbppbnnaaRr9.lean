/-
  The walk over a ring beside the document's.
-/
import Derived.Test.YteleakbbppbnnaaRr8
import Derived.Test.YteleakbbppbnnaaRg8
namespace Go.Proofs.Yteleakbbppbnnaa
open Go.RowKit Go.Shelf
set_option linter.unusedVariables false
set_option linter.unusedSimpArgs false
attribute [local go_sem] Oper.semAt_some
theorem func_nil9 (fn : Fn) (x y : Array Value) (W : World) : (binOp .eql 64 (.func fn x y) .nilFunc).run Try.prog W = .ok (.bool false) W := by
  kernel_rfl
theorem results_cell1 {P : Program} {fn : Func} {p : Tmp} {ty : TypeId} (h : fn.results = #[.cell p ty]) (tmps : Array Value) (w : World) (g : Nat) (v : Value) (d : TypeDesc)
    (hp : tmps.getD p undef = .pointer (some ⟨g, 0, none⟩)) (hc : w.cell? ⟨g, 0, none⟩ = some v) (hu : P.underlying ty = some d) (hd : (match d with | .struct _ | .array _ _ => true | _ => false) = false) : (results fn tmps).run P w = .ok v w := by
  have hp' : tmps[p]?.getD undef = .pointer (some ⟨g, 0, none⟩) := by simpa using hp
  have h1 : (isAgg ty).run P w = .ok false w := by
    unfold isAgg
    rw [Sem.run_bind, run_underlying hu w]
    cases d <;> simp_all
  simp [results, h, hp', asAddr, go_sem, Sem.run_bind, loadVar, h1, hc]
section
variable {w0 W W' : World} {s p q room : Nat} {g0 lg0 : Option Nat} {op : Array Value} {v : Bool} {r : AS}
theorem WJ.next (h : WJ w0 s p q room g0 lg0 op v r W) : WJ w0 s p q room g0 lg0 op v { r with k := r.k + 1 } (W.setCell ⟨s + 4, 0, none⟩ (.int .i64 ((r.k + 1 : Nat) : Int))) := by
  have hF : Fr (fun x => x = s + 4) W (W.setCell ⟨s + 4, 0, none⟩ (.int .i64 ((r.k + 1 : Nat) : Int))) := (Fr.refl _ _).setAt _
  exact ⟨h.mix.fr hF fun b hb e => h.apart (by omega) (by omega) hb, h.b3.fr hF (by omega), h.b4.fr hF (by omega), h.b5.fr hF (by omega), h.b6.fr hF (by omega), h.b7.set 0 _, h.bx.fr hF (by omega),
    h.fr.trans (hF.mono fun b _ e => .inr (by omega)), h.nw, h.ap, h.sz⟩
theorem WJ.leave (h : WJ w0 s p q room g0 lg0 op v r W) : WJ w0 s p q room g0 lg0 op true r (W.setCell ⟨s + 3, 0, none⟩ (.bool true)) := by
  have hF : Fr (fun x => x = s + 3) W (W.setCell ⟨s + 3, 0, none⟩ (.bool true)) := (Fr.refl _ _).setAt _
  exact ⟨h.mix.fr hF fun b hb e => h.apart (by omega) (by omega) hb, h.b3.fr hF (by omega), h.b4.fr hF (by omega), h.b5.fr hF (by omega), h.b6.set 0 _, h.b7.fr hF (by omega), h.bx.fr hF (by omega),
    h.fr.trans (hF.mono fun b _ e => .inr (by omega)), h.nw, h.ap, h.sz⟩
end
set_option maxHeartbeats 2000000 in
set_option maxRecDepth 100000 in
theorem walk_any (w : World) (p q room : Nat) (g lg : Option Nat) (xs : List Int) (kd wh to_ n x : Int) (L : Value) (h : Mix w p g q lg room xs xs) :
    Calls Try.prog 36 #[.pointer (some ⟨p, 0, none⟩), .pointer (some ⟨q, 0, none⟩), .agg #[.int .i64 kd, .int .i64 wh, .int .i64 to_, .int .i64 n, .int .i64 x, L]] w fun e w' => e = .returned (.bool true) ∧ ∃ xs', MixOut w p g q lg room xs' xs' w' := by
  refine (callsIn_wide (n := 5)).1 ?_
  refine callsIn_of_wp_marks Try.func36 rfl trivial ?_ rfl
  simp only [Try.ntmps36, List.size_toArray, List.length_cons, List.length_nil, Nat.reduceAdd, Nat.reduceSub, Array.replicate_succ, Array.replicate_zero, List.push_toArray, List.append_toArray, List.nil_append, List.cons_append]
  refine wpIn_wide.2 ?_
  go_wp2_with fail
  refine (all_any _ _ ⟨_, rfl⟩).mono ?_
  rintro e w5 ⟨rfl, hw5⟩
  have hfn := func_nil9
  go_wp2_with fail
  clear hfn
  obtain ⟨s, hs⟩ : ∃ s, w.heap.size = s := ⟨_, rfl⟩
  have hJ0 : WJ w s p q room g lg #[.int .i64 kd, .int .i64 wh, .int .i64 to_, .int .i64 n, .int .i64 x, L] false ⟨0, g, lg, xs⟩ w5 := by
    have hF : Fr (fun _ => False) w w5 := by rw [← hw5]; (repeat (first | with_reducible exact Fr.refl _ _ | with_reducible assumption | with_reducible refine Fr.drew ?_ | with_reducible refine Fr.drewN ?_ _ | with_reducible refine Fr.alloc ?_ _ | with_reducible refine Fr.setIn ?_ (by first | exact Or.inl rfl | exact Or.inr (by simp; done) | exact Or.inr (by simp; omega) | exact Or.inr (by omega)) _))
    refine ⟨h.quiet hF, ?_, ?_, ?_, ?_, (show Bl w5 (s + 4) 3 #[.int .i64 0] from ?_), ?_, hF.weak _, fun _ _ e => e, fun b hb => .inl (by have := h.lt hb; omega), hs⟩ <;> (rw [← hs, ← hw5])
    · exact (((((Bl.new _ _ _).alloc _).alloc _).alloc _).alloc _).alloc _
    all_goals (repeat (first | with_reducible assumption | with_reducible refine Bl.drew ?_ | with_reducible refine Bl.drewN ?_ _ | with_reducible refine Bl.far ?_ (by first | (simp; done) | (simp; omega)) _ | with_reducible exact Bl.newAt (by simp) | with_reducible refine Bl.alloc ?_ _))
  have hz : w5.heap.size = s + 6 := by rw [← hw5, ← hs]; simp only [World.size_alloc]
  rw [hs]
  clear hw5
  refine (wpIn_wide (n := 5)).1 ?_
  refine wpIn_rangeFunc_K (fun a x a' W => a' = { tmps := (((a.tmps.setIfInBounds 21 (.int .i64 (x.1 : Int))).setIfInBounds 22 (.int .i64 x.2)).setIfInBounds 9 (.int .i64 (x.1 : Int))).setIfInBounds 10 (.int .i64 x.2), defers := [] })
    rfl (by omega) (gf := 42) (lb := #[.pointer (some ⟨s + 5, 0, none⟩)]) rfl trivial (enters_of Try.func42 (by kernel_rfl) rfl)
    (all1_seq 4 (by omega) (s + 5) p room ⟨0, g, lg, xs⟩ rfl) (fun x => rfl) (fun _ _ => trivial) (fun _ _ _ _ _ _ => trivial)
    (WJ w s p q room g lg #[.int .i64 kd, .int .i64 wh, .int .i64 to_, .int .i64 n, .int .i64 x, L] false) (fun c r W => c = .ret ∧ WJ w s p q room g lg #[.int .i64 kd, .int .i64 wh, .int .i64 to_, .int .i64 n, .int .i64 x, L] true r W) (fun _ _ h => ⟨h.mix.a, h.bx⟩) (fun _ _ _ h => ⟨h.2.mix.a, h.2.bx⟩) ?turn ?left (WJ.own (by omega)) ?ownx hJ0
    ?ax ?assign ?body ?done ?stop
  case ax =>
    intro x a' _ W W' row e hg hr
    exact e
  case turn =>
    rintro r W r' W' hj ⟨rfl, j, rfl⟩
    have hf : Fr (fun _ => False) W (W.drewN j) := by (repeat (first | with_reducible exact Fr.refl _ _ | with_reducible assumption | with_reducible refine Fr.drew ?_ | with_reducible refine Fr.drewN ?_ _ | with_reducible refine Fr.alloc ?_ _ | with_reducible refine Fr.setIn ?_ (by first | exact Or.inl rfl | exact Or.inr (by simp; done) | exact Or.inr (by simp; omega) | exact Or.inr (by omega)) _))
    exact ⟨hj.quiet hf, hf.keepsFrom fun _ e => e.elim⟩
  case left =>
    rintro c r W r' W' hj ⟨rfl, rfl⟩
    exact ⟨hj, (Fr.refl (fun _ => False) W').keepsFrom fun _ e => e.elim⟩
  case ownx =>
    rintro c r W W' row ⟨rfl, hj⟩ hg hr
    exact ⟨rfl, WJ.own (by omega) r W W' row hj hg hr⟩
  case assign =>
    intro l r x W K hJ hR hK
    simp only [encA]
    gi_wp2
    exact hK _ _ ((Fr.refl (fun _ => False) W).keepsFrom fun _ e => e.elim) trivial hJ rfl
  case body =>
    rintro l r ⟨i, v⟩ a' W hl - hJ hA ⟨hi, hv⟩
    simp only at hi hv
    subst hi
    replace hA : a' = _ := hA
    subst hA
    have hlt : r.k < r.xs.length := (List.getElem?_eq_some_iff.1 hv).1
    have hbd := hJ.mix.a.bounds
    have hat := rat_in W hJ.mix.b r.k hlt (by omega)
    rw [(List.getElem?_eq_some_iff.1 hv).2] at hat
    have c4 : W.cell? ⟨s + 1, 0, none⟩ = some (.pointer (some ⟨q, 0, none⟩)) := hJ.b4.cell' rfl
    have c7 : W.cell? ⟨s + 4, 0, none⟩ = some (.int .i64 (r.k : Int)) := hJ.b7.cell' rfl
    have HJ := hide hJ
    have Hlt : Hid (r.k < 65536) := by show r.k < 65536; omega
    clear hJ hbd hlt hv hJ0 h
    gi_wp2
    refine ⟨trivial, ((callsIn_wide.2 hat).inRound l).mono ?_⟩
    rintro e w2 ⟨rfl, hf2⟩
    have hJ2 := HJ.out.quiet hf2
    have HK2 := hide (hf2.keepsFrom (B := w5.heap.size) fun _ e => e.elim)
    have d3 : w2.cell? ⟨s, 0, none⟩ = some (.pointer (some ⟨p, 0, none⟩)) := hJ2.b3.cell' rfl
    have d4 : w2.cell? ⟨s + 1, 0, none⟩ = some (.pointer (some ⟨q, 0, none⟩)) := hJ2.b4.cell' rfl
    have d5 : w2.cell? ⟨s + 2, 4, none⟩ = some (.int .i64 x) := hJ2.b5.cell' rfl
    have d7 : w2.cell? ⟨s + 4, 0, none⟩ = some (.int .i64 (r.k : Int)) := hJ2.b7.cell' rfl
    have hwi := within_any w2 hJ2.mix x
    have HJ2 := hide hJ2
    clear HJ hJ2 hf2 hat
    gi_wp2
    refine ⟨trivial, ((callsIn_wide.2 hwi).inRound l).mono ?_⟩
    rintro e w3 ⟨rfl, ho⟩
    obtain ⟨r', hk', hJ3⟩ := HJ2.out.turned ho
    have HK3 := hide (HK2.out.trans (by obtain ⟨g', lg', -, hf, -⟩ := ho; exact HJ2.out.mix.keeps hf w5.heap.size))
    have HW := hide hJ3
    have e5 : w3.cell? ⟨s + 2, 3, none⟩ = some (.int .i64 n) := hJ3.b5.cell' rfl
    have e6 : w3.cell? ⟨s + 3, 0, none⟩ = some (.bool false) := hJ3.b6.cell' rfl
    have e7 : w3.cell? ⟨s + 4, 0, none⟩ = some (.int .i64 (r.k : Int)) := by rw [← hk']; exact hJ3.b7.cell' rfl
    have y6 := hJ3.b6.free 0
    have y7 := hJ3.b7.free 0
    have i1 : IntKind.i64.wrap ((r.k : Int) + 1) = ((r.k + 1 : Nat) : Int) := by rw [IntWalk.i64_in _ (by have := Hlt.out; omega)]; rfl
    have hN := hJ3.next
    rw [hk'] at hN
    have HN := hide hN
    have hz5' : s + 6 = w5.heap.size := hz.symm
    clear hwi ho hJ3 hN HJ2 HK2
    obtain ⟨kk, hkk⟩ : ∃ kk, r.k + 1 = kk := ⟨_, rfl⟩
    rw [hkk] at i1 HN
    have Hkk := hide hkk
    clear hkk
    have HF4 : Hid (KeepsFrom w5.heap.size W (w3.setCell ⟨s + 4, 0, none⟩ (.int .i64 (kk : Int)))) := HK3.out.trans (((Fr.refl (fun x => x = s + 4) _).setAt _).keepsFrom fun k e => .inl (by omega))
    have hKl : KeepsFrom w5.heap.size W ((w3.setCell ⟨s + 4, 0, none⟩ (.int .i64 (kk : Int))).setCell ⟨s + 3, 0, none⟩ (.bool true)) := HF4.out.trans (((Fr.refl (fun x => x = s + 3) _).setAt _).keepsFrom fun k e => .inl (by omega))
    have HKl := hide hKl
    have hAf : AfA r (r.k, v) { r' with k := kk } := Hkk.out.symm
    have HAf := hide hAf
    clear hKl hAf
    obtain ⟨b1, hb1⟩ : ∃ b1, ((kk : Int) == n) = b1 := ⟨_, rfl⟩
    obtain ⟨b2, hb2⟩ : ∃ b2, ((kk : Int) == 1000) = b2 := ⟨_, rfl⟩
    cases b1 <;> cases b2 <;> gi_wp2
    all_goals first
      | exact ⟨HKl.out, _, HAf.out, rfl, HN.out.leave⟩
      | exact ⟨HF4.out, trivial, _, HAf.out, HN.out⟩
  case done =>
    intro D r W hD hfin hJ hW
    have hr := rat_out W hJ.mix.b (r.k : Int) (.inr (by exact_mod_cast hfin))
    have c4 : W.cell? ⟨s + 1, 0, none⟩ = some (.pointer (some ⟨q, 0, none⟩)) := hJ.b4.cell' rfl
    have c6 : W.cell? ⟨s + 3, 0, none⟩ = some (.bool false) := hJ.b6.cell' rfl
    have c7 : W.cell? ⟨s + 4, 0, none⟩ = some (.int .i64 (r.k : Int)) := hJ.b7.cell' rfl
    have z6 := hJ.b6.free 0
    have HJ := hide hJ
    have HW := hide hW
    have HD := hide hD
    clear hJ hW hD hfin hJ0 h
    go_wp2_with fail
    refine hr.mono ?_
    rintro e w7 ⟨rfl, rfl⟩
    go_wp2_with fail
    have hD9 : (W.setCell ⟨s + 3, 0, none⟩ (.bool true)).heap[D]? = some (.deferred (some [])) := by
      have hF : Fr (fun x => x = s + 3) W (W.setCell ⟨s + 3, 0, none⟩ (.bool true)) := (Fr.refl _ _).setAt _
      exact (hF.block D (Array.getElem?_eq_some_iff.1 HW.out).1 (by have := HD.out; omega)).trans HW.out
    have hL := HJ.out.leave
    have hP : Fr (fun x => x = D) (W.setCell ⟨s + 3, 0, none⟩ (.bool true)) ((W.setCell ⟨s + 3, 0, none⟩ (.bool true)).putObj D (.deferred none)) := (Fr.ofGrown (grownBy_putObj' _ D _)).mono fun x _ e => by cases e; rfl
    refine ⟨by simp, .inl ⟨_, _, rfl, run_takeDeferred hD9, ?_⟩⟩
    have hL2 := WJ.own (B := w5.heap.size) (by omega) r _ ((W.setCell ⟨s + 3, 0, none⟩ (.bool true)).putObj D (.deferred none)) (some D) hL (grownBy_putObj' _ D _) (fun r e => by cases e; exact ⟨HD.out, _, hD9, rfl⟩)
    exact ⟨_, results_cell1 rfl _ _ (s + 3) (.bool true) _ rfl (hL2.b6.cell' rfl) Try.underlying4 rfl, rfl, _, hL2.out⟩
  case stop =>
    rintro D c r W hD - ⟨rfl, hJ⟩ hW
    have c6 : W.cell? ⟨s + 3, 0, none⟩ = some (.bool true) := hJ.b6.cell' rfl
    have HJ := hide hJ
    have HW := hide hW
    have HD := hide hD
    clear hJ hW hD hJ0 h
    refine wpIn_wide.2 ?_
    go_wp2_with fail
    refine ⟨by simp, .inl ⟨_, _, rfl, run_takeDeferred HW.out, ?_⟩⟩
    have hL2 := WJ.own (B := w5.heap.size) (by omega) r _ (W.putObj D (.deferred none)) (some D) HJ.out (grownBy_putObj' _ D _) (fun r e => by cases e; exact ⟨HD.out, _, HW.out, rfl⟩)
    exact ⟨_, results_cell1 rfl _ _ (s + 3) (.bool true) _ rfl (hL2.b6.cell' rfl) Try.underlying4 rfl, rfl, _, hL2.out⟩
end Go.Proofs.Yteleakbbppbnnaa
