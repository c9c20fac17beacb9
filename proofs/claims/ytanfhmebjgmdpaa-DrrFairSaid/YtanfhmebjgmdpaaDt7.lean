/-
  DrrTime: whole, a round that is not left.
-/
import Derived.Test.YtanfhmebjgmdpaaDt6
namespace Go.Proofs.Ytanfhmebjgmdpaa.Qj
open Go.RowKit Go.Shelf
set_option linter.unusedVariables false
set_option linter.unusedSimpArgs false
attribute [local go_sem] Oper.semAt_some
/-- Behind whole. -/
def WholeOut (W : World) (p : BL) (b : BK) (d L n : Nat) (quantum : Int) (s : DS X) (W' : World) : Prop :=
  ∃ b' s', BkAt W' p b' ∧ DrrAt W' d L 7 s' ∧ Btw n quantum b' s' ∧ s'.busy = false ∧ Alike s s' ∧ b'.added = b.added ∧ b'.until_ = b.until_ ∧ b'.rounds = b.rounds + 1 ∧ Fr (fun x => bfoot p x ∨ drfoot d L s x) W W'
/-- The first loop. -/
def Costing (W : World) (pb n : Nat) (room quantum : Int) (cs : List Int) (k : Nat) (wr : World) : Prop :=
  ∃ A c g, Bl wr W.heap.size tPB #[.pointer (some ⟨pb, 0, none⟩)] ∧ Bl wr (W.heap.size + 1) tShape #[.int .i64 (n : Int), .int .i64 room, .int .i64 quantum] ∧ Bl wr (W.heap.size + 2) tBool #[.bool false] ∧ Bl wr (W.heap.size + 3) tInts #[.slice A k c] ∧
    Ow wr tInt 1 A k c ((cs.map iv).take k) g ∧ (∀ x, g = some x → W.heap.size ≤ x) ∧ Fr (fun _ => False) W wr
set_option maxHeartbeats 4000000 in
set_option maxRecDepth 100000 in
theorem whole_any (W : World) (p : BL) (b : BK) (d L n : Nat) (room quantum : Int) (s : DS X) (hb : BkAt W p b) (hd : DrrAt W d L 7 s) (hB : Btw n quantum b s) (hbz : s.busy = false) (hr : 0 ≤ b.rounds ∧ b.rounds ≤ 4611686018427387904) (had : ∀ a ∈ b.added, a ≤ 4611686018427387904) (hq : 8 ≤ quantum ∧ quantum ≤ 1024) :
    Calls Try.prog 13 #[.pointer (some ⟨p.pb, 0, none⟩), .pointer (some ⟨d, 0, none⟩), .agg #[.int .i64 (n : Int), .int .i64 room, .int .i64 quantum]] W fun e W' => e = .returned (.bool true) ∧ WholeOut W p b d L n quantum s W' := by
  obtain ⟨j0, hj, hj0, hj1, hj2⟩ := info_parts infoInt
  have hn2 : n ≤ 1024 := by rw [← hB.ll]; exact hd.ok.n2
  have Hb := hide hb
  have Hd := hide hd
  have HB := hide hB
  have Hbz := hide hbz
  have Had := hide had
  clear hb hd hB hbz had
  refine (callsIn_wide (n := 5)).1 ?_
  refine callsIn_of_wp_marks Try.func13 rfl trivial ?_ rfl
  simp only [Try.ntmps13, List.size_toArray, List.length_cons, List.length_nil, Nat.reduceAdd, Nat.reduceSub, Array.replicate_succ, Array.replicate_zero, List.push_toArray, List.append_toArray, List.nil_append, List.cons_append]
  refine wpIn_wide.2 ?_
  go_wp2_with fail
  go_loopw [8] (fun i wr => ∃ k : Nat, i = .int .i64 (k : Int) ∧ k ≤ n ∧ Costing W p.pb n room quantum (cost0 s) k wr) (fun i _ => n - (intOf i).toNat)
  case atStart =>
    refine ⟨0, rfl, Nat.zero_le _, none, 0, none, ?_, ?_, ?_, ?_, Ow.nil_ _ _ _, (fun x e => by cases e), by (repeat (first | with_reducible exact Fr.refl _ _ | with_reducible assumption | with_reducible refine Fr.drew ?_ | with_reducible refine Fr.drewN ?_ _ | with_reducible refine Fr.alloc ?_ _ | with_reducible refine Fr.setIn ?_ (by first | exact Or.inl rfl | exact Or.inr (by simp; done) | exact Or.inr (by simp; omega) | exact Or.inr (by omega)) _))⟩
    all_goals (repeat (first | with_reducible assumption | with_reducible refine Bl.drew ?_ | with_reducible refine Bl.drewN ?_ _ | with_reducible refine Bl.far ?_ (by first | (simp; done) | (simp; omega)) _ | with_reducible exact Bl.newAt (by simp) | with_reducible refine Bl.alloc ?_ _))
  case round =>
    obtain ⟨k, rfl, hk, A, c, g, b1, b2, b3, b4, hO, hg, hf⟩ := hrel
    obtain ⟨wo, rfl⟩ : ∃ wo, wo = wr := ⟨_, rfl⟩
    by_cases hlt : k < n
    · have y0 : wo.cell? ⟨W.heap.size + 1, 0, none⟩ = some (.int .i64 (n : Int)) := b2.cell' rfl
      have c0 : wo.cell? ⟨W.heap.size + 3, 0, none⟩ = some (.slice A k c) := b4.cell' rfl
      have i1 : (k : Int) < (n : Int) := by omega
      obtain ⟨l, hl⟩ := get_of HB.out.ll hlt
      have hlen := Len_in wo (Hd.out.quiet hf) k l hl
      obtain ⟨z, hz⟩ : ∃ z : Int, (l.things.length : Int) = z := ⟨_, rfl⟩
      rw [hz] at hlen
      obtain ⟨cc, hcc⟩ : ∃ cc : Int, (if l.things = [] then -1 else 0) = cc := ⟨_, rfl⟩
      have htk : ((cost0 s).map iv).take (k + 1) = ((cost0 s).map iv).take k ++ [iv cc] := by
        rw [List.take_add_one]
        unfold cost0
        rw [List.getElem?_map, List.getElem?_map, hl, ← hcc]; rfl
      have HX := hide (And.intro b1 (And.intro b2 (And.intro b3 (And.intro b4 (And.intro hg (And.intro hf htk))))))
      clear b1 b2 b3 b4 hg hf htk
      have hEnd : ∀ A2 c2 (w2 : World) g2, Ow w2 tInt 1 A2 (k + 1) c2 (((cost0 s).map iv).take k ++ [iv cc]) g2 → Fr (fun x => some x = g) (wo.alloc (.cells #[.int .i64 cc] tInt)) w2 → (g2 = g ∨ ∃ y, g2 = some y ∧ wo.heap.size + 1 ≤ y) → w2.cell? ⟨W.heap.size + 3, 0, none⟩ = some (.slice A k c) ∧ w2.frozen? ⟨W.heap.size + 3, 0, none⟩ = false ∧ Costing W p.pb n room quantum (cost0 s) (k + 1) (w2.setCell ⟨W.heap.size + 3, 0, none⟩ (.slice A2 (k + 1) c2)) := fun A2 c2 w2 g2 hO2 hf2 hg2 => by
        obtain ⟨b1, b2, b3, b4, hg, hf, htk⟩ := HX.out
        have hgt : ∀ x, some x = g → ∃ cs, Bl wo x tInt cs := fun x e => Ow.tyAt hO e.symm
        have hf12 : Fr (fun x => some x = g) wo w2 := ((Fr.refl _ _).alloc _).comp hf2 fun _ _ e => e
        have hne : ∀ {x t cs}, Bl wo x t cs → t ≠ tInt → ¬ some x = g := fun {x t cs} hb ht e => by
          obtain ⟨cs', hc⟩ := hgt x e
          exact ht (hb.same hc).2
        have e4 := b4.fr hf12 (hne b4 (by decide))
        have hF3 : Fr (fun x => x = W.heap.size + 3) w2 (w2.setCell ⟨W.heap.size + 3, 0, none⟩ (.slice A2 (k + 1) c2)) := (Fr.refl _ _).setAt _
        refine ⟨e4.cell' rfl, e4.free 0, A2, c2, g2, (b1.fr hf12 (hne b1 (by decide))).fr hF3 (by omega), (b2.fr hf12 (hne b2 (by decide))).fr hF3 (by omega), (b3.fr hf12 (hne b3 (by decide))).fr hF3 (by omega), e4.set 0 _, ?_, fun x e => ?_, ?_⟩
        · rw [htk]
          refine Ow.fr hO2 hF3 fun y e e' => ?_
          obtain ⟨cs, hc⟩ := Ow.tyAt hO2 e
          exact (hc.apart e4 (by decide)) e'
        · rcases hg2 with e2 | ⟨y, e2, hy⟩
          · exact hg x (e2 ▸ e)
          · rw [e2] at e; cases e
            have := hf.size
            skip
            omega
        · exact (hf.comp hf12 fun x hx e => by have := hg x e.symm; omega).setIn (.inr (by omega)) _
      have HE := hide hEnd
      have hmx : k + 1 ≤ maxLen := by unfold maxLen; omega
      clear hEnd
      by_cases ht : l.things = []
      · rw [if_pos ht] at hcc
        subst hcc
        obtain rfl : z = 0 := by rw [← hz, ht]; rfl
        clear hz hl ht
        go_wp2_with fail
        refine hlen.mono ?_
        rintro e w1 ⟨rfl, rfl⟩
        go_wp2_with (at_builtin; refine wpList_append_ow _ rfl _ _ tInts rfl tInt j0 (.int .i64 0) 1 8 Try.underlying30 hj hj0 hj1 hj2 rfl (by decide) _ _ _ _ _ rfl (hO.fr ((Fr.refl _ _).alloc _) (fun _ _ => id)) _ _ _ _ rfl (Sl_int1 _ _ _) (by intro u hu; simp at hu; subst hu; rfl) hmx (by omega) ?_)
        intro A2 c2 w2 g2 hO2 hf2 hg2
        obtain ⟨t0, t1, hC⟩ := HE.out A2 c2 w2 g2 hO2 hf2 hg2
        have HC := hide hC
        clear hC hO2 hf2 hg2 hO c0
        go_wp2_with fail
        exact ⟨⟨k + 1, by go_num, hlt, HC.out⟩, by simp [intOf]; omega⟩
      · rw [if_neg ht] at hcc
        subst hcc
        have hz0 : ¬ z = 0 := by rw [← hz]; have := List.length_pos_iff.2 ht; omega
        clear hz hl ht
        go_wp2_with fail
        refine hlen.mono ?_
        rintro e w1 ⟨rfl, rfl⟩
        go_wp2_with (at_builtin; refine wpList_append_ow _ rfl _ _ tInts rfl tInt j0 (.int .i64 0) 1 8 Try.underlying30 hj hj0 hj1 hj2 rfl (by decide) _ _ _ _ _ rfl (hO.fr ((Fr.refl _ _).alloc _) (fun _ _ => id)) _ _ _ _ rfl (Sl_int1 _ _ _) (by intro u hu; simp at hu; subst hu; rfl) hmx (by omega) ?_)
        intro A2 c2 w2 g2 hO2 hf2 hg2
        obtain ⟨t0, t1, hC⟩ := HE.out A2 c2 w2 g2 hO2 hf2 hg2
        have HC := hide hC
        clear hC hO2 hf2 hg2 hO c0
        go_wp2_with fail
        exact ⟨⟨k + 1, by go_num, hlt, HC.out⟩, by simp [intOf]; omega⟩
    · obtain rfl : k = n := by omega
      have y0 : wo.cell? ⟨W.heap.size + 1, 0, none⟩ = some (.int .i64 (k : Int)) := b2.cell' rfl
      have htk : ((cost0 s).map iv).take k = (cost0 s).map iv := List.take_of_length_le (by unfold cost0; simp [HB.out.ll])
      rw [htk] at hO
      have HX := hide (And.intro b1 (And.intro b2 (And.intro b3 (And.intro b4 (And.intro hg (And.intro hf hO))))))
      clear b1 b2 b3 b4 hg hf htk hO
      go_wp2_with fail
      refine (Round_any _ _ ⟨_, rfl⟩).mono ?_
      rintro e w5 ⟨rfl, hw5⟩
      have hfn := func_nil
      go_wp2_with fail
      clear hfn
      obtain ⟨W0, hW0⟩ : ∃ W0 : World, W0.heap.size = W.heap.size ∧ W0 = W := ⟨W, rfl, rfl⟩
      obtain ⟨b1, b2, b3, b4, hg, hf, hO⟩ := HX.out
      have hsz := b4.lt
      obtain ⟨lb, hlb⟩ : ∃ lb, wo.heap.size = lb := ⟨_, rfl⟩
      have hF5 : Fr (fun _ => False) wo w5 := by rw [← hw5]; (repeat (first | with_reducible exact Fr.refl _ _ | with_reducible assumption | with_reducible refine Fr.drew ?_ | with_reducible refine Fr.drewN ?_ _ | with_reducible refine Fr.alloc ?_ _ | with_reducible refine Fr.setIn ?_ (by first | exact Or.inl rfl | exact Or.inr (by simp; done) | exact Or.inr (by simp; omega) | exact Or.inr (by omega)) _))
      have hl5 : Bl w5 wo.heap.size tInt #[.int .i64 0] := by rw [← hw5]; (repeat (first | with_reducible assumption | with_reducible refine Bl.drew ?_ | with_reducible refine Bl.drewN ?_ _ | with_reducible refine Bl.far ?_ (by first | (simp; done) | (simp; omega)) _ | with_reducible exact Bl.newAt (by simp) | with_reducible refine Bl.alloc ?_ _))
      have hx5 : Bl w5 (wo.heap.size + 1) tPD #[.pointer (some ⟨d, 0, none⟩)] := by rw [← hw5]; exact Bl.newAt (by simp)
      rw [hlb] at hl5 hx5
      simp only [hlb]
      have hal := Alike.refl s
      have hat : DrrAt w5 d L (7 + 1024) s := ((Hd.out.quiet hf).quiet hF5).up (by omega) (by omega)
      have hRH0 : RH (lb + 1) d L 7 ⟨s, 0, false, none, false⟩ w5 := ⟨hat, hx5, ⟨fun j l hl _ => (Hd.out.ok.df l (List.mem_of_getElem? hl)).2⟩, fun e => by cases e⟩
      have HJ0 : Hid (WI W ⟨W.heap.size, W.heap.size + 1, W.heap.size + 2, W.heap.size + 3, lb, lb + 1, A, c, g⟩ p b d L k room quantum s ⟨s, 0, false, none, false⟩ w5) :=
        ⟨b, cost0 s, 0, ⟨hRH0, HB.out.start hq.1, (Hb.out.fr hf fun _ _ => id).fr hF5 (fun _ _ => id), rfl, rfl, rfl, ⟨b1.fr hF5 id, b2.fr hF5 id, b3.fr hF5 id, b4.fr hF5 id, hO.fr hF5 (fun _ _ => id), hl5, fun x e => ⟨hg x e, fun e' => by have := hO.lt x e; have e2 : x = lb := e'; omega⟩, (by show W.heap.size ≤ W.heap.size + 3; omega), (by show W.heap.size ≤ lb; omega)⟩, (fun e => by cases e), hal, (hf.trans hF5).weak _, fun x hx => Hb.out.lt hx⟩⟩
      have hs56 : lb + 2 ≤ w5.heap.size := by have := hx5.lt; omega
      have hs57 : W.heap.size + 4 ≤ lb := by omega
      clear b1 b2 b3 b4 hg hf hO hl5 hx5 hat hRH0 hw5 hF5 HX hsz hlb hW0 W0
      refine (wpIn_wide (n := 5)).1 ?_
      refine wpIn_rangeFunc_K (fun a x a' W => ∃ B, a' = { tmps := (((a.tmps.setIfInBounds 36 (.int .i64 (x.1 : Int))).setIfInBounds 37 (tv x.2)).setIfInBounds 12 (.int .i64 (x.1 : Int))).setIfInBounds 13 (.pointer (some ⟨B, 0, none⟩)), defers := [] } ∧ Bl W B 39 #[.int .i64 x.2.1.1, .int .i64 x.2.1.2])
        rfl (by omega) (gf := 32) (lb := #[.pointer (some ⟨lb + 1, 0, none⟩)]) rfl trivial (enters_of Try.func32 (by kernel_rfl) rfl)
        (round_seq (bx := lb + 1) (d := d) (L := L) (D := 7) 4 s Hbz.out (by omega)) (fun x => rfl) (fun h k b cs hb => k b cs (h b cs hb)) (fun W l o o' hl ho b cs hb => hb.own (grownBy_putObj' W l o') (fun r e => by cases e; exact ⟨o, hl, ho⟩))
        (WI W ⟨W.heap.size, W.heap.size + 1, W.heap.size + 2, W.heap.size + 3, lb, lb + 1, A, c, g⟩ p b d L k room quantum s) (fun _ _ _ => False) (fun _ _ ⟨_, _, _, h⟩ => h.rh) (fun _ _ _ h => h.elim) ?turn (fun _ _ _ _ _ h => h.elim) ?own (fun _ _ _ _ _ h => h.elim) HJ0.out
        (fun x a' _ W W' row ⟨B, e, hb⟩ hg hr => ⟨B, e, hb.own hg (fun r e => (hr r e).2)⟩) ?assign ?body ?done (fun _ _ _ _ _ _ h => h.elim)
      case assign =>
        intro l s x W K hJ hR hK
        simp only [encY, tv]
        gi_wp2
        obtain ⟨B, hB⟩ : ∃ B, W.heap.size = B := ⟨_, rfl⟩
        simp only [hB]
        refine hK _ _ ((KeepsOthers.alloc W _).from _) (fun b cs hb => hb.alloc _) ?_ ⟨B, rfl, by rw [← hB]; exact Bl.new _ _ _⟩
        exact (WI.own (B := w5.heap.size) (by omega)).alloc _ hJ
      case turn => exact fun s W s' W' hj ht => WI.turn hj ht _
      case own => exact WI.own (by omega)
      case body => 
        rintro l r ⟨qk, y⟩ a' W' hl - hJ ⟨B, rfl, hB⟩ hR
        obtain ⟨b1, costs, last, hJ⟩ := hJ
        obtain ⟨hp, hv, hfin⟩ := hR
        obtain ⟨e1, -, -, hy1, sv, ad, un, cc, u, hs, ha, hu, hc, hN, hC, hsa, hun, hur, hc0⟩ := hJ.pi.pend qk y hp
        have hqn : qk < k := by rw [e1]; exact hJ.pi.visk hv
        have hlast := hJ.pi.lastk hv
        obtain ⟨ql, hql⟩ := get_of hJ.pi.ll hqn
        have hlin := hJ.pi.lin qk ql ad sv cc un hql ha hs hc hu
        have hcc : cc + y.2 ≤ 1031 := by
          have h1 : pc r qk = y.2 := ((pn_some hp _).1 rfl).2
          rw [h1] at hlin
          have h2 := hlin.df0
          have h3 := hq.2
          rcases hlin.ph with ⟨h4, _⟩ | ⟨_, h4, _⟩ | ⟨_, _, h4, _⟩
          · exact absurd (.inr (.inr ⟨e1, hv⟩)) h4
          · omega
          · omega
        obtain ⟨xc, oc, hA, hg, cC, zC⟩ := hJ.wo.o.look (j := qk) (u := iv cc) (by rw [List.getElem?_map, hc]; rfl)
        have hser := serve_any W' p b1 hJ.bk qk y.1.1 y.1.2 hs ha hu hN hsa hun hur ⟨by rw [hJ.pi.la]; omega, Had.out ad (by rw [← hJ.ea]; exact List.mem_of_getElem? ha)⟩
        have w0 := hJ.wo.s.cell' (i := 0) rfl
        have w1 := hJ.wo.y.cell' (i := 0) rfl
        have w3 := hJ.wo.c.cell' (i := 0) rfl
        have w4 := hJ.wo.l.cell' (i := 0) rfl
        simp only at hA hg w0 w1 w3 w4
        rw [hA] at w3
        have d0 := hB.cell' (i := 0) rfl
        have d1 := hB.cell' (i := 1) rfl
        have i1 : ¬ (qk : Int) < last := by omega
        have i2 : ¬ (k : Int) ≤ (qk : Int) := by omega
        have i3 : (0 : Int) ≤ (qk : Int) := by omega
        have i4 : (qk : Int) < (k : Int) := by omega
        have i5 : ¬ cc < 0 := by omega
        have i6 : IntKind.i64.wrap (cc + y.1.2) = cc + y.1.2 := IntWalk.i64_in _ (by omega)
        have HX := hide (And.intro hJ (And.intro hp (And.intro hs (And.intro hc (And.intro hA (And.intro hg hB))))))
        have cC' : W'.cell? ⟨xc, oc + qk, none⟩ = some (.int .i64 cc) := cC
        clear hJ hp hs hc hA hg hB hlin hcc hql e1 hlast hv hfin ha hu hN hC hsa hun hur hc0 hy1 cC hqn
        simp only [tv, List.setIfInBounds_toArray, List.set_cons_succ, List.set_cons_zero]
        gi_wp2
        refine ⟨trivial, ((callsIn_wide.2 hser).inRound l).mono ?_⟩
        rintro e w6 ⟨rfl, hb6, hf6⟩
        obtain ⟨hJ, hp, hs, hc, hA, hg, hB⟩ := HX.out
        obtain ⟨cx, tx⟩ := Ow.tyAt hJ.wo.o hg
        have hpS : ∀ x t cs, Bl W' x t cs → (t = tInt ∧ W.heap.size ≤ x ∨ t = tInts ∧ W.heap.size ≤ x ∨ t = tBool ∨ t = tPB ∨ t = tShape) → ¬ some x = p.gS := fun x t cs hb ht e => hJ.bt hb ht (.inr (.inr (.inl e)))
        have hxc := hpS _ _ _ tx (.inl ⟨rfl, (hJ.wo.g xc hg).1⟩)
        have v3 := (hf6.cell (World.block_lt_of_cell? W' _ w3) (hpS _ _ _ hJ.wo.c (.inr (.inl ⟨rfl, hJ.wo.g1⟩)))).trans w3
        have vC := (hf6.cell (World.block_lt_of_cell? W' _ cC') hxc).trans cC'
        have vZ := (hf6.frozen (World.block_lt_of_cell? W' _ cC') hxc).trans zC
        have vB : w6.cell? ⟨B, 1, none⟩ = some (.int .i64 y.1.2) := (hf6.cell (World.block_lt_of_cell? W' _ d1) (fun e => by
          obtain ⟨cs, hc'⟩ := Ow.tyAt hJ.bk.os e.symm
          exact hB.apart hc' (by decide) rfl)).trans d1
        have vL := (hf6.cell (World.block_lt_of_cell? W' _ w4) (hpS _ _ _ hJ.wo.l (.inl ⟨rfl, hJ.wo.g2⟩))).trans w4
        have vLz := (hf6.frozen (World.block_lt_of_cell? W' _ w4) (hpS _ _ _ hJ.wo.l (.inl ⟨rfl, hJ.wo.g2⟩))).trans (hJ.wo.l.free 0)
        have hxl : ¬ lb = xc := fun e => (hJ.wo.g xc hg).2 e.symm
        have fin : ∀ W2, Fr (fun _ => False) w6 W2 → _ := fun W2 h2 => hJ.book hp hs hc hb6 hf6 h2 hA hg
        have FIN := hide fin
        clear fin hJ hp hs hc hA hg hB tx hpS hxc w0 w1 w3 w4 d0 d1 cC' zC HX hb6 hf6 hser
        (try simp only at v3 vL vLz)
        gi_wp2
        refine regionIn_tail 10 (by kernel_rfl) (by kernel_rfl) (by kernel_rfl) ?_
        intro w7 H7 hc7 hz7 hs7
        simp only [List.take_succ_cons, List.take_zero, List.drop_succ_cons, List.drop_zero]
        repeat still_step
        refine wpStill_nil ?_
        gi_wp2
        obtain rfl := H7.out
        obtain ⟨f1, f2, f3⟩ := FIN.out w6.drew ((Fr.refl _ _).drew)
        exact ⟨f3 _, f2, _, rfl, f1⟩
      case done =>
        intro D r W' hD hfin hJ hW
        obtain ⟨b1, costs, last, hJ⟩ := hJ
        have hpn : r.pend = none := by
          cases hp : r.pend with
          | none => rfl
          | some v =>
            obtain ⟨_, _, h3, _⟩ := hJ.pi.pend v.1 v.2 hp
            rw [hfin] at h3; cases h3
        obtain ⟨hB', hcs⟩ := hJ.pi.done hpn hfin
        have w0 := hJ.wo.s.cell' (i := 0) rfl
        have c3 := hJ.bk.bl.cell' (i := 3) rfl
        have z3 := hJ.bk.bl.free 3
        have iw : IntKind.i64.wrap (b1.rounds + 1) = b1.rounds + 1 := IntWalk.i64_in _ (by rw [hJ.er]; omega)
        obtain ⟨W1, hW1⟩ : ∃ W1, W'.setCell ⟨p.pb, 3, none⟩ (.int .i64 (b1.rounds + 1)) = W1 := ⟨_, rfl⟩
        have hF1 : Fr (fun x => x = p.pb) W' W1 := by rw [← hW1]; exact (Fr.refl _ _).setAt _
        have hbk1 : BkAt W1 p { b1 with rounds := b1.rounds + 1 } := by rw [← hW1]; exact hJ.bk.round _
        have hpb : bfoot p p.pb := .inl rfl
        have hat1 : DrrAt W1 d L (7 + 1024) r.s := hJ.rh.at_.fr hF1 fun x hx e => bk_dr hJ.rh.at_ hJ.bk hpb (e ▸ hx)
        have hwo1 := hJ.wo.keep hF1 fun x t cs hb ht e => hJ.bt hb ht (e ▸ hpb)
        have hD1 : W1.heap[D]? = some (.deferred (some [])) := (hF1.block D (Array.getElem?_eq_some_iff.1 hW).1 (fun e => by
          have hb := hJ.bk.bl
          unfold Bl at hb
          rw [← e, hW] at hb; cases hb)).trans hW
        have HP := hide (And.intro hB' (And.intro hcs (And.intro hJ (And.intro hbk1 (And.intro hat1 (And.intro hwo1 (And.intro hD1 hF1)))))))
        clear hB' hcs hJ hbk1 hat1 hwo1 hD1 hF1 hW hpb hpn HJ0
        have HPfin' := hide hfin
        clear hfin
        go_wp2_with fail
        (try rw [hW1])
        clear hW1 w0 c3 z3 iw
        go_loopw [15] (fun i wr => ∃ m : Nat, i = .int .i64 (m : Int) ∧ m ≤ k ∧ Fr (fun _ => False) W1 wr) (fun i _ => k - (intOf i).toNat)
        case atStart => exact ⟨0, rfl, Nat.zero_le _, Fr.refl _ _⟩
        case round =>
          obtain ⟨m, rfl, hm, hf⟩ := hrel
          obtain ⟨wo2, rfl⟩ : ∃ wo2, wo2 = wr := ⟨_, rfl⟩
          obtain ⟨hB', hcs, hJ, hbk1, hat1, hwo1, hD1, hF1⟩ := HP.out
          have hwo := hwo1.keep hf fun _ _ _ _ _ => id
          have hbk := hbk1.fr hf fun _ _ => id
          have hat := hat1.quiet hf
          have y0 : wo2.cell? ⟨W.heap.size + 1, 0, none⟩ = some (.int .i64 (k : Int)) := hwo.y.cell' (i := 0) rfl
          have s0 : wo2.cell? ⟨W.heap.size, 0, none⟩ = some (.pointer (some ⟨p.pb, 0, none⟩)) := hwo.s.cell' (i := 0) rfl
          by_cases hlt : m < k
          · obtain ⟨l, hl⟩ := get_of hB'.ll hlt
            obtain ⟨cc, hc⟩ := get_of hJ.pi.lc hlt
            obtain ⟨ad, ha⟩ := get_of hB'.la hlt
            obtain ⟨sv, hs⟩ := get_of hB'.ls hlt
            obtain ⟨un, hu⟩ := get_of hB'.lu hlt
            obtain ⟨k1, k2, k3, k4, k5⟩ := hcs m l cc hl hc
            obtain ⟨m1, -⟩ := hB'.lin m l ad sv un hl ha hs hu
            have had := Had.out ad (by have h := List.mem_of_getElem? ha; rw [← hJ.ea]; exact h)
            obtain ⟨xc, oc, hA, -, cC, -⟩ := hwo.o.look (j := m) (u := iv cc) (by rw [List.getElem?_map, hc]; rfl)
            obtain ⟨xa, oa, hPA, -, cA, -⟩ := hbk.lookA ha
            obtain ⟨xs, os, hPS, -, cS, -⟩ := hbk.lookS hs
            have cC' : wo2.cell? ⟨xc, oc + m, none⟩ = some (.int .i64 cc) := cC
            have y2 : wo2.cell? ⟨W.heap.size + 1, 2, none⟩ = some (.int .i64 quantum) := hwo.y.cell' (i := 2) rfl
            have c0 : wo2.cell? ⟨W.heap.size + 3, 0, none⟩ = some (.slice A k c) := hwo.c.cell' (i := 0) rfl
            have hbl := hbk.bl
            have hal : b1.added.length = k := hB'.la
            (try simp only at hA)
            rw [hA] at c0
            have p0 : wo2.cell? ⟨p.pb, 0, none⟩ = some (.slice (some ⟨xa, oa, none⟩) k p.ca) := by rw [← hPA, ← hal]; exact hbl.cell' (i := 0) rfl
            have p1 : wo2.cell? ⟨p.pb, 1, none⟩ = some (.slice (some ⟨xs, os, none⟩) k p.cs) := by rw [← hPS, ← hal]; exact hbl.cell' (i := 1) rfl
            have k1' : ¬ cc = 0 := k1
            have hdf := Deficit_in wo2 hat m l hl
            have hln : ∀ nn, Calls Try.prog 10 #[.pointer (some ⟨d, 0, none⟩), .int .i64 (m : Int)] (wo2.drewN nn) fun e w' => e = .returned (.int .i64 (l.things.length : Int)) ∧ wo2.drewN nn = w' := fun nn => Len_in _ (hat.quiet ((Fr.refl _ _).drewN nn)) m l hl
            obtain ⟨z, hz⟩ : ∃ z : Int, (l.things.length : Int) = z := ⟨_, rfl⟩
            obtain ⟨v, hv⟩ : ∃ v : Int, l.df = v := ⟨_, rfl⟩
            rw [hv] at hdf k3 k4 k5
            simp only [hz] at hln
            have i1 : (m : Int) < (k : Int) := by omega
            have i2 : (0 : Int) ≤ (m : Int) := by omega
            have i3 : IntKind.i64.wrap (quantum + 8) = quantum + 8 := IntWalk.i64_in _ (by omega)
            have i4 : ¬ quantum + 8 ≤ cc := by omega
            have i5 : ¬ v < 0 := by omega
            have i6 : ¬ 7 < v := by omega
            have hb1 : (cc == 0) = false := by simpa using k1'
            have hb2 : decide (quantum + 8 ≤ cc) = false := by simp; omega
            have hb3 : decide (v < 0) = false := by simp; omega
            have hb4 : decide (7 < v) = false := by simp; omega
            have i7 : IntKind.i64.wrap ((ad : Int) - (sv : Int)) = z := by rw [show (ad : Int) - (sv : Int) = z by omega]; exact IntWalk.i64_in _ (by omega)
            have Hf := hide hf
            by_cases ht : l.things = []
            · obtain rfl : v = 0 := k5 ht
              obtain rfl : z = 0 := by rw [← hz, ht]; rfl
              clear hB' hcs hJ hbk1 hat1 hwo1 hD1 hF1 hwo hbk hat hl hc ha hs hu k1 k2 k3 k4 k5 m1 had hA cC hPA hPS hbl hz hv hf ht hal
              go_wp2_with fail
              refine hdf.mono ?_
              rintro e w6 ⟨rfl, rfl⟩
              go_wp2_with fail
              go_quiet ((go_at_call 10; exact quiet_left (hln _)))
              go_wp2_with fail
              exact ⟨⟨m + 1, by go_num, hlt, Hf.out.drewN nq⟩, by simp [intOf]; omega⟩
            · have hz0 : ¬ z = 0 := by rw [← hz]; have := List.length_pos_iff.2 ht; omega
              have hb5 : (z == 0) = false := by simpa using hz0
              clear hB' hcs hJ hbk1 hat1 hwo1 hD1 hF1 hwo hbk hat hl hc ha hs hu k1 k2 k3 k4 k5 m1 had hA cC hPA hPS hbl hz hv hf ht hal
              go_wp2_with fail
              refine hdf.mono ?_
              rintro e w6 ⟨rfl, rfl⟩
              go_wp2_with fail
              go_quiet ((go_at_call 10; exact quiet_left (hln _)))
              go_wp2_with fail
              exact ⟨⟨m + 1, by go_num, hlt, Hf.out.drewN nq⟩, by simp [intOf]; omega⟩
          · obtain rfl : m = k := by omega
            have hlate := late_any wo2 p _ hbk (by rw [show ({ b1 with rounds := b1.rounds + 1 } : BK).added.length = m from hB'.la]; omega) (fun q ad sv un h1 h2 h3 => by
              have hqn : q < m := by rw [← hB'.la]; exact (List.getElem?_eq_some_iff.1 h1).1
              obtain ⟨l, hl⟩ := get_of hB'.ll hqn
              obtain ⟨m1, -, -, -, -, -, m2⟩ := hB'.lin q l ad sv un hl h1 h2 h3
              refine ⟨Had.out ad (by have h := List.mem_of_getElem? h1; rw [← hJ.ea]; exact h), by omega, fun j hj1 hj2 => ?_⟩
              obtain ⟨u, hu1, hu2⟩ := m2 (j - sv) (by omega)
              rw [show sv + (j - sv) = j by omega] at hu1
              exact ⟨u, hu1, by omega⟩)
            have r0 := hwo.r.cell' (i := 0) rfl
            have zr := hwo.r.free 0
            have hrl := hwo.r.lt
            have Hf := hide hf
            have HR := hide hwo.r
            clear hB' hcs hJ hbk1 hat1 hwo1 hD1 hF1 hwo hbk hat hf
            go_wp2_with fail
            refine hlate.mono ?_
            rintro e w6 ⟨rfl, hf6⟩
            have zr6 := (hf6.frozen (World.block_lt_of_cell? wo2 _ r0) id).trans zr
            have r06 := (hf6.cell (World.block_lt_of_cell? wo2 _ r0) id).trans r0
            have HF6 := hide hf6
            clear hf6 r0 zr
            go_wp2_with fail
            obtain ⟨hB', hcs, hJ, hbk1, hat1, hwo1, hD1, hF1⟩ := HP.out
            have hFin : Fr (fun x => x = W.heap.size + 2) W1 (w6.setCell ⟨W.heap.size + 2, 0, none⟩ (.bool true)) := ((Hf.out.trans HF6.out).weak _).setAt _
            have hDne : D ≠ W.heap.size + 2 := by omega
            have hW9 : (w6.setCell ⟨W.heap.size + 2, 0, none⟩ (.bool true)).heap[D]? = some (.deferred (some [])) := (hFin.block D (Array.getElem?_eq_some_iff.1 hD1).1 hDne).trans hD1
            have hFp : Fr (fun x => x = D) (w6.setCell ⟨W.heap.size + 2, 0, none⟩ (.bool true)) ((w6.setCell ⟨W.heap.size + 2, 0, none⟩ (.bool true)).putObj D (.deferred none)) := (Fr.ofGrown (grownBy_putObj' _ D _)).mono fun x _ e => by cases e; rfl
            have hbt : ∀ {x t cs}, Bl W1 x t cs → ¬ x = D := fun {x t cs} hb e => by
              subst e; unfold Bl at hb; rw [hD1] at hb; cases hb
            have hFall : Fr (fun x => x = W.heap.size + 2 ∨ x = D) W1 ((w6.setCell ⟨W.heap.size + 2, 0, none⟩ (.bool true)).putObj D (.deferred none)) := (hFin.mono fun x _ e => .inl e).trans (hFp.mono fun x _ e => .inr e)
            have hr9 : ((w6.setCell ⟨W.heap.size + 2, 0, none⟩ (.bool true)).putObj D (.deferred none)).cell? ⟨W.heap.size + 2, 0, none⟩ = some (.bool true) := by
              have h1 := ((HR.out.fr HF6.out id).set 0 (.bool true)).fr hFp (fun e => hDne e.symm)
              exact h1.cell' rfl
            refine ⟨by simp, .inl ⟨_, _, rfl, run_takeDeferred hW9, ?_⟩⟩
            refine ⟨_, results_cell1 rfl _ _ (W.heap.size + 2) (.bool true) _ rfl hr9 Try.underlying4 rfl, rfl, _, r.s, hbk1.fr hFall fun x hx e => ?_, (hat1.fr hFall fun x hx e => ?_).down xc (by omega) (by omega) (fun l hl => ?_), hB', hJ.nb HPfin'.out, hJ.al, hJ.ea, hJ.eu, ?_, ?_⟩
            · obtain ⟨t, cs, hc, ht⟩ := hbk1.ty hx
              rcases e with rfl | rfl
              · have := (hc.same hwo1.r).2
                subst this
                revert ht; decide
              · exact hbt hc rfl
            · rcases e with rfl | rfl
              · exact dr_ne hat1 hwo1.r (by simp) hx
              · obtain ⟨t, cs, hc, ht⟩ := hat1.ty hx
                exact hbt hc rfl
            · obtain ⟨i, hi⟩ := List.mem_iff_getElem?.1 hl
              obtain ⟨cc, hc⟩ := get_of hJ.pi.lc (by rw [← hJ.pi.ll]; exact (List.getElem?_eq_some_iff.1 hi).1)
              exact (hcs i l cc hi hc).2.2.2.1
            · show b1.rounds + 1 = b.rounds + 1
              rw [hJ.er]
            · exact (hJ.fr.trans (hF1.mono fun x _ e => .inl (.inl e))).comp hFall fun x hx e => by omega
end Go.Proofs.Ytanfhmebjgmdpaa.Qj
