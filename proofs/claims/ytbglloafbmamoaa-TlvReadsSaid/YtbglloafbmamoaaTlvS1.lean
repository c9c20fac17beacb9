/-
  Readers of the reference: wrong, field, Number, Raw, Text, Fault, End.
-/
import Derived.Test.YtbglloafbmamoaaTlvR3
namespace Go.Proofs.Ytbglloafbmamoaa
open Go.RowKit
set_option linter.unusedVariables false
attribute [local go_sem ↓] Go.wp_at_zero Go.wp_at_succ

def FO.tkCells (x : FO × Bool) : List Value := [.int .i64 x.1.F.tag, .slice x.1.A x.1.n x.1.c, .int .i64 x.1.F.at_, .int .i64 x.1.F.from_, .bool x.2]
theorem FO.tkCells_len (x : FO × Bool) : (FO.tkCells x).length = 5 := rfl
/-- A reader of the reference. -/
structure RRd where
  q : Nat
  L : Option Addr
  n : Nat
  c : Nat
  g : Option Nat
  rs : List FO
def RRd.foot (r : RRd) (x : Nat) : Prop := some x = r.g
structure RR (w : World) (wq : Nat) (r : RRd) (d : RD) : Prop where
  bl : Bl w r.q 154 #[.pointer (some ⟨wq, 0, none⟩), .int .i64 (d.base : Int), .slice r.L r.n r.c]
  ls : Ow w 42 5 r.L r.n r.c ((r.rs.zip d.tk).flatMap FO.tkCells) r.g
  eq : r.rs.map (·.F) = d.fs
  own : ∀ x ∈ r.rs, Ow w 5 1 x.A x.n x.c ((x.F.val d.bs).map bn) x.g
  ok : d.ok
theorem RR.len {w : World} {wq : Nat} {r : RRd} {d : RD} (h : RR w wq r d) : r.rs.length = d.fs.length := by rw [← h.eq, List.length_map]
theorem RR.zlen {w : World} {wq : Nat} {r : RRd} {d : RD} (h : RR w wq r d) : (r.rs.zip d.tk).length = r.rs.length := by rw [List.length_zip, h.ok.tk, h.len, Nat.min_self]
theorem RR.n_eq {w : World} {wq : Nat} {r : RRd} {d : RD} (h : RR w wq r d) : r.n = r.rs.length := by rw [h.ls.rowsLen FO.tkCells_len (by omega), h.zlen]
theorem RR.within {w : World} {wq : Nat} {r : RRd} {d : RD} (h : RR w wq r d) : Within w r.foot := fun x hx => ⟨_, h.ls.typed x hx.symm, .inr (.inr (.inr rfl))⟩
theorem RR.fr {w w' : World} {wq : Nat} {r : RRd} {d : RD} {S : Nat → Prop} (h : RR w wq r d) (hf : Fr S w w') (hS : Within w S) (hp : ∀ x, r.foot x → ¬ S x) : RR w' wq r d :=
  ⟨h.bl.fr hf (hS.not h.bl.typed (by unfold Turns; decide)), h.ls.fr hf (fun b e => hp b e.symm), h.eq, fun x hx => (h.own x hx).fr hf fun b e => hS.not ((h.own x hx).typed b e) (by unfold Turns; decide), h.ok⟩
theorem RR.quiet {w w' : World} {wq : Nat} {r : RRd} {d : RD} (h : RR w wq r d) (hf : Fr (fun _ => False) w w') : RR w' wq r d := h.fr hf (Within.none_ w) fun _ _ => id
/-- The cells of a field. -/
theorem RR.row {w : World} {wq : Nat} {r : RRd} {d : RD} (h : RR w wq r d) {k : Nat} (hk : k < r.rs.length) :
    ∃ b o, r.L = some ⟨b, o, none⟩ ∧ r.g = some b ∧ ∀ j u, (FO.tkCells (r.rs[k], d.tk.getD k false))[j]? = some u → w.cell? ⟨b, o + k * 5 + j, none⟩ = some u ∧ w.frozen? ⟨b, o + k * 5 + j, none⟩ = false := by
  have hz : k < (r.rs.zip d.tk).length := by rw [h.zlen]; exact hk
  obtain ⟨b, o, h1, h2, h3⟩ := h.ls.rowAt FO.tkCells_len hz (by omega)
  refine ⟨b, o, h1, h2, fun j u hu => h3 j u ?_⟩
  have ht : k < d.tk.length := by rw [h.ok.tk, ← h.len]; exact hk
  have e : (r.rs.zip d.tk)[k] = (r.rs[k], d.tk.getD k false) := by
    rw [List.getElem_zip]; simp [List.getD, ht]
  rw [e]; exact hu
theorem zip_take : ∀ (rs : List FO) (tk : List Bool) (k : Nat), k < rs.length → k < tk.length → ((rs.zip tk).flatMap FO.tkCells).set (k * 5 + 4) (.bool true) = (rs.zip (tk.set k true)).flatMap FO.tkCells
  | x :: rs, b :: tk, 0, _, _ => by
    simp [FO.tkCells]
  | x :: rs, b :: tk, k + 1, h1, h2 => by
    have ih := zip_take rs tk k (by simpa using h1) (by simpa using h2)
    simp only [List.zip_cons_cons, List.flatMap_cons, List.set_cons_succ]
    rw [← ih, List.set_append_right _ _ (by rw [FO.tkCells_len]; omega), FO.tkCells_len, show (k + 1) * 5 + 4 - 5 = k * 5 + 4 by omega]

/-- Behind a call of a reader of the reference. -/
structure RPost (w : World) (wq : Nat) (r : RRd) (d' : RD) (f' : RF) (w' : World) : Prop where
  rr : RR w' wq r d'
  flt : Flt w' 139 wq f'
  fr : Fr (fun x => x = wq ∨ r.foot x) w w'
theorem Flt.notFootR {w : World} {wq : Nat} {r : RRd} {d : RD} {f : RF} (hF : Flt w 139 wq f) (hR : RR w wq r d) : ¬ r.foot wq := fun e =>
  absurd ((hR.ls.typed wq e.symm).same (Bl.typed hF)) (by decide)
theorem Flt.withinR {w : World} {wq : Nat} {f : RF} (h : Flt w 139 wq f) : Within w (fun x => x = wq) := fun x e => by subst e; exact ⟨_, Bl.typed h, .inr (.inr (.inl rfl))⟩
theorem RPost.refl {w : World} {wq : Nat} {r : RRd} {d : RD} {f : RF} (hR : RR w wq r d) (hF : Flt w 139 wq f) : RPost w wq r d f w := ⟨hR, hF, Fr.refl _ _⟩
theorem RPost.quiet {w w1 w2 : World} {wq : Nat} {r : RRd} {d' : RD} {f : RF} (h : RPost w wq r d' f w1) (hf : Fr (fun _ => False) w1 w2) : RPost w wq r d' f w2 :=
  ⟨h.rr.quiet hf, h.flt.fr hf id, h.fr.comp hf fun _ _ e => e.elim⟩
theorem RPost.fld {w w1 : World} {wq : Nat} {r : RRd} {d d' : RD} {f : RF} (hR : RR w wq r d) (hF : Flt w 139 wq f) (h1 : RR w1 wq r d') (hf : Fr r.foot w w1) : RPost w wq r d' f w1 :=
  ⟨h1, hF.fr hf (hF.notFootR hR), hf.mono fun _ _ e => .inr e⟩
theorem RPost.bad {w w1 w2 : World} {wq : Nat} {r : RRd} {d' : RD} {f f' : RF} (h : RPost w wq r d' f w1) (hf : Fr (fun x => x = wq) w1 w2) (hF : Flt w2 139 wq f') : RPost w wq r d' f' w2 :=
  ⟨h.rr.fr hf h.flt.withinR fun x hx e => by subst e; exact h.flt.notFootR h.rr hx, hF, h.fr.comp hf fun _ _ e => .inl e⟩

set_option maxHeartbeats 2000000 in
set_option maxRecDepth 4000 in
theorem rwrong_any (w : World) (wq q : Nat) (ba a : Nat) (X : Value) (f : RF) (e : Int) (hb : ba + a ≤ 140737488355328) (h0 : Bl w q 154 #[.pointer (some ⟨wq, 0, none⟩), .int .i64 (ba : Int), X]) (h : Flt w 139 wq f) :
    Calls Try.prog 100 #[rp q, .int .i64 (a : Int), .int .i64 e] w fun x w' => x = .returned (.tuple #[]) ∧ Flt w' 139 wq (f.wrong ((ba : Int) + a) e) ∧ Fr (fun x => x = wq) w w' := by
  have c0 : w.cell? ⟨q, 0, none⟩ = some (.pointer (some ⟨wq, 0, none⟩)) := h0.cell' rfl
  have c1 : w.cell? ⟨q, 1, none⟩ = some (.int .i64 (ba : Int)) := h0.cell' rfl
  have k1 : w.cell? ⟨wq, 1, none⟩ = some (.int .i64 f.e) := Bl.cell' h rfl
  have k0 : w.cell? ⟨wq, 0, none⟩ = some (.int .i64 f.place) := Bl.cell' h rfl
  have f0 : w.frozen? ⟨wq, 0, none⟩ = false := Bl.free h 0
  have f1 : w.frozen? ⟨wq, 1, none⟩ = false := Bl.free h 1
  have hne : ¬ q = wq := fun e => absurd (h0.typed.same (e ▸ Bl.typed h)) (by decide)
  have H := hide h
  obtain ⟨er, her⟩ : ∃ er, f.e = er := ⟨_, rfl⟩
  rw [her] at k1
  have Her := hide her
  have hw0 : IntKind.i64.wrap ((ba : Int) + (a : Int)) = (ba : Int) + a := IntWalk.i64_in _ (by omega)
  clear h her h0
  unfold rp
  by_cases h0 : er = 0
  · have hw : Hid (f.wrong ((ba : Int) + a) e = ⟨(ba : Int) + a, e⟩) := RF.wrong_yes (by rw [Her.out]; exact h0)
    subst h0
    go_enter Try.func100, Try.ntmps100
    go_wp2_with fail
    refine region_tail 10 (by kernel_rfl) (by kernel_rfl) ?_
    intro w1 Hw1 hcw1 hzw1 hsw1
    simp only [List.take_succ_cons, List.take_zero, List.drop_succ_cons, List.drop_zero]
    repeat still_step
    refine wpStill_nil ?_
    have m0 : w1.cell? ⟨q, 0, none⟩ = some (.pointer (some ⟨wq, 0, none⟩)) := (hcw1 _).trans c0
    have m1 : w1.cell? ⟨wq, 0, none⟩ = some (.int .i64 f.place) := (hcw1 _).trans k0
    have m2 : w1.cell? ⟨wq, 1, none⟩ = some (.int .i64 0) := (hcw1 _).trans k1
    have m3 : w1.frozen? ⟨wq, 0, none⟩ = false := (hzw1 _).trans f0
    have m4 : w1.frozen? ⟨wq, 1, none⟩ = false := (hzw1 _).trans f1
    have H1 : Hid (Bl w1 wq 139 #[.int .i64 f.place, .int .i64 f.e]) := by show Bl _ _ _ _; rw [Hw1.out]; exact H.out
    have hf1 : Fr (fun x => x = wq) w w1 := by rw [Hw1.out]; exact (Fr.refl _ _).drew
    go_wp2_with fail
    ((try simp only [Exit.inBlock, Exit.then]); first | refine bodyPost_end (results_none rfl _ _ _) rfl ?_ | refine bodyPost_ret (results_none rfl _ _ _) rfl ?_)
    refine ⟨rfl, ?_, Fr.setIn (S := fun x => x = wq) (Fr.setIn (S := fun x => x = wq) hf1 (.inl rfl) _) (.inl rfl) _⟩
    rw [hw.out]
    have := (H1.out.set 0 (.int .i64 ((ba : Int) + a))).set 1 (.int .i64 e)
    simpa [Flt] using this
  · have hw : Hid (f.wrong ((ba : Int) + a) e = f) := RF.wrong_no (by rw [Her.out]; exact h0)
    go_enter Try.func100, Try.ntmps100
    go_wp2_with fail
    ((try simp only [Exit.inBlock, Exit.then]); first | refine bodyPost_end (results_none rfl _ _ _) rfl ?_ | refine bodyPost_ret (results_none rfl _ _ _) rfl ?_)
    exact ⟨rfl, by rw [hw.out]; exact H.out, Fr.refl _ _⟩

/-- Behind field of the reference: its number, or -1. -/
def RFieldOut (w : World) (wq : Nat) (r : RRd) (d : RD) (f : RF) (t : Int) (e : Ending) (w' : World) : Prop :=
  ((∃ (i : Nat) (hi : i < r.rs.length), d.idx f t = i ∧ d.fld f t = some r.rs[i].F ∧ e = .returned (.int .i64 (i : Int))) ∨ (d.fld f t = none ∧ e = .returned (.int .i64 (-1)))) ∧ RR w' wq r (d.took f t) ∧ Fr r.foot w w'

set_option maxHeartbeats 4000000 in
set_option maxRecDepth 4000 in
theorem rfield_any (w : World) (wq : Nat) (r : RRd) (d : RD) (f : RF) (t : Int) (hR : RR w wq r d) (hF : Flt w 139 wq f) :
    Calls Try.prog 101 #[rp r.q, .int .i64 t] w (RFieldOut w wq r d f t) := by
  obtain ⟨q, L, n, c, g, rs⟩ := r
  have c0 : w.cell? ⟨q, 0, none⟩ = some (.pointer (some ⟨wq, 0, none⟩)) := hR.bl.cell' rfl
  have c2 : w.cell? ⟨q, 2, none⟩ = some (.slice L n c) := hR.bl.cell' rfl
  have ce : w.cell? ⟨wq, 1, none⟩ = some (.int .i64 f.e) := Bl.cell' hF rfl
  have Hn : Hid (n = rs.length) := hR.n_eq
  have hcap : n ≤ 9223372036854775807 := by have := hR.ls.cap; unfold maxLen at this; simp only at this; omega
  have HR := hide hR
  obtain ⟨er, her⟩ : ∃ er, f.e = er := ⟨_, rfl⟩
  rw [her] at ce
  have Her := hide her
  clear hR hF her
  by_cases h0 : ¬ er = 0
  · have hi : Hid (¬ d.idx f t < d.fs.length) := by
      show ¬ _; rw [RD.idx, if_pos (by rw [Her.out]; exact h0)]; omega
    show Calls _ _ #[.pointer (some ⟨q, 0, none⟩), _] _ _
    go_enter Try.func101, Try.ntmps101
    go_wp2_with fail
    go_ret
    exact ⟨.inr ⟨fld_none_of hi.out, rfl⟩, by rw [RD.took_none HR.out.ok hi.out]; exact HR.out, Fr.refl _ _⟩
  obtain rfl : er = 0 := by omega
  have hidx : Hid (d.idx f t = tagAt d.fs t) := by show _ = _; rw [RD.idx, if_neg (fun h => h Her.out)]
  show Calls _ _ #[.pointer (some ⟨q, 0, none⟩), _] _ _
  go_enter Try.func101, Try.ntmps101
  go_wp2_with fail
  go_loopw [5] (fun i wr => ∃ k : Nat, k ≤ n ∧ i = .int .i64 k ∧ Hid (∀ j (hj : j < k) (hl : j < d.fs.length), ¬ (d.fs[j].tag : Int) = t) ∧ Hid (wr = w)) (fun i _ => n - (intOf i).toNat)
  case atStart => exact ⟨0, by omega, rfl, fun j hj => absurd hj (by omega), rfl⟩
  case round =>
    obtain ⟨k, hk, rfl, hno, hwr⟩ := hrel
    obtain rfl := hwr.out
    by_cases hlt : k < n
    · have hkp : k < rs.length := by rw [← Hn.out]; exact hlt
      have hkf : k < d.fs.length := by rw [← HR.out.len]; exact hkp
      obtain ⟨b, o, hLe, hge, hrow⟩ := HR.out.row (k := k) hkp
      simp only at hLe hge
      subst hLe hge
      have hFe : d.fs[k] = rs[k].F := by
        have := map_get HR.out.eq hkp
        rw [List.getElem?_eq_getElem hkf] at this
        exact (Option.some.inj this).symm
      obtain ⟨T, hT⟩ : ∃ T, rs[k].F.tag = T := ⟨_, rfl⟩
      have q0 := (hrow 0 _ rfl).1
      have q4 := (hrow 4 _ rfl).1
      have f4 := (hrow 4 _ rfl).2
      simp only at q0
      rw [hT, Nat.add_zero] at q0
      have Htag : Hid ((d.fs[k].tag : Int) = T) := by show _ = _; rw [hFe, hT]
      have HFe := hide hFe
      clear hFe hT hrow
      have i0 : (0 : Int) ≤ (k : Int) := by omega
      have i1 : (k : Int) < (n : Int) := by omega
      by_cases hm : (T : Int) = t
      · have hi : Hid (d.idx f t = k) := by
          show _ = _
          rw [hidx.out]
          exact tagAt_first hkf (fun j hj => hno.out j hj (by omega)) (Htag.out.trans hm)
        go_wp2_with fail
        go_ret
        have e1 : d.took f t = { d with tk := d.tk.set k true } := by rw [RD.took, hi.out]
        have hset : Fr (fun x => x = b) wr (wr.setCell ⟨b, o + k * 5 + 4, none⟩ (.bool true)) := Fr.setIn (S := fun x => x = b) (Fr.refl _ _) (.inl rfl) _
        have hty := HR.out.ls.typed b rfl
        have hok := RD.took_ok HR.out.ok f t
        refine ⟨.inl ⟨k, hkp, hi.out, by rw [RD.fld, hi.out, List.getElem?_eq_getElem hkf, HFe.out], rfl⟩, ?_, hset.mono fun x _ e => by subst e; rfl⟩
        rw [e1] at hok ⊢
        refine ⟨HR.out.bl.fr hset (fun e => absurd (HR.out.bl.typed.same (e ▸ hty)) (by decide)), ?_, HR.out.eq, fun x hx => (HR.out.own x hx).fr hset fun y e1 e2 => absurd (((HR.out.own x hx).typed y e1).same (e2 ▸ hty)) (by decide), hok⟩
        have hput := HR.out.ls.put (j := k * 5 + 4) (by show k * 5 + 4 < n * 5; omega) (.bool true)
        rw [zip_take rs d.tk k hkp (by rw [HR.out.ok.tk]; exact hkf), ← Nat.add_assoc] at hput
        exact hput
      · go_wp2_with fail
        refine ⟨⟨k + 1, by omega, by go_num, fun j hj hl => ?_, hide trivial⟩, by simp [intOf]; omega⟩
        by_cases hjk : j = k
        · subst hjk; rw [Htag.out]; exact hm
        · exact hno.out j (by omega) hl
    · obtain rfl : k = n := by omega
      have hi : Hid (¬ d.idx f t < d.fs.length) := by
        show ¬ _
        rw [hidx.out]
        exact tagAt_none fun j hj => hno.out j (by rw [Hn.out, HR.out.len]; exact hj) hj
      clear hlt
      go_wp2_with fail
      go_ret
      exact ⟨.inr ⟨fld_none_of hi.out, rfl⟩, by rw [RD.took_none HR.out.ok hi.out]; exact HR.out, Fr.refl _ _⟩
set_option maxHeartbeats 1000000 in
set_option maxRecDepth 4000 in
theorem rfield_nil (w : World) (t : Int) : Calls Try.prog 101 #[.pointer none, .int .i64 t] w fun e w' => e = .returned (.int .i64 (-1)) ∧ w = w' := by
  go_enter Try.func101, Try.ntmps101
  go_wp2_with fail
  go_ret
  exact ⟨rfl, rfl⟩
set_option maxHeartbeats 1000000 in
set_option maxRecDepth 4000 in
theorem few_any (w : World) (a m : Int) : Calls Try.prog 102 #[.int .i64 a, .int .i64 m] w fun e w' => e = .returned (.bool (decide (a ≤ max m 0))) ∧ w = w' := by
  by_cases h : m < 0
  · have h2 : Hid (max m 0 = 0) := by show _ = _; omega
    go_enter Try.func102, Try.ntmps102
    go_wp2_with fail
    go_ret
    exact ⟨by rw [h2.out]; rfl, rfl⟩
  · have h2 : Hid (max m 0 = m) := by show _ = _; omega
    go_enter Try.func102, Try.ntmps102
    go_wp2_with fail
    go_ret
    exact ⟨by rw [h2.out]; rfl, rfl⟩
end Go.Proofs.Ytbglloafbmamoaa
