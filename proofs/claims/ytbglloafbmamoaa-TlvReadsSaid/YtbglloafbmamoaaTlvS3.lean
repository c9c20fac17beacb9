/-
  Readers of the reference: reader, NewReader, items, List, Record.
-/
import Derived.Test.YtbglloafbmamoaaTlvS2
import Derived.Test.YtbglloafbmamoaaTlvR5
namespace Go.Proofs.Ytbglloafbmamoaa
open Go.RowKit
set_option linter.unusedVariables false
attribute [local go_sem ↓] Go.wp_at_zero Go.wp_at_succ

theorem zip_false : ∀ (rs : List FO), (rs.zip ((rs.map (·.F)).map fun _ => false)).flatMap FO.tkCells = rs.flatMap FO.rCells
  | [] => rfl
  | x :: rs => by
    simp only [List.map_cons, List.zip_cons_cons, List.flatMap_cons, zip_false rs]; rfl
structure NewR (w : World) (wq : Nat) (r : RRd) (x : RD × RF) (w' : World) : Prop where
  rr : RR w' wq r x.1
  flt : Flt w' 139 wq x.2
  new : ∀ y, r.foot y → w.heap.size ≤ y
  fr : Fr (fun y => y = wq) w w'
theorem no_fields {w : World} {wq q : Nat} {base : Nat} (h : Bl w q 154 #[.pointer (some ⟨wq, 0, none⟩), .int .i64 (base : Int), .slice none 0 0]) (hb : base ≤ 1048576) : RR w wq ⟨q, none, 0, 0, none, []⟩ (RD.empty base) :=
  ⟨h, Ow.nil_ _ _ _, rfl, (fun x h => by cases h), RD.empty_ok hb⟩

set_option maxHeartbeats 4000000 in
set_option maxRecDepth 4000 in
theorem rreader_any (w : World) (wq : Nat) (f : RF) (base : Nat) (bs : List Nat) (A : Option Addr) (n c : Nat) (hF : Flt w 139 wq f) (hn : n ≤ 140737488355000) (hc : n ≤ c) (hc2 : c ≤ 9223372036854775807) (h256 : ∀ x ∈ bs, x < 256) (hS : Sl w 1 A n (bs.map bn)) (hbase : base ≤ 1048576) (hle : base = 0 ∨ base + bs.length ≤ 1048576) :
    Calls Try.prog 80 #[rp wq, .int .i64 (base : Int), .slice A n c] w fun e w' => ∃ r, e = .returned (rp r.q) ∧ NewR w wq r (readS f base bs) w' := by
  have ce : w.cell? ⟨wq, 1, none⟩ = some (.int .i64 f.e) := Bl.cell' hF rfl
  have Hn : Hid (n = bs.length) := hS.len
  have HF := hide hF
  have H256 := hide h256
  obtain ⟨er, her⟩ : ∃ er, f.e = er := ⟨_, rfl⟩
  rw [her] at ce
  have Her := hide her
  have hpl := Bl.lt hF
  clear hF her h256
  have hnew := Bl.new w 154 #[.pointer (some ⟨wq, 0, none⟩), .int .i64 (base : Int), .slice none 0 0]
  unfold rp
  by_cases h0 : ¬ er = 0
  · have hs : Hid (readS f base bs = (RD.empty base, f)) := if_pos (by rw [Her.out]; exact h0)
    go_enter Try.func80, Try.ntmps80
    go_wp2_with fail
    go_ret
    refine ⟨⟨w.heap.size, none, 0, 0, none, []⟩, rfl, ?_⟩
    rw [hs.out]
    exact ⟨no_fields hnew hbase, Bl.alloc HF.out _, (fun y h => by cases h), (Fr.refl _ _).alloc _⟩
  obtain rfl : er = 0 := by omega
  obtain ⟨pl, hplc⟩ : ∃ pl, (getAll bs).2.1 = pl := ⟨_, rfl⟩
  obtain ⟨e1, he1⟩ : ∃ e1, (getAll bs).2.2 = e1 := ⟨_, rfl⟩
  have Hpl := hide hplc
  have He1 := hide he1
  clear hplc he1
  go_enter Try.func80, Try.ntmps80
  go_wp2_with fail
  refine (rget_any _ bs A n c (by omega) hc hc2 Hn.out H256.out (hS.below (S := fun _ => False) ((Fr.refl _ _).alloc _) (fun _ _ => id))).mono ?_
  rintro e w1 ⟨rs, L, k, cl, gl, rfl, hk, hrs, hO, hgl, hFs, hf1⟩
  rw [Hpl.out, He1.out]
  have hfa : Fr (fun _ => False) w w1 := ((Fr.refl _ _).alloc _).trans hf1
  have hB1 := hnew.fr hf1 id
  have hF1 : Flt w1 139 wq f := HF.out.fr hfa id
  have HB1 := hide hB1
  have hfree : w1.frozen? ⟨w.heap.size, 2, none⟩ = false := hB1.free 2
  have h2c : w1.cell? ⟨w.heap.size, 2, none⟩ = some (.slice none 0 0) := hB1.cell' rfl
  clear hB1
  by_cases hbad : ¬ e1 = 0
  · have hs : Hid (readS f base bs = (RD.empty base, f.wrong ((base : Int) + pl) e1)) := by
      show _ = _
      rw [readS, if_neg (fun h => h Her.out)]
      simp only [He1.out, Hpl.out, if_pos hbad, ne_eq]
    have hplb : base + pl ≤ 140737488355328 := by
      have h1 := getAll_pl bs
      rw [Hpl.out] at h1
      have h2 := Hn.out
      rcases hle with h | h <;> omega
    go_wp2_with fail
    refine (rwrong_any _ wq w.heap.size base pl _ f e1 hplb HB1.out hF1).mono ?_
    rintro e w2 ⟨rfl, hF2, hf2⟩
    go_wp2_with fail
    go_ret
    refine ⟨⟨w.heap.size, none, 0, 0, none, []⟩, rfl, ?_⟩
    rw [hs.out]
    exact ⟨no_fields (HB1.out.fr hf2 (fun e => by omega)) hbase, hF2, (fun y h => by cases h), (hfa.weak _).trans hf2⟩
  · obtain rfl : e1 = 0 := by omega
    have hs : Hid (readS f base bs = (⟨bs, base, (getAll bs).1, (getAll bs).1.map fun _ => false⟩, f)) := by
      show _ = _
      rw [readS, if_neg (fun h => h Her.out)]
      simp only [He1.out, ne_eq, not_true_eq_false, if_false]
    have hok : (readS f base bs).1.ok := readS_ok H256.out hbase hle
    rw [hs.out] at hok
    have Hrs := hide hrs
    have Hok := hide hok
    have Hk := hide hk
    clear hrs hok hk
    go_wp2_with fail
    go_ret
    refine ⟨⟨w.heap.size, L, k, cl, gl, rs⟩, rfl, ?_⟩
    rw [hs.out]
    have hset : Fr (fun x => x = w.heap.size) w1 (w1.setCell ⟨w.heap.size, 2, none⟩ (.slice L k cl)) := Fr.setIn (S := fun x => x = w.heap.size) (Fr.refl _ _) (.inl rfl) _
    have hty : Typed w1 w.heap.size 154 := HB1.out.typed
    refine ⟨⟨?_, ?_, Hrs.out, fun x hx => ?_, Hok.out⟩, hF1.fr hset (fun e => by omega), ?_, ?_⟩
    · have := HB1.out.set 2 (.slice L k cl)
      simpa using this
    · have h1 := hO.fr hset fun x e1 e2 => by
        subst e2
        exact absurd ((hO.typed _ e1).same hty) (by decide)
      show Ow _ _ 5 L k cl ((rs.zip ((getAll bs).1.map fun _ => false)).flatMap FO.tkCells) gl
      rw [← Hrs.out, zip_false]; exact h1
    · exact (hFs.own x hx).fr hset fun y e1 e2 => by
        subst e2
        exact absurd (((hFs.own x hx).typed _ e1).same hty) (by decide)
    · intro y hy
      have := hgl y hy.symm
      simp at this; omega
    · exact (hfa.weak _).comp hset fun x hx e => by subst e; omega

set_option maxHeartbeats 2000000 in
set_option maxRecDepth 4000 in
theorem rnew_any (w : World) (bs : List Nat) (A : Option Addr) (n c : Nat) (hn : n ≤ 140737488355000) (hc : n ≤ c) (hc2 : c ≤ 9223372036854775807) (h256 : ∀ x ∈ bs, x < 256) (hS : Sl w 1 A n (bs.map bn)) :
    Calls Try.prog 42 #[.slice A n c] w fun e w' => ∃ r wq, e = .returned (rp r.q) ∧ RR w' wq r (readS ⟨0, 0⟩ 0 bs).1 ∧ Flt w' 139 wq (readS ⟨0, 0⟩ 0 bs).2 ∧ w.heap.size ≤ wq ∧ (∀ y, r.foot y → w.heap.size ≤ y) ∧ Fr (fun _ => False) w w' := by
  go_enter Try.func42, Try.ntmps42
  go_wp2_with fail
  have hF0 : Flt (w.alloc (.cells #[.int .i64 0, .int .i64 0] 139)) 139 w.heap.size ⟨0, 0⟩ := Bl.new w 139 #[.int .i64 0, .int .i64 0]
  refine (rreader_any _ w.heap.size ⟨0, 0⟩ 0 bs A n c hF0 hn hc hc2 h256 (hS.below (S := fun _ => False) ((Fr.refl _ _).alloc _) (fun _ _ => id)) (by omega) (.inl rfl)).mono ?_
  rintro e w2 ⟨r, rfl, hN⟩
  go_wp2_with fail
  go_ret
  exact ⟨r, w.heap.size, rfl, hN.rr, hN.flt, Nat.le_refl _, (fun y hy => by have := hN.new y hy; simp at this; omega), ((Fr.refl _ _).alloc _).comp hN.fr fun x hx e => by omega⟩

set_option maxHeartbeats 4000000 in
set_option maxRecDepth 4000 in
theorem rrrecord_any (w : World) (wq : Nat) (r : RRd) (d : RD) (f : RF) (t : Int) (hR : RR w wq r d) (hF : Flt w 139 wq f) :
    Calls Try.prog 85 #[rp r.q, .int .i64 t] w fun e w' => ∃ r', e = .returned (rp r'.q) ∧ RPost w wq r (d.took f t) (recordS d f t).2 w' ∧ RR w' wq r' (recordS d f t).1 ∧ (∀ y, r'.foot y → w.heap.size ≤ y) := by
  have Hok := hide hR.ok
  show Calls _ _ #[.pointer (some ⟨r.q, 0, none⟩), _] _ _
  go_enter Try.func85, Try.ntmps85
  go_wp2_with fail
  refine (rfield_any w wq r d f t hR hF).mono ?_
  rintro e w1 ⟨⟨i, hi, hix, hfl, rfl⟩ | ⟨hfl, rfl⟩, hR1, hf1⟩
  · have hP := RPost.fld hR hF hR1 hf1
    obtain ⟨q, L, n, c, g, rs⟩ := r
    simp only at hi
    obtain ⟨b, o, hLe, hge, hrow⟩ := hR1.row (k := i) hi
    simp only at hLe hge
    subst hLe hge
    have hx := hR1.own _ (List.getElem_mem hi)
    obtain ⟨⟨F, xA, xn, xc, xg⟩, hy⟩ : ∃ y, rs[i]'hi = y := ⟨_, rfl⟩
    simp only [hy] at hx hfl hrow
    have hFm := fld_mem hfl
    have hto := (Hok.out.at_ F hFm).2.1
    have hle := (Hok.out.at_ F hFm).1
    have hbd := Hok.out.le
    have q1 := (hrow 1 _ rfl).1
    have q3 := (hrow 3 _ rfl).1
    simp only at q1 q3
    have a0 : w1.cell? ⟨q, 0, none⟩ = some (.pointer (some ⟨wq, 0, none⟩)) := hR1.bl.cell' rfl
    have a1 : w1.cell? ⟨q, 1, none⟩ = some (.int .i64 (d.base : Int)) := hR1.bl.cell' rfl
    have a2 : w1.cell? ⟨q, 2, none⟩ = some (.slice (some ⟨b, o, none⟩) n c) := hR1.bl.cell' rfl
    have nq : ¬ q = wq := fun e => absurd (hR1.bl.typed.same (e ▸ Bl.typed hP.flt)) (by decide)
    have nb : ¬ b = wq := fun e => absurd ((hR1.ls.typed b rfl).same (e ▸ Bl.typed hP.flt)) (by decide)
    have hin : i < n := by have := hR1.n_eq; simp only at this; omega
    have hbs : (d.took f t).bs = d.bs := rfl
    rw [hbs] at hx
    obtain ⟨fm, hfm⟩ : ∃ fm, F.from_ = fm := ⟨_, rfl⟩
    obtain ⟨ba, hba⟩ : ∃ ba, d.base = ba := ⟨_, rfl⟩
    have hmb : xn ≤ 1048576 := by rw [hx.len, GF.val_len hto]; omega
    have hxl : xn = F.to_ - F.from_ := by rw [hx.len, GF.val_len hto]
    have hfb : ba + fm + xn ≤ 1048576 := by omega
    rw [hfm] at q3
    rw [hba] at a1
    have hvl : Hid (xn = (F.val d.bs).length) := hx.len
    have hv256 : Hid (∀ x ∈ F.val d.bs, x < 256) := GF.val_bytes Hok.out.byte
    have hcap := hx.cap
    have hcc1 := hcap.1
    have hcc2 : xc ≤ 9223372036854775807 := by have := hcap.2; unfold maxLen at this; exact this
    have hw0 : IntKind.i64.wrap ((ba : Int) + (fm : Int)) = ((ba + fm : Nat) : Int) := by rw [IntWalk.i64_in _ (by omega)]; omega
    have hspec : Hid (recordS d f t = readS f (ba + fm) (F.val d.bs)) := by
      show _ = _
      rw [recordS, hfl]
      simp only [hba, hfm]
    have HP := hide hP
    have HF1 := hide hP.flt
    have hS := hx.sl
    have i0 : (0 : Int) ≤ (i : Int) := by omega
    have i1 : (i : Int) < (n : Int) := by omega
    have i2 : ¬ (i : Int) < 0 := by omega
    clear hP hR1 hf1 hR hF hix hfl hrow hy hx hFm hto hle hbd hfm hba hbs hxl hcap
    go_wp2_with fail
    go_region_held3 (fun w' => w'.cell? ⟨q, 0, none⟩ = some (.pointer (some ⟨wq, 0, none⟩)) ∧ w'.cell? ⟨q, 1, none⟩ = some (.int .i64 (ba : Int)) ∧ w'.cell? ⟨q, 2, none⟩ = some (.slice (some ⟨b, o, none⟩) n c) ∧ w'.cell? ⟨b, o + i * 5 + 1, none⟩ = some (.slice xA xn xc) ∧ w'.cell? ⟨b, o + i * 5 + 3, none⟩ = some (.int .i64 (fm : Int))) (go_keep)
      ((go_at_call 80; refine (rreader_any _ wq f (ba + fm) (F.val d.bs) _ xn xc (by exact HF1.out) (by omega) hcc1 hcc2 hv256.out (by exact hS) (by omega) (.inr (by rw [← hvl.out]; exact hfb))).mono ?_; rintro e w2 ⟨r', rfl, hN⟩; simp only [rp]; have hf2 := hN.fr; have z0 := (hf2.cell (World.block_lt_of_cell? w1 _ a0) nq).trans a0; have z1 := (hf2.cell (World.block_lt_of_cell? w1 _ a1) nq).trans a1; have z2 := (hf2.cell (World.block_lt_of_cell? w1 _ a2) nq).trans a2; have z3 := (hf2.cell (World.block_lt_of_cell? w1 _ q1) nb).trans q1; have z4 := (hf2.cell (World.block_lt_of_cell? w1 _ q3) nb).trans q3))
    go_wp2_with fail
    go_ret
    rw [hspec.out]
    exact ⟨r', rfl, HP.out.bad ((Fr.refl _ _).drew.trans hN.fr) hN.flt, hN.rr, fun y hy => Nat.le_trans HP.out.fr.size (hN.new y hy)⟩
  · have hP := RPost.fld hR hF hR1 hf1
    obtain ⟨q, L, n, c, g, rs⟩ := r
    have hs : Hid (recordS d f t = (RD.empty d.base, f)) := by show _ = _; rw [recordS, hfl]
    have a0 : w1.cell? ⟨q, 0, none⟩ = some (.pointer (some ⟨wq, 0, none⟩)) := hR1.bl.cell' rfl
    have a1 : w1.cell? ⟨q, 1, none⟩ = some (.int .i64 (d.base : Int)) := hR1.bl.cell' rfl
    have hbd := Hok.out.le
    obtain ⟨ba, hba⟩ : ∃ ba, d.base = ba := ⟨_, rfl⟩
    rw [hba] at a1 hbd
    have Hba := hide hba
    have HP := hide hP
    clear hP hR1 hf1 hR hF hfl hba
    go_wp2_with fail
    refine region_tail 8 (by kernel_rfl) (by kernel_rfl) ?_
    intro w2 Hw2 hcw2 hzw2 hsw2
    simp only [List.take_succ_cons, List.take_zero, List.drop_succ_cons, List.drop_zero]
    repeat still_step
    refine wpStill_nil ?_
    go_wp2_with fail
    go_ret
    rw [hs.out]
    have hf12 : Fr (fun _ => False) w1 w2 := by rw [Hw2.out]; exact (Fr.refl _ _).drew
    refine ⟨⟨w1.heap.size, none, 0, 0, none, []⟩, rfl, HP.out.quiet (hf12.alloc _), ?_, fun y h => by cases h⟩
    show RR _ wq _ (RD.empty d.base)
    rw [Hba.out]
    exact no_fields (Bl.newAt (cs := #[.pointer (some ⟨wq, 0, none⟩), .int .i64 (ba : Int), .slice none 0 0]) hsw2.symm) (by omega)
end Go.Proofs.Ytbglloafbmamoaa
