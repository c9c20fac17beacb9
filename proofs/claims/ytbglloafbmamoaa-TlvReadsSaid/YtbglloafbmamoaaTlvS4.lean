/-
  Readers of the reference: items, List, Records.
-/
import Derived.Test.YtbglloafbmamoaaTlvS3
import Derived.Test.YtbglloafbmamoaaTlvL6
namespace Go.Proofs.Ytbglloafbmamoaa
open Go.RowKit
set_option linter.unusedVariables false
attribute [local go_sem ↓] Go.wp_at_zero Go.wp_at_succ

/-- Where the items of a field begin, in the record. -/
def itBegins (x : Option GF × List GF × RF) : List Value := match x.1 with | none => [] | some F => x.2.1.map fun G => .int .i64 ((F.from_ + G.from_ : Nat) : Int)
/-- Behind the reference's items. -/
def RItOut (w : World) (d : RD) (x : Option GF × List GF × RF) (e : Ending) (w' : World) : Prop :=
  ∃ rs D k c g E d2 g2, e = .returned (.tuple #[.slice D k c, .slice E k d2]) ∧ rs.map (·.xs) = itVals d x ∧ Ow w' 23 1 D k c (rs.map BS.cell) g ∧ (∀ b, g = some b → w.heap.size ≤ b) ∧ BSs w' 0 w.heap.size rs ∧ Ow w' 3 1 E k d2 (itBegins x) g2 ∧ (∀ b, g2 = some b → w.heap.size ≤ b) ∧ k ≤ 1048576
theorem RItOut.none_ (w w' : World) (d : RD) (f : RF) : RItOut w d (none, [], f) (.returned (.tuple #[.slice none 0 0, .slice none 0 0])) w' :=
  ⟨[], none, 0, 0, none, none, 0, none, rfl, rfl, Ow.nil_ _ _ _, (fun b h => by cases h), BSs.nil_ _ _ _, Ow.nil_ _ _ _, (fun b h => by cases h), by omega⟩

set_option maxHeartbeats 8000000 in
set_option maxRecDepth 100000 in
theorem rit_any (w : World) (wq : Nat) (r : RRd) (d : RD) (f : RF) (t most : Int) (hR : RR w wq r d) (hF : Flt w 139 wq f) :
    Calls Try.prog 103 #[rp r.q, .int .i64 t, .int .i64 most] w fun e w' => RItOut w d (itS d f t most) e w' ∧ RPost w wq r (d.took f t) (itS d f t most).2.2 w' := by
  show Calls _ _ #[.pointer (some ⟨r.q, 0, none⟩), _, _] _ _
  go_enter Try.func103, Try.ntmps103
  go_wp2_with fail
  refine (rfield_any w wq r d f t hR hF).mono ?_
  rintro e w1 ⟨⟨i, hi, hix, hfl, rfl⟩ | ⟨hfl, rfl⟩, hR1, hf1⟩
  · have hP := RPost.fld hR hF hR1 hf1
    obtain ⟨q, L, n, c, g, rs⟩ := r
    simp only at hi
    obtain ⟨b, o, hLe, hge, hrow⟩ := hR1.row (k := i) hi
    simp only at hLe hge
    subst hLe hge
    have hx := hR1.own _ (List.getElem_mem hi)
    obtain ⟨⟨F, xA, xn, xc, xg⟩, hy⟩ : ∃ y, rs[i]'hi = y := ⟨_, rfl⟩
    simp only [hy] at hx hfl hrow
    have hok := hR.ok
    have hFm := fld_mem hfl
    have hto := (hok.at_ F hFm).2.1
    have hle := (hok.at_ F hFm).1
    have hbd := hok.le
    have q0 := (hrow 0 _ rfl).1
    have q1 := (hrow 1 _ rfl).1
    have q2 := (hrow 2 _ rfl).1
    have q3 := (hrow 3 _ rfl).1
    have q4 := (hrow 4 _ rfl).1
    simp only at q0 q1 q2 q3 q4
    rw [Nat.add_zero] at q0
    have a2 : w1.cell? ⟨q, 2, none⟩ = some (.slice (some ⟨b, o, none⟩) n c) := hR1.bl.cell' rfl
    have hin : i < n := by have := hR1.n_eq; simp only at this; omega
    have hbs : (d.took f t).bs = d.bs := rfl
    rw [hbs] at hx
    obtain ⟨fm, hfm⟩ : ∃ fm, F.from_ = fm := ⟨_, rfl⟩
    obtain ⟨ba, hba⟩ : ∃ ba, d.base = ba := ⟨_, rfl⟩
    have hmb : xn ≤ 1048576 := by rw [hx.len, GF.val_len hto]; omega
    have hxl : xn = F.to_ - F.from_ := by rw [hx.len, GF.val_len hto]
    have hfb : ba + fm + xn ≤ 1048576 := by omega
    rw [hfm] at q3
    have hvl : Hid (xn = (F.val d.bs).length) := hx.len
    have hv256 : Hid (∀ x ∈ F.val d.bs, x < 256) := GF.val_bytes hok.byte
    have hcap := hx.cap
    have hcc1 := hcap.1
    have hcc2 : xc ≤ 9223372036854775807 := by have := hcap.2; unfold maxLen at this; exact this
    obtain ⟨pl, hpl⟩ : ∃ pl, (itemsAll (F.val d.bs)).2.1 = pl := ⟨_, rfl⟩
    obtain ⟨e1, he1⟩ : ∃ e1, (itemsAll (F.val d.bs)).2.2 = e1 := ⟨_, rfl⟩
    have hplb : pl ≤ xn := by
      have h1 := itemsAll_pl (F.val d.bs)
      rw [hpl, ← hvl.out] at h1; omega
    have hspec : Hid (itS d f t most = if e1 ≠ 0 then (none, [], f.wrong ((ba : Int) + fm + pl) e1) else if max most 0 < ((itemsAll (F.val d.bs)).1.length : Int) then (none, [], f.wrong ((ba : Int) + fm) 3) else (some F, (itemsAll (F.val d.bs)).1, f)) := by
      show _ = _
      rw [itS, hfl]
      simp only [hpl, he1, hba, hfm]
    have Hfm := hide hfm
    have Hpl := hide hpl
    have He1 := hide he1
    have HP := hide hP
    have HF1 := hide hP.flt
    have Hbl : Hid (Bl w1 q 154 #[.pointer (some ⟨wq, 0, none⟩), .int .i64 (ba : Int), .slice (some ⟨b, o, none⟩) n c]) := by show Bl _ _ _ _; rw [← hba]; exact hR1.bl
    have hS := hx.sl
    obtain ⟨tk, htk⟩ : ∃ tk, (d.took f t).tk.getD i false = tk := ⟨_, rfl⟩
    rw [htk] at q4
    obtain ⟨tg, htg⟩ : ∃ tg, F.tag = tg := ⟨_, rfl⟩
    rw [htg] at q0
    obtain ⟨ax, hax⟩ : ∃ ax, F.at_ = ax := ⟨_, rfl⟩
    rw [hax] at q2
    have i0 : (0 : Int) ≤ (i : Int) := by omega
    have i1 : (i : Int) < (n : Int) := by omega
    have i2 : ¬ (i : Int) < 0 := by omega
    have hw1 : IntKind.i64.wrap ((fm : Int) + (pl : Int)) = ((fm + pl : Nat) : Int) := by rw [IntWalk.i64_in _ (by omega)]; omega
    have s1 := hP.fr.size
    clear hP hR1 hf1 hR hF hix hfl hrow hy hx hok hFm hto hle hbd hfm hba htk htg hax hbs hxl hcap hpl he1
    have hfr := fun (o : Obj) => (Fr.refl (fun _ => False) w1).alloc o
    have hnew := Bl.new w1 42 #[.int .i64 tg, .slice xA xn xc, .int .i64 ax, .int .i64 fm, .bool tk]
    go_wp2_with fail
    refine (ritems_any _ (F.val d.bs) xA xn xc (by omega) hcc1 hcc2 hvl.out hv256.out (hS.below (hfr _) (fun _ _ => id))).mono ?_
    rintro e w2 ⟨bs2, D, k, cd, gd, E, d2, ge, rfl, hTold, hE, hge⟩
    rw [Hpl.out, He1.out]
    have hf2 := hTold.fr
    have hfa : Fr (fun _ => False) w1 w2 := (hfr _).trans hf2
    have hnew2 := hnew.fr hf2 id
    have HN2 := hide hnew2
    have n3 : w2.cell? ⟨w1.heap.size, 3, none⟩ = some (.int .i64 (fm : Int)) := hnew2.cell' rfl
    have hkl : Hid (k = (itemsAll (F.val d.bs)).1.length) := hTold.len
    have hPP := HP.out.quiet hfa
    have HPP := hide hPP
    have hkb : k ≤ 1048576 := by
      have h1 := itemsAll_len (F.val d.bs)
      rw [← hkl.out, ← hvl.out] at h1; omega
    have s2 := hfa.size
    have HTo := hide hTold
    clear hnew2 hPP hTold
    by_cases hbad : ¬ e1 = 0
    · have hs : Hid (itS d f t most = (none, [], f.wrong ((ba : Int) + ((fm + pl : Nat) : Int)) e1)) := by
        show _ = _
        rw [hspec.out, if_pos hbad, show (ba : Int) + ((fm + pl : Nat) : Int) = (ba : Int) + fm + pl by omega]
      go_wp2_with fail
      refine (rwrong_any _ wq q ba (fm + pl) _ f e1 (by omega) (Hbl.out.fr hfa id) HPP.out.flt).mono ?_
      rintro e w3 ⟨rfl, hF3, hf3⟩
      go_wp2_with fail
      go_ret2
      rw [hs.out]
      exact ⟨RItOut.none_ _ _ _ _, HPP.out.bad hf3 hF3⟩
    obtain rfl : e1 = 0 := by omega
    have hs0 := hide (hspec.out.trans (if_neg (fun h => h rfl)))
    by_cases hmany : max most 0 < (k : Int)
    · have hs := hide (hs0.out.trans (if_pos (by rw [← hkl.out]; exact hmany)))
      have hd : decide ((k : Int) ≤ max most 0) = false := decide_eq_false (by omega)
      go_wp2_with fail
      refine (few_any _ _ _).mono ?_
      rintro e w' ⟨rfl, rfl⟩
      rw [hd]
      go_wp2_with fail
      refine (rwrong_any _ wq q ba fm _ f 3 (by omega) (Hbl.out.fr hfa id) HPP.out.flt).mono ?_
      rintro e w3 ⟨rfl, hF3, hf3⟩
      go_wp2_with fail
      go_ret2
      rw [hs.out]
      exact ⟨RItOut.none_ _ _ _ _, HPP.out.bad hf3 hF3⟩
    have hs := hide (hs0.out.trans (if_neg (by rw [← hkl.out]; exact hmany)))
    have hd : decide ((k : Int) ≤ max most 0) = true := decide_eq_true (by omega)
    clear hmany
    go_wp2_with fail
    refine (few_any _ _ _).mono ?_
    rintro e w' ⟨rfl, rfl⟩
    rw [hd]
    have HE := hide hE
    have hgeT : ∀ x, ge = some x → w1.heap.size + 1 ≤ x := fun x e => by have := hge x e; simpa using this
    clear hE
    go_wp2_with fail
    go_loopw [14] (fun i wr => ∃ (j : Nat) (ys : List Value), j ≤ k ∧ i = .int .i64 j ∧ Ow wr 3 1 E k d2 ys ge ∧ Hid (∀ m (hm : m < (itemsAll (F.val d.bs)).1.length), ys[m]? = some (.int .i64 (if m < j then (((fm + (itemsAll (F.val d.bs)).1[m].from_ : Nat)) : Int) else ((itemsAll (F.val d.bs)).1[m].from_ : Int)))) ∧ Fr (fun x => some x = ge) w2 wr) (fun i _ => k - (intOf i).toNat)
    case atStart => exact ⟨0, _, by omega, rfl, HE.out, (fun m hm => by simp [hm]), Fr.refl _ _⟩
    case round =>
      obtain ⟨j, ys, hj, rfl, hY, hys, hf⟩ := hrel
      by_cases hlt : j < k
      · have hjl : j < (itemsAll (F.val d.bs)).1.length := by rw [← hkl.out]; exact hlt
        have hyj := hys.out j hjl
        rw [if_neg (by omega)] at hyj
        obtain ⟨bE, oE, rfl, rfl, cE, fE⟩ := hY.look hyj
        obtain ⟨gm, hgm⟩ : ∃ gm, (itemsAll (F.val d.bs)).1[j].from_ = gm := ⟨_, rfl⟩
        have hgmb : gm ≤ xn := by
          have h1 := itemsAll_at (F.val d.bs) _ (List.getElem_mem hjl)
          rw [← hvl.out] at h1; omega
        rw [hgm] at cE
        have hbE := hgeT bE rfl
        have n3r := (hf.cell (World.block_lt_of_cell? w2 _ n3) (fun e => by have h9 : w1.heap.size = bE := Option.some.inj e; omega)).trans n3
        have hw2 : IntKind.i64.wrap ((fm : Int) + (gm : Int)) = ((fm + gm : Nat) : Int) := by rw [IntWalk.i64_in _ (by omega)]; omega
        have HY := hide hY
        have Hgm := hide hgm
        clear hyj hY hgm
        have j0 : (0 : Int) ≤ (j : Int) := by omega
        have j1 : (j : Int) < (k : Int) := by omega
        go_wp2_with fail
        refine region_tail 10 (by kernel_rfl) (by kernel_rfl) ?_
        intro wk Hwk hcwk hzwk hswk
        simp only [List.take_succ_cons, List.take_zero, List.drop_succ_cons, List.drop_zero]
        repeat still_step
        refine wpStill_nil ?_
        have m0 : wk.cell? ⟨bE, oE + j, none⟩ = some (.int .i64 (gm : Int)) := (hcwk _).trans cE
        have m1 : wk.frozen? ⟨bE, oE + j, none⟩ = false := (hzwk _).trans fE
        have hYk : Ow wk 3 1 (some ⟨bE, oE, none⟩) k d2 ys (some bE) := by rw [Hwk.out]; exact HY.out
        have hfk : Fr (fun x => some x = some bE) w2 wk := by rw [Hwk.out]; exact hf.drew
        have HYk := hide hYk
        clear hYk
        go_wp2_with fail
        refine ⟨⟨j + 1, _, by omega, by go_num, HYk.out.put (j := j) (by omega) (.int .i64 ((fm + gm : Nat) : Int)), fun m hm => ?_, Fr.setIn (S := fun x => some x = some bE) hfk (Or.inl rfl) _⟩, by simp [intOf]; omega⟩
        by_cases hmj : m = j
        · subst hmj
          rw [List.getElem?_set_self (by rw [HYk.out.1]; omega), if_pos (by omega), Hgm.out]
        · rw [List.getElem?_set_ne (Ne.symm hmj), hys.out m hm]
          by_cases h9 : m < j
          · rw [if_pos h9, if_pos (by omega)]
          · rw [if_neg h9, if_neg (by omega)]
      · obtain rfl : j = k := by omega
        have hyy : Hid (ys = (itemsAll (F.val d.bs)).1.map fun G => .int .i64 ((F.from_ + G.from_ : Nat) : Int)) := by
          show _ = _
          have hyl : ys.length = j := by have := hY.1; simpa using this
          refine List.ext_getElem? fun m => ?_
          by_cases hm : m < (itemsAll (F.val d.bs)).1.length
          · rw [hys.out m hm, if_pos (by rw [hkl.out]; exact hm), List.getElem?_map, List.getElem?_eq_getElem hm, Hfm.out]; rfl
          · rw [List.getElem?_eq_none (by rw [hyl, hkl.out]; omega), List.getElem?_eq_none (by rw [List.length_map]; omega)]
        have HY := hide hY
        clear hlt hY
        go_wp2_with fail
        go_ret2
        rw [hs.out]
        have hTo := HTo.out
        have hgd : ∀ b, gd = some b → ¬ some b = ge := fun b e1 e2 => by
          have h1 := hTo.ow
          have h2 := HE.out
          rw [e1] at h1
          rw [← e2] at h2
          exact Ow.ne h1 h2 (by decide) rfl
        have hs1 : w.heap.size ≤ w1.heap.size + 1 := by omega
        have hty : Typed w2 0 0 → True := fun _ => trivial
        refine ⟨⟨bs2, D, j, cd, gd, E, d2, ge, rfl, ?_, hTo.ow.fr hf hgd, fun x e => ?_, ⟨fun x hx => (hTo.own.own x hx).fr hf (hTo.own.apart HE.out (by decide) x hx), fun x hx y e => ?_, hTo.own.ord⟩, ?_, fun x e => ?_, hkb⟩, ⟨?_, ?_, ?_⟩⟩
        · show _ = itVals d (some F, (itemsAll (F.val d.bs)).1, f)
          exact hTo.eq
        · have := hTo.new x e; simp at this; omega
        · have := hTo.own.new x hx y e; simp at this; omega
        · show Ow _ _ 1 E j d2 (itBegins (some F, (itemsAll (F.val d.bs)).1, f)) ge
          rw [show itBegins (some F, (itemsAll (F.val d.bs)).1, f) = ys from hyy.out.symm]
          exact HY.out
        · have := hgeT x e; omega
        · have h1 := HPP.out.rr
          have hnt : ∀ {x t}, Typed w2 x t → t ≠ 3 → ¬ some x = ge := fun h2 hne e => hne (h2.same (HE.out.typed _ e.symm))
          exact ⟨h1.bl.fr hf (hnt h1.bl.typed (by decide)), h1.ls.fr hf (fun b e => hnt (h1.ls.typed b e) (by decide)), h1.eq, fun x hx => (h1.own x hx).fr hf fun b e => hnt ((h1.own x hx).typed b e) (by decide), h1.ok⟩
        · exact HPP.out.flt.fr hf fun e => absurd ((Bl.typed HPP.out.flt).same (HE.out.typed _ e.symm)) (by decide)
        · exact HPP.out.fr.comp hf fun x hx e => by have := hgeT x e.symm; omega
  · have hs : Hid (itS d f t most = (none, [], f)) := by show _ = _; rw [itS, hfl]
    go_wp2_with fail
    go_ret2
    rw [hs.out]
    exact ⟨RItOut.none_ _ _ _ _, RPost.fld hR hF hR1 hf1⟩

set_option maxHeartbeats 2000000 in
set_option maxRecDepth 4000 in
theorem rrlist_any (w : World) (wq : Nat) (r : RRd) (d : RD) (f : RF) (t most : Int) (hR : RR w wq r d) (hF : Flt w 139 wq f) :
    Calls Try.prog 84 #[rp r.q, .int .i64 t, .int .i64 most] w fun e w' => ∃ rs D k c g, e = .returned (.slice D k c) ∧ rs.map (·.xs) = itVals d (itS d f t most) ∧ k ≤ 1048576 ∧ Ow w' 23 1 D k c (rs.map BS.cell) g ∧ (∀ b, g = some b → w.heap.size ≤ b) ∧ BSs w' 0 w.heap.size rs ∧ RPost w wq r (d.took f t) (itS d f t most).2.2 w' := by
  go_enter Try.func84, Try.ntmps84
  go_wp2_with fail
  refine (rit_any w wq r d f t most hR hF).mono ?_
  rintro e w1 ⟨⟨rs, D, k, c, g, E, d2, g2, rfl, h1, h2, h3, h4, h5, h6, h7⟩, hP⟩
  go_wp2_with fail
  go_ret
  exact ⟨rs, D, k, c, g, rfl, h1, h7, h2, h3, h4, hP⟩
end Go.Proofs.Ytbglloafbmamoaa
