/-
  Readers of the reference: Number, Raw, Text, Fault, End.
-/
import Derived.Test.YtbglloafbmamoaaTlvS1
namespace Go.Proofs.Ytbglloafbmamoaa
open Go.RowKit
set_option linter.unusedVariables false
attribute [local go_sem ↓] Go.wp_at_zero Go.wp_at_succ

set_option maxHeartbeats 4000000 in
set_option maxRecDepth 4000 in
theorem rrnum_any (w : World) (wq : Nat) (r : RRd) (d : RD) (f : RF) (t : Int) (above : Nat) (ha : above < U64) (hR : RR w wq r d) (hF : Flt w 139 wq f) :
    Calls Try.prog 81 #[rp r.q, .int .i64 t, .int .u64 (above : Int)] w fun e w' => e = .returned (.int .u64 ((numberS d f t above).1 : Int)) ∧ RPost w wq r (d.took f t) (numberS d f t above).2 w' := by
  show Calls _ _ #[.pointer (some ⟨r.q, 0, none⟩), _, _] _ _
  go_enter Try.func81, Try.ntmps81
  go_wp2_with fail
  refine (rfield_any w wq r d f t hR hF).mono ?_
  rintro e w1 ⟨⟨i, hi, hix, hfl, rfl⟩ | ⟨hfl, rfl⟩, hR1, hf1⟩
  · have hP := RPost.fld hR hF hR1 hf1
    obtain ⟨q, L, n, c, g, rs⟩ := r
    simp only at hi
    obtain ⟨b, o, hLe, hge, hrow⟩ := hR1.row (k := i) hi
    simp only at hLe hge
    subst hLe hge
    have hx := hR1.own _ (List.getElem_mem hi)
    obtain ⟨⟨F, xA, xn, xc, xg⟩, hy⟩ : ∃ y, rs[i]'hi = y := ⟨_, rfl⟩
    simp only [hy] at hx hfl hrow
    have hok := hR.ok
    have hFm := fld_mem hfl
    have hto := (hok.at_ F hFm).2.1
    have hle := (hok.at_ F hFm).1
    have hbd := hok.le
    have q0 := (hrow 0 _ rfl).1
    have q1 := (hrow 1 _ rfl).1
    have q2 := (hrow 2 _ rfl).1
    have q3 := (hrow 3 _ rfl).1
    have q4 := (hrow 4 _ rfl).1
    simp only at q0 q1 q2 q3 q4
    rw [Nat.add_zero] at q0
    have a2 : w1.cell? ⟨q, 2, none⟩ = some (.slice (some ⟨b, o, none⟩) n c) := hR1.bl.cell' rfl
    have hin : i < n := by have := hR1.n_eq; simp only at this; omega
    have hbs : (d.took f t).bs = d.bs := rfl
    rw [hbs] at hx
    obtain ⟨fm, hfm⟩ : ∃ fm, F.from_ = fm := ⟨_, rfl⟩
    obtain ⟨ba, hba⟩ : ∃ ba, d.base = ba := ⟨_, rfl⟩
    have hmb : xn ≤ 1048576 := by rw [hx.len, GF.val_len hto]; omega
    have hfb : ba + fm ≤ 140737488355328 := by omega
    rw [hfm] at q3
    have hvl : Hid (xn = (F.val d.bs).length) := hx.len
    have hv256 : Hid (∀ x ∈ F.val d.bs, x < 256) := GF.val_bytes hok.byte
    obtain ⟨N, hN⟩ : ∃ N, (readShort (F.val d.bs) 0).1 = N := ⟨_, rfl⟩
    obtain ⟨T, hTT⟩ : ∃ T, (readShort (F.val d.bs) 0).2.1 = T := ⟨_, rfl⟩
    obtain ⟨E, hE⟩ : ∃ E, (readShort (F.val d.bs) 0).2.2 = E := ⟨_, rfl⟩
    have hv : Hid (ReadVal (F.val d.bs) 0 = .tuple #[.int .u64 (N : Int), .int .i64 T, .int .i64 E]) := by show _ = _; rw [ReadVal, hN, hTT, hE]
    have hspec : Hid (numberS d f t above = if E ≠ 0 ∨ T ≠ (xn : Int) ∨ N = 0 then (0, f.wrong ((ba : Int) + fm) 20) else if above < N then (0, f.wrong ((ba : Int) + fm) 3) else (N, f)) := by
      show _ = _
      rw [numberS, hfl]
      simp only [hN, hTT, hE, hba, hfm, ← hvl.out]
    have HP := hide hP
    have HF1 := hide hP.flt
    have Hbl : Hid (Bl w1 q 154 #[.pointer (some ⟨wq, 0, none⟩), .int .i64 (ba : Int), .slice (some ⟨b, o, none⟩) n c]) := by show Bl _ _ _ _; rw [← hba]; exact hR1.bl
    have hS := hx.sl
    obtain ⟨tk, htk⟩ : ∃ tk, (d.took f t).tk.getD i false = tk := ⟨_, rfl⟩
    rw [htk] at q4
    obtain ⟨tg, htg⟩ : ∃ tg, F.tag = tg := ⟨_, rfl⟩
    rw [htg] at q0
    obtain ⟨ax, hax⟩ : ∃ ax, F.at_ = ax := ⟨_, rfl⟩
    rw [hax] at q2
    have i0 : (0 : Int) ≤ (i : Int) := by omega
    have i1 : (i : Int) < (n : Int) := by omega
    have i2 : ¬ (i : Int) < 0 := by omega
    clear hP hR1 hf1 hR hF hix hfl hrow hy hx hok hFm hto hle hbd hfm hba hN hTT hE htk htg hax hbs
    have hfr := fun (o : Obj) => (Fr.refl (fun _ => False) w1).alloc o
    by_cases hbad : E ≠ 0 ∨ T ≠ (xn : Int) ∨ N = 0
    · have hs := hide (hspec.out.trans (if_pos hbad))
      by_cases hE : E = 0
      · subst hE
        by_cases hT : T = (xn : Int)
        · subst hT
          have hN : N = 0 := by
            rcases hbad with h | h | h
            · exact absurd rfl h
            · exact absurd rfl h
            · exact h
          subst hN
          clear hbad
          go_wp2_with fail
          refine (rread_any _ (F.val d.bs) xA xn xc 0 (by omega) hvl.out hv256.out (hS.below (hfr _) (fun _ _ => id))).mono ?_
          rintro e w' ⟨rfl, rfl⟩
          rw [hv.out]
          go_wp2_with fail
          refine (rwrong_any _ wq q ba fm _ f 20 hfb (Hbl.out.alloc _) (Bl.alloc HF1.out _)).mono ?_
          rintro e w2 ⟨rfl, hF2, hf2⟩
          go_wp2_with fail
          go_ret
          rw [hs.out]
          exact ⟨rfl, (HP.out.quiet (hfr _)).bad hf2 hF2⟩
        · have hT' : ¬ T = (xn : Int) := hT
          clear hbad
          go_wp2_with fail
          refine (rread_any _ (F.val d.bs) xA xn xc 0 (by omega) hvl.out hv256.out (hS.below (hfr _) (fun _ _ => id))).mono ?_
          rintro e w' ⟨rfl, rfl⟩
          rw [hv.out]
          go_wp2_with fail
          refine (rwrong_any _ wq q ba fm _ f 20 hfb (Hbl.out.alloc _) (Bl.alloc HF1.out _)).mono ?_
          rintro e w2 ⟨rfl, hF2, hf2⟩
          go_wp2_with fail
          go_ret
          rw [hs.out]
          exact ⟨rfl, (HP.out.quiet (hfr _)).bad hf2 hF2⟩
      · clear hbad
        go_wp2_with fail
        refine (rread_any _ (F.val d.bs) xA xn xc 0 (by omega) hvl.out hv256.out (hS.below (hfr _) (fun _ _ => id))).mono ?_
        rintro e w' ⟨rfl, rfl⟩
        rw [hv.out]
        go_wp2_with fail
        refine (rwrong_any _ wq q ba fm _ f 20 hfb (Hbl.out.alloc _) (Bl.alloc HF1.out _)).mono ?_
        rintro e w2 ⟨rfl, hF2, hf2⟩
        go_wp2_with fail
        go_ret
        rw [hs.out]
        exact ⟨rfl, (HP.out.quiet (hfr _)).bad hf2 hF2⟩
    · have hE : E = 0 := Classical.not_not.1 fun h => hbad (.inl h)
      have hT : T = (xn : Int) := Classical.not_not.1 fun h => hbad (.inr (.inl h))
      have hN : ¬ N = 0 := fun h => hbad (.inr (.inr h))
      have hN' : ¬ (N : Int) = 0 := by omega
      have hs0 := hide (hspec.out.trans (if_neg hbad))
      subst hE hT
      clear hbad
      by_cases hab : above < N
      · have hs := hide (hs0.out.trans (if_pos hab))
        have hab' : (above : Int) < (N : Int) := by omega
        go_wp2_with fail
        refine (rread_any _ (F.val d.bs) xA xn xc 0 (by omega) hvl.out hv256.out (hS.below (hfr _) (fun _ _ => id))).mono ?_
        rintro e w' ⟨rfl, rfl⟩
        rw [hv.out]
        go_wp2_with fail
        refine (rwrong_any _ wq q ba fm _ f 3 hfb (Hbl.out.alloc _) (Bl.alloc HF1.out _)).mono ?_
        rintro e w2 ⟨rfl, hF2, hf2⟩
        go_wp2_with fail
        go_ret
        rw [hs.out]
        exact ⟨rfl, (HP.out.quiet (hfr _)).bad hf2 hF2⟩
      · have hs := hide (hs0.out.trans (if_neg hab))
        have hab' : ¬ (above : Int) < (N : Int) := by omega
        go_wp2_with fail
        refine (rread_any _ (F.val d.bs) xA xn xc 0 (by omega) hvl.out hv256.out (hS.below (hfr _) (fun _ _ => id))).mono ?_
        rintro e w' ⟨rfl, rfl⟩
        rw [hv.out]
        go_wp2_with fail
        go_ret
        rw [hs.out]
        exact ⟨rfl, HP.out.quiet (hfr _)⟩
  · have hs : Hid (numberS d f t above = (0, f)) := by show _ = _; rw [numberS, hfl]
    go_wp2_with fail
    go_ret
    rw [hs.out]
    exact ⟨rfl, RPost.fld hR hF hR1 hf1⟩

set_option maxHeartbeats 4000000 in
set_option maxRecDepth 4000 in
theorem rrraw_any (w : World) (wq : Nat) (r : RRd) (d : RD) (f : RF) (t most : Int) (hR : RR w wq r d) (hF : Flt w 139 wq f) :
    Calls Try.prog 82 #[rp r.q, .int .i64 t, .int .i64 most] w fun e w' => ∃ A n c g, e = .returned (.slice A n c) ∧ n ≤ 1048576 ∧ Ow w' 5 1 A n c ((rawS d f t most).1.map bn) g ∧ (∀ b, g = some b → w.heap.size ≤ b) ∧ (∀ x ∈ (rawS d f t most).1, x < 256) ∧ RPost w wq r (d.took f t) (rawS d f t most).2 w' := by
  show Calls _ _ #[.pointer (some ⟨r.q, 0, none⟩), _, _] _ _
  go_enter Try.func82, Try.ntmps82
  go_wp2_with fail
  refine (rfield_any w wq r d f t hR hF).mono ?_
  rintro e w1 ⟨⟨i, hi, hix, hfl, rfl⟩ | ⟨hfl, rfl⟩, hR1, hf1⟩
  · have hP := RPost.fld hR hF hR1 hf1
    obtain ⟨q, L, n, c, g, rs⟩ := r
    simp only at hi
    obtain ⟨b, o, hLe, hge, hrow⟩ := hR1.row (k := i) hi
    simp only at hLe hge
    subst hLe hge
    have hx := hR1.own _ (List.getElem_mem hi)
    obtain ⟨⟨F, xA, xn, xc, xg⟩, hy⟩ : ∃ y, rs[i]'hi = y := ⟨_, rfl⟩
    simp only [hy] at hx hfl hrow
    have hok := hR.ok
    have hFm := fld_mem hfl
    have hto := (hok.at_ F hFm).2.1
    have hle := (hok.at_ F hFm).1
    have hbd := hok.le
    have q1 := (hrow 1 _ rfl).1
    have q3 := (hrow 3 _ rfl).1
    simp only at q1 q3
    have a2 : w1.cell? ⟨q, 2, none⟩ = some (.slice (some ⟨b, o, none⟩) n c) := hR1.bl.cell' rfl
    have hin : i < n := by have := hR1.n_eq; simp only at this; omega
    have hbs : (d.took f t).bs = d.bs := rfl
    rw [hbs] at hx
    obtain ⟨fm, hfm⟩ : ∃ fm, F.from_ = fm := ⟨_, rfl⟩
    obtain ⟨ba, hba⟩ : ∃ ba, d.base = ba := ⟨_, rfl⟩
    have hmb : xn ≤ 1048576 := by rw [hx.len, GF.val_len hto]; omega
    have hfb : ba + fm ≤ 140737488355328 := by omega
    rw [hfm] at q3
    have hvl : Hid (xn = (F.val d.bs).length) := hx.len
    have hv256 : Hid (∀ x ∈ F.val d.bs, x < 256) := GF.val_bytes hok.byte
    have hspec : Hid (rawS d f t most = if max most 0 < (xn : Int) then ([], f.wrong ((ba : Int) + fm) 3) else (F.val d.bs, f)) := by
      show _ = _
      rw [rawS, hfl]
      simp only [hba, hfm, ← hvl.out]
    have HP := hide hP
    have HF1 := hide hP.flt
    have Hbl : Hid (Bl w1 q 154 #[.pointer (some ⟨wq, 0, none⟩), .int .i64 (ba : Int), .slice (some ⟨b, o, none⟩) n c]) := by show Bl _ _ _ _; rw [← hba]; exact hR1.bl
    have hS := hx.sl
    have i0 : (0 : Int) ≤ (i : Int) := by omega
    have i1 : (i : Int) < (n : Int) := by omega
    have i2 : ¬ (i : Int) < 0 := by omega
    clear hP hR1 hf1 hR hF hix hfl hrow hy hx hok hFm hto hle hbd hfm hba hbs
    by_cases hbad : max most 0 < (xn : Int)
    · have hs := hide (hspec.out.trans (if_pos hbad))
      have hd : decide ((xn : Int) ≤ max most 0) = false := decide_eq_false (by omega)
      go_wp2_with fail
      refine (few_any _ _ _).mono ?_
      rintro e w' ⟨rfl, rfl⟩
      rw [hd]
      go_wp2_with fail
      refine (rwrong_any _ wq q ba fm _ f 3 hfb Hbl.out HF1.out).mono ?_
      rintro e w2 ⟨rfl, hF2, hf2⟩
      go_wp2_with fail
      go_ret
      rw [hs.out]
      exact ⟨none, 0, 0, none, rfl, by omega, Ow.nil_ _ _ _, (fun b h => by cases h), (fun x h => by cases h), HP.out.bad hf2 hF2⟩
    · have hs := hide (hspec.out.trans (if_neg hbad))
      have hd : decide ((xn : Int) ≤ max most 0) = true := decide_eq_true (by omega)
      go_wp2_with fail
      refine (few_any _ _ _).mono ?_
      rintro e w' ⟨rfl, rfl⟩
      rw [hd]
      go_wp2_with fail
      refine (copied_any _ (F.val d.bs) xA xn xc (by omega) hS).mono ?_
      rintro e w2 ⟨A2, c2, g2, rfl, hO2, hg2, hf2⟩
      go_wp2_with fail
      go_ret
      rw [hs.out]
      exact ⟨A2, xn, c2, g2, rfl, hmb, hO2, (fun b e => Nat.le_trans HP.out.fr.size (hg2 b e)), hv256.out, HP.out.quiet hf2⟩
  · have hs : Hid (rawS d f t most = ([], f)) := by show _ = _; rw [rawS, hfl]
    go_wp2_with fail
    go_ret
    rw [hs.out]
    exact ⟨none, 0, 0, none, rfl, by omega, Ow.nil_ _ _ _, (fun b h => by cases h), (fun x h => by cases h), RPost.fld hR hF hR1 hf1⟩

set_option maxHeartbeats 2000000 in
set_option maxRecDepth 4000 in
theorem rrtext_any (w : World) (wq : Nat) (r : RRd) (d : RD) (f : RF) (t most : Int) (hR : RR w wq r d) (hF : Flt w 139 wq f) :
    Calls Try.prog 83 #[rp r.q, .int .i64 t, .int .i64 most] w fun e w' => e = .returned (.string (strOf (rawS d f t most).1)) ∧ RPost w wq r (d.took f t) (rawS d f t most).2 w' := by
  show Calls _ _ #[.pointer (some ⟨r.q, 0, none⟩), _, _] _ _
  go_enter Try.func83, Try.ntmps83
  go_wp2_with fail
  refine (rrraw_any w wq r d f t most hR hF).mono ?_
  rintro e w1 ⟨A, n, c, g, rfl, hn, hO, _, h256, hP⟩
  have hcv := conv_bs w1 A n c _ h256 hO.sl
  go_wp2_with fail
  go_ret
  exact ⟨rfl, hP⟩

set_option maxHeartbeats 2000000 in
set_option maxRecDepth 4000 in
theorem rfault_any (w : World) (wq : Nat) (r : RRd) (d : RD) (f : RF) (hR : RR w wq r d) (hF : Flt w 139 wq f) :
    Calls Try.prog 88 #[rp r.q] w fun e w' => e = .returned (.tuple #[.int .i64 f.place, .int .i64 f.e]) ∧ Fr (fun _ => False) w w' := by
  obtain ⟨q, L, n, c, g, rs⟩ := r
  have c0 : w.cell? ⟨q, 0, none⟩ = some (.pointer (some ⟨wq, 0, none⟩)) := hR.bl.cell' rfl
  have e0 : w.cell? ⟨wq, 0, none⟩ = some (.int .i64 f.place) := Bl.cell' hF rfl
  have e1 : w.cell? ⟨wq, 1, none⟩ = some (.int .i64 f.e) := Bl.cell' hF rfl
  clear hR hF
  show Calls _ _ #[.pointer (some ⟨q, 0, none⟩)] _ _
  go_enter Try.func88, Try.ntmps88
  go_wp2_with fail
  go_quiet (fail)
  go_wp2_with fail
  go_ret2
  exact ⟨rfl, (Fr.refl _ _).drewN _⟩
set_option maxHeartbeats 1000000 in
set_option maxRecDepth 4000 in
theorem rfault_nil (w : World) : Calls Try.prog 88 #[.pointer none] w fun e w' => e = .returned (.tuple #[.int .i64 0, .int .i64 1]) ∧ w = w' := by
  go_enter Try.func88, Try.ntmps88
  go_wp2_with fail
  go_ret2
  exact ⟨rfl, rfl⟩

set_option maxHeartbeats 4000000 in
set_option maxRecDepth 4000 in
theorem rend_any (w : World) (wq : Nat) (r : RRd) (d : RD) (f : RF) (hR : RR w wq r d) (hF : Flt w 139 wq f) :
    Calls Try.prog 87 #[rp r.q] w fun e w' => e = .returned (.tuple #[.int .i64 (endS d f).place, .int .i64 (endS d f).e]) ∧ RPost w wq r d (endS d f) w' := by
  have HR := hide hR
  have HF := hide hF
  obtain ⟨q, L, n, c, g, rs⟩ := r
  have Hn : Hid (n = rs.length) := hR.n_eq
  have hcap : n ≤ 9223372036854775807 := by have := hR.ls.cap; unfold maxLen at this; simp only at this; omega
  have hle := hR.ok.le
  obtain ⟨ba, hba⟩ : ∃ ba, d.base = ba := ⟨_, rfl⟩
  rw [hba] at hle
  have Hba := hide hba
  have Hle := hide hle
  clear hR hF hba hle
  show Calls _ _ #[.pointer (some ⟨q, 0, none⟩)] _ _
  go_enter Try.func87, Try.ntmps87
  go_wp2_with fail
  go_loopw [4] (fun i wr => ∃ (k : Nat) (ff : RF), k ≤ n ∧ i = .int .i64 k ∧ Hid (ff.e = 0 → ff = f ∧ ∀ j, j < k → d.tk.getD j false = true) ∧ Hid (ff.e ≠ 0 → endS d f = ff) ∧ RPost w wq ⟨q, L, n, c, g, rs⟩ d ff wr) (fun i _ => n - (intOf i).toNat)
  case atStart => exact ⟨0, f, by omega, rfl, fun h => ⟨rfl, fun j hj => absurd hj (by omega)⟩, fun h => if_pos h, RPost.refl HR.out HF.out⟩
  case round =>
    obtain ⟨k, ff, hk, rfl, h1, h2, hP⟩ := hrel
    have c0 : wr.cell? ⟨q, 0, none⟩ = some (.pointer (some ⟨wq, 0, none⟩)) := hP.rr.bl.cell' rfl
    have c2 : wr.cell? ⟨q, 2, none⟩ = some (.slice L n c) := hP.rr.bl.cell' rfl
    have ce : wr.cell? ⟨wq, 1, none⟩ = some (.int .i64 ff.e) := Bl.cell' hP.flt rfl
    obtain ⟨er, her⟩ : ∃ er, ff.e = er := ⟨_, rfl⟩
    rw [her] at ce
    have Her := hide her
    clear her
    by_cases hlt : k < n
    · by_cases he : ¬ er = 0
      · have hs := hide (h2.out (by rw [Her.out]; exact he))
        have HP := hide hP
        clear hP
        have i1 : (k : Int) < (n : Int) := by omega
        go_wp2_with fail
        refine (rfault_any wr wq ⟨q, L, n, c, g, rs⟩ d ff HP.out.rr HP.out.flt).mono ?_
        rintro e w2 ⟨rfl, hf2⟩
        go_wp2_with fail
        go_ret2
        rw [hs.out]
        exact ⟨rfl, HP.out.quiet hf2⟩
      · obtain rfl : er = 0 := by omega
        obtain ⟨h3, hno⟩ := h1.out Her.out
        have hkp : k < rs.length := by rw [← Hn.out]; exact hlt
        have hkf : k < d.fs.length := by rw [← HR.out.len]; exact hkp
        obtain ⟨b, o, hLe, hge, hrow⟩ := hP.rr.row (k := k) hkp
        simp only at hLe hge
        subst hLe hge
        have hFe : d.fs[k] = rs[k].F := by
          have := map_get HR.out.eq hkp
          rw [List.getElem?_eq_getElem hkf] at this
          exact (Option.some.inj this).symm
        have hat : rs[k].F.at_ ≤ d.bs.length := by rw [← hFe]; exact (HR.out.ok.at_ _ (List.getElem_mem hkf)).2.2
        obtain ⟨am, ham⟩ : ∃ am, rs[k].F.at_ = am := ⟨_, rfl⟩
        obtain ⟨tk, htk⟩ : ∃ tk, d.tk.getD k false = tk := ⟨_, rfl⟩
        have q2 := (hrow 2 _ rfl).1
        have q4 := (hrow 4 _ rfl).1
        simp only at q2 q4
        rw [ham] at q2
        rw [htk] at q4
        have hab : ba + am ≤ 140737488355328 := by have := Hle.out; omega
        have HFe := hide hFe
        have Ham := hide ham
        have Htk := hide htk
        have Hbl : Hid (Bl wr q 154 #[.pointer (some ⟨wq, 0, none⟩), .int .i64 (ba : Int), .slice (some ⟨b, o, none⟩) n c]) := by show Bl _ _ _ _; rw [← Hba.out]; exact hP.rr.bl
        have HP := hide hP
        have Hno := hide hno
        have H3 := hide h3
        clear hP hrow hFe hat ham htk hno h3
        have i0 : (0 : Int) ≤ (k : Int) := by omega
        have i1 : (k : Int) < (n : Int) := by omega
        cases tk with
        | true =>
          go_wp2_with fail
          refine ⟨⟨k + 1, ff, by omega, by go_num, fun h => ⟨H3.out, fun j hj => ?_⟩, fun h => absurd Her.out h, HP.out⟩, by simp [intOf]; omega⟩
          by_cases hjk : j = k
          · subst hjk; exact Htk.out
          · exact Hno.out j (by omega)
        | false =>
          have hs : Hid (endS d f = f.wrong ((ba : Int) + am) 20) := by
            show _ = _
            rw [endS, if_neg (fun h => h (by rw [← H3.out]; exact Her.out)), leftAt_first HR.out.ok hkf Hno.out Htk.out, List.getElem?_eq_getElem hkf, HFe.out]
            simp only [Hba.out, Ham.out]
          go_wp2_with fail
          refine (rwrong_any _ wq q ba am _ ff 20 hab Hbl.out HP.out.flt).mono ?_
          rintro e w2 ⟨rfl, hF2, hf2⟩
          go_wp2_with fail
          refine ⟨⟨k + 1, _, by omega, by go_num, fun h => ?_, fun h => ?_, HP.out.bad hf2 hF2⟩, by simp [intOf]; omega⟩
          · rw [RF.wrong_yes Her.out] at h
            exact absurd h (by simp)
          · rw [hs.out, H3.out]
    · obtain rfl : k = n := by omega
      have hs : Hid (endS d f = ff) := by
        show _ = _
        by_cases he : er = 0
        · obtain ⟨h3, hno⟩ := h1.out (by rw [Her.out]; exact he)
          rw [h3, endS, leftAt_none HR.out.ok fun j hj => hno j (by rw [Hn.out, HR.out.len]; exact hj)]
          simp
        · exact h2.out (by rw [Her.out]; exact he)
      have HP := hide hP
      clear hlt hP
      go_wp2_with fail
      refine (rfault_any wr wq ⟨q, L, k, c, g, rs⟩ d ff HP.out.rr HP.out.flt).mono ?_
      rintro e w2 ⟨rfl, hf2⟩
      go_wp2_with fail
      go_ret2
      rw [hs.out]
      exact ⟨rfl, HP.out.quiet hf2⟩
end Go.Proofs.Ytbglloafbmamoaa
