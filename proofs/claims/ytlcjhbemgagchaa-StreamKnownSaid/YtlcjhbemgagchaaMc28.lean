/-
  Texts merged into one, to keep the claim small: PrA, PrK6.
-/
import Derived.Laws.Rows
import Derived.Test.YtlcjhbemgagchaaMc26
import Derived.Test.YtlcjhbemgagchaaMc27
import Derived.Test.YtlcjhbemgagchaaMc17
import Derived.Test.YtlcjhbemgagchaaMc19
section
/-
  proto's reference: entryForm, contractForm, EncodeReply. (printed by pr_ref2.py)
-/
namespace Go.Proofs.Ytlcjhbemgagchaa
open Go.RowKit
set_option linter.unusedVariables false
set_option linter.unusedSimpArgs false
theorem put_fl {l : List Fd} (ha : Asc 0 l) (hl : (putAll (live l)).length ≤ 1048576) : putBytes (live l) = putAll (live l) ∧ putErr (live l) = 0 := by
  have h := live_err ha hl
  exact ⟨by unfold putBytes; rw [if_pos h], h⟩
theorem rput_fl {W w : World} (l : List Fd) {A : Option Addr} {n c : Nat} (hF : FL W w l A n c) (ha : Asc 0 l) (hl : (putAll (live l)).length ≤ 1048576) (hv : ∀ f ∈ l, f.2.length ≤ 100000) (h100 : l.length ≤ 100) :
    Calls Try.prog 79 #[.slice A n c] w fun e w' => ∃ X nx cx gx, e = .returned (.tuple #[.slice X nx cx, .int .i64 0]) ∧ Ow w' 5 1 X nx cx ((putAll (live l)).map bn) gx ∧ (∀ b, gx = some b → w.heap.size ≤ b) ∧ Fr (fun _ => False) w w' := by
  obtain ⟨y1, y2⟩ := put_fl ha hl
  have h1 := hF.fat
  have h2 : (live l).length ≤ l.length := List.length_filter_le ..
  have cz := rput_any w (live l) A n c (by have := h1.1; omega) h1 (by omega) (fun i hi => by
    have hm : (live l)[i] ∈ live l := List.getElem_mem hi
    have h3 := hv _ (List.mem_filter.1 hm).1
    omega)
  unfold PutPost at cz
  rw [y1, y2] at cz
  exact cz
set_option maxHeartbeats 4000000 in
set_option maxRecDepth 8000 in
theorem entryForm_any (w : World) (r : ER) (h : r.at_ w) (hok : r.ok = true) (hwf : r.wf) :
    Calls Try.prog 77 #[.agg #[.int .i64 r.acc, .int .i64 r.item, .int .u64 (r.co : Int), .int .u64 (r.pr : Int), .slice r.A r.n r.c]] w (BP r.form.length r.form w) := by
  have HAt := hide h
  have Hlen : Hid (r.n = r.ws.length) := h.sl.ilen
  have Hel := hide (ER.len hok hwf)
  have Has := hide (ER.asc r)
  obtain ⟨k1, k2, k3⟩ := ER.ok_split hok
  have a1 := okL_mem k1 (n := r.acc) (by simp)
  have a2 := okL_mem k1 (n := r.item) (by simp)
  obtain ⟨u1, u2⟩ := hwf
  have K2 := hide k2
  have K3 := hide k3
  clear h hok k1 k2 k3
  obtain ⟨acc, item, co, pr, A, n, c, ws⟩ := r
  simp only at HAt Hlen K2 K3 a1 a2 u1 u2 ⊢
  obtain ⟨acc, rfl⟩ : ∃ t : Nat, acc = (t : Int) := ⟨acc.toNat, by omega⟩
  obtain ⟨item, rfl⟩ : ∃ t : Nat, item = (t : Int) := ⟨item.toNat, by omega⟩
  have q1 : IntKind.u64.wrap (acc : Int) = (acc : Int) := IntWalk.u64_in _ (by omega)
  have q2 : IntKind.u64.wrap (item : Int) = (item : Int) := IntWalk.u64_in _ (by omega)
  have v1 : Hid (acc < U64 ∧ item < U64) := ⟨by unfold U64; omega, by unfold U64; omega⟩
  have U1 := hide u1
  have U2 := hide u2
  clear a1 a2 u1 u2
  have HB0 : Hid (Bl (w.alloc (.cells #[.int .i64 (acc : Int), .int .i64 (item : Int), .int .u64 (co : Int), .int .u64 (pr : Int), .slice A n c] 26)) w.heap.size 26 #[.int .i64 (acc : Int), .int .i64 (item : Int), .int .u64 (co : Int), .int .u64 (pr : Int), .slice A n c]) := Bl.new _ _ _
  have HF0 : Hid (Fr (fun _ => False) w (w.alloc (.cells #[.int .i64 (acc : Int), .int .i64 (item : Int), .int .u64 (co : Int), .int .u64 (pr : Int), .slice A n c] 26))) := (Fr.refl _ _).alloc _
  go_enter Try.func77, Try.ntmps77
  go_wp2_with fail
  obtain ⟨w1, hw1⟩ : ∃ w1, w1 = w.alloc (.cells #[.int .i64 (acc : Int), .int .i64 (item : Int), .int .u64 (co : Int), .int .u64 (pr : Int), .slice A n c] 26) := ⟨_, rfl⟩
  rw [← hw1] at HB0 HF0 ⊢
  have h0 : FL w1 w1 [] none 0 0 := FL.begin _ _ (Fr.refl _ _)
  clear hw1
  have d0 := num27_any w1 _ _ none 0 0 h0 5 co U1.out (by simp)
  refine d0.mono ?_
  rintro e w2 ⟨A1, n1, c1, rfl, h1⟩
  clear d0 h0
  have b1 := (HB0.out.fr h1.frame id).cell' (i := 1) rfl
  go_wp2_with fail
  have d1 := num27_any w1 _ _ A1 n1 c1 h1 6 item v1.out.2 (by simp)
  refine d1.mono ?_
  rintro e w3 ⟨A2, n2, c2, rfl, h2⟩
  clear d1 h1 b1
  have b2 := (HB0.out.fr h2.frame id).cell' (i := 3) rfl
  go_wp2_with fail
  have d2 := num27_any w1 _ _ A2 n2 c2 h2 10 pr U2.out (by simp)
  refine d2.mono ?_
  rintro e w4 ⟨A3, n3, c3, rfl, h3⟩
  clear d2 h2 b2
  have b3 := (HB0.out.fr h3.frame id).cell' (i := 4) rfl
  go_wp2_with fail
  refine (rshorts_any _ ws A n c (by have := K2.out; have := (Hlen.out : n = ws.length); omega) K3.out (HAt.out.sl.quiet (HF0.out.trans h3.frame))).mono ?_
  rintro e wl ⟨X, cx, gx, rfl, hO, hg, hf⟩
  clear b3
  have d3 := with_any w1 w4 wl _ A3 n3 c3 h3 hf 11 X _ cx (listAll (shs ws)) hO.sl (fun b o e hm => by subst e; exact hg b hO.blk) (by simp)
  clear hO hg hf h3
  go_wp2_with fail
  refine d3.mono ?_
  rintro e w5 ⟨A4, n4, c4, rfl, h4⟩
  clear d3
  have b4 := (HB0.out.fr h4.frame id).cell' (i := 0) rfl
  go_wp2_with fail
  have d4 := num27_any w1 _ _ A4 n4 c4 h4 22 acc v1.out.1 (by simp)
  refine d4.mono ?_
  rintro e w6 ⟨A5, n5, c5, rfl, h5⟩
  clear d4 h4 b4
  have cz := rput_fl (ER.fl ⟨(acc : Int), (item : Int), co, pr, A, n, c, ws⟩) h5 Has.out (by have := Hel.out.1; unfold ER.form at this; exact Nat.le_trans this (by omega)) (fun f hf => Nat.le_trans (Hel.out.2 f hf) (by omega)) (by simp [ER.fl, CR.fl, RR.fl])
  have Hk := hide h5
  clear h5
  go_wp2_with fail
  refine cz.mono ?_
  rintro e wz ⟨X, nx, cx, gx, rfl, hX, hg, hfz⟩
  have HX := hide hX
  have Hg : Hid (∀ b, gx = some b → w.heap.size ≤ b) := fun b e => by
    have h1 := hg b e
    have h2 := Hk.out.frame.size
    have h3 := HF0.out.size
    omega
  have HFz := hide ((HF0.out.trans Hk.out.frame).trans hfz)
  clear cz hX hg hfz Hk
  go_wp2_with fail
  go_ret
  have hl : nx = (ER.form ⟨(acc : Int), (item : Int), co, pr, A, n, c, ws⟩).length := HX.out.len
  subst hl
  exact ⟨X, cx, gx, rfl, HX.out, Hg.out, HFz.out⟩
set_option maxHeartbeats 8000000 in
set_option maxRecDepth 8000 in
theorem contractForm_any (w : World) (r : CR) (h : r.at_ w) (hok : r.ok = true) (hwf : r.wf) :
    Calls Try.prog 78 #[.agg #[.int .i64 r.num, .int .i64 r.kind, .int .i64 r.by_, .int .i64 r.dl, .int .i64 r.to_, .int .i64 r.want, .int .u64 (r.pr : Int), .int .u64 (r.rs : Int), .int .u64 (r.st : Int), .int .i64 r.of_, .slice r.A r.n r.c]] w (BP r.form.length r.form w) := by
  obtain ⟨bi, bj, bj0, bj1, bj2⟩ := info_parts infoB
  have HAt := hide h
  have Hlen : Hid (r.n = r.es.length) := h.len
  have Hfl := hide (CR.forms_len hok hwf)
  have Hel := hide (CR.len hok hwf)
  have Has := hide (CR.asc r)
  obtain ⟨k1, k2, k3⟩ := CR.ok_split hok
  have a1 := okL_mem k3 (n := r.num) (by simp [CR.seven])
  have a2 := okL_mem k3 (n := r.kind) (by simp [CR.seven])
  have a3 := okL_mem k3 (n := r.by_) (by simp [CR.seven])
  have a4 := okL_mem k3 (n := r.dl) (by simp [CR.seven])
  have a5 := okL_mem k3 (n := r.to_) (by simp [CR.seven])
  have a6 := okL_mem k3 (n := r.want) (by simp [CR.seven])
  have a7 := okL_mem k3 (n := r.of_) (by simp [CR.seven])
  have U := hide hwf
  have K1 := hide k1
  have K2 := hide k2
  clear h hok k1 k2 k3 hwf
  obtain ⟨num, kind, by_, dl, to_, want, pr, rs, st, of_, A, n, c, es⟩ := r
  simp only at HAt Hlen K1 K2 Hfl U a1 a2 a3 a4 a5 a6 a7 ⊢
  obtain ⟨num, rfl⟩ : ∃ t : Nat, num = (t : Int) := ⟨num.toNat, by omega⟩
  have q1 : IntKind.u64.wrap (num : Int) = (num : Int) := IntWalk.u64_in _ (by omega)
  have v1 : Hid (num < U64) := by show _ < _; unfold U64; omega
  obtain ⟨kind, rfl⟩ : ∃ t : Nat, kind = (t : Int) := ⟨kind.toNat, by omega⟩
  have q2 : IntKind.u64.wrap (kind : Int) = (kind : Int) := IntWalk.u64_in _ (by omega)
  have v2 : Hid (kind < U64) := by show _ < _; unfold U64; omega
  obtain ⟨by_, rfl⟩ : ∃ t : Nat, by_ = (t : Int) := ⟨by_.toNat, by omega⟩
  have q3 : IntKind.u64.wrap (by_ : Int) = (by_ : Int) := IntWalk.u64_in _ (by omega)
  have v3 : Hid (by_ < U64) := by show _ < _; unfold U64; omega
  obtain ⟨dl, rfl⟩ : ∃ t : Nat, dl = (t : Int) := ⟨dl.toNat, by omega⟩
  have q4 : IntKind.u64.wrap (dl : Int) = (dl : Int) := IntWalk.u64_in _ (by omega)
  have v4 : Hid (dl < U64) := by show _ < _; unfold U64; omega
  obtain ⟨to_, rfl⟩ : ∃ t : Nat, to_ = (t : Int) := ⟨to_.toNat, by omega⟩
  have q5 : IntKind.u64.wrap (to_ : Int) = (to_ : Int) := IntWalk.u64_in _ (by omega)
  have v5 : Hid (to_ < U64) := by show _ < _; unfold U64; omega
  obtain ⟨want, rfl⟩ : ∃ t : Nat, want = (t : Int) := ⟨want.toNat, by omega⟩
  have q6 : IntKind.u64.wrap (want : Int) = (want : Int) := IntWalk.u64_in _ (by omega)
  have v6 : Hid (want < U64) := by show _ < _; unfold U64; omega
  obtain ⟨of_, rfl⟩ : ∃ t : Nat, of_ = (t : Int) := ⟨of_.toNat, by omega⟩
  have q7 : IntKind.u64.wrap (of_ : Int) = (of_ : Int) := IntWalk.u64_in _ (by omega)
  have v7 : Hid (of_ < U64) := by show _ < _; unfold U64; omega
  have Hn : Hid (n ≤ 16) := by have := K1.out; have := (Hlen.out : n = es.length); show _ ≤ _; omega
  have hn17 : n ≤ 2513169434843 := HAt.out.le
  clear a1 a2 a3 a4 a5 a6 a7
  have HB0 : Hid (Bl (w.alloc (.cells #[.int .i64 (num : Int), .int .i64 (kind : Int), .int .i64 (by_ : Int), .int .i64 (dl : Int), .int .i64 (to_ : Int), .int .i64 (want : Int), .int .u64 (pr : Int), .int .u64 (rs : Int), .int .u64 (st : Int), .int .i64 (of_ : Int), .slice A n c] 29)) w.heap.size 29 #[.int .i64 (num : Int), .int .i64 (kind : Int), .int .i64 (by_ : Int), .int .i64 (dl : Int), .int .i64 (to_ : Int), .int .i64 (want : Int), .int .u64 (pr : Int), .int .u64 (rs : Int), .int .u64 (st : Int), .int .i64 (of_ : Int), .slice A n c]) := Bl.new _ _ _
  have HF0 : Hid (Fr (fun _ => False) w (w.alloc (.cells #[.int .i64 (num : Int), .int .i64 (kind : Int), .int .i64 (by_ : Int), .int .i64 (dl : Int), .int .i64 (to_ : Int), .int .i64 (want : Int), .int .u64 (pr : Int), .int .u64 (rs : Int), .int .u64 (st : Int), .int .i64 (of_ : Int), .slice A n c] 29))) := (Fr.refl _ _).alloc _
  go_enter Try.func78, Try.ntmps78
  go_wp2_with fail
  obtain ⟨w1, hw1⟩ : ∃ w1, w1 = w.alloc (.cells #[.int .i64 (num : Int), .int .i64 (kind : Int), .int .i64 (by_ : Int), .int .i64 (dl : Int), .int .i64 (to_ : Int), .int .i64 (want : Int), .int .u64 (pr : Int), .int .u64 (rs : Int), .int .u64 (st : Int), .int .i64 (of_ : Int), .slice A n c] 29) := ⟨_, rfl⟩
  rw [← hw1] at HB0 HF0 ⊢
  have h0 : FL w1 w1 [] none 0 0 := FL.begin _ _ (Fr.refl _ _)
  clear hw1
  have d0 := num27_any w1 _ _ none 0 0 h0 2 kind v2.out (by simp)
  refine d0.mono ?_
  rintro e w2 ⟨A1, n1, c1, rfl, h1⟩
  clear d0 h0
  have b1 := (HB0.out.fr h1.frame id).cell' (i := 4) rfl
  go_wp2_with fail
  have d1 := num27_any w1 _ _ A1 n1 c1 h1 4 to_ v5.out (by simp)
  refine d1.mono ?_
  rintro e w3 ⟨A2, n2, c2, rfl, h2⟩
  clear d1 h1 b1
  have b2 := (HB0.out.fr h2.frame id).cell' (i := 0) rfl
  go_wp2_with fail
  have d2 := num27_any w1 _ _ A2 n2 c2 h2 7 num v1.out (by simp)
  refine d2.mono ?_
  rintro e w4 ⟨A3, n3, c3, rfl, h3⟩
  clear d2 h2 b2
  have b3 := (HB0.out.fr h3.frame id).cell' (i := 9) rfl
  go_wp2_with fail
  have d3 := num27_any w1 _ _ A3 n3 c3 h3 8 of_ v7.out (by simp)
  refine d3.mono ?_
  rintro e w5 ⟨A4, n4, c4, rfl, h4⟩
  clear d3 h3 b3
  have b4 := (HB0.out.fr h4.frame id).cell' (i := 6) rfl
  go_wp2_with fail
  have d4 := num27_any w1 _ _ A4 n4 c4 h4 10 pr U.out.pr (by simp)
  refine d4.mono ?_
  rintro e w6 ⟨A5, n5, c5, rfl, h5⟩
  clear d4 h4 b4
  have b5 := (HB0.out.fr h5.frame id).cell' (i := 3) rfl
  go_wp2_with fail
  have d5 := num27_any w1 _ _ A5 n5 c5 h5 13 dl v4.out (by simp)
  refine d5.mono ?_
  rintro e w7 ⟨A6, n6, c6, rfl, h6⟩
  clear d5 h5 b5
  have b6 := (HB0.out.fr h6.frame id).cell' (i := 5) rfl
  go_wp2_with fail
  have d6 := num27_any w1 _ _ A6 n6 c6 h6 14 want v6.out (by simp)
  refine d6.mono ?_
  rintro e w8 ⟨A7, n7, c7, rfl, h7⟩
  clear d6 h6 b6
  have b7 := (HB0.out.fr h7.frame id).cell' (i := 7) rfl
  go_wp2_with fail
  have d7 := num27_any w1 _ _ A7 n7 c7 h7 15 rs U.out.rs (by simp)
  refine d7.mono ?_
  rintro e w9 ⟨A8, n8, c8, rfl, h8⟩
  clear d7 h7 b7
  have b8 := (HB0.out.fr h8.frame id).cell' (i := 8) rfl
  go_wp2_with fail
  have d8 := num27_any w1 _ _ A8 n8 c8 h8 16 st U.out.st (by simp)
  refine d8.mono ?_
  rintro e w10 ⟨A9, n9, c9, rfl, h9⟩
  clear d8 h8 b8
  have b9 := (HB0.out.fr h9.frame id).cell' (i := 2) rfl
  go_wp2_with fail
  have d9 := num27_any w1 _ _ A9 n9 c9 h9 20 by_ v3.out (by simp)
  refine d9.mono ?_
  rintro e w11 ⟨A10, n10, c10, rfl, h10⟩
  clear d9 h9 b9
  have HO := hide h10
  have HB1 := hide (HB0.out.fr h10.frame id)
  have HF1 := hide (HF0.out.trans h10.frame)
  clear q1 q2 q3 q4 q5 q6 q7 h10
  go_wp2_with fail
  go_loopw [4, 5] (fun u i wr => ∃ (j : Nat) (B : Option Addr) (cb : Nat), j ≤ n ∧ i = .int .i64 (j : Int) ∧ u = .slice B j cb ∧ Hid (LL w11 wr ((es.map ER.form).take j) B j cb)) (fun _ i _ => n - (intOf i).toNat)
  case atStart => exact ⟨0, none, 0, Nat.zero_le _, rfl, rfl, LL.begin _ _ (Fr.refl _ _)⟩
  case round =>
    obtain ⟨wo, rfl⟩ : ∃ wo, wo = wr := ⟨_, rfl⟩
    obtain ⟨j, B, cb, hj, rfl, rfl, HL⟩ := hrel
    have cx := (HB1.out.fr HL.out.frame id).cell' (i := 10) rfl
    by_cases hlt : j < n
    · have hjl : j < es.length := by rw [← (Hlen.out : n = es.length)]; exact hlt
      have hfo := HF1.out.trans HL.out.frame
      obtain ⟨b, o, hA, hc⟩ := (HAt.out.quiet hfo).row hjl
      simp only at hA
      have HE : Hid ((es[j]).at_ wo ∧ (es[j]).ok = true ∧ (es[j]).wf) := ⟨(HAt.out.quiet hfo).es _ (List.getElem_mem hjl), K2.out _ (List.getElem_mem hjl), U.out.es _ (List.getElem_mem hjl)⟩
      have hdrop : Hid ((es.map ER.form).take (j + 1) = (es.map ER.form).take j ++ [(es[j]).form]) := by
        show _ = _
        rw [List.take_succ_eq_append_getElem (by rw [List.length_map]; exact hjl)]
        congr 1
        simp
      obtain ⟨e, he⟩ : ∃ e, es[j] = e := ⟨_, rfl⟩
      simp only at hc
      rw [he] at hc HE hdrop
      obtain ⟨acc, item, co, pr2, A2, n2, c2, ws⟩ := e
      have d0 := hc 0 _ rfl
      rw [Nat.add_zero] at d0
      have d1 := hc 1 _ rfl
      have d2 := hc 2 _ rfl
      have d3 := hc 3 _ rfl
      have d4 := hc 4 _ rfl
      subst hA
      have i0 : (0 : Int) ≤ (j : Int) := by omega
      have i1 : (j : Int) < (n : Int) := by omega
      have q1 : IntKind.i64.wrap ((j : Int) + 1) = ((j + 1 : Nat) : Int) := by rw [IntWalk.i64_in _ (by omega)]; omega
      have Hlt := hide hlt
      have HC := hide (entryForm_any wo ⟨acc, item, co, pr2, A2, n2, c2, ws⟩ HE.out.1 HE.out.2.1 HE.out.2.2)
      have Hel2 := hide (ER.len HE.out.2.1 HE.out.2.2)
      obtain ⟨rs', g, hLr⟩ := HL.out
      have HLr := hide hLr
      have hB := hLr.ow
      obtain ⟨N, hN⟩ : ∃ N, (ER.form ⟨acc, item, co, pr2, A2, n2, c2, ws⟩).length = N := ⟨_, rfl⟩
      have hN1 : N ≤ 1000 := by rw [← hN]; exact Hel2.out.1
      rw [hN] at HC
      clear hc he hjl hlt hj HE hfo hLr HL hN
      go_wp2_with fail
      refine HC.out.mono ?_
      rintro e w2 ⟨X, cx2, gx, rfl, hX, hgx, hf2⟩
      have hB2 := hB.fr hf2 (fun _ _ => id)
      clear d0 d1 d2 d3 d4 cx hB
      go_wp2_with (first | (at_builtin; refine wpList_append_ow _ rfl _ _ 82 rfl 22 bi (.slice none 0 0) 1 24 Try.underlying82 bj bj0 bj1 bj2 rfl (by decide) _ _ _ _ _ rfl (hB2.fr ((Fr.refl (fun _ => False) _).alloc _) (fun _ _ => id)) _ _ _ [.slice X N cx2] rfl (Sl.one _ _ _) (by intro u hu; simp at hu; subst hu; rfl) (by unfold maxLen; omega) (by omega) ?_) | go_in)
      intro B3 cb3 w4 g3 hB3 hf4 hg3
      have hf34 : Fr (fun x => some x = g) w2 w4 := ((Fr.refl _ _).alloc _).comp hf4 (fun _ _ e => e)
      have HL3 : Hid (LL w11 w4 ((es.map ER.form).take (j + 1)) B3 (j + 1) cb3) := by
        rw [hdrop.out]
        exact HLr.out.app hf2 hX hgx hB3 hf34 (hg3.imp id fun ⟨b, e, h⟩ => ⟨b, e, by first | omega | (simp at h; omega)⟩)
      clear hB3 hf4 hg3 hf34 hX hB2 hgx hf2 HLr HC
      go_wp2_with fail
      have := Hlt.out
      exact ⟨⟨j + 1, B3, cb3, by omega, by first | rfl | go_num, rfl, HL3⟩, by simp [intOf]; try omega⟩
    · obtain rfl : j = n := by omega
      have HL2 : Hid (LL w11 wo (es.map ER.form) B j cb) := by
        have := HL.out
        rwa [List.take_of_length_le (by rw [List.length_map, ← (Hlen.out : j = es.length)]; exact Nat.le_refl _)] at this
      clear hlt hj HL
      have h11 := HO.out.quiet HL2.out.frame
      have d2 := rlist_any wo (es.map ER.form) B j cb _ (by have := Hn.out; omega) (Nat.le_refl _) (fun x hx => by have := Hfl.out.2 x hx; omega) (by have := Hfl.out.1; omega) HL2.out.lat
      go_wp2_with fail
      clear cx
      refine d2.mono ?_
      rintro e wl ⟨X, cx, gx, rfl, hO, hg, hf⟩
      clear d2
      have d3 := with_any w1 wo wl _ A10 n10 c10 h11 hf 21 X _ cx (listAll (es.map ER.form)) hO.sl (fun b o e hm => by subst e; exact hg b hO.blk) (by simp)
      clear hO hg hf h11
      go_wp2_with fail
      refine d3.mono ?_
      rintro e wm ⟨Am, nm, cm, rfl, hm⟩
      clear d3
      have cz := rput_fl (CR.fl ⟨(num : Int), (kind : Int), (by_ : Int), (dl : Int), (to_ : Int), (want : Int), pr, rs, st, (of_ : Int), A, j, c, es⟩) hm Has.out (by have := Hel.out.1; unfold CR.form at this; exact Nat.le_trans this (by omega)) (fun f hf => Nat.le_trans (Hel.out.2 f hf) (by omega)) (by simp [ER.fl, CR.fl, RR.fl])
      have Hk := hide hm
      clear hm
      go_wp2_with fail
      refine cz.mono ?_
      rintro e wz ⟨X, nx, cx, gx, rfl, hX, hg, hfz⟩
      have HX := hide hX
      have Hg : Hid (∀ b, gx = some b → w.heap.size ≤ b) := fun b e => by
        have h1 := hg b e
        have h2 := Hk.out.frame.size
        have h3 := HF0.out.size
        omega
      have HFz := hide ((HF0.out.trans Hk.out.frame).trans hfz)
      clear cz hX hg hfz Hk
      go_wp2_with fail
      go_ret
      have hl : nx = (CR.form ⟨(num : Int), (kind : Int), (by_ : Int), (dl : Int), (to_ : Int), (want : Int), pr, rs, st, (of_ : Int), A, j, c, es⟩).length := HX.out.len
      subst hl
      exact ⟨X, cx, gx, rfl, HX.out, Hg.out, HFz.out⟩
end Go.Proofs.Ytlcjhbemgagchaa
end

section
/-
  proto: Encode of the reference. (printed by pr_renc.py)
-/
namespace Go.Proofs.Ytlcjhbemgagchaa
open Go.RowKit
set_option linter.unusedVariables false
set_option linter.unusedSimpArgs false
set_option maxHeartbeats 4000000 in
set_option maxRecDepth 8000 in
theorem rEncode_of (w : World) (r : KC) (h : r.at_ w) (hwf : r.wf) (hcmd : ∀ w1, Fr (fun _ => False) w w1 → Calls Try.prog 74 #[.agg #[.int .i64 r.id, .int .i64 r.kind, .string (strOf r.name), .int .i64 r.to_, .int .u64 (r.co : Int), .int .i64 r.item, .int .i64 r.num, .int .i64 r.of_, .int .i64 r.e.acc, .int .i64 r.e.item, .int .u64 (r.e.co : Int), .int .u64 (r.e.pr : Int), .slice r.e.A r.e.n r.e.c, .int .i64 r.k.num, .int .i64 r.k.kind, .int .i64 r.k.by_, .int .i64 r.k.dl, .int .i64 r.k.to_, .int .i64 r.k.want, .int .u64 (r.k.pr : Int), .int .u64 (r.k.rs : Int), .int .u64 (r.k.st : Int), .int .i64 r.k.of_, .slice r.k.A r.k.n r.k.c]] w1 fun e w' => e = .returned (.bool r.ok) ∧ Fr (fun _ => False) w1 w') :
    Calls Try.prog 42 #[.agg #[.int .i64 r.id, .int .i64 r.kind, .string (strOf r.name), .int .i64 r.to_, .int .u64 (r.co : Int), .int .i64 r.item, .int .i64 r.num, .int .i64 r.of_, .int .i64 r.e.acc, .int .i64 r.e.item, .int .u64 (r.e.co : Int), .int .u64 (r.e.pr : Int), .slice r.e.A r.e.n r.e.c, .int .i64 r.k.num, .int .i64 r.k.kind, .int .i64 r.k.by_, .int .i64 r.k.dl, .int .i64 r.k.to_, .int .i64 r.k.want, .int .u64 (r.k.pr : Int), .int .u64 (r.k.rs : Int), .int .u64 (r.k.st : Int), .int .i64 r.k.of_, .slice r.k.A r.k.n r.k.c]] w (PutPost (if r.ok then r.form else []) (if r.ok then 0 else 270) w) := by
  have HAt := hide h
  have HC := hide hcmd
  clear hcmd
  cases hok : r.ok with
  | false =>
    rw [if_neg (by simp), if_neg (by simp)]
    simp only [hok] at HC
    clear h hwf HAt hok
    obtain ⟨rid, kind, name, to_, co, item, num, of_, e, k⟩ := r
    simp only at HC ⊢
    obtain ⟨str, hstr⟩ : ∃ str, strOf name = str := ⟨_, rfl⟩
    rw [hstr] at HC ⊢
    clear hstr
    have hB2 := Bl.new w 31 #[.int .i64 rid, .int .i64 kind, .string str, .int .i64 to_, .int .u64 (co : Int), .int .i64 item, .int .i64 num, .int .i64 of_, .int .i64 e.acc, .int .i64 e.item, .int .u64 (e.co : Int), .int .u64 (e.pr : Int), .slice e.A e.n e.c, .int .i64 k.num, .int .i64 k.kind, .int .i64 k.by_, .int .i64 k.dl, .int .i64 k.to_, .int .i64 k.want, .int .u64 (k.pr : Int), .int .u64 (k.rs : Int), .int .u64 (k.st : Int), .int .i64 k.of_, .slice k.A k.n k.c]
    unfold Bl at hB2
    go_enter Try.func42, Try.ntmps42
    go_wp2_with (refine wpList_load_at rfl 31 _ rfl w.heap.size 0 rfl 31 _ #[.int .i64 rid, .int .i64 kind, .string str, .int .i64 to_, .int .u64 (co : Int), .int .i64 item, .int .i64 num, .int .i64 of_, .int .i64 e.acc, .int .i64 e.item, .int .u64 (e.co : Int), .int .u64 (e.pr : Int), .slice e.A e.n e.c, .int .i64 k.num, .int .i64 k.kind, .int .i64 k.by_, .int .i64 k.dl, .int .i64 k.to_, .int .i64 k.want, .int .u64 (k.pr : Int), .int .u64 (k.rs : Int), .int .u64 (k.st : Int), .int .i64 k.of_, .slice k.A k.n k.c] (0, 0) _ hB2 Try.underlying31 rfl (by kernel_rfl) rfl ?_)
    clear hB2
    refine (HC.out _ (by (repeat (first | with_reducible exact Fr.refl _ _ | with_reducible assumption | with_reducible refine Fr.drew ?_ | with_reducible refine Fr.drewN ?_ _ | with_reducible refine Fr.alloc ?_ _ | with_reducible refine Fr.setIn ?_ (by first | exact Or.inl rfl | exact Or.inr (by simp; done) | exact Or.inr (by simp; omega) | exact Or.inr (by omega)) _)))).mono ?_
    rintro x w1 ⟨rfl, hf1⟩
    have HF : Hid (Fr (fun _ => False) w w1) := Fr.trans (by (repeat (first | with_reducible exact Fr.refl _ _ | with_reducible assumption | with_reducible refine Fr.drew ?_ | with_reducible refine Fr.drewN ?_ _ | with_reducible refine Fr.alloc ?_ _ | with_reducible refine Fr.setIn ?_ (by first | exact Or.inl rfl | exact Or.inr (by simp; done) | exact Or.inr (by simp; omega) | exact Or.inr (by omega)) _))) hf1
    clear hf1
    go_wp2_with fail
    go_ret2
    exact ⟨none, 0, 0, none, rfl, Ow.nil_ _ _ _, (fun b h => by cases h), HF.out⟩
  | true =>
  rw [if_pos rfl, if_pos rfl]
  simp only [hok] at HC
  have Hrl := hide (KC.len hok hwf)
  have Has := hide (KC.asc r)
  obtain ⟨a1, a2, a3, a4, a5, -, a7, -, -, -⟩ := KC.fine_split (KC.ok_fine hok)
  have c1 := okL_mem a4 (n := r.to_) (by simp)
  have c2 := okL_mem a4 (n := r.item) (by simp)
  have c3 := okL_mem a4 (n := r.num) (by simp)
  have c4 := okL_mem a4 (n := r.of_) (by simp)
  have Htx : Hid (r.name.length ≤ 128 ∧ ∀ x ∈ r.name, x < 256) := ⟨a3, hwf.name⟩
  have Hck : Hid (r.k.ok = true ∧ r.k.wf) := ⟨a7, hwf.k⟩
  have Hce : Hid (r.e.ok = true ∧ r.e.wf) := ⟨a5, hwf.e⟩
  have U1 := hide hwf.co
  clear h hok a3 a4 a5 a7 hwf
  obtain ⟨rid, kind, name, to_, co, item, num, of_, e, k⟩ := r
  simp only at HAt HC Hrl Has Htx Hck Hce a1 a2 c1 c2 c3 c4 U1 ⊢
  obtain ⟨rid, rfl⟩ : ∃ t : Nat, rid = (t : Int) := ⟨rid.toNat, by omega⟩
  have q_rid : IntKind.u64.wrap (rid : Int) = (rid : Int) := IntWalk.u64_in _ (by omega)
  obtain ⟨kind, rfl⟩ : ∃ t : Nat, kind = (t : Int) := ⟨kind.toNat, by omega⟩
  have q_kind : IntKind.u64.wrap (kind : Int) = (kind : Int) := IntWalk.u64_in _ (by omega)
  obtain ⟨to_, rfl⟩ : ∃ t : Nat, to_ = (t : Int) := ⟨to_.toNat, by omega⟩
  have q_to_ : IntKind.u64.wrap (to_ : Int) = (to_ : Int) := IntWalk.u64_in _ (by omega)
  obtain ⟨item, rfl⟩ : ∃ t : Nat, item = (t : Int) := ⟨item.toNat, by omega⟩
  have q_item : IntKind.u64.wrap (item : Int) = (item : Int) := IntWalk.u64_in _ (by omega)
  obtain ⟨num, rfl⟩ : ∃ t : Nat, num = (t : Int) := ⟨num.toNat, by omega⟩
  have q_num : IntKind.u64.wrap (num : Int) = (num : Int) := IntWalk.u64_in _ (by omega)
  obtain ⟨of_, rfl⟩ : ∃ t : Nat, of_ = (t : Int) := ⟨of_.toNat, by omega⟩
  have q_of_ : IntKind.u64.wrap (of_ : Int) = (of_ : Int) := IntWalk.u64_in _ (by omega)
  have V : Hid (rid < U64 ∧ kind < U64 ∧ to_ < U64 ∧ item < U64 ∧ num < U64 ∧ of_ < U64) := ⟨by unfold U64; omega, by unfold U64; omega, by unfold U64; omega, by unfold U64; omega, by unfold U64; omega, by unfold U64; omega⟩
  obtain ⟨str, hstr⟩ : ∃ str, strOf name = str := ⟨_, rfl⟩
  rw [hstr] at HC ⊢
  have Hstr := hide hstr
  have HK : Hid (∀ w1, Fr (fun _ => False) w w1 → Calls Try.prog 78 #[.agg #[.int .i64 k.num, .int .i64 k.kind, .int .i64 k.by_, .int .i64 k.dl, .int .i64 k.to_, .int .i64 k.want, .int .u64 (k.pr : Int), .int .u64 (k.rs : Int), .int .u64 (k.st : Int), .int .i64 k.of_, .slice k.A k.n k.c]] w1 (BP k.form.length k.form w1)) := fun w1 hf => contractForm_any w1 k (HAt.out.k.quiet hf) Hck.out.1 Hck.out.2
  have HE : Hid (∀ w1, Fr (fun _ => False) w w1 → Calls Try.prog 77 #[.agg #[.int .i64 e.acc, .int .i64 e.item, .int .u64 (e.co : Int), .int .u64 (e.pr : Int), .slice e.A e.n e.c]] w1 (BP e.form.length e.form w1)) := fun w1 hf => entryForm_any w1 e (HAt.out.e.quiet hf) Hce.out.1 Hce.out.2
  clear a1 a2 c1 c2 c3 c4 hstr
  have hB := Bl.new w 31 #[.int .i64 (rid : Int), .int .i64 (kind : Int), .string str, .int .i64 (to_ : Int), .int .u64 (co : Int), .int .i64 (item : Int), .int .i64 (num : Int), .int .i64 (of_ : Int), .int .i64 e.acc, .int .i64 e.item, .int .u64 (e.co : Int), .int .u64 (e.pr : Int), .slice e.A e.n e.c, .int .i64 k.num, .int .i64 k.kind, .int .i64 k.by_, .int .i64 k.dl, .int .i64 k.to_, .int .i64 k.want, .int .u64 (k.pr : Int), .int .u64 (k.rs : Int), .int .u64 (k.st : Int), .int .i64 k.of_, .slice k.A k.n k.c]
  have HBa := hide hB
  have hB2 := hB
  unfold Bl at hB2
  clear hB
  go_enter Try.func42, Try.ntmps42
  go_wp2_with (refine wpList_load_at rfl 31 _ rfl w.heap.size 0 rfl 31 _ #[.int .i64 (rid : Int), .int .i64 (kind : Int), .string str, .int .i64 (to_ : Int), .int .u64 (co : Int), .int .i64 (item : Int), .int .i64 (num : Int), .int .i64 (of_ : Int), .int .i64 e.acc, .int .i64 e.item, .int .u64 (e.co : Int), .int .u64 (e.pr : Int), .slice e.A e.n e.c, .int .i64 k.num, .int .i64 k.kind, .int .i64 k.by_, .int .i64 k.dl, .int .i64 k.to_, .int .i64 k.want, .int .u64 (k.pr : Int), .int .u64 (k.rs : Int), .int .u64 (k.st : Int), .int .i64 k.of_, .slice k.A k.n k.c] (0, 0) _ hB2 Try.underlying31 rfl (by kernel_rfl) rfl ?_)
  clear hB2
  refine (HC.out _ (by (repeat (first | with_reducible exact Fr.refl _ _ | with_reducible assumption | with_reducible refine Fr.drew ?_ | with_reducible refine Fr.drewN ?_ _ | with_reducible refine Fr.alloc ?_ _ | with_reducible refine Fr.setIn ?_ (by first | exact Or.inl rfl | exact Or.inr (by simp; done) | exact Or.inr (by simp; omega) | exact Or.inr (by omega)) _)))).mono ?_
  rintro x w1 ⟨rfl, hf1⟩
  have HB0 := hide (HBa.out.fr hf1 (fun x => x))
  have HF0 : Hid (Fr (fun _ => False) w w1) := Fr.trans (by (repeat (first | with_reducible exact Fr.refl _ _ | with_reducible assumption | with_reducible refine Fr.drew ?_ | with_reducible refine Fr.drewN ?_ _ | with_reducible refine Fr.alloc ?_ _ | with_reducible refine Fr.setIn ?_ (by first | exact Or.inl rfl | exact Or.inr (by simp; done) | exact Or.inr (by simp; omega) | exact Or.inr (by omega)) _))) hf1
  have h0 : FL w1 w1 [] none 0 0 := FL.begin _ _ (Fr.refl _ _)
  have b0 := HB0.out.cell' (i := 0) rfl
  clear hf1 HBa HC
  go_wp2_with fail
  clear b0
  have d0 := num27_any w1 _ _ none 0 0 h0 1 rid V.out.1 (by simp)
  refine d0.mono ?_
  rintro x w2 ⟨A1, n1, c1, rfl, h1⟩
  clear d0 h0
  have b1 := (HB0.out.fr h1.frame (fun x => x)).cell' (i := 1) rfl
  go_wp2_with fail
  have d1 := num27_any w1 _ _ A1 n1 c1 h1 2 kind V.out.2.1 (by simp)
  refine d1.mono ?_
  rintro x w3 ⟨A2, n2, c2, rfl, h2⟩
  clear d1 h1 b1
  have b2 := (HB0.out.fr h2.frame (fun x => x)).cell' (i := 2) rfl
  obtain ⟨cv, wl, hcv, hSv, hfv⟩ := conv_sb w3 name Htx.out.2
  rw [Hstr.out] at hcv
  have d2 := with_any w1 w3 wl _ A2 n2 c2 h2 hfv 3 (some ⟨w3.heap.size, 0, none⟩) name.length cv name hSv (fun b o e hm => by cases e; exact Nat.le_refl _) (by simp)
  go_wp2_with fail
  refine d2.mono ?_
  rintro x w4 ⟨A3, n3, c3, rfl, h3⟩
  clear d2 h2 b2 hcv hSv hfv
  have b3 := (HB0.out.fr h3.frame (fun x => x)).cell' (i := 3) rfl
  go_wp2_with fail
  have d3 := num27_any w1 _ _ A3 n3 c3 h3 4 to_ V.out.2.2.1 (by simp)
  refine d3.mono ?_
  rintro x w5 ⟨A4, n4, c4, rfl, h4⟩
  clear d3 h3 b3
  have b4 := (HB0.out.fr h4.frame (fun x => x)).cell' (i := 4) rfl
  go_wp2_with fail
  have d4 := num27_any w1 _ _ A4 n4 c4 h4 5 co U1.out (by simp)
  refine d4.mono ?_
  rintro x w6 ⟨A5, n5, c5, rfl, h5⟩
  clear d4 h4 b4
  have b5 := (HB0.out.fr h5.frame (fun x => x)).cell' (i := 5) rfl
  go_wp2_with fail
  have d5 := num27_any w1 _ _ A5 n5 c5 h5 6 item V.out.2.2.2.1 (by simp)
  refine d5.mono ?_
  rintro x w7 ⟨A6, n6, c6, rfl, h6⟩
  clear d5 h5 b5
  have b6 := (HB0.out.fr h6.frame (fun x => x)).cell' (i := 6) rfl
  go_wp2_with fail
  have d6 := num27_any w1 _ _ A6 n6 c6 h6 7 num V.out.2.2.2.2.1 (by simp)
  refine d6.mono ?_
  rintro x w8 ⟨A7, n7, c7, rfl, h7⟩
  clear d6 h6 b6
  have b7 := (HB0.out.fr h7.frame (fun x => x)).cell' (i := 7) rfl
  go_wp2_with fail
  have d7 := num27_any w1 _ _ A7 n7 c7 h7 8 of_ V.out.2.2.2.2.2 (by simp)
  refine d7.mono ?_
  rintro x w9 ⟨A8, n8, c8, rfl, h8⟩
  clear d7 h7 b7
  have e8 := (HB0.out.fr h8.frame (fun x => x)).cell' (i := 8) rfl
  have e9 := (HB0.out.fr h8.frame (fun x => x)).cell' (i := 9) rfl
  have e10 := (HB0.out.fr h8.frame (fun x => x)).cell' (i := 10) rfl
  have e11 := (HB0.out.fr h8.frame (fun x => x)).cell' (i := 11) rfl
  have e12 := (HB0.out.fr h8.frame (fun x => x)).cell' (i := 12) rfl
  go_wp2_with fail
  refine (HE.out _ (HF0.out.trans h8.frame)).mono ?_
  rintro x wl8 ⟨X, cx, gx, rfl, hO, hg, hf⟩
  clear e8 e9 e10 e11 e12
  have d8 := with_any w1 w9 wl8 _ A8 n8 c8 h8 hf 9 X _ cx e.form hO.sl (fun b o e hm => by subst e; exact hg b hO.blk) (by simp)
  clear hO hg hf h8
  go_wp2_with fail
  refine d8.mono ?_
  rintro x w10 ⟨A9, n9, c9, rfl, h9⟩
  clear d8
  have e13 := (HB0.out.fr h9.frame (fun x => x)).cell' (i := 13) rfl
  have e14 := (HB0.out.fr h9.frame (fun x => x)).cell' (i := 14) rfl
  have e15 := (HB0.out.fr h9.frame (fun x => x)).cell' (i := 15) rfl
  have e16 := (HB0.out.fr h9.frame (fun x => x)).cell' (i := 16) rfl
  have e17 := (HB0.out.fr h9.frame (fun x => x)).cell' (i := 17) rfl
  have e18 := (HB0.out.fr h9.frame (fun x => x)).cell' (i := 18) rfl
  have e19 := (HB0.out.fr h9.frame (fun x => x)).cell' (i := 19) rfl
  have e20 := (HB0.out.fr h9.frame (fun x => x)).cell' (i := 20) rfl
  have e21 := (HB0.out.fr h9.frame (fun x => x)).cell' (i := 21) rfl
  have e22 := (HB0.out.fr h9.frame (fun x => x)).cell' (i := 22) rfl
  have e23 := (HB0.out.fr h9.frame (fun x => x)).cell' (i := 23) rfl
  go_wp2_with fail
  refine (HK.out _ (HF0.out.trans h9.frame)).mono ?_
  rintro x wl9 ⟨X, cx, gx, rfl, hO, hg, hf⟩
  clear e13 e14 e15 e16 e17 e18 e19 e20 e21 e22 e23
  have d9 := with_any w1 w10 wl9 _ A9 n9 c9 h9 hf 12 X _ cx k.form hO.sl (fun b o e hm => by subst e; exact hg b hO.blk) (by simp)
  clear hO hg hf h9
  go_wp2_with fail
  refine d9.mono ?_
  rintro x w11 ⟨A10, n10, c10, rfl, h10⟩
  clear d9
  have cz := rput_fl (KC.fl ⟨(rid : Int), (kind : Int), name, (to_ : Int), co, (item : Int), (num : Int), (of_ : Int), e, k⟩) h10 Has.out (by have := Hrl.out.1; unfold KC.form at this; exact Nat.le_trans this (by omega)) (fun f hf => Nat.le_trans (Hrl.out.2 f hf) (by omega)) (by simp [KC.fl])
  have Hk := hide h10
  clear h10
  go_wp2_with fail
  refine cz.mono ?_
  rintro x wz ⟨X, nx, cx, gx, rfl, hX, hg, hfz⟩
  have HX := hide hX
  have Hg : Hid (∀ b, gx = some b → w.heap.size ≤ b) := fun b e => by
    have h1 := hg b e
    have h2 := Hk.out.frame.size
    have h3 := HF0.out.size
    omega
  have HFz := hide ((HF0.out.trans Hk.out.frame).trans hfz)
  clear cz hX hg hfz Hk
  go_wp2_with fail
  go_ret2
  exact ⟨X, nx, cx, gx, rfl, HX.out, Hg.out, HFz.out⟩
end Go.Proofs.Ytlcjhbemgagchaa
end
