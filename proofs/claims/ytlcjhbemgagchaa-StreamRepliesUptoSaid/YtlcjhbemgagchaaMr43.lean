/-
  Texts merged into one, to keep the claim small: PrB.
-/
import Derived.Test.YtlcjhbemgagchaaMr40
/-
  proto's reference: EncodeReply. (printed by pr_ref2.py)
-/
namespace Go.Proofs.Ytlcjhbemgagchaa
open Go.RowKit
set_option linter.unusedVariables false
set_option linter.unusedSimpArgs false
set_option maxHeartbeats 8000000 in
set_option maxRecDepth 8000 in
theorem rEncodeReply_any (w : World) (r : RR) (h : r.at_ w) (hwf : r.wf) :
    Calls Try.prog 44 #[.agg #[.int .i64 r.id, .int .i64 r.err, .int .i64 r.num, .int .u64 (r.co : Int), .slice r.A r.n r.c, .string (strOf r.txt), .int .u32 (r.bits : Int), .int .i64 r.k.num, .int .i64 r.k.kind, .int .i64 r.k.by_, .int .i64 r.k.dl, .int .i64 r.k.to_, .int .i64 r.k.want, .int .u64 (r.k.pr : Int), .int .u64 (r.k.rs : Int), .int .u64 (r.k.st : Int), .int .i64 r.k.of_, .slice r.k.A r.k.n r.k.c]] w (PutPost (if r.ok then r.form else []) (if r.ok then 0 else 270) w) := by
  have HAt := hide h
  have Hlen : Hid (r.n = r.items.length) := h.sl.ilen
  have HC := hide (fun w1 (hf : Fr (fun _ => False) w w1) => MayReply_any w1 r (h.quiet hf))
  cases hok : r.ok with
  | false =>
    rw [if_neg (by simp), if_neg (by simp)]
    simp only [hok] at HC
    clear h hwf HAt Hlen hok
    obtain ⟨id, err, num, co, A, n, c, items, txt, bits, k⟩ := r
    simp only at HC ⊢
    obtain ⟨str, hstr⟩ : ∃ str, strOf txt = str := ⟨_, rfl⟩
    rw [hstr] at HC ⊢
    clear hstr
    have hB := Bl.new w 35 #[.int .i64 id, .int .i64 err, .int .i64 num, .int .u64 (co : Int), .slice A n c, .string str, .int .u32 (bits : Int), .int .i64 k.num, .int .i64 k.kind, .int .i64 k.by_, .int .i64 k.dl, .int .i64 k.to_, .int .i64 k.want, .int .u64 (k.pr : Int), .int .u64 (k.rs : Int), .int .u64 (k.st : Int), .int .i64 k.of_, .slice k.A k.n k.c]
    have hB2 := hB
    unfold Bl at hB2
    clear hB
    go_enter Try.func44, Try.ntmps44
    go_wp2_with (refine wpList_load_row rfl 35 _ rfl w.heap.size rfl 35 _ (0, 0) _ hB2 Try.underlying35 rfl (by kernel_rfl) ?_)
    clear hB2
    refine (HC.out _ (by (repeat (first | with_reducible exact Fr.refl _ _ | with_reducible assumption | with_reducible refine Fr.drew ?_ | with_reducible refine Fr.drewN ?_ _ | with_reducible refine Fr.alloc ?_ _ | with_reducible refine Fr.setIn ?_ (by first | exact Or.inl rfl | exact Or.inr (by simp; done) | exact Or.inr (by simp; omega) | exact Or.inr (by omega)) _)))).mono ?_
    rintro e w1 ⟨rfl, hf1⟩
    have HF : Hid (Fr (fun _ => False) w w1) := Fr.trans (by (repeat (first | with_reducible exact Fr.refl _ _ | with_reducible assumption | with_reducible refine Fr.drew ?_ | with_reducible refine Fr.drewN ?_ _ | with_reducible refine Fr.alloc ?_ _ | with_reducible refine Fr.setIn ?_ (by first | exact Or.inl rfl | exact Or.inr (by simp; done) | exact Or.inr (by simp; omega) | exact Or.inr (by omega)) _))) hf1
    clear hf1
    go_wp2_with fail
    go_ret2
    exact ⟨none, 0, 0, none, rfl, Ow.nil_ _ _ _, (fun b h => by cases h), HF.out⟩
  | true =>
  rw [if_pos rfl, if_pos rfl]
  simp only [hok] at HC
  have Hel := hide (RR.len hok hwf)
  have Has := hide (RR.asc r)
  obtain ⟨a1, a2, a3, a4, a5, a6, a7⟩ := RR.ok_split hok
  have a4' := okL_mem a4 (n := r.num) (by simp)
  have Htx : Hid (r.txt.length ≤ 128 ∧ ∀ x ∈ r.txt, x < 256) := ⟨a3, hwf.txt⟩
  have Hck : Hid (r.k.ok = true ∧ r.k.wf) := ⟨a7, hwf.k⟩
  have Hit : Hid (okL r.items = true) := a6
  have hn5 : r.n ≤ 512 := by rw [Hlen.out]; exact a5
  obtain ⟨u1, u2, u3, u4⟩ := hwf
  have U1 := hide u1
  clear h hok a3 a4 a5 a6 a7 u1 u3 u4
  obtain ⟨id, err, num, co, A, n, c, items, txt, bits, k⟩ := r
  simp only at HAt Hlen HC Hel Has Htx Hck Hit a1 a2 a4' hn5 u2 U1 ⊢
  obtain ⟨id, rfl⟩ : ∃ t : Nat, id = (t : Int) := ⟨id.toNat, by omega⟩
  obtain ⟨err, rfl⟩ : ∃ t : Nat, err = (t : Int) := ⟨err.toNat, by omega⟩
  obtain ⟨num, rfl⟩ : ∃ t : Nat, num = (t : Int) := ⟨num.toNat, by omega⟩
  have q1 : IntKind.u64.wrap (id : Int) = (id : Int) := IntWalk.u64_in _ (by omega)
  have q2 : IntKind.u64.wrap (err : Int) = (err : Int) := IntWalk.u64_in _ (by omega)
  have q3 : IntKind.u64.wrap (num : Int) = (num : Int) := IntWalk.u64_in _ (by omega)
  have q4 : IntKind.u64.wrap (bits : Int) = (bits : Int) := IntWalk.u64_in _ (by omega)
  have V : Hid (id < U64 ∧ err < U64 ∧ num < U64 ∧ bits < U64) := ⟨by unfold U64; omega, by unfold U64; omega, by unfold U64; omega, by unfold U64; omega⟩
  obtain ⟨str, hstr⟩ : ∃ str, strOf txt = str := ⟨_, rfl⟩
  rw [hstr] at HC ⊢
  have Hstr := hide hstr
  have HK : Hid (∀ w1, Fr (fun _ => False) w w1 → Calls Try.prog 78 #[.agg #[.int .i64 k.num, .int .i64 k.kind, .int .i64 k.by_, .int .i64 k.dl, .int .i64 k.to_, .int .i64 k.want, .int .u64 (k.pr : Int), .int .u64 (k.rs : Int), .int .u64 (k.st : Int), .int .i64 k.of_, .slice k.A k.n k.c]] w1 (BP k.form.length k.form w1)) := fun w1 hf => contractForm_any w1 k (HAt.out.k.quiet hf) Hck.out.1 Hck.out.2
  clear a1 a2 a4' u2 hstr
  have hB := Bl.new w 35 #[.int .i64 (id : Int), .int .i64 (err : Int), .int .i64 (num : Int), .int .u64 (co : Int), .slice A n c, .string str, .int .u32 (bits : Int), .int .i64 k.num, .int .i64 k.kind, .int .i64 k.by_, .int .i64 k.dl, .int .i64 k.to_, .int .i64 k.want, .int .u64 (k.pr : Int), .int .u64 (k.rs : Int), .int .u64 (k.st : Int), .int .i64 k.of_, .slice k.A k.n k.c]
  have HBa := hide hB
  have hB2 := hB
  unfold Bl at hB2
  clear hB
  go_enter Try.func44, Try.ntmps44
  go_wp2_with (refine wpList_load_row rfl 35 _ rfl w.heap.size rfl 35 _ (0, 0) _ hB2 Try.underlying35 rfl (by kernel_rfl) ?_)
  clear hB2
  refine (HC.out _ (by (repeat (first | with_reducible exact Fr.refl _ _ | with_reducible assumption | with_reducible refine Fr.drew ?_ | with_reducible refine Fr.drewN ?_ _ | with_reducible refine Fr.alloc ?_ _ | with_reducible refine Fr.setIn ?_ (by first | exact Or.inl rfl | exact Or.inr (by simp; done) | exact Or.inr (by simp; omega) | exact Or.inr (by omega)) _)))).mono ?_
  rintro e w1 ⟨rfl, hf1⟩
  have HB0 := hide (HBa.out.fr hf1 (fun x => x))
  have HF0 : Hid (Fr (fun _ => False) w w1) := Fr.trans (by (repeat (first | with_reducible exact Fr.refl _ _ | with_reducible assumption | with_reducible refine Fr.drew ?_ | with_reducible refine Fr.drewN ?_ _ | with_reducible refine Fr.alloc ?_ _ | with_reducible refine Fr.setIn ?_ (by first | exact Or.inl rfl | exact Or.inr (by simp; done) | exact Or.inr (by simp; omega) | exact Or.inr (by omega)) _))) hf1
  have h0 : FL w1 w1 [] none 0 0 := FL.begin _ _ (Fr.refl _ _)
  have b0 := HB0.out.cell' (i := 0) rfl
  clear hf1 HBa HC
  go_wp2_with fail
  clear b0
  have d0 := num27_any w1 _ _ none 0 0 h0 1 id V.out.1 (by simp)
  refine d0.mono ?_
  rintro e w2 ⟨A1, n1, c1, rfl, h1⟩
  clear d0 h0
  have b1 := (HB0.out.fr h1.frame (fun x => x)).cell' (i := 5) rfl
  obtain ⟨cv, wl, hcv, hSv, hfv⟩ := conv_sb w2 txt Htx.out.2
  rw [Hstr.out] at hcv
  have d1 := with_any w1 w2 wl _ A1 n1 c1 h1 hfv 3 (some ⟨w2.heap.size, 0, none⟩) txt.length cv txt hSv (fun b o e hm => by cases e; exact Nat.le_refl _) (by simp)
  go_wp2_with fail
  refine d1.mono ?_
  rintro e w3 ⟨A2, n2, c2, rfl, h2⟩
  clear d1 h1 b1 hcv hSv hfv
  have b2 := (HB0.out.fr h2.frame (fun x => x)).cell' (i := 3) rfl
  go_wp2_with fail
  have d2 := num27_any w1 _ _ A2 n2 c2 h2 5 co U1.out (by simp)
  refine d2.mono ?_
  rintro e w4 ⟨A3, n3, c3, rfl, h3⟩
  clear d2 h2 b2
  have b3 := (HB0.out.fr h3.frame (fun x => x)).cell' (i := 2) rfl
  go_wp2_with fail
  have d3 := num27_any w1 _ _ A3 n3 c3 h3 7 num V.out.2.2.1 (by simp)
  refine d3.mono ?_
  rintro e w5 ⟨A4, n4, c4, rfl, h4⟩
  clear d3 h3 b3
  have e7 := (HB0.out.fr h4.frame (fun x => x)).cell' (i := 7) rfl
  have e8 := (HB0.out.fr h4.frame (fun x => x)).cell' (i := 8) rfl
  have e9 := (HB0.out.fr h4.frame (fun x => x)).cell' (i := 9) rfl
  have e10 := (HB0.out.fr h4.frame (fun x => x)).cell' (i := 10) rfl
  have e11 := (HB0.out.fr h4.frame (fun x => x)).cell' (i := 11) rfl
  have e12 := (HB0.out.fr h4.frame (fun x => x)).cell' (i := 12) rfl
  have e13 := (HB0.out.fr h4.frame (fun x => x)).cell' (i := 13) rfl
  have e14 := (HB0.out.fr h4.frame (fun x => x)).cell' (i := 14) rfl
  have e15 := (HB0.out.fr h4.frame (fun x => x)).cell' (i := 15) rfl
  have e16 := (HB0.out.fr h4.frame (fun x => x)).cell' (i := 16) rfl
  have e17 := (HB0.out.fr h4.frame (fun x => x)).cell' (i := 17) rfl
  go_wp2_with fail
  refine (HK.out _ (HF0.out.trans h4.frame)).mono ?_
  rintro e wl ⟨X, cx, gx, rfl, hO, hg, hf⟩
  clear e7 e8 e9 e10 e11 e12 e13 e14 e15 e16 e17
  have d4 := with_any w1 w5 wl _ A4 n4 c4 h4 hf 12 X _ cx k.form hO.sl (fun b o e hm => by subst e; exact hg b hO.blk) (by simp)
  clear hO hg hf h4
  go_wp2_with fail
  refine d4.mono ?_
  rintro e w6 ⟨A5, n5, c5, rfl, h5⟩
  clear d4
  have b5 := (HB0.out.fr h5.frame (fun x => x)).cell' (i := 1) rfl
  go_wp2_with fail
  have d5 := num27_any w1 _ _ A5 n5 c5 h5 17 err V.out.2.1 (by simp)
  refine d5.mono ?_
  rintro e w7 ⟨A6, n6, c6, rfl, h6⟩
  clear d5 h5 b5
  have b6 := (HB0.out.fr h6.frame (fun x => x)).cell' (i := 4) rfl
  go_wp2_with fail
  refine (rshorts_any _ items A n c (by omega) Hit.out (HAt.out.sl.quiet (HF0.out.trans h6.frame))).mono ?_
  rintro e wl ⟨X, cx, gx, rfl, hO, hg, hf⟩
  clear b6
  have d6 := with_any w1 w7 wl _ A6 n6 c6 h6 hf 18 X _ cx (listAll (shs items)) hO.sl (fun b o e hm => by subst e; exact hg b hO.blk) (by simp)
  clear hO hg hf h6
  go_wp2_with fail
  refine d6.mono ?_
  rintro e w8 ⟨A7, n7, c7, rfl, h7⟩
  clear d6
  have b7 := (HB0.out.fr h7.frame (fun x => x)).cell' (i := 6) rfl
  go_wp2_with fail
  have d7 := num27_any w1 _ _ A7 n7 c7 h7 19 bits V.out.2.2.2 (by simp)
  refine d7.mono ?_
  rintro e w9 ⟨A8, n8, c8, rfl, h8⟩
  clear d7 h7 b7
  have cz := rput_fl (RR.fl ⟨(id : Int), (err : Int), (num : Int), co, A, n, c, items, txt, bits, k⟩) h8 Has.out (by have := Hel.out.1; unfold RR.form at this; exact Nat.le_trans this (by omega)) (fun f hf => Nat.le_trans (Hel.out.2 f hf) (by omega)) (by simp [ER.fl, CR.fl, RR.fl])
  have Hk := hide h8
  clear h8
  go_wp2_with fail
  refine cz.mono ?_
  rintro e wz ⟨X, nx, cx, gx, rfl, hX, hg, hfz⟩
  have HX := hide hX
  have Hg : Hid (∀ b, gx = some b → w.heap.size ≤ b) := fun b e => by
    have h1 := hg b e
    have h2 := Hk.out.frame.size
    have h3 := HF0.out.size
    omega
  have HFz := hide ((HF0.out.trans Hk.out.frame).trans hfz)
  clear cz hX hg hfz Hk
  go_wp2_with fail
  go_ret2
  exact ⟨X, nx, cx, gx, rfl, HX.out, Hg.out, HFz.out⟩
end Go.Proofs.Ytlcjhbemgagchaa
