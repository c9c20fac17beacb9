/-
  Texts merged into one, to keep the claim small: PrK6.
-/
import Derived.Test.YtlcjhbemgagchaaMr9
import Derived.Test.YtlcjhbemgagchaaMr20
import Derived.Test.YtlcjhbemgagchaaMr40
/-
  proto: Encode of the reference. (printed by pr_renc.py)
-/
namespace Go.Proofs.Ytlcjhbemgagchaa
open Go.RowKit
set_option linter.unusedVariables false
set_option linter.unusedSimpArgs false
set_option maxHeartbeats 4000000 in
set_option maxRecDepth 8000 in
theorem rEncode_of (w : World) (r : KC) (h : r.at_ w) (hwf : r.wf) (hcmd : ∀ w1, Fr (fun _ => False) w w1 → Calls Try.prog 74 #[.agg #[.int .i64 r.id, .int .i64 r.kind, .string (strOf r.name), .int .i64 r.to_, .int .u64 (r.co : Int), .int .i64 r.item, .int .i64 r.num, .int .i64 r.of_, .int .i64 r.e.acc, .int .i64 r.e.item, .int .u64 (r.e.co : Int), .int .u64 (r.e.pr : Int), .slice r.e.A r.e.n r.e.c, .int .i64 r.k.num, .int .i64 r.k.kind, .int .i64 r.k.by_, .int .i64 r.k.dl, .int .i64 r.k.to_, .int .i64 r.k.want, .int .u64 (r.k.pr : Int), .int .u64 (r.k.rs : Int), .int .u64 (r.k.st : Int), .int .i64 r.k.of_, .slice r.k.A r.k.n r.k.c]] w1 fun e w' => e = .returned (.bool r.ok) ∧ Fr (fun _ => False) w1 w') :
    Calls Try.prog 42 #[.agg #[.int .i64 r.id, .int .i64 r.kind, .string (strOf r.name), .int .i64 r.to_, .int .u64 (r.co : Int), .int .i64 r.item, .int .i64 r.num, .int .i64 r.of_, .int .i64 r.e.acc, .int .i64 r.e.item, .int .u64 (r.e.co : Int), .int .u64 (r.e.pr : Int), .slice r.e.A r.e.n r.e.c, .int .i64 r.k.num, .int .i64 r.k.kind, .int .i64 r.k.by_, .int .i64 r.k.dl, .int .i64 r.k.to_, .int .i64 r.k.want, .int .u64 (r.k.pr : Int), .int .u64 (r.k.rs : Int), .int .u64 (r.k.st : Int), .int .i64 r.k.of_, .slice r.k.A r.k.n r.k.c]] w (PutPost (if r.ok then r.form else []) (if r.ok then 0 else 270) w) := by
  have HAt := hide h
  have HC := hide hcmd
  clear hcmd
  cases hok : r.ok with
  | false =>
    rw [if_neg (by simp), if_neg (by simp)]
    simp only [hok] at HC
    clear h hwf HAt hok
    obtain ⟨rid, kind, name, to_, co, item, num, of_, e, k⟩ := r
    simp only at HC ⊢
    obtain ⟨str, hstr⟩ : ∃ str, strOf name = str := ⟨_, rfl⟩
    rw [hstr] at HC ⊢
    clear hstr
    have hB2 := Bl.new w 31 #[.int .i64 rid, .int .i64 kind, .string str, .int .i64 to_, .int .u64 (co : Int), .int .i64 item, .int .i64 num, .int .i64 of_, .int .i64 e.acc, .int .i64 e.item, .int .u64 (e.co : Int), .int .u64 (e.pr : Int), .slice e.A e.n e.c, .int .i64 k.num, .int .i64 k.kind, .int .i64 k.by_, .int .i64 k.dl, .int .i64 k.to_, .int .i64 k.want, .int .u64 (k.pr : Int), .int .u64 (k.rs : Int), .int .u64 (k.st : Int), .int .i64 k.of_, .slice k.A k.n k.c]
    unfold Bl at hB2
    go_enter Try.func42, Try.ntmps42
    go_wp2_with (refine wpList_load_at rfl 31 _ rfl w.heap.size 0 rfl 31 _ #[.int .i64 rid, .int .i64 kind, .string str, .int .i64 to_, .int .u64 (co : Int), .int .i64 item, .int .i64 num, .int .i64 of_, .int .i64 e.acc, .int .i64 e.item, .int .u64 (e.co : Int), .int .u64 (e.pr : Int), .slice e.A e.n e.c, .int .i64 k.num, .int .i64 k.kind, .int .i64 k.by_, .int .i64 k.dl, .int .i64 k.to_, .int .i64 k.want, .int .u64 (k.pr : Int), .int .u64 (k.rs : Int), .int .u64 (k.st : Int), .int .i64 k.of_, .slice k.A k.n k.c] (0, 0) _ hB2 Try.underlying31 rfl (by kernel_rfl) rfl ?_)
    clear hB2
    refine (HC.out _ (by (repeat (first | with_reducible exact Fr.refl _ _ | with_reducible assumption | with_reducible refine Fr.drew ?_ | with_reducible refine Fr.drewN ?_ _ | with_reducible refine Fr.alloc ?_ _ | with_reducible refine Fr.setIn ?_ (by first | exact Or.inl rfl | exact Or.inr (by simp; done) | exact Or.inr (by simp; omega) | exact Or.inr (by omega)) _)))).mono ?_
    rintro x w1 ⟨rfl, hf1⟩
    have HF : Hid (Fr (fun _ => False) w w1) := Fr.trans (by (repeat (first | with_reducible exact Fr.refl _ _ | with_reducible assumption | with_reducible refine Fr.drew ?_ | with_reducible refine Fr.drewN ?_ _ | with_reducible refine Fr.alloc ?_ _ | with_reducible refine Fr.setIn ?_ (by first | exact Or.inl rfl | exact Or.inr (by simp; done) | exact Or.inr (by simp; omega) | exact Or.inr (by omega)) _))) hf1
    clear hf1
    go_wp2_with fail
    go_ret2
    exact ⟨none, 0, 0, none, rfl, Ow.nil_ _ _ _, (fun b h => by cases h), HF.out⟩
  | true =>
  rw [if_pos rfl, if_pos rfl]
  simp only [hok] at HC
  have Hrl := hide (KC.len hok hwf)
  have Has := hide (KC.asc r)
  obtain ⟨a1, a2, a3, a4, a5, -, a7, -, -, -⟩ := KC.fine_split (KC.ok_fine hok)
  have c1 := okL_mem a4 (n := r.to_) (by simp)
  have c2 := okL_mem a4 (n := r.item) (by simp)
  have c3 := okL_mem a4 (n := r.num) (by simp)
  have c4 := okL_mem a4 (n := r.of_) (by simp)
  have Htx : Hid (r.name.length ≤ 128 ∧ ∀ x ∈ r.name, x < 256) := ⟨a3, hwf.name⟩
  have Hck : Hid (r.k.ok = true ∧ r.k.wf) := ⟨a7, hwf.k⟩
  have Hce : Hid (r.e.ok = true ∧ r.e.wf) := ⟨a5, hwf.e⟩
  have U1 := hide hwf.co
  clear h hok a3 a4 a5 a7 hwf
  obtain ⟨rid, kind, name, to_, co, item, num, of_, e, k⟩ := r
  simp only at HAt HC Hrl Has Htx Hck Hce a1 a2 c1 c2 c3 c4 U1 ⊢
  obtain ⟨rid, rfl⟩ : ∃ t : Nat, rid = (t : Int) := ⟨rid.toNat, by omega⟩
  have q_rid : IntKind.u64.wrap (rid : Int) = (rid : Int) := IntWalk.u64_in _ (by omega)
  obtain ⟨kind, rfl⟩ : ∃ t : Nat, kind = (t : Int) := ⟨kind.toNat, by omega⟩
  have q_kind : IntKind.u64.wrap (kind : Int) = (kind : Int) := IntWalk.u64_in _ (by omega)
  obtain ⟨to_, rfl⟩ : ∃ t : Nat, to_ = (t : Int) := ⟨to_.toNat, by omega⟩
  have q_to_ : IntKind.u64.wrap (to_ : Int) = (to_ : Int) := IntWalk.u64_in _ (by omega)
  obtain ⟨item, rfl⟩ : ∃ t : Nat, item = (t : Int) := ⟨item.toNat, by omega⟩
  have q_item : IntKind.u64.wrap (item : Int) = (item : Int) := IntWalk.u64_in _ (by omega)
  obtain ⟨num, rfl⟩ : ∃ t : Nat, num = (t : Int) := ⟨num.toNat, by omega⟩
  have q_num : IntKind.u64.wrap (num : Int) = (num : Int) := IntWalk.u64_in _ (by omega)
  obtain ⟨of_, rfl⟩ : ∃ t : Nat, of_ = (t : Int) := ⟨of_.toNat, by omega⟩
  have q_of_ : IntKind.u64.wrap (of_ : Int) = (of_ : Int) := IntWalk.u64_in _ (by omega)
  have V : Hid (rid < U64 ∧ kind < U64 ∧ to_ < U64 ∧ item < U64 ∧ num < U64 ∧ of_ < U64) := ⟨by unfold U64; omega, by unfold U64; omega, by unfold U64; omega, by unfold U64; omega, by unfold U64; omega, by unfold U64; omega⟩
  obtain ⟨str, hstr⟩ : ∃ str, strOf name = str := ⟨_, rfl⟩
  rw [hstr] at HC ⊢
  have Hstr := hide hstr
  have HK : Hid (∀ w1, Fr (fun _ => False) w w1 → Calls Try.prog 78 #[.agg #[.int .i64 k.num, .int .i64 k.kind, .int .i64 k.by_, .int .i64 k.dl, .int .i64 k.to_, .int .i64 k.want, .int .u64 (k.pr : Int), .int .u64 (k.rs : Int), .int .u64 (k.st : Int), .int .i64 k.of_, .slice k.A k.n k.c]] w1 (BP k.form.length k.form w1)) := fun w1 hf => contractForm_any w1 k (HAt.out.k.quiet hf) Hck.out.1 Hck.out.2
  have HE : Hid (∀ w1, Fr (fun _ => False) w w1 → Calls Try.prog 77 #[.agg #[.int .i64 e.acc, .int .i64 e.item, .int .u64 (e.co : Int), .int .u64 (e.pr : Int), .slice e.A e.n e.c]] w1 (BP e.form.length e.form w1)) := fun w1 hf => entryForm_any w1 e (HAt.out.e.quiet hf) Hce.out.1 Hce.out.2
  clear a1 a2 c1 c2 c3 c4 hstr
  have hB := Bl.new w 31 #[.int .i64 (rid : Int), .int .i64 (kind : Int), .string str, .int .i64 (to_ : Int), .int .u64 (co : Int), .int .i64 (item : Int), .int .i64 (num : Int), .int .i64 (of_ : Int), .int .i64 e.acc, .int .i64 e.item, .int .u64 (e.co : Int), .int .u64 (e.pr : Int), .slice e.A e.n e.c, .int .i64 k.num, .int .i64 k.kind, .int .i64 k.by_, .int .i64 k.dl, .int .i64 k.to_, .int .i64 k.want, .int .u64 (k.pr : Int), .int .u64 (k.rs : Int), .int .u64 (k.st : Int), .int .i64 k.of_, .slice k.A k.n k.c]
  have HBa := hide hB
  have hB2 := hB
  unfold Bl at hB2
  clear hB
  go_enter Try.func42, Try.ntmps42
  go_wp2_with (refine wpList_load_at rfl 31 _ rfl w.heap.size 0 rfl 31 _ #[.int .i64 (rid : Int), .int .i64 (kind : Int), .string str, .int .i64 (to_ : Int), .int .u64 (co : Int), .int .i64 (item : Int), .int .i64 (num : Int), .int .i64 (of_ : Int), .int .i64 e.acc, .int .i64 e.item, .int .u64 (e.co : Int), .int .u64 (e.pr : Int), .slice e.A e.n e.c, .int .i64 k.num, .int .i64 k.kind, .int .i64 k.by_, .int .i64 k.dl, .int .i64 k.to_, .int .i64 k.want, .int .u64 (k.pr : Int), .int .u64 (k.rs : Int), .int .u64 (k.st : Int), .int .i64 k.of_, .slice k.A k.n k.c] (0, 0) _ hB2 Try.underlying31 rfl (by kernel_rfl) rfl ?_)
  clear hB2
  refine (HC.out _ (by (repeat (first | with_reducible exact Fr.refl _ _ | with_reducible assumption | with_reducible refine Fr.drew ?_ | with_reducible refine Fr.drewN ?_ _ | with_reducible refine Fr.alloc ?_ _ | with_reducible refine Fr.setIn ?_ (by first | exact Or.inl rfl | exact Or.inr (by simp; done) | exact Or.inr (by simp; omega) | exact Or.inr (by omega)) _)))).mono ?_
  rintro x w1 ⟨rfl, hf1⟩
  have HB0 := hide (HBa.out.fr hf1 (fun x => x))
  have HF0 : Hid (Fr (fun _ => False) w w1) := Fr.trans (by (repeat (first | with_reducible exact Fr.refl _ _ | with_reducible assumption | with_reducible refine Fr.drew ?_ | with_reducible refine Fr.drewN ?_ _ | with_reducible refine Fr.alloc ?_ _ | with_reducible refine Fr.setIn ?_ (by first | exact Or.inl rfl | exact Or.inr (by simp; done) | exact Or.inr (by simp; omega) | exact Or.inr (by omega)) _))) hf1
  have h0 : FL w1 w1 [] none 0 0 := FL.begin _ _ (Fr.refl _ _)
  have b0 := HB0.out.cell' (i := 0) rfl
  clear hf1 HBa HC
  go_wp2_with fail
  clear b0
  have d0 := num27_any w1 _ _ none 0 0 h0 1 rid V.out.1 (by simp)
  refine d0.mono ?_
  rintro x w2 ⟨A1, n1, c1, rfl, h1⟩
  clear d0 h0
  have b1 := (HB0.out.fr h1.frame (fun x => x)).cell' (i := 1) rfl
  go_wp2_with fail
  have d1 := num27_any w1 _ _ A1 n1 c1 h1 2 kind V.out.2.1 (by simp)
  refine d1.mono ?_
  rintro x w3 ⟨A2, n2, c2, rfl, h2⟩
  clear d1 h1 b1
  have b2 := (HB0.out.fr h2.frame (fun x => x)).cell' (i := 2) rfl
  obtain ⟨cv, wl, hcv, hSv, hfv⟩ := conv_sb w3 name Htx.out.2
  rw [Hstr.out] at hcv
  have d2 := with_any w1 w3 wl _ A2 n2 c2 h2 hfv 3 (some ⟨w3.heap.size, 0, none⟩) name.length cv name hSv (fun b o e hm => by cases e; exact Nat.le_refl _) (by simp)
  go_wp2_with fail
  refine d2.mono ?_
  rintro x w4 ⟨A3, n3, c3, rfl, h3⟩
  clear d2 h2 b2 hcv hSv hfv
  have b3 := (HB0.out.fr h3.frame (fun x => x)).cell' (i := 3) rfl
  go_wp2_with fail
  have d3 := num27_any w1 _ _ A3 n3 c3 h3 4 to_ V.out.2.2.1 (by simp)
  refine d3.mono ?_
  rintro x w5 ⟨A4, n4, c4, rfl, h4⟩
  clear d3 h3 b3
  have b4 := (HB0.out.fr h4.frame (fun x => x)).cell' (i := 4) rfl
  go_wp2_with fail
  have d4 := num27_any w1 _ _ A4 n4 c4 h4 5 co U1.out (by simp)
  refine d4.mono ?_
  rintro x w6 ⟨A5, n5, c5, rfl, h5⟩
  clear d4 h4 b4
  have b5 := (HB0.out.fr h5.frame (fun x => x)).cell' (i := 5) rfl
  go_wp2_with fail
  have d5 := num27_any w1 _ _ A5 n5 c5 h5 6 item V.out.2.2.2.1 (by simp)
  refine d5.mono ?_
  rintro x w7 ⟨A6, n6, c6, rfl, h6⟩
  clear d5 h5 b5
  have b6 := (HB0.out.fr h6.frame (fun x => x)).cell' (i := 6) rfl
  go_wp2_with fail
  have d6 := num27_any w1 _ _ A6 n6 c6 h6 7 num V.out.2.2.2.2.1 (by simp)
  refine d6.mono ?_
  rintro x w8 ⟨A7, n7, c7, rfl, h7⟩
  clear d6 h6 b6
  have b7 := (HB0.out.fr h7.frame (fun x => x)).cell' (i := 7) rfl
  go_wp2_with fail
  have d7 := num27_any w1 _ _ A7 n7 c7 h7 8 of_ V.out.2.2.2.2.2 (by simp)
  refine d7.mono ?_
  rintro x w9 ⟨A8, n8, c8, rfl, h8⟩
  clear d7 h7 b7
  have e8 := (HB0.out.fr h8.frame (fun x => x)).cell' (i := 8) rfl
  have e9 := (HB0.out.fr h8.frame (fun x => x)).cell' (i := 9) rfl
  have e10 := (HB0.out.fr h8.frame (fun x => x)).cell' (i := 10) rfl
  have e11 := (HB0.out.fr h8.frame (fun x => x)).cell' (i := 11) rfl
  have e12 := (HB0.out.fr h8.frame (fun x => x)).cell' (i := 12) rfl
  go_wp2_with fail
  refine (HE.out _ (HF0.out.trans h8.frame)).mono ?_
  rintro x wl8 ⟨X, cx, gx, rfl, hO, hg, hf⟩
  clear e8 e9 e10 e11 e12
  have d8 := with_any w1 w9 wl8 _ A8 n8 c8 h8 hf 9 X _ cx e.form hO.sl (fun b o e hm => by subst e; exact hg b hO.blk) (by simp)
  clear hO hg hf h8
  go_wp2_with fail
  refine d8.mono ?_
  rintro x w10 ⟨A9, n9, c9, rfl, h9⟩
  clear d8
  have e13 := (HB0.out.fr h9.frame (fun x => x)).cell' (i := 13) rfl
  have e14 := (HB0.out.fr h9.frame (fun x => x)).cell' (i := 14) rfl
  have e15 := (HB0.out.fr h9.frame (fun x => x)).cell' (i := 15) rfl
  have e16 := (HB0.out.fr h9.frame (fun x => x)).cell' (i := 16) rfl
  have e17 := (HB0.out.fr h9.frame (fun x => x)).cell' (i := 17) rfl
  have e18 := (HB0.out.fr h9.frame (fun x => x)).cell' (i := 18) rfl
  have e19 := (HB0.out.fr h9.frame (fun x => x)).cell' (i := 19) rfl
  have e20 := (HB0.out.fr h9.frame (fun x => x)).cell' (i := 20) rfl
  have e21 := (HB0.out.fr h9.frame (fun x => x)).cell' (i := 21) rfl
  have e22 := (HB0.out.fr h9.frame (fun x => x)).cell' (i := 22) rfl
  have e23 := (HB0.out.fr h9.frame (fun x => x)).cell' (i := 23) rfl
  go_wp2_with fail
  refine (HK.out _ (HF0.out.trans h9.frame)).mono ?_
  rintro x wl9 ⟨X, cx, gx, rfl, hO, hg, hf⟩
  clear e13 e14 e15 e16 e17 e18 e19 e20 e21 e22 e23
  have d9 := with_any w1 w10 wl9 _ A9 n9 c9 h9 hf 12 X _ cx k.form hO.sl (fun b o e hm => by subst e; exact hg b hO.blk) (by simp)
  clear hO hg hf h9
  go_wp2_with fail
  refine d9.mono ?_
  rintro x w11 ⟨A10, n10, c10, rfl, h10⟩
  clear d9
  have cz := rput_fl (KC.fl ⟨(rid : Int), (kind : Int), name, (to_ : Int), co, (item : Int), (num : Int), (of_ : Int), e, k⟩) h10 Has.out (by have := Hrl.out.1; unfold KC.form at this; exact Nat.le_trans this (by omega)) (fun f hf => Nat.le_trans (Hrl.out.2 f hf) (by omega)) (by simp [KC.fl])
  have Hk := hide h10
  clear h10
  go_wp2_with fail
  refine cz.mono ?_
  rintro x wz ⟨X, nx, cx, gx, rfl, hX, hg, hfz⟩
  have HX := hide hX
  have Hg : Hid (∀ b, gx = some b → w.heap.size ≤ b) := fun b e => by
    have h1 := hg b e
    have h2 := Hk.out.frame.size
    have h3 := HF0.out.size
    omega
  have HFz := hide ((HF0.out.trans Hk.out.frame).trans hfz)
  clear cz hX hg hfz Hk
  go_wp2_with fail
  go_ret2
  exact ⟨X, nx, cx, gx, rfl, HX.out, Hg.out, HFz.out⟩
end Go.Proofs.Ytlcjhbemgagchaa
