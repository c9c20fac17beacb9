/-
  Texts merged into one, to keep the claim small: PrB, PdI.
-/
import Derived.Test.YtlcjhbemgagchaaMc28
import Derived.Test.YtlcjhbemgagchaaMc24
import Derived.Test.YtlcjhbemgagchaaMc19
import Derived.Deep.CutBlock
section
/-
  proto's reference: EncodeReply. (printed by pr_ref2.py)
-/
namespace Go.Proofs.Ytlcjhbemgagchaa
open Go.RowKit
set_option linter.unusedVariables false
set_option linter.unusedSimpArgs false
set_option maxHeartbeats 8000000 in
set_option maxRecDepth 8000 in
theorem rEncodeReply_any (w : World) (r : RR) (h : r.at_ w) (hwf : r.wf) :
    Calls Try.prog 44 #[.agg #[.int .i64 r.id, .int .i64 r.err, .int .i64 r.num, .int .u64 (r.co : Int), .slice r.A r.n r.c, .string (strOf r.txt), .int .u32 (r.bits : Int), .int .i64 r.k.num, .int .i64 r.k.kind, .int .i64 r.k.by_, .int .i64 r.k.dl, .int .i64 r.k.to_, .int .i64 r.k.want, .int .u64 (r.k.pr : Int), .int .u64 (r.k.rs : Int), .int .u64 (r.k.st : Int), .int .i64 r.k.of_, .slice r.k.A r.k.n r.k.c]] w (PutPost (if r.ok then r.form else []) (if r.ok then 0 else 270) w) := by
  have HAt := hide h
  have Hlen : Hid (r.n = r.items.length) := h.sl.ilen
  have HC := hide (fun w1 (hf : Fr (fun _ => False) w w1) => MayReply_any w1 r (h.quiet hf))
  cases hok : r.ok with
  | false =>
    rw [if_neg (by simp), if_neg (by simp)]
    simp only [hok] at HC
    clear h hwf HAt Hlen hok
    obtain ⟨id, err, num, co, A, n, c, items, txt, bits, k⟩ := r
    simp only at HC ⊢
    obtain ⟨str, hstr⟩ : ∃ str, strOf txt = str := ⟨_, rfl⟩
    rw [hstr] at HC ⊢
    clear hstr
    have hB := Bl.new w 35 #[.int .i64 id, .int .i64 err, .int .i64 num, .int .u64 (co : Int), .slice A n c, .string str, .int .u32 (bits : Int), .int .i64 k.num, .int .i64 k.kind, .int .i64 k.by_, .int .i64 k.dl, .int .i64 k.to_, .int .i64 k.want, .int .u64 (k.pr : Int), .int .u64 (k.rs : Int), .int .u64 (k.st : Int), .int .i64 k.of_, .slice k.A k.n k.c]
    have hB2 := hB
    unfold Bl at hB2
    clear hB
    go_enter Try.func44, Try.ntmps44
    go_wp2_with (refine wpList_load_row rfl 35 _ rfl w.heap.size rfl 35 _ (0, 0) _ hB2 Try.underlying35 rfl (by kernel_rfl) ?_)
    clear hB2
    refine (HC.out _ (by (repeat (first | with_reducible exact Fr.refl _ _ | with_reducible assumption | with_reducible refine Fr.drew ?_ | with_reducible refine Fr.drewN ?_ _ | with_reducible refine Fr.alloc ?_ _ | with_reducible refine Fr.setIn ?_ (by first | exact Or.inl rfl | exact Or.inr (by simp; done) | exact Or.inr (by simp; omega) | exact Or.inr (by omega)) _)))).mono ?_
    rintro e w1 ⟨rfl, hf1⟩
    have HF : Hid (Fr (fun _ => False) w w1) := Fr.trans (by (repeat (first | with_reducible exact Fr.refl _ _ | with_reducible assumption | with_reducible refine Fr.drew ?_ | with_reducible refine Fr.drewN ?_ _ | with_reducible refine Fr.alloc ?_ _ | with_reducible refine Fr.setIn ?_ (by first | exact Or.inl rfl | exact Or.inr (by simp; done) | exact Or.inr (by simp; omega) | exact Or.inr (by omega)) _))) hf1
    clear hf1
    go_wp2_with fail
    go_ret2
    exact ⟨none, 0, 0, none, rfl, Ow.nil_ _ _ _, (fun b h => by cases h), HF.out⟩
  | true =>
  rw [if_pos rfl, if_pos rfl]
  simp only [hok] at HC
  have Hel := hide (RR.len hok hwf)
  have Has := hide (RR.asc r)
  obtain ⟨a1, a2, a3, a4, a5, a6, a7⟩ := RR.ok_split hok
  have a4' := okL_mem a4 (n := r.num) (by simp)
  have Htx : Hid (r.txt.length ≤ 128 ∧ ∀ x ∈ r.txt, x < 256) := ⟨a3, hwf.txt⟩
  have Hck : Hid (r.k.ok = true ∧ r.k.wf) := ⟨a7, hwf.k⟩
  have Hit : Hid (okL r.items = true) := a6
  have hn5 : r.n ≤ 512 := by rw [Hlen.out]; exact a5
  obtain ⟨u1, u2, u3, u4⟩ := hwf
  have U1 := hide u1
  clear h hok a3 a4 a5 a6 a7 u1 u3 u4
  obtain ⟨id, err, num, co, A, n, c, items, txt, bits, k⟩ := r
  simp only at HAt Hlen HC Hel Has Htx Hck Hit a1 a2 a4' hn5 u2 U1 ⊢
  obtain ⟨id, rfl⟩ : ∃ t : Nat, id = (t : Int) := ⟨id.toNat, by omega⟩
  obtain ⟨err, rfl⟩ : ∃ t : Nat, err = (t : Int) := ⟨err.toNat, by omega⟩
  obtain ⟨num, rfl⟩ : ∃ t : Nat, num = (t : Int) := ⟨num.toNat, by omega⟩
  have q1 : IntKind.u64.wrap (id : Int) = (id : Int) := IntWalk.u64_in _ (by omega)
  have q2 : IntKind.u64.wrap (err : Int) = (err : Int) := IntWalk.u64_in _ (by omega)
  have q3 : IntKind.u64.wrap (num : Int) = (num : Int) := IntWalk.u64_in _ (by omega)
  have q4 : IntKind.u64.wrap (bits : Int) = (bits : Int) := IntWalk.u64_in _ (by omega)
  have V : Hid (id < U64 ∧ err < U64 ∧ num < U64 ∧ bits < U64) := ⟨by unfold U64; omega, by unfold U64; omega, by unfold U64; omega, by unfold U64; omega⟩
  obtain ⟨str, hstr⟩ : ∃ str, strOf txt = str := ⟨_, rfl⟩
  rw [hstr] at HC ⊢
  have Hstr := hide hstr
  have HK : Hid (∀ w1, Fr (fun _ => False) w w1 → Calls Try.prog 78 #[.agg #[.int .i64 k.num, .int .i64 k.kind, .int .i64 k.by_, .int .i64 k.dl, .int .i64 k.to_, .int .i64 k.want, .int .u64 (k.pr : Int), .int .u64 (k.rs : Int), .int .u64 (k.st : Int), .int .i64 k.of_, .slice k.A k.n k.c]] w1 (BP k.form.length k.form w1)) := fun w1 hf => contractForm_any w1 k (HAt.out.k.quiet hf) Hck.out.1 Hck.out.2
  clear a1 a2 a4' u2 hstr
  have hB := Bl.new w 35 #[.int .i64 (id : Int), .int .i64 (err : Int), .int .i64 (num : Int), .int .u64 (co : Int), .slice A n c, .string str, .int .u32 (bits : Int), .int .i64 k.num, .int .i64 k.kind, .int .i64 k.by_, .int .i64 k.dl, .int .i64 k.to_, .int .i64 k.want, .int .u64 (k.pr : Int), .int .u64 (k.rs : Int), .int .u64 (k.st : Int), .int .i64 k.of_, .slice k.A k.n k.c]
  have HBa := hide hB
  have hB2 := hB
  unfold Bl at hB2
  clear hB
  go_enter Try.func44, Try.ntmps44
  go_wp2_with (refine wpList_load_row rfl 35 _ rfl w.heap.size rfl 35 _ (0, 0) _ hB2 Try.underlying35 rfl (by kernel_rfl) ?_)
  clear hB2
  refine (HC.out _ (by (repeat (first | with_reducible exact Fr.refl _ _ | with_reducible assumption | with_reducible refine Fr.drew ?_ | with_reducible refine Fr.drewN ?_ _ | with_reducible refine Fr.alloc ?_ _ | with_reducible refine Fr.setIn ?_ (by first | exact Or.inl rfl | exact Or.inr (by simp; done) | exact Or.inr (by simp; omega) | exact Or.inr (by omega)) _)))).mono ?_
  rintro e w1 ⟨rfl, hf1⟩
  have HB0 := hide (HBa.out.fr hf1 (fun x => x))
  have HF0 : Hid (Fr (fun _ => False) w w1) := Fr.trans (by (repeat (first | with_reducible exact Fr.refl _ _ | with_reducible assumption | with_reducible refine Fr.drew ?_ | with_reducible refine Fr.drewN ?_ _ | with_reducible refine Fr.alloc ?_ _ | with_reducible refine Fr.setIn ?_ (by first | exact Or.inl rfl | exact Or.inr (by simp; done) | exact Or.inr (by simp; omega) | exact Or.inr (by omega)) _))) hf1
  have h0 : FL w1 w1 [] none 0 0 := FL.begin _ _ (Fr.refl _ _)
  have b0 := HB0.out.cell' (i := 0) rfl
  clear hf1 HBa HC
  go_wp2_with fail
  clear b0
  have d0 := num27_any w1 _ _ none 0 0 h0 1 id V.out.1 (by simp)
  refine d0.mono ?_
  rintro e w2 ⟨A1, n1, c1, rfl, h1⟩
  clear d0 h0
  have b1 := (HB0.out.fr h1.frame (fun x => x)).cell' (i := 5) rfl
  obtain ⟨cv, wl, hcv, hSv, hfv⟩ := conv_sb w2 txt Htx.out.2
  rw [Hstr.out] at hcv
  have d1 := with_any w1 w2 wl _ A1 n1 c1 h1 hfv 3 (some ⟨w2.heap.size, 0, none⟩) txt.length cv txt hSv (fun b o e hm => by cases e; exact Nat.le_refl _) (by simp)
  go_wp2_with fail
  refine d1.mono ?_
  rintro e w3 ⟨A2, n2, c2, rfl, h2⟩
  clear d1 h1 b1 hcv hSv hfv
  have b2 := (HB0.out.fr h2.frame (fun x => x)).cell' (i := 3) rfl
  go_wp2_with fail
  have d2 := num27_any w1 _ _ A2 n2 c2 h2 5 co U1.out (by simp)
  refine d2.mono ?_
  rintro e w4 ⟨A3, n3, c3, rfl, h3⟩
  clear d2 h2 b2
  have b3 := (HB0.out.fr h3.frame (fun x => x)).cell' (i := 2) rfl
  go_wp2_with fail
  have d3 := num27_any w1 _ _ A3 n3 c3 h3 7 num V.out.2.2.1 (by simp)
  refine d3.mono ?_
  rintro e w5 ⟨A4, n4, c4, rfl, h4⟩
  clear d3 h3 b3
  have e7 := (HB0.out.fr h4.frame (fun x => x)).cell' (i := 7) rfl
  have e8 := (HB0.out.fr h4.frame (fun x => x)).cell' (i := 8) rfl
  have e9 := (HB0.out.fr h4.frame (fun x => x)).cell' (i := 9) rfl
  have e10 := (HB0.out.fr h4.frame (fun x => x)).cell' (i := 10) rfl
  have e11 := (HB0.out.fr h4.frame (fun x => x)).cell' (i := 11) rfl
  have e12 := (HB0.out.fr h4.frame (fun x => x)).cell' (i := 12) rfl
  have e13 := (HB0.out.fr h4.frame (fun x => x)).cell' (i := 13) rfl
  have e14 := (HB0.out.fr h4.frame (fun x => x)).cell' (i := 14) rfl
  have e15 := (HB0.out.fr h4.frame (fun x => x)).cell' (i := 15) rfl
  have e16 := (HB0.out.fr h4.frame (fun x => x)).cell' (i := 16) rfl
  have e17 := (HB0.out.fr h4.frame (fun x => x)).cell' (i := 17) rfl
  go_wp2_with fail
  refine (HK.out _ (HF0.out.trans h4.frame)).mono ?_
  rintro e wl ⟨X, cx, gx, rfl, hO, hg, hf⟩
  clear e7 e8 e9 e10 e11 e12 e13 e14 e15 e16 e17
  have d4 := with_any w1 w5 wl _ A4 n4 c4 h4 hf 12 X _ cx k.form hO.sl (fun b o e hm => by subst e; exact hg b hO.blk) (by simp)
  clear hO hg hf h4
  go_wp2_with fail
  refine d4.mono ?_
  rintro e w6 ⟨A5, n5, c5, rfl, h5⟩
  clear d4
  have b5 := (HB0.out.fr h5.frame (fun x => x)).cell' (i := 1) rfl
  go_wp2_with fail
  have d5 := num27_any w1 _ _ A5 n5 c5 h5 17 err V.out.2.1 (by simp)
  refine d5.mono ?_
  rintro e w7 ⟨A6, n6, c6, rfl, h6⟩
  clear d5 h5 b5
  have b6 := (HB0.out.fr h6.frame (fun x => x)).cell' (i := 4) rfl
  go_wp2_with fail
  refine (rshorts_any _ items A n c (by omega) Hit.out (HAt.out.sl.quiet (HF0.out.trans h6.frame))).mono ?_
  rintro e wl ⟨X, cx, gx, rfl, hO, hg, hf⟩
  clear b6
  have d6 := with_any w1 w7 wl _ A6 n6 c6 h6 hf 18 X _ cx (listAll (shs items)) hO.sl (fun b o e hm => by subst e; exact hg b hO.blk) (by simp)
  clear hO hg hf h6
  go_wp2_with fail
  refine d6.mono ?_
  rintro e w8 ⟨A7, n7, c7, rfl, h7⟩
  clear d6
  have b7 := (HB0.out.fr h7.frame (fun x => x)).cell' (i := 6) rfl
  go_wp2_with fail
  have d7 := num27_any w1 _ _ A7 n7 c7 h7 19 bits V.out.2.2.2 (by simp)
  refine d7.mono ?_
  rintro e w9 ⟨A8, n8, c8, rfl, h8⟩
  clear d7 h7 b7
  have cz := rput_fl (RR.fl ⟨(id : Int), (err : Int), (num : Int), co, A, n, c, items, txt, bits, k⟩) h8 Has.out (by have := Hel.out.1; unfold RR.form at this; exact Nat.le_trans this (by omega)) (fun f hf => Nat.le_trans (Hel.out.2 f hf) (by omega)) (by simp [ER.fl, CR.fl, RR.fl])
  have Hk := hide h8
  clear h8
  go_wp2_with fail
  refine cz.mono ?_
  rintro e wz ⟨X, nx, cx, gx, rfl, hX, hg, hfz⟩
  have HX := hide hX
  have Hg : Hid (∀ b, gx = some b → w.heap.size ≤ b) := fun b e => by
    have h1 := hg b e
    have h2 := Hk.out.frame.size
    have h3 := HF0.out.size
    omega
  have HFz := hide ((HF0.out.trans Hk.out.frame).trans hfz)
  clear cz hX hg hfz Hk
  go_wp2_with fail
  go_ret2
  exact ⟨X, nx, cx, gx, rfl, HX.out, Hg.out, HFz.out⟩
end Go.Proofs.Ytlcjhbemgagchaa
end

section
/-
  proto: the document's DecodeReply. (printed by pr_dec3.py)
-/
namespace Go.Proofs.Ytlcjhbemgagchaa
open Go.RowKit
set_option linter.unusedVariables false
set_option linter.unusedSimpArgs false

theorem strOf_inj3 {a b : List Nat} (ha : ∀ x ∈ a, x < 256) (hb : ∀ x ∈ b, x < 256) (h : strOf a = strOf b) : a = b := by
  have h1 : (a.map UInt8.ofNat) = (b.map UInt8.ofNat) := by
    have := congrArg ByteArray.data h
    exact List.toArray_inj this
  have h2 : ∀ l : List Nat, (∀ x ∈ l, x < 256) → (l.map UInt8.ofNat).map UInt8.toNat = l := fun l hl => by
    rw [List.map_map]
    refine (List.map_congr_left fun x hx => ?_).trans (List.map_id l)
    have := hl x hx
    simp; omega
  rw [← h2 a ha, ← h2 b hb, h1]
abbrev tRpR : TypeId := 35
/-- What the document's DecodeReply answers. -/
def RRepPost (bs : List Nat) (w : World) (e : Ending) (w' : World) : Prop :=
  (65536 < bs.length ∧ e = .returned (.tuple #[.agg #[.int .i64 0, .int .i64 0, .int .i64 0, .int .u64 0, .slice none 0 0, .string ⟨#[]⟩, .int .u32 0, .int .i64 0, .int .i64 0, .int .i64 0, .int .i64 0, .int .i64 0, .int .i64 0, .int .u64 0, .int .u64 0, .int .u64 0, .int .i64 0, .slice none 0 0], .int .i64 3]) ∧ Fr (fun _ => False) w w') ∨
  (bs.length ≤ 65536 ∧ (∀ q, ¬ RForm bs q) ∧ e = .returned (.tuple #[.agg #[.int .i64 0, .int .i64 0, .int .i64 0, .int .u64 0, .slice none 0 0, .string ⟨#[]⟩, .int .u32 0, .int .i64 0, .int .i64 0, .int .i64 0, .int .i64 0, .int .i64 0, .int .i64 0, .int .u64 0, .int .u64 0, .int .u64 0, .int .i64 0, .slice none 0 0], .int .i64 270]) ∧ Fr (fun _ => False) w w') ∨
  (bs.length ≤ 65536 ∧ ∃ q, RForm bs q ∧ e = .returned (.tuple #[.agg #[.int .i64 q.id, .int .i64 q.err, .int .i64 q.num, .int .u64 (q.co : Int), .slice q.A q.n q.c, .string (strOf q.txt), .int .u32 (q.bits : Int), .int .i64 q.k.num, .int .i64 q.k.kind, .int .i64 q.k.by_, .int .i64 q.k.dl, .int .i64 q.k.to_, .int .i64 q.k.want, .int .u64 (q.k.pr : Int), .int .u64 (q.k.rs : Int), .int .u64 (q.k.st : Int), .int .i64 q.k.of_, .slice q.k.A q.k.n q.k.c], .int .i64 0]) ∧ (RLt w' q.items q.A q.n q.c ∧ RCon w' q.k) ∧ Fr (fun _ => False) w w')
set_option maxHeartbeats 32000000 in
set_option maxRecDepth 8000 in
attribute [-go_sem] Go.Instr.loadAt Go.Instr.storeAt in
theorem rDecodeReply_any (w : World) (xs : List Nat) (A : Option Addr) (n c : Nat) (hl : n = xs.length) (hcap : n ≤ c) (hcap2 : c ≤ 9223372036854775807) (h256 : ∀ x ∈ xs, x < 256) (hS : Sl w 1 A n (xs.map bn)) :
    Calls Try.prog 47 #[.slice A n c] w (RRepPost xs w) := by
  have Hl := hide hl
  have H256 := hide h256
  clear hl h256
  by_cases hlong : 65536 < n
  · have hst := run_storeAt_at (P := Try.prog) tRpR w.heap.size 0 tRpR #[.int .i64 0, .int .i64 0, .int .i64 0, .int .u64 0, .slice none 0 0, .string ⟨#[]⟩, .int .u32 0, .int .i64 0, .int .i64 0, .int .i64 0, .int .i64 0, .int .i64 0, .int .i64 0, .int .u64 0, .int .u64 0, .int .u64 0, .int .i64 0, .slice none 0 0] #[.int .i64 0, .int .i64 0, .int .i64 0, .int .u64 0, .slice none 0 0, .string ⟨#[]⟩, .int .u32 0, .int .i64 0, .int .i64 0, .int .i64 0, .int .i64 0, .int .i64 0, .int .i64 0, .int .u64 0, .int .u64 0, .int .u64 0, .int .i64 0, .slice none 0 0] #[.int .i64 0, .int .i64 0, .int .i64 0, .int .u64 0, .slice none 0 0, .string ⟨#[]⟩, .int .u32 0, .int .i64 0, .int .i64 0, .int .i64 0, .int .i64 0, .int .i64 0, .int .i64 0, .int .u64 0, .int .u64 0, .int .u64 0, .int .i64 0, .slice none 0 0] (by kernel_rfl) 18 18 rfl rfl (by decide) rfl rfl (Bl.new w tRpR #[.int .i64 0, .int .i64 0, .int .i64 0, .int .u64 0, .slice none 0 0, .string ⟨#[]⟩, .int .u32 0, .int .i64 0, .int .i64 0, .int .i64 0, .int .i64 0, .int .i64 0, .int .i64 0, .int .u64 0, .int .u64 0, .int .u64 0, .int .i64 0, .slice none 0 0])
    go_enter Try.func47, Try.ntmps47
    go_wp2_with fail
    try simp only [Exit.inBlock, Exit.then]
    refine bodyPost_ret (results_row_tmp rfl _ _ w.heap.size tRpR #[.int .i64 0, .int .i64 0, .int .i64 0, .int .u64 0, .slice none 0 0, .string ⟨#[]⟩, .int .u32 0, .int .i64 0, .int .i64 0, .int .i64 0, .int .i64 0, .int .i64 0, .int .i64 0, .int .u64 0, .int .u64 0, .int .u64 0, .int .i64 0, .slice none 0 0] (0, 0) _ rfl ((Bl.new w tRpR #[.int .i64 0, .int .i64 0, .int .i64 0, .int .u64 0, .slice none 0 0, .string ⟨#[]⟩, .int .u32 0, .int .i64 0, .int .i64 0, .int .i64 0, .int .i64 0, .int .i64 0, .int .i64 0, .int .u64 0, .int .u64 0, .int .u64 0, .int .i64 0, .slice none 0 0]).setRow #[.int .i64 0, .int .i64 0, .int .i64 0, .int .u64 0, .slice none 0 0, .string ⟨#[]⟩, .int .u32 0, .int .i64 0, .int .i64 0, .int .i64 0, .int .i64 0, .int .i64 0, .int .i64 0, .int .u64 0, .int .u64 0, .int .u64 0, .int .i64 0, .slice none 0 0]) Try.underlying35 rfl (by kernel_rfl)) rfl ?_
    exact .inl ⟨by rw [← Hl.out]; exact hlong, rfl, Fr.setRow ((Fr.refl _ _).alloc _) (.inr (Nat.le_refl _)) _⟩
  have HRB : Hid (RB w xs A n c) := ⟨Hl.out, by omega, hcap, hcap2, H256.out, hS⟩
  have Hlim : Hid (xs.length ≤ 65536) := by show _ ≤ _; rw [← Hl.out]; omega
  obtain ⟨n1, hn1⟩ : ∃ a, smallS xs 1 = a := ⟨_, rfl⟩
  obtain ⟨vv, hvv⟩ : ∃ a, saidS xs 3 = a := ⟨_, rfl⟩
  obtain ⟨str, hstr⟩ : ∃ a, a = strOf vv := ⟨_, rfl⟩
  obtain ⟨n5, hn5⟩ : ∃ a, bigS xs 5 = a := ⟨_, rfl⟩
  obtain ⟨n7, hn7⟩ : ∃ a, smallS xs 7 = a := ⟨_, rfl⟩
  obtain ⟨n17, hn17⟩ : ∃ a, bigS xs 17 = a := ⟨_, rfl⟩
  obtain ⟨n19, hn19⟩ : ∃ a, bigS xs 19 = a := ⟨_, rfl⟩
  obtain ⟨b19, hb19⟩ : ∃ a, n19 % 4294967296 = a := ⟨_, rfl⟩
  have hw19 : IntKind.u32.wrap (n19 : Int) = (b19 : Int) := by rw [IntKind.wrap_u32]; omega
  have Hn1 := hide hn1
  have Hvv := hide hvv
  have Hstr := hide hstr
  have Hn5 := hide hn5
  have Hn7 := hide hn7
  have Hn17 := hide hn17
  have Hn19 := hide hn19
  have Hb19 := hide hb19
  clear hn1 hvv hstr hn5 hn7 hn17 hn19 hb19 hS
  obtain ⟨wz, hwz⟩ : ∃ w0, w.alloc (.cells #[.int .i64 0, .int .i64 0, .int .i64 0, .int .u64 0, .slice none 0 0, .string ⟨#[]⟩, .int .u32 0, .int .i64 0, .int .i64 0, .int .i64 0, .int .i64 0, .int .i64 0, .int .i64 0, .int .u64 0, .int .u64 0, .int .u64 0, .int .i64 0, .slice none 0 0] tRpR) = w0 := ⟨_, rfl⟩
  have HFz : Hid (Fr (fun _ => False) w wz) := by show Fr _ _ _; rw [← hwz]; (repeat (first | with_reducible exact Fr.refl _ _ | with_reducible assumption | with_reducible refine Fr.drew ?_ | with_reducible refine Fr.drewN ?_ _ | with_reducible refine Fr.alloc ?_ _ | with_reducible refine Fr.setIn ?_ (by first | exact Or.inl rfl | exact Or.inr (by simp; done) | exact Or.inr (by simp; omega) | exact Or.inr (by omega)) _))
  have HBz : Hid (Bl wz w.heap.size tRpR #[.int .i64 0, .int .i64 0, .int .i64 0, .int .u64 0, .slice none 0 0, .string ⟨#[]⟩, .int .u32 0, .int .i64 0, .int .i64 0, .int .i64 0, .int .i64 0, .int .i64 0, .int .i64 0, .int .u64 0, .int .u64 0, .int .u64 0, .int .i64 0, .slice none 0 0]) := by show Bl _ _ _ _; rw [← hwz]; exact Bl.new _ _ _
  have Mz : Qt [] wz wz := ⟨Fr.refl _ _, fun x hx => by cases hx⟩
  have HRBz : Hid (RB wz xs A n c) := HRB.out.quiet HFz.out
  go_enter Try.func47, Try.ntmps47
  go_wp2_with fail
  (try rw [hwz])
  clear hwz
  refine (Qt.big Mz HRBz.out 17 Hn17).mono ?_
  rintro e wa ⟨rfl, hfa, Ma⟩
  go_wp2_with fail
  refine (Qt.big Ma HRBz.out 19 Hn19).mono ?_
  rintro e w0 ⟨rfl, hfb, Mb⟩
  have HF0 : Hid (Fr (fun _ => False) w w0) := HFz.out.trans Mb.fr
  have HBR : Hid (Bl w0 w.heap.size tRpR #[.int .i64 0, .int .i64 0, .int .i64 0, .int .u64 0, .slice none 0 0, .string ⟨#[]⟩, .int .u32 0, .int .i64 0, .int .i64 0, .int .i64 0, .int .i64 0, .int .i64 0, .int .i64 0, .int .u64 0, .int .u64 0, .int .u64 0, .int .i64 0, .slice none 0 0]) := HBz.out.fr Mb.fr id
  have hs0 : w.heap.size < w0.heap.size := HBR.out.lt
  have HRB0 := HRB
  have HRB : Hid (RB w0 xs A n c) := HRB0.out.quiet HF0.out
  have M0 : Qt [] w0 w0 := ⟨Fr.refl _ _, fun x hx => by cases hx⟩
  clear Mz Ma Mb hfa hfb HBz HFz HRBz
  go_wp2_with fail
  go_upto_region 5 with fail
  go_cut [0, 2, 3, 4, 6] (fun s0 s2 s3 s5 s4 wx => s0 = .slice A n c ∧ s2 = .pointer (some ⟨w.heap.size, 0, none⟩) ∧ s3 = .int .i64 0 ∧ s5 = .int .u64 (n17 : Int) ∧ ∃ (B4 lm ld : Nat) (LB : Option Addr), s4 = .pointer (some ⟨B4, 0, none⟩) ∧ Hid (Fr (fun _ => False) w0 wx ∧ Bl wx B4 tRpR #[.int .i64 n1, .int .i64 0, .int .i64 n7, .int .u64 (n5 : Int), .slice LB lm ld, .string str, .int .u32 (b19 : Int), .int .i64 0, .int .i64 0, .int .i64 0, .int .i64 0, .int .i64 0, .int .i64 0, .int .u64 0, .int .u64 0, .int .u64 0, .int .i64 0, .slice none 0 0] ∧ w0.heap.size ≤ B4 ∧ RLt wx (listS xs 18) LB lm ld))
  case first =>
    go_region_law
      (first
        | (have hk := M4; clear hk; go_simp; go_at_call 88; refine (Qt.list (by first | exact M4 | exact M4.push tRpR #[.int .i64 0, .int .i64 0, .int .i64 0, .int .u64 0, .slice none 0 0, .string ⟨#[]⟩, .int .u32 0, .int .i64 0, .int .i64 0, .int .i64 0, .int .i64 0, .int .i64 0, .int .i64 0, .int .u64 0, .int .u64 0, .int .u64 0, .int .i64 0, .slice none 0 0]) HRB.out 18).mono ?_; rintro e v5 ⟨LB, lm, ld, rfl, HLR, hf5, M5⟩; have g5 : Fr (fun _ => False) v2 v5 := (by first | exact g4.trans hf5 | exact (g4.alloc _).trans hf5); have g5a : ∀ o, Fr (fun _ => False) v2 (v5.alloc o) := fun o => g5.alloc o; have HL5 := HLR;
            first
              | (have Y5 := M5.hd; have HL9 := HL5; have Y6 := M5.hdle; have M9 := M5; have hst := run_storeAt_at (P := Try.prog) tRpR _ 0 tRpR #[.int .i64 0, .int .i64 0, .int .i64 0, .int .u64 0, .slice none 0 0, .string ⟨#[]⟩, .int .u32 0, .int .i64 0, .int .i64 0, .int .i64 0, .int .i64 0, .int .i64 0, .int .i64 0, .int .u64 0, .int .u64 0, .int .u64 0, .int .i64 0, .slice none 0 0] #[.int .i64 n1, .int .i64 0, .int .i64 n7, .int .u64 (n5 : Int), .slice LB lm ld, .string str, .int .u32 (b19 : Int), .int .i64 0, .int .i64 0, .int .i64 0, .int .i64 0, .int .i64 0, .int .i64 0, .int .u64 0, .int .u64 0, .int .u64 0, .int .i64 0, .slice none 0 0] #[.int .i64 n1, .int .i64 0, .int .i64 n7, .int .u64 (n5 : Int), .slice LB lm ld, .string str, .int .u32 (b19 : Int), .int .i64 0, .int .i64 0, .int .i64 0, .int .i64 0, .int .i64 0, .int .i64 0, .int .u64 0, .int .u64 0, .int .u64 0, .int .i64 0, .slice none 0 0] (by kernel_rfl) 18 18 rfl rfl (by decide) rfl rfl Y5)
              | (have Y5 := Bl.new v5 tRpR #[.int .i64 0, .int .i64 0, .int .i64 0, .int .u64 0, .slice none 0 0, .string ⟨#[]⟩, .int .u32 0, .int .i64 0, .int .i64 0, .int .i64 0, .int .i64 0, .int .i64 0, .int .i64 0, .int .u64 0, .int .u64 0, .int .u64 0, .int .i64 0, .slice none 0 0]; have HL9 : Hid (RL (v5.alloc (.cells #[.int .i64 0, .int .i64 0, .int .i64 0, .int .u64 0, .slice none 0 0, .string ⟨#[]⟩, .int .u32 0, .int .i64 0, .int .i64 0, .int .i64 0, .int .i64 0, .int .i64 0, .int .i64 0, .int .u64 0, .int .u64 0, .int .u64 0, .int .i64 0, .slice none 0 0] tRpR)) (listS xs 18) LB lm ld ∧ ∀ b o, LB = some ⟨b, o, none⟩ → Typed (v5.alloc (.cells #[.int .i64 0, .int .i64 0, .int .i64 0, .int .u64 0, .slice none 0 0, .string ⟨#[]⟩, .int .u32 0, .int .i64 0, .int .i64 0, .int .i64 0, .int .i64 0, .int .i64 0, .int .i64 0, .int .u64 0, .int .u64 0, .int .u64 0, .int .i64 0, .slice none 0 0] tRpR)) b 3) := ⟨HL5.out.1.quiet ((Fr.refl _ _).alloc _), fun b o e => (HL5.out.2 b o e).fr ((Fr.refl (fun _ => False) _).alloc _) id⟩; have Y6 := M5.fr.size; have M9 := M5.push tRpR #[.int .i64 0, .int .i64 0, .int .i64 0, .int .u64 0, .slice none 0 0, .string ⟨#[]⟩, .int .u32 0, .int .i64 0, .int .i64 0, .int .i64 0, .int .i64 0, .int .i64 0, .int .i64 0, .int .u64 0, .int .u64 0, .int .u64 0, .int .i64 0, .slice none 0 0]; have hst := run_storeAt_at (P := Try.prog) tRpR _ 0 tRpR #[.int .i64 0, .int .i64 0, .int .i64 0, .int .u64 0, .slice none 0 0, .string ⟨#[]⟩, .int .u32 0, .int .i64 0, .int .i64 0, .int .i64 0, .int .i64 0, .int .i64 0, .int .i64 0, .int .u64 0, .int .u64 0, .int .u64 0, .int .i64 0, .slice none 0 0] #[.int .i64 n1, .int .i64 0, .int .i64 n7, .int .u64 (n5 : Int), .slice LB lm ld, .string str, .int .u32 (b19 : Int), .int .i64 0, .int .i64 0, .int .i64 0, .int .i64 0, .int .i64 0, .int .i64 0, .int .u64 0, .int .u64 0, .int .u64 0, .int .i64 0, .slice none 0 0] #[.int .i64 n1, .int .i64 0, .int .i64 n7, .int .u64 (n5 : Int), .slice LB lm ld, .string str, .int .u32 (b19 : Int), .int .i64 0, .int .i64 0, .int .i64 0, .int .i64 0, .int .i64 0, .int .i64 0, .int .u64 0, .int .u64 0, .int .u64 0, .int .i64 0, .slice none 0 0] (by kernel_rfl) 18 18 rfl rfl (by decide) rfl rfl Y5))
        | (have hk := M3; clear hk; go_simp; go_at_call 86; refine (Qt.small (by first | exact M3 | exact M3.push tRpR #[.int .i64 0, .int .i64 0, .int .i64 0, .int .u64 0, .slice none 0 0, .string ⟨#[]⟩, .int .u32 0, .int .i64 0, .int .i64 0, .int .i64 0, .int .i64 0, .int .i64 0, .int .i64 0, .int .u64 0, .int .u64 0, .int .u64 0, .int .i64 0, .slice none 0 0]) HRB.out 7 Hn7).mono ?_; rintro e v4 ⟨rfl, hf4, M4⟩; have g4 : Fr (fun _ => False) v2 v4 := (by first | exact g3.trans hf4 | exact (g3.alloc _).trans hf4); have g4a : ∀ o, Fr (fun _ => False) v2 (v4.alloc o) := fun o => g4.alloc o)
        | (have hk := M2; clear hk; go_simp; go_at_call 85; refine (Qt.big (by first | exact M2 | exact M2.push tRpR #[.int .i64 0, .int .i64 0, .int .i64 0, .int .u64 0, .slice none 0 0, .string ⟨#[]⟩, .int .u32 0, .int .i64 0, .int .i64 0, .int .i64 0, .int .i64 0, .int .i64 0, .int .i64 0, .int .u64 0, .int .u64 0, .int .u64 0, .int .i64 0, .slice none 0 0]) HRB.out 5 Hn5).mono ?_; rintro e v3 ⟨rfl, hf3, M3⟩; have g3 : Fr (fun _ => False) v2 v3 := (by first | exact g2.trans hf3 | exact (g2.alloc _).trans hf3); have g3a : ∀ o, Fr (fun _ => False) v2 (v3.alloc o) := fun o => g3.alloc o)
        | (have hk := M1; clear hk; go_simp; go_at_call 87; refine (Qt.said (by first | exact M1 | exact M1.push tRpR #[.int .i64 0, .int .i64 0, .int .i64 0, .int .u64 0, .slice none 0 0, .string ⟨#[]⟩, .int .u32 0, .int .i64 0, .int .i64 0, .int .i64 0, .int .i64 0, .int .i64 0, .int .i64 0, .int .u64 0, .int .u64 0, .int .u64 0, .int .i64 0, .slice none 0 0]) HRB.out 3 Hvv).mono ?_; rintro e v2 ⟨SB, sm, sd, rfl, HSR, hf2, M2⟩; have hcv : ∀ w', Fr (fun _ => False) v2 w' → (convert 22 9 (.slice SB sm sd)).run Try.prog w' = .ok (.string str) w' := (fun w' hf => (by rw [Hstr.out]; exact conv_bs w' SB sm sd _ HSR.out.byte (HSR.out.quiet hf).sl)); have g2 : Fr (fun _ => False) v2 v2 := Fr.refl _ _; have g2a : ∀ o, Fr (fun _ => False) v2 (v2.alloc o) := fun o => (Fr.refl _ _).alloc o)
        | (go_simp; go_at_call 86; refine (Qt.small (by first | exact M0.step ((Fr.refl _ _).drew) | exact (M0.step ((Fr.refl _ _).drew)).pushAt tRpR #[.int .i64 0, .int .i64 0, .int .i64 0, .int .u64 0, .slice none 0 0, .string ⟨#[]⟩, .int .u32 0, .int .i64 0, .int .i64 0, .int .i64 0, .int .i64 0, .int .i64 0, .int .i64 0, .int .u64 0, .int .u64 0, .int .u64 0, .int .i64 0, .slice none 0 0] w0.heap.size rfl) HRB.out 1 Hn1).mono ?_; rintro e v1 ⟨rfl, hf1, M1⟩)
        | fail)
    all_goals (go_wp2_with fail; go_meet; case rel => exact ⟨rfl, rfl, rfl, rfl, _, _, _, _, rfl, Fr.setRow M9.fr (.inr Y6) _, Y5.setRow _, Y6, RLt.row (show RLt _ _ _ _ _ from HL9.out) Y5.typed (by decide) _⟩)
  case rest =>
  obtain ⟨rfl, rfl, rfl, rfl, B4, lm, ld, LB, rfl, HW⟩ := hcut
  obtain ⟨w3, rfl⟩ : ∃ w3, w3 = wc := ⟨_, rfl⟩
  obtain ⟨hF3, hB3, hle4, hL3⟩ := HW.out
  have HF3 := hide hF3
  have HB3 := hide hB3
  have HL3 := hide hL3
  clear hF3 hB3 HW M0 hL3
  by_cases herr : 999 < n17
  · have hb : (999 : Int) < (n17 : Int) := by omega
    have HBR3 := HBR.out.fr HF3.out id
    have hst := run_storeAt_at (P := Try.prog) tRpR w.heap.size 0 tRpR #[.int .i64 0, .int .i64 0, .int .i64 0, .int .u64 0, .slice none 0 0, .string ⟨#[]⟩, .int .u32 0, .int .i64 0, .int .i64 0, .int .i64 0, .int .i64 0, .int .i64 0, .int .i64 0, .int .u64 0, .int .u64 0, .int .u64 0, .int .i64 0, .slice none 0 0] #[.int .i64 0, .int .i64 0, .int .i64 0, .int .u64 0, .slice none 0 0, .string ⟨#[]⟩, .int .u32 0, .int .i64 0, .int .i64 0, .int .i64 0, .int .i64 0, .int .i64 0, .int .i64 0, .int .u64 0, .int .u64 0, .int .u64 0, .int .i64 0, .slice none 0 0] #[.int .i64 0, .int .i64 0, .int .i64 0, .int .u64 0, .slice none 0 0, .string ⟨#[]⟩, .int .u32 0, .int .i64 0, .int .i64 0, .int .i64 0, .int .i64 0, .int .i64 0, .int .i64 0, .int .u64 0, .int .u64 0, .int .u64 0, .int .i64 0, .slice none 0 0] (by kernel_rfl) 18 18 rfl rfl (by decide) rfl rfl HBR3
    have Herr := hide herr
    clear herr
    go_wp2_with fail
    try simp only [Exit.inBlock, Exit.then]
    refine bodyPost_ret (results_row_tmp rfl _ _ w.heap.size tRpR #[.int .i64 0, .int .i64 0, .int .i64 0, .int .u64 0, .slice none 0 0, .string ⟨#[]⟩, .int .u32 0, .int .i64 0, .int .i64 0, .int .i64 0, .int .i64 0, .int .i64 0, .int .i64 0, .int .u64 0, .int .u64 0, .int .u64 0, .int .i64 0, .slice none 0 0] (0, 0) _ rfl (HBR3.setRow #[.int .i64 0, .int .i64 0, .int .i64 0, .int .u64 0, .slice none 0 0, .string ⟨#[]⟩, .int .u32 0, .int .i64 0, .int .i64 0, .int .i64 0, .int .i64 0, .int .i64 0, .int .i64 0, .int .u64 0, .int .u64 0, .int .u64 0, .int .i64 0, .slice none 0 0]) Try.underlying35 rfl (by kernel_rfl)) rfl ?_
    refine .inr (.inl ⟨Hlim.out, fun p hp => ?_, rfl, (HF0.out.trans HF3.out).setRow (.inr (Nat.le_refl _)) _⟩)
    have h1 := (RR.ok_split ((repS_iff H256.out).2 ⟨p, hp⟩).1).2.1.2
    have h2 : (repS xs).err = (n17 : Int) := by show (bigS xs 17 : Int) = _; rw [Hn17.out]
    have := Herr.out
    omega
  have hb : ¬ (999 : Int) < (n17 : Int) := by omega
  have hq17 : IntKind.i64.wrap (n17 : Int) = (n17 : Int) := IntWalk.i64_in _ (by omega)
  clear herr
  have a0 := run_storeAt_cell (P := Try.prog) 32 (by kernel_rfl) (i := 1) HB3.out (.int .i64 (n17 : Int)) #[.int .i64 n1, .int .i64 (n17 : Int), .int .i64 n7, .int .u64 (n5 : Int), .slice LB lm ld, .string str, .int .u32 (b19 : Int), .int .i64 0, .int .i64 0, .int .i64 0, .int .i64 0, .int .i64 0, .int .i64 0, .int .u64 0, .int .u64 0, .int .u64 0, .int .i64 0, .slice none 0 0] 18 rfl (by decide) rfl rfl rfl
  have HL4 : Hid (RLt (w3.setRow B4 #[.int .i64 n1, .int .i64 (n17 : Int), .int .i64 n7, .int .u64 (n5 : Int), .slice LB lm ld, .string str, .int .u32 (b19 : Int), .int .i64 0, .int .i64 0, .int .i64 0, .int .i64 0, .int .i64 0, .int .i64 0, .int .u64 0, .int .u64 0, .int .u64 0, .int .i64 0, .slice none 0 0]) (listS xs 18) LB lm ld) := HL3.out.row HB3.out.typed (by decide) _
  have Q4 : Qt [(B4, tRpR, #[.int .i64 n1, .int .i64 (n17 : Int), .int .i64 n7, .int .u64 (n5 : Int), .slice LB lm ld, .string str, .int .u32 (b19 : Int), .int .i64 0, .int .i64 0, .int .i64 0, .int .i64 0, .int .i64 0, .int .i64 0, .int .u64 0, .int .u64 0, .int .u64 0, .int .i64 0, .slice none 0 0])] w0 (w3.setRow B4 #[.int .i64 n1, .int .i64 (n17 : Int), .int .i64 n7, .int .u64 (n5 : Int), .slice LB lm ld, .string str, .int .u32 (b19 : Int), .int .i64 0, .int .i64 0, .int .i64 0, .int .i64 0, .int .i64 0, .int .i64 0, .int .u64 0, .int .u64 0, .int .u64 0, .int .i64 0, .slice none 0 0]) := ⟨HF3.out.setRow (.inr hle4) _, fun x hx => by rw [List.mem_singleton.1 hx]; exact ⟨HB3.out.setRow _, hle4⟩⟩
  obtain ⟨w4, hw4⟩ : ∃ w4, w3.setRow B4 #[.int .i64 n1, .int .i64 (n17 : Int), .int .i64 n7, .int .u64 (n5 : Int), .slice LB lm ld, .string str, .int .u32 (b19 : Int), .int .i64 0, .int .i64 0, .int .i64 0, .int .i64 0, .int .i64 0, .int .i64 0, .int .u64 0, .int .u64 0, .int .u64 0, .int .i64 0, .slice none 0 0] = w4 := ⟨_, rfl⟩
  rw [hw4] at a0 HL4 Q4
  clear hw4 HL3 HB3 HF3
  go_wp2_with fail
  clear a0
  refine (Qt.said Q4 HRB.out 12 (v := saidS xs 12) rfl).mono ?_
  rintro e w7 ⟨SB2, sm2, sd2, rfl, HR12, hf7, Q7⟩
  go_wp2_with fail
  refine (rreadContract_any w7 _ SB2 sm2 sd2 HR12.out).mono ?_
  rintro e w8 ⟨qk, rfl, Hqk, hf8⟩
  have Q8 := Q7.step hf8
  have a2 := run_storeAt_at (P := Try.prog) tCoR B4 7 tRpR _ #[.int .i64 n1, .int .i64 (n17 : Int), .int .i64 n7, .int .u64 (n5 : Int), .slice LB lm ld, .string str, .int .u32 (b19 : Int), .int .i64 qk.num, .int .i64 qk.kind, .int .i64 qk.by_, .int .i64 qk.dl, .int .i64 qk.to_, .int .i64 qk.want, .int .u64 (qk.pr : Int), .int .u64 (qk.rs : Int), .int .u64 (qk.st : Int), .int .i64 qk.of_, .slice qk.A qk.n qk.c] #[.int .i64 qk.num, .int .i64 qk.kind, .int .i64 qk.by_, .int .i64 qk.dl, .int .i64 qk.to_, .int .i64 qk.want, .int .u64 (qk.pr : Int), .int .u64 (qk.rs : Int), .int .u64 (qk.st : Int), .int .i64 qk.of_, .slice qk.A qk.n qk.c] (by kernel_rfl) 18 11 rfl rfl (by decide) rfl rfl Q8.hd
  have L9 : Hid (RLt (w8.setRow B4 #[.int .i64 n1, .int .i64 (n17 : Int), .int .i64 n7, .int .u64 (n5 : Int), .slice LB lm ld, .string str, .int .u32 (b19 : Int), .int .i64 qk.num, .int .i64 qk.kind, .int .i64 qk.by_, .int .i64 qk.dl, .int .i64 qk.to_, .int .i64 qk.want, .int .u64 (qk.pr : Int), .int .u64 (qk.rs : Int), .int .u64 (qk.st : Int), .int .i64 qk.of_, .slice qk.A qk.n qk.c]) (listS xs 18) LB lm ld) := (HL4.out.quiet (hf7.trans hf8)).row Q8.hd.typed (by decide) _
  have C9 : Hid (RCon (w8.setRow B4 #[.int .i64 n1, .int .i64 (n17 : Int), .int .i64 n7, .int .u64 (n5 : Int), .slice LB lm ld, .string str, .int .u32 (b19 : Int), .int .i64 qk.num, .int .i64 qk.kind, .int .i64 qk.by_, .int .i64 qk.dl, .int .i64 qk.to_, .int .i64 qk.want, .int .u64 (qk.pr : Int), .int .u64 (qk.rs : Int), .int .u64 (qk.st : Int), .int .i64 qk.of_, .slice qk.A qk.n qk.c]) qk) := Hqk.out.2.row Q8.hd.typed (by decide) (by decide) _
  have Q9 : Qt [(B4, tRpR, #[.int .i64 n1, .int .i64 (n17 : Int), .int .i64 n7, .int .u64 (n5 : Int), .slice LB lm ld, .string str, .int .u32 (b19 : Int), .int .i64 qk.num, .int .i64 qk.kind, .int .i64 qk.by_, .int .i64 qk.dl, .int .i64 qk.to_, .int .i64 qk.want, .int .u64 (qk.pr : Int), .int .u64 (qk.rs : Int), .int .u64 (qk.st : Int), .int .i64 qk.of_, .slice qk.A qk.n qk.c])] w0 (w8.setRow B4 #[.int .i64 n1, .int .i64 (n17 : Int), .int .i64 n7, .int .u64 (n5 : Int), .slice LB lm ld, .string str, .int .u32 (b19 : Int), .int .i64 qk.num, .int .i64 qk.kind, .int .i64 qk.by_, .int .i64 qk.dl, .int .i64 qk.to_, .int .i64 qk.want, .int .u64 (qk.pr : Int), .int .u64 (qk.rs : Int), .int .u64 (qk.st : Int), .int .i64 qk.of_, .slice qk.A qk.n qk.c]) := ⟨Fr.setRow Q8.fr (.inr hle4) _, fun x hx => by rw [List.mem_singleton.1 hx]; exact ⟨Q8.hd.setRow _, hle4⟩⟩
  obtain ⟨w9, hw9⟩ : ∃ w9, w8.setRow B4 #[.int .i64 n1, .int .i64 (n17 : Int), .int .i64 n7, .int .u64 (n5 : Int), .slice LB lm ld, .string str, .int .u32 (b19 : Int), .int .i64 qk.num, .int .i64 qk.kind, .int .i64 qk.by_, .int .i64 qk.dl, .int .i64 qk.to_, .int .i64 qk.want, .int .u64 (qk.pr : Int), .int .u64 (qk.rs : Int), .int .u64 (qk.st : Int), .int .i64 qk.of_, .slice qk.A qk.n qk.c] = w9 := ⟨_, rfl⟩
  rw [hw9] at a2 L9 C9 Q9
  clear Q4 Q7 Q8 HL4 hw9 hf7 hf8
  have rC := run_loadAt_at (P := Try.prog) tRpR B4 0 tRpR _ #[.int .i64 n1, .int .i64 (n17 : Int), .int .i64 n7, .int .u64 (n5 : Int), .slice LB lm ld, .string str, .int .u32 (b19 : Int), .int .i64 qk.num, .int .i64 qk.kind, .int .i64 qk.by_, .int .i64 qk.dl, .int .i64 qk.to_, .int .i64 qk.want, .int .u64 (qk.pr : Int), .int .u64 (qk.rs : Int), .int .u64 (qk.st : Int), .int .i64 qk.of_, .slice qk.A qk.n qk.c] _ Try.underlying35 rfl (by kernel_rfl) rfl Q9.hd
  go_wp2_with fail
  clear a2 rC
  obtain ⟨q, hq⟩ : ∃ q : RR, q = ⟨n1, n17, n7, n5, LB, lm, ld, listS xs 18, vv, b19, qk⟩ := ⟨_, rfl⟩
  have HK : Hid (q.like (repS xs)) := by
    show RR.like _ _
    rw [hq]
    unfold repS
    rw [Hn1.out, Hvv.out, Hn5.out, Hn7.out, Hn17.out, Hn19.out, Hb19.out]
    exact ⟨rfl, rfl, rfl, rfl, rfl, rfl, rfl, Hqk.out.1⟩
  have Hwf := hide (HK.out.wf (repS_wf H256.out))
  have Hat : Hid (q.at_ w9) := by rw [hq]; exact ⟨L9.out.1.sl, by have := L9.out.1.le; show lm ≤ _; omega, ⟨L9.out.1.cap, L9.out.1.cap2⟩, C9.out.at_⟩
  have HE : Hid (Calls Try.prog 44 #[.agg #[.int .i64 n1, .int .i64 (n17 : Int), .int .i64 n7, .int .u64 (n5 : Int), .slice LB lm ld, .string str, .int .u32 (b19 : Int), .int .i64 qk.num, .int .i64 qk.kind, .int .i64 qk.by_, .int .i64 qk.dl, .int .i64 qk.to_, .int .i64 qk.want, .int .u64 (qk.pr : Int), .int .u64 (qk.rs : Int), .int .u64 (qk.st : Int), .int .i64 qk.of_, .slice qk.A qk.n qk.c]] w9 (PutPost (if q.ok then q.form else []) (if q.ok then 0 else 270) w9)) := by
    have h1 := rEncodeReply_any w9 q Hat.out Hwf.out
    have h2 : (.agg #[.int .i64 q.id, .int .i64 q.err, .int .i64 q.num, .int .u64 (q.co : Int), .slice q.A q.n q.c, .string (strOf q.txt), .int .u32 (q.bits : Int), .int .i64 q.k.num, .int .i64 q.k.kind, .int .i64 q.k.by_, .int .i64 q.k.dl, .int .i64 q.k.to_, .int .i64 q.k.want, .int .u64 (q.k.pr : Int), .int .u64 (q.k.rs : Int), .int .u64 (q.k.st : Int), .int .i64 q.k.of_, .slice q.k.A q.k.n q.k.c] : Value) = .agg #[.int .i64 n1, .int .i64 (n17 : Int), .int .i64 n7, .int .u64 (n5 : Int), .slice LB lm ld, .string str, .int .u32 (b19 : Int), .int .i64 qk.num, .int .i64 qk.kind, .int .i64 qk.by_, .int .i64 qk.dl, .int .i64 qk.to_, .int .i64 qk.want, .int .u64 (qk.pr : Int), .int .u64 (qk.rs : Int), .int .u64 (qk.st : Int), .int .i64 qk.of_, .slice qk.A qk.n qk.c] := by rw [hq, Hstr.out]
    rw [h2] at h1
    exact h1
  have Hq := hide hq
  obtain ⟨ok, hok⟩ : ∃ ok, q.ok = ok := ⟨_, rfl⟩
  rw [hok] at HE
  have Hok := hide hok
  have HQ9 := hide Q9
  clear hok hq Q9
  refine HE.out.mono ?_
  rintro e w10 ⟨FA, fn, fc, fg, rfl, HO, -, hf10⟩
  have HF10 : Hid (Fr (fun _ => False) w w10) := HF0.out.trans (HQ9.out.fr.trans hf10)
  have HB10 : Hid (Bl w10 w.heap.size tRpR #[.int .i64 0, .int .i64 0, .int .i64 0, .int .u64 0, .slice none 0 0, .string ⟨#[]⟩, .int .u32 0, .int .i64 0, .int .i64 0, .int .i64 0, .int .i64 0, .int .i64 0, .int .i64 0, .int .u64 0, .int .u64 0, .int .u64 0, .int .i64 0, .slice none 0 0]) := HBR.out.fr (HQ9.out.fr.trans hf10) id
  have Hf10 := hide hf10
  clear hf10
  cases ok with
  | false =>
    have hst := run_storeAt_at (P := Try.prog) tRpR w.heap.size 0 tRpR #[.int .i64 0, .int .i64 0, .int .i64 0, .int .u64 0, .slice none 0 0, .string ⟨#[]⟩, .int .u32 0, .int .i64 0, .int .i64 0, .int .i64 0, .int .i64 0, .int .i64 0, .int .i64 0, .int .u64 0, .int .u64 0, .int .u64 0, .int .i64 0, .slice none 0 0] #[.int .i64 0, .int .i64 0, .int .i64 0, .int .u64 0, .slice none 0 0, .string ⟨#[]⟩, .int .u32 0, .int .i64 0, .int .i64 0, .int .i64 0, .int .i64 0, .int .i64 0, .int .i64 0, .int .u64 0, .int .u64 0, .int .u64 0, .int .i64 0, .slice none 0 0] #[.int .i64 0, .int .i64 0, .int .i64 0, .int .u64 0, .slice none 0 0, .string ⟨#[]⟩, .int .u32 0, .int .i64 0, .int .i64 0, .int .i64 0, .int .i64 0, .int .i64 0, .int .i64 0, .int .u64 0, .int .u64 0, .int .u64 0, .int .i64 0, .slice none 0 0] (by kernel_rfl) 18 18 rfl rfl (by decide) rfl rfl HB10.out
    clear HO
    rw [if_neg (by decide)]
    go_wp2_with fail
    try simp only [Exit.inBlock, Exit.then]
    refine bodyPost_ret (results_row_tmp rfl _ _ w.heap.size tRpR #[.int .i64 0, .int .i64 0, .int .i64 0, .int .u64 0, .slice none 0 0, .string ⟨#[]⟩, .int .u32 0, .int .i64 0, .int .i64 0, .int .i64 0, .int .i64 0, .int .i64 0, .int .i64 0, .int .u64 0, .int .u64 0, .int .u64 0, .int .i64 0, .slice none 0 0] (0, 0) _ rfl (HB10.out.setRow #[.int .i64 0, .int .i64 0, .int .i64 0, .int .u64 0, .slice none 0 0, .string ⟨#[]⟩, .int .u32 0, .int .i64 0, .int .i64 0, .int .i64 0, .int .i64 0, .int .i64 0, .int .i64 0, .int .u64 0, .int .u64 0, .int .u64 0, .int .i64 0, .slice none 0 0]) Try.underlying35 rfl (by kernel_rfl)) rfl ?_
    refine .inr (.inl ⟨Hlim.out, fun p hp => ?_, rfl, HF10.out.setRow (.inr (Nat.le_refl _)) _⟩)
    have h1 := (repS_iff H256.out).2 ⟨p, hp⟩
    have h2 := HK.out.ok
    rw [Hok.out, h1.1] at h2
    cases h2
  | true =>
    rw [if_pos rfl] at HO
    rw [if_pos rfl]
    have cF := conv_bs w10 FA fn fc q.form (RR.form_b Hwf.out) HO.sl
    have cX := conv_bs w10 A n c xs H256.out (HRB.out.quiet (HQ9.out.fr.trans Hf10.out)).sl
    obtain ⟨s1, hs1⟩ : ∃ s, strOf q.form = s := ⟨_, rfl⟩
    obtain ⟨s2, hs2⟩ : ∃ s, strOf xs = s := ⟨_, rfl⟩
    rw [hs1] at cF
    rw [hs2] at cX
    clear HO
    by_cases heq : q.form = xs
    · have e12 : s1 = s2 := by rw [← hs1, ← hs2, heq]
      subst e12
      have Heq := hide heq
      have hst := run_storeAt_at (P := Try.prog) tRpR w.heap.size 0 tRpR #[.int .i64 0, .int .i64 0, .int .i64 0, .int .u64 0, .slice none 0 0, .string ⟨#[]⟩, .int .u32 0, .int .i64 0, .int .i64 0, .int .i64 0, .int .i64 0, .int .i64 0, .int .i64 0, .int .u64 0, .int .u64 0, .int .u64 0, .int .i64 0, .slice none 0 0] #[.int .i64 n1, .int .i64 (n17 : Int), .int .i64 n7, .int .u64 (n5 : Int), .slice LB lm ld, .string str, .int .u32 (b19 : Int), .int .i64 qk.num, .int .i64 qk.kind, .int .i64 qk.by_, .int .i64 qk.dl, .int .i64 qk.to_, .int .i64 qk.want, .int .u64 (qk.pr : Int), .int .u64 (qk.rs : Int), .int .u64 (qk.st : Int), .int .i64 qk.of_, .slice qk.A qk.n qk.c] #[.int .i64 n1, .int .i64 (n17 : Int), .int .i64 n7, .int .u64 (n5 : Int), .slice LB lm ld, .string str, .int .u32 (b19 : Int), .int .i64 qk.num, .int .i64 qk.kind, .int .i64 qk.by_, .int .i64 qk.dl, .int .i64 qk.to_, .int .i64 qk.want, .int .u64 (qk.pr : Int), .int .u64 (qk.rs : Int), .int .u64 (qk.st : Int), .int .i64 qk.of_, .slice qk.A qk.n qk.c] (by kernel_rfl) 18 18 rfl rfl (by decide) rfl rfl HB10.out
      have rC := run_loadAt_at (P := Try.prog) tRpR B4 0 tRpR _ #[.int .i64 n1, .int .i64 (n17 : Int), .int .i64 n7, .int .u64 (n5 : Int), .slice LB lm ld, .string str, .int .u32 (b19 : Int), .int .i64 qk.num, .int .i64 qk.kind, .int .i64 qk.by_, .int .i64 qk.dl, .int .i64 qk.to_, .int .i64 qk.want, .int .u64 (qk.pr : Int), .int .u64 (qk.rs : Int), .int .u64 (qk.st : Int), .int .i64 qk.of_, .slice qk.A qk.n qk.c] _ Try.underlying35 rfl (by kernel_rfl) rfl (HQ9.out.hd.fr Hf10.out id)
      clear hs1 hs2 heq
      go_wp2_with fail
      try simp only [Exit.inBlock, Exit.then]
      refine bodyPost_ret (results_row_tmp rfl _ _ w.heap.size tRpR #[.int .i64 n1, .int .i64 (n17 : Int), .int .i64 n7, .int .u64 (n5 : Int), .slice LB lm ld, .string str, .int .u32 (b19 : Int), .int .i64 qk.num, .int .i64 qk.kind, .int .i64 qk.by_, .int .i64 qk.dl, .int .i64 qk.to_, .int .i64 qk.want, .int .u64 (qk.pr : Int), .int .u64 (qk.rs : Int), .int .u64 (qk.st : Int), .int .i64 qk.of_, .slice qk.A qk.n qk.c] (0, 0) _ rfl (HB10.out.setRow #[.int .i64 n1, .int .i64 (n17 : Int), .int .i64 n7, .int .u64 (n5 : Int), .slice LB lm ld, .string str, .int .u32 (b19 : Int), .int .i64 qk.num, .int .i64 qk.kind, .int .i64 qk.by_, .int .i64 qk.dl, .int .i64 qk.to_, .int .i64 qk.want, .int .u64 (qk.pr : Int), .int .u64 (qk.rs : Int), .int .u64 (qk.st : Int), .int .i64 qk.of_, .slice qk.A qk.n qk.c]) Try.underlying35 rfl (by kernel_rfl)) rfl ?_
      refine .inr (.inr ⟨Hlim.out, q, ⟨Hok.out, Hwf.out, Heq.out⟩, by rw [Hq.out, Hstr.out]; rfl, ?_, HF10.out.setRow (.inr (Nat.le_refl _)) _⟩)
      rw [Hq.out]
      exact ⟨(L9.out.quiet Hf10.out).row HB10.out.typed (by decide) _, (C9.out.quiet Hf10.out).row HB10.out.typed (by decide) (by decide) _⟩
    · have ne12 : ¬ s1 = s2 := fun e => heq (strOf_inj3 (RR.form_b Hwf.out) H256.out (by rw [hs1, hs2, e]))
      have ne12b : (s1.toList == s2.toList) = false := by
        rw [beq_eq_false_iff_ne]
        intro e
        rw [ByteArray.toList_eq, ByteArray.toList_eq] at e
        exact ne12 (by cases s1; cases s2; congr 1; exact Array.toList_inj.1 e)
      have Hne := hide heq
      have hst := run_storeAt_at (P := Try.prog) tRpR w.heap.size 0 tRpR #[.int .i64 0, .int .i64 0, .int .i64 0, .int .u64 0, .slice none 0 0, .string ⟨#[]⟩, .int .u32 0, .int .i64 0, .int .i64 0, .int .i64 0, .int .i64 0, .int .i64 0, .int .i64 0, .int .u64 0, .int .u64 0, .int .u64 0, .int .i64 0, .slice none 0 0] #[.int .i64 0, .int .i64 0, .int .i64 0, .int .u64 0, .slice none 0 0, .string ⟨#[]⟩, .int .u32 0, .int .i64 0, .int .i64 0, .int .i64 0, .int .i64 0, .int .i64 0, .int .i64 0, .int .u64 0, .int .u64 0, .int .u64 0, .int .i64 0, .slice none 0 0] #[.int .i64 0, .int .i64 0, .int .i64 0, .int .u64 0, .slice none 0 0, .string ⟨#[]⟩, .int .u32 0, .int .i64 0, .int .i64 0, .int .i64 0, .int .i64 0, .int .i64 0, .int .i64 0, .int .u64 0, .int .u64 0, .int .u64 0, .int .i64 0, .slice none 0 0] (by kernel_rfl) 18 18 rfl rfl (by decide) rfl rfl HB10.out
      clear hs1 hs2 heq
      go_wp2_with fail
      try simp only [Exit.inBlock, Exit.then]
      refine bodyPost_ret (results_row_tmp rfl _ _ w.heap.size tRpR #[.int .i64 0, .int .i64 0, .int .i64 0, .int .u64 0, .slice none 0 0, .string ⟨#[]⟩, .int .u32 0, .int .i64 0, .int .i64 0, .int .i64 0, .int .i64 0, .int .i64 0, .int .i64 0, .int .u64 0, .int .u64 0, .int .u64 0, .int .i64 0, .slice none 0 0] (0, 0) _ rfl (HB10.out.setRow #[.int .i64 0, .int .i64 0, .int .i64 0, .int .u64 0, .slice none 0 0, .string ⟨#[]⟩, .int .u32 0, .int .i64 0, .int .i64 0, .int .i64 0, .int .i64 0, .int .i64 0, .int .i64 0, .int .u64 0, .int .u64 0, .int .u64 0, .int .i64 0, .slice none 0 0]) Try.underlying35 rfl (by kernel_rfl)) rfl ?_
      refine .inr (.inl ⟨Hlim.out, fun p hp => ?_, rfl, HF10.out.setRow (.inr (Nat.le_refl _)) _⟩)
      have h1 := (repS_iff H256.out).2 ⟨p, hp⟩
      exact Hne.out (HK.out.form.trans h1.2)
end Go.Proofs.Ytlcjhbemgagchaa
end
