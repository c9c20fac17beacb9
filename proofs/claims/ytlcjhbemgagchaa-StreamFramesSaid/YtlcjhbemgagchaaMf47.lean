/-
  Texts merged into one, to keep the claim small: PrN4, Pr7.
-/
import Derived.Test.YtlcjhbemgagchaaMf39
import Derived.Test.YtlcjhbemgagchaaMf40
import Derived.Test.YtlcjhbemgagchaaMf41
import Derived.Test.YtlcjhbemgagchaaMf42
import Derived.Test.YtlcjhbemgagchaaMf43
import Derived.Test.YtlcjhbemgagchaaMf44
import Derived.Test.YtlcjhbemgagchaaMf45
import Derived.Test.YtlcjhbemgagchaaMf46
import Derived.Laws.Rows
import Derived.Test.YtlcjhbemgagchaaMf33
section
/-
  bazaarref27's May of any command (XPrN3 without the law's walk: never import both).
-/
namespace Go.Proofs.Ytlcjhbemgagchaa
open Go.RowKit
set_option linter.unusedVariables false
theorem May_any (w : World) (r : KC) (h : r.at_ w) (hwf : r.wf) :
    Calls Try.prog 74 #[.agg #[.int .i64 r.id, .int .i64 r.kind, .string (strOf r.name), .int .i64 r.to_, .int .u64 (r.co : Int), .int .i64 r.item, .int .i64 r.num, .int .i64 r.of_, .int .i64 r.e.acc, .int .i64 r.e.item, .int .u64 (r.e.co : Int), .int .u64 (r.e.pr : Int), .slice r.e.A r.e.n r.e.c, .int .i64 r.k.num, .int .i64 r.k.kind, .int .i64 r.k.by_, .int .i64 r.k.dl, .int .i64 r.k.to_, .int .i64 r.k.want, .int .u64 (r.k.pr : Int), .int .u64 (r.k.rs : Int), .int .u64 (r.k.st : Int), .int .i64 r.k.of_, .slice r.k.A r.k.n r.k.c]] w fun e w' => e = .returned (.bool r.ok) ∧ Fr (fun _ => False) w w' := by
  cases hf : r.fine with
  | false =>
    have hok : r.ok = false := by unfold KC.ok; rw [hf]; rfl
    rw [hok]
    exact May_unfine w r h hf
  | true =>
    have hk := (KC.fine_split hf).1
    have hd : r.kind = 1 ∨ r.kind = 2 ∨ r.kind = 3 ∨ r.kind = 4 ∨ r.kind = 5 ∨ r.kind = 6 ∨ r.kind = 7 ∨ r.kind = 8 ∨ r.kind = 9 ∨ r.kind = 10 ∨ r.kind = 11 ∨ r.kind = 12 ∨ r.kind = 13 ∨ r.kind = 14 := by omega
    rcases hd with e | e | e | e | e | e | e | e | e | e | e | e | e | e
    · exact May_fine1 w r h hwf hf e
    · exact May_fine2 w r h hwf hf e
    · exact May_fine3 w r h hwf hf e
    · exact May_fine4 w r h hwf hf e
    · exact May_fine5 w r h hwf hf e
    · exact May_fine6 w r h hwf hf e
    · exact May_fine7 w r h hwf hf e
    · exact May_fine8 w r h hwf hf e
    · exact May_fine9 w r h hwf hf e
    · exact May_fine10 w r h hwf hf e
    · exact May_fine11 w r h hwf hf e
    · exact May_fine12 w r h hwf hf e
    · exact May_fine13 w r h hwf hf e
    · exact May_fine14 w r h hwf hf e
end Go.Proofs.Ytlcjhbemgagchaa
end

section
/-
  proto: EncodeReply of the program. (printed by pr_write.py)
-/
namespace Go.Proofs.Ytlcjhbemgagchaa
open Go.RowKit
set_option linter.unusedVariables false
set_option linter.unusedSimpArgs false
set_option maxHeartbeats 8000000 in
set_option maxRecDepth 8000 in
theorem EncodeReply_any (w : World) (r : RR) (h : r.at_ w) (hwf : r.wf) :
    Calls Try.prog 45 #[.agg #[.int .i64 r.id, .int .i64 r.err, .int .i64 r.num, .int .u64 (r.co : Int), .slice r.A r.n r.c, .string (strOf r.txt), .int .u32 (r.bits : Int), .int .i64 r.k.num, .int .i64 r.k.kind, .int .i64 r.k.by_, .int .i64 r.k.dl, .int .i64 r.k.to_, .int .i64 r.k.want, .int .u64 (r.k.pr : Int), .int .u64 (r.k.rs : Int), .int .u64 (r.k.st : Int), .int .i64 r.k.of_, .slice r.k.A r.k.n r.k.c]] w (PutPost (if r.ok then r.form else []) (if r.ok then 0 else 270) w) := by
  have HAt := hide h
  have Hlen : Hid (r.n = r.items.length) := h.sl.ilen
  have HC := hide (fun w1 (hf : Fr (fun _ => False) w w1) => reply_any w1 r (h.quiet hf))
  cases hok : r.ok with
  | false =>
    rw [if_neg (by simp), if_neg (by simp)]
    simp only [hok] at HC
    clear h hwf HAt Hlen hok
    obtain ⟨id, err, num, co, A, n, c, items, txt, bits, k⟩ := r
    simp only at HC ⊢
    obtain ⟨str, hstr⟩ : ∃ str, strOf txt = str := ⟨_, rfl⟩
    rw [hstr] at HC ⊢
    clear hstr
    have hB := Bl.new w 35 #[.int .i64 id, .int .i64 err, .int .i64 num, .int .u64 (co : Int), .slice A n c, .string str, .int .u32 (bits : Int), .int .i64 k.num, .int .i64 k.kind, .int .i64 k.by_, .int .i64 k.dl, .int .i64 k.to_, .int .i64 k.want, .int .u64 (k.pr : Int), .int .u64 (k.rs : Int), .int .u64 (k.st : Int), .int .i64 k.of_, .slice k.A k.n k.c]
    have hB2 := hB
    unfold Bl at hB2
    clear hB
    go_enter Try.func45, Try.ntmps45
    go_wp2_with (refine wpList_load_row rfl 35 _ rfl w.heap.size rfl 35 _ (0, 0) _ hB2 Try.underlying35 rfl (by kernel_rfl) ?_)
    clear hB2
    refine (HC.out _ (by (repeat (first | with_reducible exact Fr.refl _ _ | with_reducible assumption | with_reducible refine Fr.drew ?_ | with_reducible refine Fr.drewN ?_ _ | with_reducible refine Fr.alloc ?_ _ | with_reducible refine Fr.setIn ?_ (by first | exact Or.inl rfl | exact Or.inr (by simp; done) | exact Or.inr (by simp; omega) | exact Or.inr (by omega)) _)))).mono ?_
    rintro e w1 ⟨rfl, hf1⟩
    have HF : Hid (Fr (fun _ => False) w w1) := Fr.trans (by (repeat (first | with_reducible exact Fr.refl _ _ | with_reducible assumption | with_reducible refine Fr.drew ?_ | with_reducible refine Fr.drewN ?_ _ | with_reducible refine Fr.alloc ?_ _ | with_reducible refine Fr.setIn ?_ (by first | exact Or.inl rfl | exact Or.inr (by simp; done) | exact Or.inr (by simp; omega) | exact Or.inr (by omega)) _))) hf1
    clear hf1
    go_wp2_with fail
    go_ret2
    exact ⟨none, 0, 0, none, rfl, Ow.nil_ _ _ _, (fun b h => by cases h), HF.out⟩
  | true =>
  rw [if_pos rfl, if_pos rfl]
  simp only [hok] at HC
  have Hrl := hide (RR.len hok hwf)
  have Has := hide (RR.asc r)
  obtain ⟨a1, a2, a3, a4, a5, a6, a7⟩ := RR.ok_split hok
  have a4' := okL_mem a4 (n := r.num) (by simp)
  have Htx : Hid (r.txt.length ≤ 128 ∧ ∀ x ∈ r.txt, x < 256) := ⟨a3, hwf.txt⟩
  have Hck : Hid (r.k.ok = true ∧ r.k.wf) := ⟨a7, hwf.k⟩
  have Hit : Hid (okL r.items = true) := a6
  have hn5 : r.n ≤ 512 := by rw [Hlen.out]; exact a5
  obtain ⟨u1, u2, u3, u4⟩ := hwf
  have U1 := hide u1
  clear h hok a3 a4 a5 a6 a7 u1 u3 u4
  obtain ⟨id, err, num, co, A, n, c, items, txt, bits, k⟩ := r
  simp only at HAt Hlen HC Hrl Has Htx Hck Hit a1 a2 a4' hn5 u2 U1 ⊢
  obtain ⟨id, rfl⟩ : ∃ t : Nat, id = (t : Int) := ⟨id.toNat, by omega⟩
  obtain ⟨err, rfl⟩ : ∃ t : Nat, err = (t : Int) := ⟨err.toNat, by omega⟩
  obtain ⟨num, rfl⟩ : ∃ t : Nat, num = (t : Int) := ⟨num.toNat, by omega⟩
  have q1 : IntKind.u64.wrap (id : Int) = (id : Int) := IntWalk.u64_in _ (by omega)
  have q2 : IntKind.u64.wrap (err : Int) = (err : Int) := IntWalk.u64_in _ (by omega)
  have q3 : IntKind.u64.wrap (num : Int) = (num : Int) := IntWalk.u64_in _ (by omega)
  have q4 : IntKind.u64.wrap (bits : Int) = (bits : Int) := IntWalk.u64_in _ (by omega)
  have V : Hid (id < U64 ∧ err < U64 ∧ num < U64 ∧ bits < U64) := ⟨by unfold U64; omega, by unfold U64; omega, by unfold U64; omega, by unfold U64; omega⟩
  obtain ⟨str, hstr⟩ : ∃ str, strOf txt = str := ⟨_, rfl⟩
  rw [hstr] at HC ⊢
  have Hstr := hide hstr
  have HK : Hid (∀ w1, Fr (fun _ => False) w w1 → Calls Try.prog 61 #[.agg #[.int .i64 k.num, .int .i64 k.kind, .int .i64 k.by_, .int .i64 k.dl, .int .i64 k.to_, .int .i64 k.want, .int .u64 (k.pr : Int), .int .u64 (k.rs : Int), .int .u64 (k.st : Int), .int .i64 k.of_, .slice k.A k.n k.c]] w1 (NewW (WS.fresh.puts k.fl) w1)) := fun w1 hf => writeContract_any w1 k (HAt.out.k.quiet hf) Hck.out.1 Hck.out.2
  have Hkl := hide (CR.len Hck.out.1 Hck.out.2)
  clear a1 a2 a4' u2 hstr
  have hB := Bl.new w 35 #[.int .i64 (id : Int), .int .i64 (err : Int), .int .i64 (num : Int), .int .u64 (co : Int), .slice A n c, .string str, .int .u32 (bits : Int), .int .i64 k.num, .int .i64 k.kind, .int .i64 k.by_, .int .i64 k.dl, .int .i64 k.to_, .int .i64 k.want, .int .u64 (k.pr : Int), .int .u64 (k.rs : Int), .int .u64 (k.st : Int), .int .i64 k.of_, .slice k.A k.n k.c]
  have HBa := hide hB
  have hB2 := hB
  unfold Bl at hB2
  clear hB
  go_enter Try.func45, Try.ntmps45
  go_wp2_with (refine wpList_load_row rfl 35 _ rfl w.heap.size rfl 35 _ (0, 0) _ hB2 Try.underlying35 rfl (by kernel_rfl) ?_)
  clear hB2
  refine (HC.out _ (by (repeat (first | with_reducible exact Fr.refl _ _ | with_reducible assumption | with_reducible refine Fr.drew ?_ | with_reducible refine Fr.drewN ?_ _ | with_reducible refine Fr.alloc ?_ _ | with_reducible refine Fr.setIn ?_ (by first | exact Or.inl rfl | exact Or.inr (by simp; done) | exact Or.inr (by simp; omega) | exact Or.inr (by omega)) _)))).mono ?_
  rintro e w0 ⟨rfl, hf1⟩
  have HBb := hide (HBa.out.fr hf1 (fun x => x))
  have HFa : Hid (Fr (fun _ => False) w w0) := Fr.trans (by (repeat (first | with_reducible exact Fr.refl _ _ | with_reducible assumption | with_reducible refine Fr.drew ?_ | with_reducible refine Fr.drewN ?_ _ | with_reducible refine Fr.alloc ?_ _ | with_reducible refine Fr.setIn ?_ (by first | exact Or.inl rfl | exact Or.inr (by simp; done) | exact Or.inr (by simp; omega) | exact Or.inr (by omega)) _))) hf1
  have hlt0 := HBb.out.lt
  have HF0 : Hid (Fr (fun _ => False) w (w0.alloc (.cells #[.slice none 0 0, .int .i64 0, .int .i64 0] tWr))) := HFa.out.alloc _
  have HB : Hid (Bl (w0.alloc (.cells #[.slice none 0 0, .int .i64 0, .int .i64 0] tWr)) w.heap.size 35 _) := HBb.out.alloc _
  have HN : Hid (Bl (w0.alloc (.cells #[.slice none 0 0, .int .i64 0, .int .i64 0] tWr)) w0.heap.size tWr wcell) := Bl.new _ _ _
  have g0 := HBb.out.cell' (i := 0) rfl
  clear hf1 HBa HC
  go_wp2_with fail
  obtain ⟨w1, hw1⟩ : ∃ w1, w1 = w0.alloc (.cells #[.slice none 0 0, .int .i64 0, .int .i64 0] tWr) := ⟨_, rfl⟩
  obtain ⟨p, hp⟩ : ∃ p, p = w0.heap.size := ⟨_, rfl⟩
  rw [← hw1] at HF0 HB HN ⊢
  rw [← hp] at HN ⊢
  have Hp : Hid (w.heap.size ≤ p ∧ w.heap.size ≠ p) := ⟨by omega, by omega⟩
  have h0 : OOut tWr (wat p) WS.fresh w1 w1 := OOut.refl (wat_at HN.out) rfl (Fr.refl _ _)
  clear hw1 hp HN HBb g0 hlt0 HFa
  have d0 := OOut.go (args := fun v => #[v, .int .i64 1, .int .u64 (id : Int)]) h0 (fun o1 _ hT1 _ => tnumber_any _ o1 _ 1 id V.out.1 hT1)
  refine d0.mono ?_
  rintro e w2 ⟨rfl, h1⟩
  clear d0 h0
  have b1 := (h1.bl HB.out Hp.out.2).cell' (i := 5) rfl
  have d1 := OOut.go (args := fun v => #[v, .int .i64 3, .string (strOf txt)]) h1 (fun o1 _ hT1 _ => ttext_any _ o1 _ 3 txt (by have := Htx.out.1; omega) Htx.out.2 hT1)
  rw [Hstr.out] at d1
  go_wp2_with fail
  refine d1.mono ?_
  rintro e w3 ⟨rfl, h2⟩
  clear d1 h1 b1
  have b2 := (h2.bl HB.out Hp.out.2).cell' (i := 3) rfl
  go_wp2_with fail
  have d2 := OOut.go (args := fun v => #[v, .int .i64 5, .int .u64 (co : Int)]) h2 (fun o1 _ hT1 _ => tnumber_any _ o1 _ 5 co U1.out hT1)
  refine d2.mono ?_
  rintro e w4 ⟨rfl, h3⟩
  clear d2 h2 b2
  have b3 := (h3.bl HB.out Hp.out.2).cell' (i := 2) rfl
  go_wp2_with fail
  have d3 := OOut.go (args := fun v => #[v, .int .i64 7, .int .u64 (num : Int)]) h3 (fun o1 _ hT1 _ => tnumber_any _ o1 _ 7 num V.out.2.2.1 hT1)
  refine d3.mono ?_
  rintro e w5 ⟨rfl, h4⟩
  clear d3 h3 b3
  have e7 := (h4.bl HB.out Hp.out.2).cell' (i := 7) rfl
  have e8 := (h4.bl HB.out Hp.out.2).cell' (i := 8) rfl
  have e9 := (h4.bl HB.out Hp.out.2).cell' (i := 9) rfl
  have e10 := (h4.bl HB.out Hp.out.2).cell' (i := 10) rfl
  have e11 := (h4.bl HB.out Hp.out.2).cell' (i := 11) rfl
  have e12 := (h4.bl HB.out Hp.out.2).cell' (i := 12) rfl
  have e13 := (h4.bl HB.out Hp.out.2).cell' (i := 13) rfl
  have e14 := (h4.bl HB.out Hp.out.2).cell' (i := 14) rfl
  have e15 := (h4.bl HB.out Hp.out.2).cell' (i := 15) rfl
  have e16 := (h4.bl HB.out Hp.out.2).cell' (i := 16) rfl
  have e17 := (h4.bl HB.out Hp.out.2).cell' (i := 17) rfl
  have HOk := hide h4
  clear h4
  go_wp2_with fail
  refine (HK.out _ (HOk.out.fr0 HF0.out Hp.out.1)).mono ?_
  rintro e wk ⟨o2, rfl, hT2, -, hfk⟩
  have h4' := HOk.out.quiet hfk
  obtain ⟨p2, hp2⟩ : ∃ p2, wptr o2 = p2 := ⟨_, rfl⟩
  have d4 := OOut.go (args := fun v => #[v, .int .i64 12, wptr o2]) h4' (fun o1 _ hT1 _ => trecord_any _ o1 o2 _ _ 12 hT1 hT2)
  have er : (((((WS.fresh.number 1 id).put 3 txt).number 5 co).number 7 num).record 12 (WS.fresh.puts k.fl)) = WS.fresh.puts [(1, Nv id), (3, txt), (5, Nv co), (7, Nv num), (12, k.form)] := by
    have e0 : ((((WS.fresh.number 1 id).put 3 txt).number 5 co).number 7 num) = WS.fresh.puts [(1, Nv id), (3, txt), (5, Nv co), (7, Nv num)] := by simp only [number_nv]; rfl
    rw [e0, rec_puts (by simp [Asc]) ?_ (CR.asc k) (by have := Hkl.out.1; unfold CR.form at this; omega)]
    · rfl
    · have l1 := Nv_le V.out.1
      have l2 := Nv_le U1.out
      have l3 := Nv_le V.out.2.2.1
      have l4 := Htx.out.1
      have hp := putAll_live_le [(1, Nv id), (3, txt), (5, Nv co), (7, Nv num)] (fun f hf => by
        simp only [List.mem_cons, List.mem_nil_iff, or_false] at hf
        unfold U64
        rcases hf with rfl | rfl | rfl | rfl <;> simp only <;> omega)
      have e : (List.map (fun f : Fd => f.2.length + 11) [(1, Nv id), (3, txt), (5, Nv co), (7, Nv num)]).sum = (Nv id).length + 11 + (txt.length + 11 + ((Nv co).length + 11 + ((Nv num).length + 11 + 0))) := rfl
      omega
  rw [er, hp2] at d4
  rw [hp2]
  clear er hp2 hT2 hfk h4' HOk e7 e8 e9 e10 e11 e12 e13 e14 e15 e16 e17
  go_wp2_with fail
  refine d4.mono ?_
  rintro e w6 ⟨rfl, h5⟩
  clear d4
  have b5 := (h5.bl HB.out Hp.out.2).cell' (i := 1) rfl
  go_wp2_with fail
  have d5 := OOut.go (args := fun v => #[v, .int .i64 17, .int .u64 (err : Int)]) h5 (fun o1 _ hT1 _ => tnumber_any _ o1 _ 17 err V.out.2.1 hT1)
  refine d5.mono ?_
  rintro e w7 ⟨rfl, h6⟩
  clear d5 h5 b5
  have b6 := (h6.bl HB.out Hp.out.2).cell' (i := 4) rfl
  go_wp2_with fail
  refine (tshorts_any _ items A n c (by omega) Hit.out (HAt.out.sl.quiet (h6.fr0 HF0.out Hp.out.1))).mono ?_
  rintro e wl ⟨B, kk, cb, rfl, hL⟩
  have HL := hide hL
  have HM : Hid (kk = items.length) := by obtain ⟨rs, g, hL⟩ := hL; rw [hL.len]; exact List.length_map _
  have Hq : Hid ((listAll (shs items)).length ≤ 10240) := by have := shsAll_len Hit.out; have := (Hlen.out : n = items.length); show _ ≤ _; omega
  clear hL b6
  have h6' := h6.quiet (HL.out.frame)
  have d6 := OOut.go (args := fun v => #[v, .int .i64 18, .slice B kk cb]) h6' (fun o1 _ hT1 _ => twlist_any _ o1 _ 18 (shs items) B kk cb _ (by have := HM.out; have := (Hlen.out : n = items.length); omega) (Nat.le_refl _) (fun x hx => by have := shs_len Hit.out x hx; omega) (by have := Hq.out; omega) HL.out.lat hT1)
  clear h6 h6'
  go_wp2_with fail
  refine d6.mono ?_
  rintro e w8 ⟨rfl, h7⟩
  clear d6
  clear HL HM Hq
  have b7 := (h7.bl HB.out Hp.out.2).cell' (i := 6) rfl
  go_wp2_with fail
  have d7 := OOut.go (args := fun v => #[v, .int .i64 19, .int .u64 (bits : Int)]) h7 (fun o1 _ hT1 _ => tnumber_any _ o1 _ 19 bits V.out.2.2.2 hT1)
  refine d7.mono ?_
  rintro e w9 ⟨rfl, h8⟩
  clear d7 h7 b7
  have hs : ((((WS.fresh.puts [(1, Nv id), (3, txt), (5, Nv co), (7, Nv num), (12, k.form)]).number 17 err).put 18 (listAll (shs items))).number 19 bits) = WS.fresh.puts (RR.fl ⟨id, err, num, co, A, n, c, items, txt, bits, k⟩) := by simp only [number_nv]; rfl
  rw [hs] at h8
  have hpf := puts_fresh Has.out (by have := Hrl.out.1; unfold RR.form at this; omega)
  have hform : (WS.fresh.puts (RR.fl ⟨id, err, num, co, A, n, c, items, txt, bits, k⟩)).form = RR.form ⟨id, err, num, co, A, n, c, items, txt, bits, k⟩ := by unfold WS.form; rw [if_pos hpf.2, hpf.1]; rfl
  have HFz := hide (h8.fr0 HF0.out Hp.out.1)
  obtain ⟨oz, hz1, hz2, -, -⟩ := h8
  have cz := tform_any' _ oz _ hz2
  unfold FormPost at cz
  rw [hform, hpf.2, hz1] at cz
  clear hs hpf hform hz1 hz2
  go_wp2_with fail
  refine cz.mono ?_
  rintro e wz ⟨X, nx, cx, gx, rfl, hX, hg, hfz⟩
  have HX := hide hX
  have Hg : Hid (∀ b, gx = some b → w.heap.size ≤ b) := fun b e => Nat.le_trans HFz.out.size (hg b e)
  have HFy := hide (HFz.out.trans hfz)
  clear cz hX hg hfz HFz
  go_wp2_with fail
  go_ret2
  exact ⟨X, nx, cx, gx, rfl, HX.out, Hg.out, HFy.out⟩
end Go.Proofs.Ytlcjhbemgagchaa
end
