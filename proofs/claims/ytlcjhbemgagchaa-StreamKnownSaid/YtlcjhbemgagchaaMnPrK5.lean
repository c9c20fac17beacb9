/-
  Texts merged into one, to keep the claim small: PrK5.
-/
import Derived.Test.YtlcjhbemgagchaaMc17
import Derived.Test.YtlcjhbemgagchaaMc19
import Derived.Test.YtlcjhbemgagchaaMnPr6
/-
  proto: Encode of the program. (printed by pr_enc.py)
-/
namespace Go.Proofs.Ytlcjhbemgagchaa
open Go.RowKit
set_option linter.unusedVariables false
set_option linter.unusedSimpArgs false
set_option maxHeartbeats 4000000 in
set_option maxRecDepth 8000 in
theorem Encode_of (w : World) (r : KC) (h : r.at_ w) (hwf : r.wf) (hcmd : ∀ w1, Fr (fun _ => False) w w1 → Calls Try.prog 56 #[.agg #[.int .i64 r.id, .int .i64 r.kind, .string (strOf r.name), .int .i64 r.to_, .int .u64 (r.co : Int), .int .i64 r.item, .int .i64 r.num, .int .i64 r.of_, .int .i64 r.e.acc, .int .i64 r.e.item, .int .u64 (r.e.co : Int), .int .u64 (r.e.pr : Int), .slice r.e.A r.e.n r.e.c, .int .i64 r.k.num, .int .i64 r.k.kind, .int .i64 r.k.by_, .int .i64 r.k.dl, .int .i64 r.k.to_, .int .i64 r.k.want, .int .u64 (r.k.pr : Int), .int .u64 (r.k.rs : Int), .int .u64 (r.k.st : Int), .int .i64 r.k.of_, .slice r.k.A r.k.n r.k.c]] w1 fun e w' => e = .returned (.bool r.ok) ∧ Fr (fun _ => False) w1 w') :
    Calls Try.prog 37 #[.agg #[.int .i64 r.id, .int .i64 r.kind, .string (strOf r.name), .int .i64 r.to_, .int .u64 (r.co : Int), .int .i64 r.item, .int .i64 r.num, .int .i64 r.of_, .int .i64 r.e.acc, .int .i64 r.e.item, .int .u64 (r.e.co : Int), .int .u64 (r.e.pr : Int), .slice r.e.A r.e.n r.e.c, .int .i64 r.k.num, .int .i64 r.k.kind, .int .i64 r.k.by_, .int .i64 r.k.dl, .int .i64 r.k.to_, .int .i64 r.k.want, .int .u64 (r.k.pr : Int), .int .u64 (r.k.rs : Int), .int .u64 (r.k.st : Int), .int .i64 r.k.of_, .slice r.k.A r.k.n r.k.c]] w (PutPost (if r.ok then r.form else []) (if r.ok then 0 else 270) w) := by
  have HAt := hide h
  have HC := hide hcmd
  clear hcmd
  cases hok : r.ok with
  | false =>
    rw [if_neg (by simp), if_neg (by simp)]
    simp only [hok] at HC
    clear h hwf HAt hok
    obtain ⟨rid, kind, name, to_, co, item, num, of_, e, k⟩ := r
    simp only at HC ⊢
    obtain ⟨str, hstr⟩ : ∃ str, strOf name = str := ⟨_, rfl⟩
    rw [hstr] at HC ⊢
    clear hstr
    have hB2 := Bl.new w 31 #[.int .i64 rid, .int .i64 kind, .string str, .int .i64 to_, .int .u64 (co : Int), .int .i64 item, .int .i64 num, .int .i64 of_, .int .i64 e.acc, .int .i64 e.item, .int .u64 (e.co : Int), .int .u64 (e.pr : Int), .slice e.A e.n e.c, .int .i64 k.num, .int .i64 k.kind, .int .i64 k.by_, .int .i64 k.dl, .int .i64 k.to_, .int .i64 k.want, .int .u64 (k.pr : Int), .int .u64 (k.rs : Int), .int .u64 (k.st : Int), .int .i64 k.of_, .slice k.A k.n k.c]
    unfold Bl at hB2
    go_enter Try.func37, Try.ntmps37
    go_wp2_with (refine wpList_load_at rfl 31 _ rfl w.heap.size 0 rfl 31 _ #[.int .i64 rid, .int .i64 kind, .string str, .int .i64 to_, .int .u64 (co : Int), .int .i64 item, .int .i64 num, .int .i64 of_, .int .i64 e.acc, .int .i64 e.item, .int .u64 (e.co : Int), .int .u64 (e.pr : Int), .slice e.A e.n e.c, .int .i64 k.num, .int .i64 k.kind, .int .i64 k.by_, .int .i64 k.dl, .int .i64 k.to_, .int .i64 k.want, .int .u64 (k.pr : Int), .int .u64 (k.rs : Int), .int .u64 (k.st : Int), .int .i64 k.of_, .slice k.A k.n k.c] (0, 0) _ hB2 Try.underlying31 rfl (by kernel_rfl) rfl ?_)
    clear hB2
    refine (HC.out _ (by (repeat (first | with_reducible exact Fr.refl _ _ | with_reducible assumption | with_reducible refine Fr.drew ?_ | with_reducible refine Fr.drewN ?_ _ | with_reducible refine Fr.alloc ?_ _ | with_reducible refine Fr.setIn ?_ (by first | exact Or.inl rfl | exact Or.inr (by simp; done) | exact Or.inr (by simp; omega) | exact Or.inr (by omega)) _)))).mono ?_
    rintro x w1 ⟨rfl, hf1⟩
    have HF : Hid (Fr (fun _ => False) w w1) := Fr.trans (by (repeat (first | with_reducible exact Fr.refl _ _ | with_reducible assumption | with_reducible refine Fr.drew ?_ | with_reducible refine Fr.drewN ?_ _ | with_reducible refine Fr.alloc ?_ _ | with_reducible refine Fr.setIn ?_ (by first | exact Or.inl rfl | exact Or.inr (by simp; done) | exact Or.inr (by simp; omega) | exact Or.inr (by omega)) _))) hf1
    clear hf1
    go_wp2_with fail
    go_ret2
    exact ⟨none, 0, 0, none, rfl, Ow.nil_ _ _ _, (fun b h => by cases h), HF.out⟩
  | true =>
  rw [if_pos rfl, if_pos rfl]
  simp only [hok] at HC
  have Hrl := hide (KC.len hok hwf)
  have Has := hide (KC.asc r)
  obtain ⟨a1, a2, a3, a4, a5, -, a7, -, -, -⟩ := KC.fine_split (KC.ok_fine hok)
  have c1 := okL_mem a4 (n := r.to_) (by simp)
  have c2 := okL_mem a4 (n := r.item) (by simp)
  have c3 := okL_mem a4 (n := r.num) (by simp)
  have c4 := okL_mem a4 (n := r.of_) (by simp)
  have Htx : Hid (r.name.length ≤ 128 ∧ ∀ x ∈ r.name, x < 256) := ⟨a3, hwf.name⟩
  have Hck : Hid (r.k.ok = true ∧ r.k.wf) := ⟨a7, hwf.k⟩
  have Hce : Hid (r.e.ok = true ∧ r.e.wf) := ⟨a5, hwf.e⟩
  have U1 := hide hwf.co
  clear h hok a3 a4 a5 a7 hwf
  obtain ⟨rid, kind, name, to_, co, item, num, of_, e, k⟩ := r
  simp only at HAt HC Hrl Has Htx Hck Hce a1 a2 c1 c2 c3 c4 U1 ⊢
  obtain ⟨rid, rfl⟩ : ∃ t : Nat, rid = (t : Int) := ⟨rid.toNat, by omega⟩
  have q_rid : IntKind.u64.wrap (rid : Int) = (rid : Int) := IntWalk.u64_in _ (by omega)
  obtain ⟨kind, rfl⟩ : ∃ t : Nat, kind = (t : Int) := ⟨kind.toNat, by omega⟩
  have q_kind : IntKind.u64.wrap (kind : Int) = (kind : Int) := IntWalk.u64_in _ (by omega)
  obtain ⟨to_, rfl⟩ : ∃ t : Nat, to_ = (t : Int) := ⟨to_.toNat, by omega⟩
  have q_to_ : IntKind.u64.wrap (to_ : Int) = (to_ : Int) := IntWalk.u64_in _ (by omega)
  obtain ⟨item, rfl⟩ : ∃ t : Nat, item = (t : Int) := ⟨item.toNat, by omega⟩
  have q_item : IntKind.u64.wrap (item : Int) = (item : Int) := IntWalk.u64_in _ (by omega)
  obtain ⟨num, rfl⟩ : ∃ t : Nat, num = (t : Int) := ⟨num.toNat, by omega⟩
  have q_num : IntKind.u64.wrap (num : Int) = (num : Int) := IntWalk.u64_in _ (by omega)
  obtain ⟨of_, rfl⟩ : ∃ t : Nat, of_ = (t : Int) := ⟨of_.toNat, by omega⟩
  have q_of_ : IntKind.u64.wrap (of_ : Int) = (of_ : Int) := IntWalk.u64_in _ (by omega)
  have V : Hid (rid < U64 ∧ kind < U64 ∧ to_ < U64 ∧ item < U64 ∧ num < U64 ∧ of_ < U64) := ⟨by unfold U64; omega, by unfold U64; omega, by unfold U64; omega, by unfold U64; omega, by unfold U64; omega, by unfold U64; omega⟩
  obtain ⟨str, hstr⟩ : ∃ str, strOf name = str := ⟨_, rfl⟩
  rw [hstr] at HC ⊢
  have Hstr := hide hstr
  have HK : Hid (∀ w1, Fr (fun _ => False) w w1 → Calls Try.prog 61 #[.agg #[.int .i64 k.num, .int .i64 k.kind, .int .i64 k.by_, .int .i64 k.dl, .int .i64 k.to_, .int .i64 k.want, .int .u64 (k.pr : Int), .int .u64 (k.rs : Int), .int .u64 (k.st : Int), .int .i64 k.of_, .slice k.A k.n k.c]] w1 (NewW (WS.fresh.puts k.fl) w1)) := fun w1 hf => writeContract_any w1 k (HAt.out.k.quiet hf) Hck.out.1 Hck.out.2
  have HE : Hid (∀ w1, Fr (fun _ => False) w w1 → Calls Try.prog 60 #[.agg #[.int .i64 e.acc, .int .i64 e.item, .int .u64 (e.co : Int), .int .u64 (e.pr : Int), .slice e.A e.n e.c]] w1 (NewW (WS.fresh.puts e.fl) w1)) := fun w1 hf => writeEntry_any w1 e (HAt.out.e.quiet hf) Hce.out.1 Hce.out.2
  have Hkl := hide (CR.len Hck.out.1 Hck.out.2)
  have Hel := hide (ER.len Hce.out.1 Hce.out.2)
  clear a1 a2 c1 c2 c3 c4 hstr
  have hB := Bl.new w 31 #[.int .i64 (rid : Int), .int .i64 (kind : Int), .string str, .int .i64 (to_ : Int), .int .u64 (co : Int), .int .i64 (item : Int), .int .i64 (num : Int), .int .i64 (of_ : Int), .int .i64 e.acc, .int .i64 e.item, .int .u64 (e.co : Int), .int .u64 (e.pr : Int), .slice e.A e.n e.c, .int .i64 k.num, .int .i64 k.kind, .int .i64 k.by_, .int .i64 k.dl, .int .i64 k.to_, .int .i64 k.want, .int .u64 (k.pr : Int), .int .u64 (k.rs : Int), .int .u64 (k.st : Int), .int .i64 k.of_, .slice k.A k.n k.c]
  have HBa := hide hB
  have hB2 := hB
  unfold Bl at hB2
  clear hB
  go_enter Try.func37, Try.ntmps37
  go_wp2_with (refine wpList_load_at rfl 31 _ rfl w.heap.size 0 rfl 31 _ #[.int .i64 (rid : Int), .int .i64 (kind : Int), .string str, .int .i64 (to_ : Int), .int .u64 (co : Int), .int .i64 (item : Int), .int .i64 (num : Int), .int .i64 (of_ : Int), .int .i64 e.acc, .int .i64 e.item, .int .u64 (e.co : Int), .int .u64 (e.pr : Int), .slice e.A e.n e.c, .int .i64 k.num, .int .i64 k.kind, .int .i64 k.by_, .int .i64 k.dl, .int .i64 k.to_, .int .i64 k.want, .int .u64 (k.pr : Int), .int .u64 (k.rs : Int), .int .u64 (k.st : Int), .int .i64 k.of_, .slice k.A k.n k.c] (0, 0) _ hB2 Try.underlying31 rfl (by kernel_rfl) rfl ?_)
  clear hB2
  refine (HC.out _ (by (repeat (first | with_reducible exact Fr.refl _ _ | with_reducible assumption | with_reducible refine Fr.drew ?_ | with_reducible refine Fr.drewN ?_ _ | with_reducible refine Fr.alloc ?_ _ | with_reducible refine Fr.setIn ?_ (by first | exact Or.inl rfl | exact Or.inr (by simp; done) | exact Or.inr (by simp; omega) | exact Or.inr (by omega)) _)))).mono ?_
  rintro x w0 ⟨rfl, hf1⟩
  have HBb := hide (HBa.out.fr hf1 (fun x => x))
  have HFa : Hid (Fr (fun _ => False) w w0) := Fr.trans (by (repeat (first | with_reducible exact Fr.refl _ _ | with_reducible assumption | with_reducible refine Fr.drew ?_ | with_reducible refine Fr.drewN ?_ _ | with_reducible refine Fr.alloc ?_ _ | with_reducible refine Fr.setIn ?_ (by first | exact Or.inl rfl | exact Or.inr (by simp; done) | exact Or.inr (by simp; omega) | exact Or.inr (by omega)) _))) hf1
  have hlt0 := HBb.out.lt
  have HF0 : Hid (Fr (fun _ => False) w (w0.alloc (.cells #[.slice none 0 0, .int .i64 0, .int .i64 0] tWr))) := HFa.out.alloc _
  have HB : Hid (Bl (w0.alloc (.cells #[.slice none 0 0, .int .i64 0, .int .i64 0] tWr)) w.heap.size 31 _) := HBb.out.alloc _
  have HN : Hid (Bl (w0.alloc (.cells #[.slice none 0 0, .int .i64 0, .int .i64 0] tWr)) w0.heap.size tWr wcell) := Bl.new _ _ _
  have g0 := HBb.out.cell' (i := 0) rfl
  clear hf1 HBa HC
  go_wp2_with fail
  obtain ⟨w1, hw1⟩ : ∃ w1, w1 = w0.alloc (.cells #[.slice none 0 0, .int .i64 0, .int .i64 0] tWr) := ⟨_, rfl⟩
  obtain ⟨p, hp⟩ : ∃ p, p = w0.heap.size := ⟨_, rfl⟩
  rw [← hw1] at HF0 HB HN ⊢
  rw [← hp] at HN ⊢
  have Hp : Hid (w.heap.size ≤ p ∧ w.heap.size ≠ p) := ⟨by omega, by omega⟩
  have h0 : OOut tWr (wat p) WS.fresh w1 w1 := OOut.refl (wat_at HN.out) rfl (Fr.refl _ _)
  clear hw1 hp HN HBb g0 hlt0 HFa
  have d0 := OOut.go (args := fun v => #[v, .int .i64 1, .int .u64 (rid : Int)]) h0 (fun o1 _ hT1 _ => tnumber_any _ o1 _ 1 rid V.out.1 hT1)
  refine d0.mono ?_
  rintro x w2 ⟨rfl, h1⟩
  clear d0 h0
  have b1 := (h1.bl HB.out Hp.out.2).cell' (i := 1) rfl
  go_wp2_with fail
  have d1 := OOut.go (args := fun v => #[v, .int .i64 2, .int .u64 (kind : Int)]) h1 (fun o1 _ hT1 _ => tnumber_any _ o1 _ 2 kind V.out.2.1 hT1)
  refine d1.mono ?_
  rintro x w3 ⟨rfl, h2⟩
  clear d1 h1 b1
  have b2 := (h2.bl HB.out Hp.out.2).cell' (i := 2) rfl
  go_wp2_with fail
  have d2 := OOut.go (args := fun v => #[v, .int .i64 3, .string (strOf name)]) h2 (fun o1 _ hT1 _ => ttext_any _ o1 _ 3 name (by have := Htx.out.1; omega) Htx.out.2 hT1)
  rw [Hstr.out] at d2
  refine d2.mono ?_
  rintro x w4 ⟨rfl, h3⟩
  clear d2 h2 b2
  have b3 := (h3.bl HB.out Hp.out.2).cell' (i := 3) rfl
  go_wp2_with fail
  have d3 := OOut.go (args := fun v => #[v, .int .i64 4, .int .u64 (to_ : Int)]) h3 (fun o1 _ hT1 _ => tnumber_any _ o1 _ 4 to_ V.out.2.2.1 hT1)
  refine d3.mono ?_
  rintro x w5 ⟨rfl, h4⟩
  clear d3 h3 b3
  have b4 := (h4.bl HB.out Hp.out.2).cell' (i := 4) rfl
  go_wp2_with fail
  have d4 := OOut.go (args := fun v => #[v, .int .i64 5, .int .u64 (co : Int)]) h4 (fun o1 _ hT1 _ => tnumber_any _ o1 _ 5 co U1.out hT1)
  refine d4.mono ?_
  rintro x w6 ⟨rfl, h5⟩
  clear d4 h4 b4
  have b5 := (h5.bl HB.out Hp.out.2).cell' (i := 5) rfl
  go_wp2_with fail
  have d5 := OOut.go (args := fun v => #[v, .int .i64 6, .int .u64 (item : Int)]) h5 (fun o1 _ hT1 _ => tnumber_any _ o1 _ 6 item V.out.2.2.2.1 hT1)
  refine d5.mono ?_
  rintro x w7 ⟨rfl, h6⟩
  clear d5 h5 b5
  have b6 := (h6.bl HB.out Hp.out.2).cell' (i := 6) rfl
  go_wp2_with fail
  have d6 := OOut.go (args := fun v => #[v, .int .i64 7, .int .u64 (num : Int)]) h6 (fun o1 _ hT1 _ => tnumber_any _ o1 _ 7 num V.out.2.2.2.2.1 hT1)
  refine d6.mono ?_
  rintro x w8 ⟨rfl, h7⟩
  clear d6 h6 b6
  have b7 := (h7.bl HB.out Hp.out.2).cell' (i := 7) rfl
  go_wp2_with fail
  have d7 := OOut.go (args := fun v => #[v, .int .i64 8, .int .u64 (of_ : Int)]) h7 (fun o1 _ hT1 _ => tnumber_any _ o1 _ 8 of_ V.out.2.2.2.2.2 hT1)
  refine d7.mono ?_
  rintro x w9 ⟨rfl, h8⟩
  clear d7 h7 b7
  have es8 : ((((((((WS.fresh.number 1 rid).number 2 kind).put 3 name).number 4 to_).number 5 co).number 6 item).number 7 num).number 8 of_) = WS.fresh.puts [(1, Nv rid), (2, Nv kind), (3, name), (4, Nv to_), (5, Nv co), (6, Nv item), (7, Nv num), (8, Nv of_)] := by simp only [number_nv]; rfl
  rw [es8] at h8
  clear es8
  have HL8 : Hid ((putAll (live [(1, Nv rid), (2, Nv kind), (3, name), (4, Nv to_), (5, Nv co), (6, Nv item), (7, Nv num), (8, Nv of_)])).length ≤ 1000 ∧ (putAll (live [(1, Nv rid), (2, Nv kind), (3, name), (4, Nv to_), (5, Nv co), (6, Nv item), (7, Nv num), (8, Nv of_), (9, e.form)])).length ≤ 3000) := by
    have l1 := Nv_le V.out.1
    have l2 := Nv_le V.out.2.1
    have l3 := Htx.out.1
    have l4 := Nv_le V.out.2.2.1
    have l5 := Nv_le U1.out
    have l6 := Nv_le V.out.2.2.2.1
    have l7 := Nv_le V.out.2.2.2.2.1
    have l8 := Nv_le V.out.2.2.2.2.2
    have l9 := Hel.out.1
    constructor
    · have hp := putAll_live_le [(1, Nv rid), (2, Nv kind), (3, name), (4, Nv to_), (5, Nv co), (6, Nv item), (7, Nv num), (8, Nv of_)] (fun f hf => by
        simp only [List.mem_cons, List.mem_nil_iff, or_false] at hf
        unfold U64
        rcases hf with rfl | rfl | rfl | rfl | rfl | rfl | rfl | rfl <;> simp only <;> omega)
      have e2 : (List.map (fun f : Fd => f.2.length + 11) [(1, Nv rid), (2, Nv kind), (3, name), (4, Nv to_), (5, Nv co), (6, Nv item), (7, Nv num), (8, Nv of_)]).sum = (Nv rid).length + 11 + ((Nv kind).length + 11 + (name.length + 11 + ((Nv to_).length + 11 + ((Nv co).length + 11 + ((Nv item).length + 11 + ((Nv num).length + 11 + ((Nv of_).length + 11 + 0))))))) := rfl
      omega
    · have hp := putAll_live_le [(1, Nv rid), (2, Nv kind), (3, name), (4, Nv to_), (5, Nv co), (6, Nv item), (7, Nv num), (8, Nv of_), (9, e.form)] (fun f hf => by
        simp only [List.mem_cons, List.mem_nil_iff, or_false] at hf
        unfold U64
        rcases hf with rfl | rfl | rfl | rfl | rfl | rfl | rfl | rfl | rfl <;> simp only <;> omega)
      have e2 : (List.map (fun f : Fd => f.2.length + 11) [(1, Nv rid), (2, Nv kind), (3, name), (4, Nv to_), (5, Nv co), (6, Nv item), (7, Nv num), (8, Nv of_), (9, e.form)]).sum = (Nv rid).length + 11 + ((Nv kind).length + 11 + (name.length + 11 + ((Nv to_).length + 11 + ((Nv co).length + 11 + ((Nv item).length + 11 + ((Nv num).length + 11 + ((Nv of_).length + 11 + (e.form.length + 11 + 0)))))))) := rfl
      omega
  have e8 := (h8.bl HB.out Hp.out.2).cell' (i := 8) rfl
  have e9 := (h8.bl HB.out Hp.out.2).cell' (i := 9) rfl
  have e10 := (h8.bl HB.out Hp.out.2).cell' (i := 10) rfl
  have e11 := (h8.bl HB.out Hp.out.2).cell' (i := 11) rfl
  have e12 := (h8.bl HB.out Hp.out.2).cell' (i := 12) rfl
  have HOk := hide h8
  clear h8
  go_wp2_with fail
  refine (HE.out _ (HOk.out.fr0 HF0.out Hp.out.1)).mono ?_
  rintro x wk8 ⟨o2, rfl, hT2, -, hfk⟩
  have h8' := HOk.out.quiet hfk
  obtain ⟨p2, hp2⟩ : ∃ p2, wptr o2 = p2 := ⟨_, rfl⟩
  have d8 := OOut.go (args := fun v => #[v, .int .i64 9, wptr o2]) h8' (fun o1 _ hT1 _ => trecord_any _ o1 o2 _ _ 9 hT1 hT2)
  have er := rec_puts (l := [(1, Nv rid), (2, Nv kind), (3, name), (4, Nv to_), (5, Nv co), (6, Nv item), (7, Nv num), (8, Nv of_)]) (k := e.fl) (t := 9) (by simp [Asc]) (by have := HL8.out.1; omega) (ER.asc e) (by have := Hel.out.1; unfold ER.form at this; omega)
  rw [er, hp2] at d8
  rw [hp2]
  clear er hp2 hT2 hfk h8' HOk e8 e9 e10 e11 e12
  go_wp2_with fail
  refine d8.mono ?_
  rintro x w10 ⟨rfl, h9⟩
  clear d8
  have ea : WS.fresh.puts ([(1, Nv rid), (2, Nv kind), (3, name), (4, Nv to_), (5, Nv co), (6, Nv item), (7, Nv num), (8, Nv of_)] ++ [(9, putAll (live e.fl))]) = WS.fresh.puts [(1, Nv rid), (2, Nv kind), (3, name), (4, Nv to_), (5, Nv co), (6, Nv item), (7, Nv num), (8, Nv of_), (9, e.form)] := rfl
  rw [ea] at h9
  clear ea
  have e13 := (h9.bl HB.out Hp.out.2).cell' (i := 13) rfl
  have e14 := (h9.bl HB.out Hp.out.2).cell' (i := 14) rfl
  have e15 := (h9.bl HB.out Hp.out.2).cell' (i := 15) rfl
  have e16 := (h9.bl HB.out Hp.out.2).cell' (i := 16) rfl
  have e17 := (h9.bl HB.out Hp.out.2).cell' (i := 17) rfl
  have e18 := (h9.bl HB.out Hp.out.2).cell' (i := 18) rfl
  have e19 := (h9.bl HB.out Hp.out.2).cell' (i := 19) rfl
  have e20 := (h9.bl HB.out Hp.out.2).cell' (i := 20) rfl
  have e21 := (h9.bl HB.out Hp.out.2).cell' (i := 21) rfl
  have e22 := (h9.bl HB.out Hp.out.2).cell' (i := 22) rfl
  have e23 := (h9.bl HB.out Hp.out.2).cell' (i := 23) rfl
  have HOk := hide h9
  clear h9
  go_wp2_with fail
  refine (HK.out _ (HOk.out.fr0 HF0.out Hp.out.1)).mono ?_
  rintro x wk9 ⟨o2, rfl, hT2, -, hfk⟩
  have h9' := HOk.out.quiet hfk
  obtain ⟨p2, hp2⟩ : ∃ p2, wptr o2 = p2 := ⟨_, rfl⟩
  have d9 := OOut.go (args := fun v => #[v, .int .i64 12, wptr o2]) h9' (fun o1 _ hT1 _ => trecord_any _ o1 o2 _ _ 12 hT1 hT2)
  have er := rec_puts (l := [(1, Nv rid), (2, Nv kind), (3, name), (4, Nv to_), (5, Nv co), (6, Nv item), (7, Nv num), (8, Nv of_), (9, e.form)]) (k := k.fl) (t := 12) (by simp [Asc]) (by have := HL8.out.2; omega) (CR.asc k) (by have := Hkl.out.1; unfold CR.form at this; omega)
  rw [er, hp2] at d9
  rw [hp2]
  clear er hp2 hT2 hfk h9' HOk e13 e14 e15 e16 e17 e18 e19 e20 e21 e22 e23
  go_wp2_with fail
  refine d9.mono ?_
  rintro x w11 ⟨rfl, h10⟩
  clear d9
  have hs : WS.fresh.puts ([(1, Nv rid), (2, Nv kind), (3, name), (4, Nv to_), (5, Nv co), (6, Nv item), (7, Nv num), (8, Nv of_), (9, e.form)] ++ [(12, putAll (live k.fl))]) = WS.fresh.puts (KC.fl ⟨rid, kind, name, to_, co, item, num, of_, e, k⟩) := rfl
  rw [hs] at h10
  have hpf := puts_fresh Has.out (by have := Hrl.out.1; unfold KC.form at this; omega)
  have hform : (WS.fresh.puts (KC.fl ⟨rid, kind, name, to_, co, item, num, of_, e, k⟩)).form = KC.form ⟨rid, kind, name, to_, co, item, num, of_, e, k⟩ := by unfold WS.form; rw [if_pos hpf.2, hpf.1]; rfl
  have HFz := hide (h10.fr0 HF0.out Hp.out.1)
  obtain ⟨oz, hz1, hz2, -, -⟩ := h10
  have cz := tform_any' _ oz _ hz2
  unfold FormPost at cz
  rw [hform, hpf.2, hz1] at cz
  clear hs hpf hform hz1 hz2
  go_wp2_with fail
  refine cz.mono ?_
  rintro x wz ⟨X, nx, cx, gx, rfl, hX, hg, hfz⟩
  have HX := hide hX
  have Hg : Hid (∀ b, gx = some b → w.heap.size ≤ b) := fun b e => Nat.le_trans HFz.out.size (hg b e)
  have HFy := hide (HFz.out.trans hfz)
  clear cz hX hg hfz HFz
  go_wp2_with fail
  go_ret2
  exact ⟨X, nx, cx, gx, rfl, HX.out, Hg.out, HFy.out⟩
end Go.Proofs.Ytlcjhbemgagchaa
