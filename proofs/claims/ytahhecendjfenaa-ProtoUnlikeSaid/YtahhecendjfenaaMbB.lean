/-
  Texts merged into one, to keep the claim small: PdR, PdS.
-/
import Derived.Test.YtahhecendjfenaaMd37
import Derived.Test.YtahhecendjfenaaMd36
import Derived.Test.YtahhecendjfenaaMd38
import Derived.Test.YtahhecendjfenaaMbA
section
/-
  proto: how long forms are; verdicts of bytes that have a form. No program in sight.
-/
namespace Go.Proofs.Ytahhecendjfenaa
set_option linter.unusedVariables false
set_option linter.unusedSimpArgs false
theorem KVer.ok {bs : List Nat} {c q : KC} {er : Int} (h : KVer bs c er) (hq : KForm bs q) (hl : bs.length ≤ 512) : er = 0 ∧ c.like q ∧ KForm bs c := by
  rcases h with ⟨h1, rfl, rfl⟩ | ⟨h1, h2, rfl, rfl⟩ | ⟨h1, rfl, h2⟩
  · omega
  · exact (h2 _ hq).elim
  · exact ⟨rfl, (cmdS_of h2).symm.trans (cmdS_of hq), h2⟩
theorem RVer.ok {bs : List Nat} {c q : RR} {er : Int} (h : RVer bs c er) (hq : RForm bs q) (hl : bs.length ≤ 65536) : er = 0 ∧ c.like q ∧ RForm bs c := by
  rcases h with ⟨h1, rfl, rfl⟩ | ⟨h1, h2, rfl, rfl⟩ | ⟨h1, rfl, h2⟩
  · omega
  · exact (h2 _ hq).elim
  · exact ⟨rfl, (repS_of h2).symm.trans (repS_of hq), h2⟩
theorem KVer.cases {bs : List Nat} {c : KC} {er : Int} (h : KVer bs c er) : (er = 0 ∧ KForm bs c) ∨ (er ≠ 0 ∧ c = zeroC) := by
  rcases h with ⟨h1, rfl, rfl⟩ | ⟨h1, h2, rfl, rfl⟩ | ⟨h1, rfl, h2⟩
  · exact .inr ⟨by decide, rfl⟩
  · exact .inr ⟨by decide, rfl⟩
  · exact .inl ⟨rfl, h2⟩
theorem RVer.cases {bs : List Nat} {c : RR} {er : Int} (h : RVer bs c er) : (er = 0 ∧ RForm bs c) ∨ (er ≠ 0 ∧ c = zeroR) := by
  rcases h with ⟨h1, rfl, rfl⟩ | ⟨h1, h2, rfl, rfl⟩ | ⟨h1, rfl, h2⟩
  · exact .inr ⟨by decide, rfl⟩
  · exact .inr ⟨by decide, rfl⟩
  · exact .inl ⟨rfl, h2⟩
theorem Nv_max {k n : Nat} (h : n < 128 ^ (k + 1)) : (Nv n).length ≤ k + 1 := by
  unfold Nv
  split
  · simp
  · exact (short_len k n h).2
/-- What a field costs. -/
def fcost (v : List Nat) : Nat := if v.length = 0 then 0 else v.length + 1 + (short v.length).length
theorem fcost_le {v : List Nat} {m : Nat} (h : v.length ≤ m) (hm : m < 128) : fcost v ≤ m + 2 := by
  unfold fcost
  split
  · omega
  · have := (short_len 0 v.length (by omega)).2; omega
theorem fcost_le2 {v : List Nat} {m : Nat} (h : v.length ≤ m) (hm : m < 16384) : fcost v ≤ m + 3 := by
  unfold fcost
  split
  · omega
  · have := (short_len 1 v.length (by omega)).2; omega
theorem putAll_cost : ∀ l : List Fd, (putAll (live l)).length = (l.map fun f => fcost f.2).sum
  | [] => rfl
  | (t, []) :: r => by
    rw [live_nil, putAll_cost r]
    simp [fcost]
  | (t, x :: v) :: r => by
    rw [live_cons t r (by simp), putAll_cons, List.length_append, putAll_cost r, formF_len]
    simp only [List.map_cons, List.sum_cons]
    have : fcost (x :: v) = (x :: v).length + 1 + (short (x :: v).length).length := by unfold fcost; rw [if_neg (by simp)]
    rw [this]
    omega
theorem Nv_num {z : Int} (h : 0 ≤ z ∧ z ≤ 1125899906842624) : (Nv z.toNat).length ≤ 8 := Nv_max (k := 7) (by have : (128 : Nat) ^ 8 = 72057594037927936 := rfl; omega)
theorem Nv_u {n : Nat} (h : n < U64) : (Nv n).length ≤ 10 := Nv_le h
theorem shs_cost : ∀ l : List Int, okL l = true → (listAll (shs l)).length ≤ l.length * 9
  | [], _ => by simp [shs, listAll]
  | z :: l, h => by
    have hz := okL_mem h (n := z) (List.mem_cons_self ..)
    have ih := shs_cost l (List.all_eq_true.2 fun x hx => List.all_eq_true.1 h x (List.mem_cons_of_mem _ hx))
    have h8 : (short z.toNat).length ≤ 8 := (short_len 7 z.toNat (by have : (128 : Nat) ^ 8 = 72057594037927936 := rfl; omega)).2
    have h1 : (short (short z.toNat).length).length ≤ 1 := (short_len 0 _ (by omega)).2
    have e : listAll (shs (z :: l)) = short (short z.toNat).length ++ (short z.toNat ++ listAll (shs l)) := by simp [shs, listAll]
    rw [e]
    simp only [List.length_append, List.length_cons]
    omega
theorem ER.short {r : ER} (h : r.ok = true) (hw : r.wf) (ha : r.acc = 0) : r.form.length ≤ 181 := by
  obtain ⟨h1, h2, h3⟩ := ER.ok_split h
  have c1 := fcost_le (Nv_u hw.co) (by omega)
  have c2 := fcost_le (Nv_num (okL_mem h1 (n := r.item) (by simp))) (by omega)
  have c3 := fcost_le (Nv_u hw.pr) (by omega)
  have c4 := fcost_le2 (m := 144) (v := listAll (shs r.ws)) (by have := shs_cost r.ws h3; omega) (by omega)
  have c5 : fcost (Nv r.acc.toNat) = 0 := by rw [ha]; rfl
  unfold ER.form
  rw [putAll_cost]
  simp only [ER.fl, List.map_cons, List.map_nil, List.sum_cons, List.sum_nil]
  omega
theorem CR.short {r : CR} (h : r.ok = true) (hw : r.wf) (ha : r.num = 0) (hb : r.by_ = 0) (he : r.es.length = 0) : r.form.length ≤ 86 := by
  obtain ⟨h1, h2, h3⟩ := CR.ok_split h
  have a : ∀ z ∈ r.seven, fcost (Nv z.toNat) ≤ 10 := fun z hz => fcost_le (Nv_num (okL_mem h3 hz)) (by omega)
  have d1 := a r.kind (by simp [CR.seven])
  have d2 := a r.to_ (by simp [CR.seven])
  have d3 : fcost (Nv r.num.toNat) = 0 := by rw [ha]; rfl
  have d4 := a r.of_ (by simp [CR.seven])
  have d5 := fcost_le (Nv_u hw.pr) (by omega)
  have d6 := a r.dl (by simp [CR.seven])
  have d7 := a r.want (by simp [CR.seven])
  have d8 := fcost_le (Nv_u hw.rs) (by omega)
  have d9 := fcost_le (Nv_u hw.st) (by omega)
  have d10 : fcost (Nv r.by_.toNat) = 0 := by rw [hb]; rfl
  have d11 : fcost (listAll (r.es.map ER.form)) = 0 := by rw [List.length_eq_zero_iff.1 he]; rfl
  unfold CR.form
  rw [putAll_cost]
  simp only [CR.fl, List.map_cons, List.map_nil, List.sum_cons, List.sum_nil]
  omega
/-- A command's form has 1 to 512 bytes. -/
theorem KC.short {r : KC} (h : r.ok = true) (hw : r.wf) : 0 < r.form.length ∧ r.form.length ≤ 512 := by
  obtain ⟨h1, h2, h3, h4, h5, h6, h7, h8, h9, h10⟩ := KC.fine_split (KC.ok_fine h)
  have e1 := fcost_le (v := Nv r.id.toNat) (m := 5) (Nv_max (k := 4) (by have : (128 : Nat) ^ 5 = 34359738368 := rfl; omega)) (by omega)
  have e2 := fcost_le (v := Nv r.kind.toNat) (m := 1) (Nv_max (k := 0) (by omega)) (by omega)
  have e3 := fcost_le2 h3 (by omega)
  have e4 := fcost_le (Nv_num (okL_mem h4 (n := r.to_) (by simp))) (by omega)
  have e5 := fcost_le (Nv_u hw.co) (by omega)
  have e6 := fcost_le (Nv_num (okL_mem h4 (n := r.item) (by simp))) (by omega)
  have e7 := fcost_le (Nv_num (okL_mem h4 (n := r.num) (by simp))) (by omega)
  have e8 := fcost_le (Nv_num (okL_mem h4 (n := r.of_) (by simp))) (by omega)
  have e9 := fcost_le2 (ER.short h5 hw.e h6) (by omega)
  have e10 := fcost_le (CR.short h7 hw.k h8 h9 h10) (by omega)
  have hk : 1 ≤ fcost (Nv r.kind.toNat) := by
    have hn : Nv r.kind.toNat ≠ [] := fun e => by have := (Nv_nil _).1 e; omega
    have : (Nv r.kind.toNat).length ≠ 0 := fun e => hn (List.length_eq_zero_iff.1 e)
    unfold fcost
    rw [if_neg this]; omega
  unfold KC.form
  rw [putAll_cost]
  simp only [KC.fl, List.map_cons, List.map_nil, List.sum_cons, List.sum_nil]
  omega
theorem costK_le (k : Int) : 1 ≤ costK k ∧ costK k ≤ 8 := by
  unfold costK
  by_cases h : 1 ≤ k ∧ k ≤ 14
  · rw [if_pos h]
    exact kind_cases h (fun k => 1 ≤ costI k ∧ costI k ≤ 8) (by decide) (by decide) (by decide) (by decide) (by decide) (by decide) (by decide) (by decide) (by decide) (by decide) (by decide) (by decide) (by decide) (by decide)
  · rw [if_neg h]; omega
end Go.Proofs.Ytahhecendjfenaa
end

section
/-
  proto's law: known. (printed by pr_known.py)
-/
namespace Go.Proofs.Ytahhecendjfenaa
open Go.RowKit
set_option linter.unusedVariables false
set_option linter.unusedSimpArgs false
def kn1 : KC := ⟨1, 4, [], 2, 300, 0, 0, 0, zeroE, zeroK⟩
def kn2 : RR := ⟨1, 143, 0, 0, none, 0, 0, [], [], 0, zeroK⟩
def kn3 : KC := ⟨0, 14, [97], 0, 0, 0, 0, 0, zeroE, zeroK⟩
theorem zeroE_wf : zeroE.wf := ⟨by decide, by decide⟩
theorem zeroK_wf : zeroK.wf := ⟨by decide, by decide, by decide, fun e h => by cases h⟩
theorem kn1_wf : kn1.wf := ⟨by decide, zeroE_wf, zeroK_wf, fun x h => by cases h⟩
theorem kn2_wf : kn2.wf := ⟨by decide, by decide, zeroK_wf, fun x h => by cases h⟩
theorem kn3_wf : kn3.wf := ⟨by decide, zeroE_wf, zeroK_wf, by simp [kn3]⟩
theorem kn1_ok : kn1.ok = true := by kernel_rfl
theorem kn2_ok : kn2.ok = true := by kernel_rfl
theorem kn3_ok : kn3.ok = true := by kernel_rfl
theorem kn1_form : kn1.form = [1, 1, 1, 2, 1, 4, 4, 1, 2, 5, 2, 172, 2] := by kernel_rfl
theorem kn2_form : kn2.form = [1, 1, 1, 17, 2, 143, 1] := by kernel_rfl
theorem kn3_form : kn3.form = [2, 1, 14, 3, 1, 97] := by kernel_rfl
theorem kn1_at (w : World) : kn1.at_ w := ⟨(zeroE_at w).1, (zeroK_at w).at_⟩
theorem kn2_at (w : World) : kn2.at_ w := ⟨Sl.nil_ _ _ _, by decide, by decide, (zeroK_at w).at_⟩
theorem kn3_at (w : World) : kn3.at_ w := ⟨(zeroE_at w).1, (zeroK_at w).at_⟩
theorem kn1_enc (hcmd : ∀ w1 (q : KC), q.at_ w1 → Calls Try.prog 49 #[.agg #[.int .i64 q.id, .int .i64 q.kind, .string (strOf q.name), .int .i64 q.to_, .int .u64 (q.co : Int), .int .i64 q.item, .int .i64 q.num, .int .i64 q.of_, .int .i64 q.e.acc, .int .i64 q.e.item, .int .u64 (q.e.co : Int), .int .u64 (q.e.pr : Int), .slice q.e.A q.e.n q.e.c, .int .i64 q.k.num, .int .i64 q.k.kind, .int .i64 q.k.by_, .int .i64 q.k.dl, .int .i64 q.k.to_, .int .i64 q.k.want, .int .u64 (q.k.pr : Int), .int .u64 (q.k.rs : Int), .int .u64 (q.k.st : Int), .int .i64 q.k.of_, .slice q.k.A q.k.n q.k.c]] w1 fun e w' => e = .returned (.bool q.ok) ∧ Fr (fun _ => False) w1 w') (w1 : World) :
    Calls Try.prog 19 #[.agg #[.int .i64 1, .int .i64 4, .string ⟨#[]⟩, .int .i64 2, .int .u64 300, .int .i64 0, .int .i64 0, .int .i64 0, .int .i64 0, .int .i64 0, .int .u64 0, .int .u64 0, .slice none 0 0, .int .i64 0, .int .i64 0, .int .i64 0, .int .i64 0, .int .i64 0, .int .i64 0, .int .u64 0, .int .u64 0, .int .u64 0, .int .i64 0, .slice none 0 0]] w1 (PutPost [1, 1, 1, 2, 1, 4, 4, 1, 2, 5, 2, 172, 2] 0 w1) := by
  have h := Encode_of w1 kn1 (kn1_at w1) kn1_wf (fun w2 hf => hcmd w2 kn1 (kn1_at w2))
  simp only [kn1_ok, if_true, kn1_form] at h
  exact h
theorem kn2_enc (w1 : World) : Calls Try.prog 11 #[.agg #[.int .i64 1, .int .i64 143, .int .i64 0, .int .u64 0, .slice none 0 0, .string ⟨#[]⟩, .int .u32 0, .int .i64 0, .int .i64 0, .int .i64 0, .int .i64 0, .int .i64 0, .int .i64 0, .int .u64 0, .int .u64 0, .int .u64 0, .int .i64 0, .slice none 0 0]] w1 (PutPost [1, 1, 1, 17, 2, 143, 1] 0 w1) := by
  have h := EncodeReply_any w1 kn2 (kn2_at w1) kn2_wf
  simp only [kn2_ok, if_true, kn2_form] at h
  exact h
theorem kn3_dec (hcmd : ∀ w1 (q : KC), q.at_ w1 → Calls Try.prog 49 #[.agg #[.int .i64 q.id, .int .i64 q.kind, .string (strOf q.name), .int .i64 q.to_, .int .u64 (q.co : Int), .int .i64 q.item, .int .i64 q.num, .int .i64 q.of_, .int .i64 q.e.acc, .int .i64 q.e.item, .int .u64 (q.e.co : Int), .int .u64 (q.e.pr : Int), .slice q.e.A q.e.n q.e.c, .int .i64 q.k.num, .int .i64 q.k.kind, .int .i64 q.k.by_, .int .i64 q.k.dl, .int .i64 q.k.to_, .int .i64 q.k.want, .int .u64 (q.k.pr : Int), .int .u64 (q.k.rs : Int), .int .u64 (q.k.st : Int), .int .i64 q.k.of_, .slice q.k.A q.k.n q.k.c]] w1 fun e w' => e = .returned (.bool q.ok) ∧ Fr (fun _ => False) w1 w') (w1 : World) :
    Calls Try.prog 26 #[.slice (some ⟨w1.heap.size, 0, none⟩) 6 6] (w1.alloc (.cells #[.int .u8 2, .int .u8 1, .int .u8 14, .int .u8 3, .int .u8 1, .int .u8 97] 5)) (DecIs [2, 1, 14, 3, 1, 97] (w1.alloc (.cells #[.int .u8 2, .int .u8 1, .int .u8 14, .int .u8 3, .int .u8 1, .int .u8 97] 5))) :=
  (Decode_of _ [2, 1, 14, 3, 1, 97] _ 6 6 rfl (by omega) (by intro x hx; simp at hx; omega) (Sl.row w1 #[.int .u8 2, .int .u8 1, .int .u8 14, .int .u8 3, .int .u8 1, .int .u8 97] 5 1 6 rfl) hcmd).mono fun e w' h => h.is
set_option maxHeartbeats 16000000 in
set_option maxRecDepth 8000 in
attribute [-go_sem] Go.Instr.loadAt Go.Instr.storeAt in
theorem known_any (hcmd : ∀ w1 (q : KC), q.at_ w1 → Calls Try.prog 49 #[.agg #[.int .i64 q.id, .int .i64 q.kind, .string (strOf q.name), .int .i64 q.to_, .int .u64 (q.co : Int), .int .i64 q.item, .int .i64 q.num, .int .i64 q.of_, .int .i64 q.e.acc, .int .i64 q.e.item, .int .u64 (q.e.co : Int), .int .u64 (q.e.pr : Int), .slice q.e.A q.e.n q.e.c, .int .i64 q.k.num, .int .i64 q.k.kind, .int .i64 q.k.by_, .int .i64 q.k.dl, .int .i64 q.k.to_, .int .i64 q.k.want, .int .u64 (q.k.pr : Int), .int .u64 (q.k.rs : Int), .int .u64 (q.k.st : Int), .int .i64 q.k.of_, .slice q.k.A q.k.n q.k.c]] w1 fun e w' => e = .returned (.bool q.ok) ∧ Fr (fun _ => False) w1 w') (w : World) :
    Calls Try.prog 30 #[] w fun e w' => e = .returned (.bool true) ∧ Fr (fun _ => False) w w' := by
  have HC := hide hcmd
  clear hcmd
  have H1 := hide (kn1_enc HC.out)
  have H2 := hide kn2_enc
  have H3 := hide (kn3_dec HC.out)
  clear HC
  go_enter Try.func30, Try.ntmps30
  go_wp2_with fail
  refine (H1.out _).mono ?_
  rintro e w1 ⟨A1, n1, c1, g1, rfl, hO1, -, hf1⟩
  have hn1 : n1 = 13 := by have := hO1.1; simpa using this.symm
  subst hn1
  have HO1 := hide hO1
  go_wp2_with fail
  refine (H2.out _).mono ?_
  rintro e w2 ⟨A2, n2, c2, g2, rfl, hO2, -, hf2⟩
  have hn2 : n2 = 7 := by have := hO2.1; simpa using this.symm
  subst hn2
  have HO2 := hide hO2
  have F12 := hide hf2
  have F2 := hide (hf1.trans hf2)
  clear hO1 hO2 hf1 hf2
  go_wp2_with fail
  refine (H3.out _).mono ?_
  rintro e w3 ⟨qc, ec, rfl, VC, TC, hf3⟩
  obtain ⟨rfl, hlk, -⟩ := VC.out.ok ⟨kn3_ok, kn3_wf, kn3_form⟩ (by decide)
  have p3 := put_cmd (w := w3) qc
  obtain ⟨hb5, hf4⟩ := box_new (w := w3) tCL #[.int .i64 0, .int .i64 0, .string ⟨#[]⟩, .int .i64 0, .int .u64 0, .int .i64 0, .int .i64 0, .int .i64 0, .int .i64 0, .int .i64 0, .int .u64 0, .int .u64 0, .slice none 0 0, .int .i64 0, .int .i64 0, .int .i64 0, .int .i64 0, .int .i64 0, .int .i64 0, .int .u64 0, .int .u64 0, .int .u64 0, .int .i64 0, .slice none 0 0] #[.int .i64 qc.id, .int .i64 qc.kind, .string (strOf qc.name), .int .i64 qc.to_, .int .u64 (qc.co : Int), .int .i64 qc.item, .int .i64 qc.num, .int .i64 qc.of_, .int .i64 qc.e.acc, .int .i64 qc.e.item, .int .u64 (qc.e.co : Int), .int .u64 (qc.e.pr : Int), .slice qc.e.A qc.e.n qc.e.c, .int .i64 qc.k.num, .int .i64 qc.k.kind, .int .i64 qc.k.by_, .int .i64 qc.k.dl, .int .i64 qc.k.to_, .int .i64 qc.k.want, .int .u64 (qc.k.pr : Int), .int .u64 (qc.k.rs : Int), .int .u64 (qc.k.st : Int), .int .i64 qc.k.of_, .slice qc.k.A qc.k.n qc.k.c]
  have F3 : Hid (Fr (fun _ => False) w2 w3) := Fr.trans ((Fr.refl _ _).alloc _) hf3
  clear hf3
  go_wp2_with fail
  obtain ⟨b5, h5⟩ : ∃ b, w3.heap.size = b := ⟨_, rfl⟩
  rw [h5] at hb5 hf4 ⊢
  obtain ⟨w4, h4⟩ : ∃ v, (w3.alloc (.cells #[.int .i64 0, .int .i64 0, .string ⟨#[]⟩, .int .i64 0, .int .u64 0, .int .i64 0, .int .i64 0, .int .i64 0, .int .i64 0, .int .i64 0, .int .u64 0, .int .u64 0, .slice none 0 0, .int .i64 0, .int .i64 0, .int .i64 0, .int .i64 0, .int .i64 0, .int .i64 0, .int .u64 0, .int .u64 0, .int .u64 0, .int .i64 0, .slice none 0 0] tCL)).setRow b5 #[.int .i64 qc.id, .int .i64 qc.kind, .string (strOf qc.name), .int .i64 qc.to_, .int .u64 (qc.co : Int), .int .i64 qc.item, .int .i64 qc.num, .int .i64 qc.of_, .int .i64 qc.e.acc, .int .i64 qc.e.item, .int .u64 (qc.e.co : Int), .int .u64 (qc.e.pr : Int), .slice qc.e.A qc.e.n qc.e.c, .int .i64 qc.k.num, .int .i64 qc.k.kind, .int .i64 qc.k.by_, .int .i64 qc.k.dl, .int .i64 qc.k.to_, .int .i64 qc.k.want, .int .u64 (qc.k.pr : Int), .int .u64 (qc.k.rs : Int), .int .u64 (qc.k.st : Int), .int .i64 qc.k.of_, .slice qc.k.A qc.k.n qc.k.c] = v := ⟨_, rfl⟩
  rw [h4] at hb5 hf4 ⊢
  have F4 : Hid (Fr (fun _ => False) w2 w4) := F3.out.trans hf4
  have T4 := hide (TC.out.quiet hf4)
  have B5 := hide hb5
  clear p3 h5 h4 hb5 hf4 TC F3
  refine (num27law_any w4 0).mono ?_
  rintro e w' ⟨rfl, rfl⟩
  have s1 := same27_true (w4.alloc (.cells #[.int .u8 1, .int .u8 1, .int .u8 1, .int .u8 2, .int .u8 1, .int .u8 4, .int .u8 4, .int .u8 1, .int .u8 2, .int .u8 5, .int .u8 2, .int .u8 172, .int .u8 2] 5)) [1, 1, 1, 2, 1, 4, 4, 1, 2, 5, 2, 172, 2] A1 (some ⟨w4.heap.size, 0, none⟩) c1 13 13 (by intro x hx; simp at hx; omega) (HO1.out.sl.quiet (F12.out.trans (F4.out.alloc _))) (Sl.row w4 #[.int .u8 1, .int .u8 1, .int .u8 1, .int .u8 2, .int .u8 1, .int .u8 4, .int .u8 4, .int .u8 1, .int .u8 2, .int .u8 5, .int .u8 2, .int .u8 172, .int .u8 2] 5 1 13 rfl)
  have HS1 := hide s1
  clear s1
  go_wp2_with fail
  refine HS1.out.mono ?_
  rintro e w' ⟨rfl, rfl⟩
  obtain ⟨w5, h5⟩ : ∃ v, w4.alloc (.cells #[.int .u8 1, .int .u8 1, .int .u8 1, .int .u8 2, .int .u8 1, .int .u8 4, .int .u8 4, .int .u8 1, .int .u8 2, .int .u8 5, .int .u8 2, .int .u8 172, .int .u8 2] 5) = v := ⟨_, rfl⟩
  have hf45 : Fr (fun _ => False) w4 w5 := by rw [← h5]; (repeat (first | with_reducible exact Fr.refl _ _ | with_reducible assumption | with_reducible refine Fr.drew ?_ | with_reducible refine Fr.drewN ?_ _ | with_reducible refine Fr.alloc ?_ _ | with_reducible refine Fr.setIn ?_ (by first | exact Or.inl rfl | exact Or.inr (by simp; done) | exact Or.inr (by simp; omega) | exact Or.inr (by omega)) _))
  rw [h5]
  have F5 := hide (F4.out.trans hf45)
  have B5b := hide (B5.out.fr hf45 id)
  have T5 := hide (T4.out.quiet hf45)
  clear h5 hf45 HS1 B5 T4 F4
  go_wp2_with fail
  refine (num27law_any w5 0).mono ?_
  rintro e w' ⟨rfl, rfl⟩
  have s2 := same27_true (w5.alloc (.cells #[.int .u8 1, .int .u8 1, .int .u8 1, .int .u8 17, .int .u8 2, .int .u8 143, .int .u8 1] 5)) [1, 1, 1, 17, 2, 143, 1] A2 (some ⟨w5.heap.size, 0, none⟩) c2 7 7 (by intro x hx; simp at hx; omega) (HO2.out.sl.quiet (F5.out.alloc _)) (Sl.row w5 #[.int .u8 1, .int .u8 1, .int .u8 1, .int .u8 17, .int .u8 2, .int .u8 143, .int .u8 1] 5 1 7 rfl)
  have HS2 := hide s2
  clear s2
  go_wp2_with fail
  refine HS2.out.mono ?_
  rintro e w' ⟨rfl, rfl⟩
  obtain ⟨w6, h6⟩ : ∃ v, w5.alloc (.cells #[.int .u8 1, .int .u8 1, .int .u8 1, .int .u8 17, .int .u8 2, .int .u8 143, .int .u8 1] 5) = v := ⟨_, rfl⟩
  have hf56 : Fr (fun _ => False) w5 w6 := by rw [← h6]; (repeat (first | with_reducible exact Fr.refl _ _ | with_reducible assumption | with_reducible refine Fr.drew ?_ | with_reducible refine Fr.drewN ?_ _ | with_reducible refine Fr.alloc ?_ _ | with_reducible refine Fr.setIn ?_ (by first | exact Or.inl rfl | exact Or.inr (by simp; done) | exact Or.inr (by simp; omega) | exact Or.inr (by omega)) _))
  rw [h6]
  have F6 := hide (F5.out.trans hf56)
  have B6 := B5b.out.fr hf56 id
  have T6 := hide (T5.out.quiet hf56)
  clear h6 hf56 HS2 B5b T5 F5
  go_wp2_with fail
  refine (num27law_any w6 0).mono ?_
  rintro e w' ⟨rfl, rfl⟩
  have r5 := box_cmd qc B6
  have H9 : Hid (Calls Try.prog 21 #[.agg #[.int .i64 qc.id, .int .i64 qc.kind, .string (strOf qc.name), .int .i64 qc.to_, .int .u64 (qc.co : Int), .int .i64 qc.item, .int .i64 qc.num, .int .i64 qc.of_, .int .i64 qc.e.acc, .int .i64 qc.e.item, .int .u64 (qc.e.co : Int), .int .u64 (qc.e.pr : Int), .slice qc.e.A qc.e.n qc.e.c, .int .i64 qc.k.num, .int .i64 qc.k.kind, .int .i64 qc.k.by_, .int .i64 qc.k.dl, .int .i64 qc.k.to_, .int .i64 qc.k.want, .int .u64 (qc.k.pr : Int), .int .u64 (qc.k.rs : Int), .int .u64 (qc.k.st : Int), .int .i64 qc.k.of_, .slice qc.k.A qc.k.n qc.k.c], .agg #[.int .i64 0, .int .i64 14, .string ⟨#[97]⟩, .int .i64 0, .int .u64 0, .int .i64 0, .int .i64 0, .int .i64 0, .int .i64 0, .int .i64 0, .int .u64 0, .int .u64 0, .slice none 0 0, .int .i64 0, .int .i64 0, .int .i64 0, .int .i64 0, .int .i64 0, .int .i64 0, .int .u64 0, .int .u64 0, .int .u64 0, .int .i64 0, .slice none 0 0]] w6 fun e w' => e = .returned (.bool true) ∧ Fr (fun _ => False) w6 w') := commandLike_any w6 qc kn3 hlk T6.out.at_ (kn3_at w6)
  go_wp2_with fail
  refine H9.out.mono ?_
  rintro e w7 ⟨rfl, hf7⟩
  go_wp2_with fail
  go_ret
  exact ⟨rfl, F2.out.trans (F6.out.trans hf7)⟩
end Go.Proofs.Ytahhecendjfenaa
end
