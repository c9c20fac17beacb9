/-
  Texts merged into one, to keep the claim small: PdR.
-/
import Derived.Test.YtlcjhbemgagchaaMc24
import Derived.Test.YtlcjhbemgagchaaMc33
/-
  proto: how long forms are; verdicts of bytes that have a form. No program in sight.
-/
namespace Go.Proofs.Ytlcjhbemgagchaa
set_option linter.unusedVariables false
set_option linter.unusedSimpArgs false
theorem KVer.ok {bs : List Nat} {c q : KC} {er : Int} (h : KVer bs c er) (hq : KForm bs q) (hl : bs.length ≤ 512) : er = 0 ∧ c.like q ∧ KForm bs c := by
  rcases h with ⟨h1, rfl, rfl⟩ | ⟨h1, h2, rfl, rfl⟩ | ⟨h1, rfl, h2⟩
  · omega
  · exact (h2 _ hq).elim
  · exact ⟨rfl, (cmdS_of h2).symm.trans (cmdS_of hq), h2⟩
theorem RVer.ok {bs : List Nat} {c q : RR} {er : Int} (h : RVer bs c er) (hq : RForm bs q) (hl : bs.length ≤ 65536) : er = 0 ∧ c.like q ∧ RForm bs c := by
  rcases h with ⟨h1, rfl, rfl⟩ | ⟨h1, h2, rfl, rfl⟩ | ⟨h1, rfl, h2⟩
  · omega
  · exact (h2 _ hq).elim
  · exact ⟨rfl, (repS_of h2).symm.trans (repS_of hq), h2⟩
theorem KVer.cases {bs : List Nat} {c : KC} {er : Int} (h : KVer bs c er) : (er = 0 ∧ KForm bs c) ∨ (er ≠ 0 ∧ c = zeroC) := by
  rcases h with ⟨h1, rfl, rfl⟩ | ⟨h1, h2, rfl, rfl⟩ | ⟨h1, rfl, h2⟩
  · exact .inr ⟨by decide, rfl⟩
  · exact .inr ⟨by decide, rfl⟩
  · exact .inl ⟨rfl, h2⟩
theorem RVer.cases {bs : List Nat} {c : RR} {er : Int} (h : RVer bs c er) : (er = 0 ∧ RForm bs c) ∨ (er ≠ 0 ∧ c = zeroR) := by
  rcases h with ⟨h1, rfl, rfl⟩ | ⟨h1, h2, rfl, rfl⟩ | ⟨h1, rfl, h2⟩
  · exact .inr ⟨by decide, rfl⟩
  · exact .inr ⟨by decide, rfl⟩
  · exact .inl ⟨rfl, h2⟩
theorem Nv_max {k n : Nat} (h : n < 128 ^ (k + 1)) : (Nv n).length ≤ k + 1 := by
  unfold Nv
  split
  · simp
  · exact (short_len k n h).2
/-- What a field costs. -/
def fcost (v : List Nat) : Nat := if v.length = 0 then 0 else v.length + 1 + (short v.length).length
theorem fcost_le {v : List Nat} {m : Nat} (h : v.length ≤ m) (hm : m < 128) : fcost v ≤ m + 2 := by
  unfold fcost
  split
  · omega
  · have := (short_len 0 v.length (by omega)).2; omega
theorem fcost_le2 {v : List Nat} {m : Nat} (h : v.length ≤ m) (hm : m < 16384) : fcost v ≤ m + 3 := by
  unfold fcost
  split
  · omega
  · have := (short_len 1 v.length (by omega)).2; omega
theorem putAll_cost : ∀ l : List Fd, (putAll (live l)).length = (l.map fun f => fcost f.2).sum
  | [] => rfl
  | (t, []) :: r => by
    rw [live_nil, putAll_cost r]
    simp [fcost]
  | (t, x :: v) :: r => by
    rw [live_cons t r (by simp), putAll_cons, List.length_append, putAll_cost r, formF_len]
    simp only [List.map_cons, List.sum_cons]
    have : fcost (x :: v) = (x :: v).length + 1 + (short (x :: v).length).length := by unfold fcost; rw [if_neg (by simp)]
    rw [this]
    omega
theorem Nv_num {z : Int} (h : 0 ≤ z ∧ z ≤ 1125899906842624) : (Nv z.toNat).length ≤ 8 := Nv_max (k := 7) (by have : (128 : Nat) ^ 8 = 72057594037927936 := rfl; omega)
theorem Nv_u {n : Nat} (h : n < U64) : (Nv n).length ≤ 10 := Nv_le h
theorem shs_cost : ∀ l : List Int, okL l = true → (listAll (shs l)).length ≤ l.length * 9
  | [], _ => by simp [shs, listAll]
  | z :: l, h => by
    have hz := okL_mem h (n := z) (List.mem_cons_self ..)
    have ih := shs_cost l (List.all_eq_true.2 fun x hx => List.all_eq_true.1 h x (List.mem_cons_of_mem _ hx))
    have h8 : (short z.toNat).length ≤ 8 := (short_len 7 z.toNat (by have : (128 : Nat) ^ 8 = 72057594037927936 := rfl; omega)).2
    have h1 : (short (short z.toNat).length).length ≤ 1 := (short_len 0 _ (by omega)).2
    have e : listAll (shs (z :: l)) = short (short z.toNat).length ++ (short z.toNat ++ listAll (shs l)) := by simp [shs, listAll]
    rw [e]
    simp only [List.length_append, List.length_cons]
    omega
theorem ER.short {r : ER} (h : r.ok = true) (hw : r.wf) (ha : r.acc = 0) : r.form.length ≤ 181 := by
  obtain ⟨h1, h2, h3⟩ := ER.ok_split h
  have c1 := fcost_le (Nv_u hw.co) (by omega)
  have c2 := fcost_le (Nv_num (okL_mem h1 (n := r.item) (by simp))) (by omega)
  have c3 := fcost_le (Nv_u hw.pr) (by omega)
  have c4 := fcost_le2 (m := 144) (v := listAll (shs r.ws)) (by have := shs_cost r.ws h3; omega) (by omega)
  have c5 : fcost (Nv r.acc.toNat) = 0 := by rw [ha]; rfl
  unfold ER.form
  rw [putAll_cost]
  simp only [ER.fl, List.map_cons, List.map_nil, List.sum_cons, List.sum_nil]
  omega
theorem CR.short {r : CR} (h : r.ok = true) (hw : r.wf) (ha : r.num = 0) (hb : r.by_ = 0) (he : r.es.length = 0) : r.form.length ≤ 86 := by
  obtain ⟨h1, h2, h3⟩ := CR.ok_split h
  have a : ∀ z ∈ r.seven, fcost (Nv z.toNat) ≤ 10 := fun z hz => fcost_le (Nv_num (okL_mem h3 hz)) (by omega)
  have d1 := a r.kind (by simp [CR.seven])
  have d2 := a r.to_ (by simp [CR.seven])
  have d3 : fcost (Nv r.num.toNat) = 0 := by rw [ha]; rfl
  have d4 := a r.of_ (by simp [CR.seven])
  have d5 := fcost_le (Nv_u hw.pr) (by omega)
  have d6 := a r.dl (by simp [CR.seven])
  have d7 := a r.want (by simp [CR.seven])
  have d8 := fcost_le (Nv_u hw.rs) (by omega)
  have d9 := fcost_le (Nv_u hw.st) (by omega)
  have d10 : fcost (Nv r.by_.toNat) = 0 := by rw [hb]; rfl
  have d11 : fcost (listAll (r.es.map ER.form)) = 0 := by rw [List.length_eq_zero_iff.1 he]; rfl
  unfold CR.form
  rw [putAll_cost]
  simp only [CR.fl, List.map_cons, List.map_nil, List.sum_cons, List.sum_nil]
  omega
/-- A command's form has 1 to 512 bytes. -/
theorem KC.short {r : KC} (h : r.ok = true) (hw : r.wf) : 0 < r.form.length ∧ r.form.length ≤ 512 := by
  obtain ⟨h1, h2, h3, h4, h5, h6, h7, h8, h9, h10⟩ := KC.fine_split (KC.ok_fine h)
  have e1 := fcost_le (v := Nv r.id.toNat) (m := 5) (Nv_max (k := 4) (by have : (128 : Nat) ^ 5 = 34359738368 := rfl; omega)) (by omega)
  have e2 := fcost_le (v := Nv r.kind.toNat) (m := 1) (Nv_max (k := 0) (by omega)) (by omega)
  have e3 := fcost_le2 h3 (by omega)
  have e4 := fcost_le (Nv_num (okL_mem h4 (n := r.to_) (by simp))) (by omega)
  have e5 := fcost_le (Nv_u hw.co) (by omega)
  have e6 := fcost_le (Nv_num (okL_mem h4 (n := r.item) (by simp))) (by omega)
  have e7 := fcost_le (Nv_num (okL_mem h4 (n := r.num) (by simp))) (by omega)
  have e8 := fcost_le (Nv_num (okL_mem h4 (n := r.of_) (by simp))) (by omega)
  have e9 := fcost_le2 (ER.short h5 hw.e h6) (by omega)
  have e10 := fcost_le (CR.short h7 hw.k h8 h9 h10) (by omega)
  have hk : 1 ≤ fcost (Nv r.kind.toNat) := by
    have hn : Nv r.kind.toNat ≠ [] := fun e => by have := (Nv_nil _).1 e; omega
    have : (Nv r.kind.toNat).length ≠ 0 := fun e => hn (List.length_eq_zero_iff.1 e)
    unfold fcost
    rw [if_neg this]; omega
  unfold KC.form
  rw [putAll_cost]
  simp only [KC.fl, List.map_cons, List.map_nil, List.sum_cons, List.sum_nil]
  omega
end Go.Proofs.Ytlcjhbemgagchaa
