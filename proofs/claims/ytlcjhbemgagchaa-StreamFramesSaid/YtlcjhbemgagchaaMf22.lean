/-
  Texts merged into one, to keep the claim small: Pr1, Pr2.
-/
import Derived.Test.YtlcjhbemgagchaaMf21
section
/-
  proto: entries, contracts, replies as rows of fields. No program in sight.
-/
namespace Go.Proofs.Ytlcjhbemgagchaa
set_option linter.unusedVariables false
set_option linter.unusedSimpArgs false
def iv (z : Int) : Value := .int .i64 z
def okN (n : Int) : Bool := decide (0 ≤ n) && decide (n ≤ 1125899906842624)
def okL (l : List Int) : Bool := l.all okN
theorem okN_iff {n : Int} : okN n = true ↔ 0 ≤ n ∧ n ≤ 1125899906842624 := by simp [okN]
theorem okL_mem {l : List Int} (h : okL l = true) {n : Int} (hn : n ∈ l) : 0 ≤ n ∧ n ≤ 1125899906842624 := okN_iff.1 (List.all_eq_true.1 h n hn)
/-- An entry, and where its wishes lie. -/
structure ER where
  acc : Int
  item : Int
  co : Nat
  pr : Nat
  A : Option Addr
  n : Nat
  c : Nat
  ws : List Int
def ER.cells (r : ER) : List Value := [.int .i64 r.acc, .int .i64 r.item, .int .u64 (r.co : Int), .int .u64 (r.pr : Int), .slice r.A r.n r.c]
theorem ER.cells_len (r : ER) : r.cells.length = 5 := rfl
def ER.ok (r : ER) : Bool := okL [r.acc, r.item] && decide (r.ws.length ≤ 16) && okL r.ws
def shs (l : List Int) : List (List Nat) := l.map fun n => short n.toNat
def ER.fl (r : ER) : List Fd := [(5, Nv r.co), (6, Nv r.item.toNat), (10, Nv r.pr), (11, listAll (shs r.ws)), (22, Nv r.acc.toNat)]
def ER.form (r : ER) : List Nat := putAll (live r.fl)
/-- A contract, and where its entries lie. -/
structure CR where
  num : Int
  kind : Int
  by_ : Int
  dl : Int
  to_ : Int
  want : Int
  pr : Nat
  rs : Nat
  st : Nat
  of_ : Int
  A : Option Addr
  n : Nat
  c : Nat
  es : List ER
def CR.cells (r : CR) : List Value := [.int .i64 r.num, .int .i64 r.kind, .int .i64 r.by_, .int .i64 r.dl, .int .i64 r.to_, .int .i64 r.want, .int .u64 (r.pr : Int), .int .u64 (r.rs : Int), .int .u64 (r.st : Int), .int .i64 r.of_, .slice r.A r.n r.c]
def CR.seven (r : CR) : List Int := [r.num, r.kind, r.by_, r.dl, r.to_, r.want, r.of_]
def CR.ok (r : CR) : Bool := decide (r.es.length ≤ 16) && r.es.all ER.ok && okL r.seven
def CR.fl (r : CR) : List Fd := [(2, Nv r.kind.toNat), (4, Nv r.to_.toNat), (7, Nv r.num.toNat), (8, Nv r.of_.toNat), (10, Nv r.pr), (13, Nv r.dl.toNat), (14, Nv r.want.toNat), (15, Nv r.rs), (16, Nv r.st), (20, Nv r.by_.toNat), (21, listAll (r.es.map ER.form))]
def CR.form (r : CR) : List Nat := putAll (live r.fl)
/-- A reply. -/
structure RR where
  id : Int
  err : Int
  num : Int
  co : Nat
  A : Option Addr
  n : Nat
  c : Nat
  items : List Int
  txt : List Nat
  bits : Nat
  k : CR
def RR.ok (r : RR) : Bool := decide (0 ≤ r.id) && decide (r.id ≤ 4294967295) && decide (0 ≤ r.err) && decide (r.err ≤ 999) && decide (r.txt.length ≤ 128) && okL [r.num] && decide (r.items.length ≤ 512) && okL r.items && r.k.ok
def RR.fl (r : RR) : List Fd := [(1, Nv r.id.toNat), (3, r.txt), (5, Nv r.co), (7, Nv r.num.toNat), (12, r.k.form), (17, Nv r.err.toNat), (18, listAll (shs r.items)), (19, Nv r.bits)]
def RR.form (r : RR) : List Nat := putAll (live r.fl)
theorem ER.asc (r : ER) : Asc 0 r.fl := by simp [ER.fl, Asc]
theorem CR.asc (r : CR) : Asc 0 r.fl := by simp [CR.fl, Asc]
theorem RR.asc (r : RR) : Asc 0 r.fl := by simp [RR.fl, Asc]
/-- The numbers are those of 64 bits. -/
structure ER.wf (r : ER) : Prop where
  co : r.co < U64
  pr : r.pr < U64
structure CR.wf (r : CR) : Prop where
  pr : r.pr < U64
  rs : r.rs < U64
  st : r.st < U64
  es : ∀ e ∈ r.es, e.wf
structure RR.wf (r : RR) : Prop where
  co : r.co < U64
  bits : r.bits < 4294967296
  k : r.k.wf
  txt : ∀ x ∈ r.txt, x < 256
theorem toNat_U {n : Int} (h : 0 ≤ n ∧ n ≤ 1125899906842624) : n.toNat < U64 := by unfold U64; omega
theorem listAll_len {M : Nat} : ∀ (l : List (List Nat)), (∀ x ∈ l, x.length ≤ M) → M < U64 → (listAll l).length ≤ l.length * (10 + M)
  | [], _, _ => by simp [listAll]
  | v :: r, h, hM => by
    have ih := listAll_len r (fun x hx => h x (List.mem_cons_of_mem _ hx)) hM
    have h1 := h v (List.mem_cons_self ..)
    have h2 := (short_le (n := v.length) (by omega)).2
    have e : listAll (v :: r) = short v.length ++ (v ++ listAll r) := by simp [listAll]
    rw [e]
    simp only [List.length_append, List.length_cons, Nat.add_mul, Nat.one_mul]
    omega
theorem shs_len {l : List Int} (h : okL l = true) : ∀ x ∈ shs l, x.length ≤ 10 := fun x hx => by
  obtain ⟨n, hn, rfl⟩ := List.mem_map.1 hx
  exact (short_le (toNat_U (okL_mem h hn))).2
theorem shsAll_len {l : List Int} (h : okL l = true) : (listAll (shs l)).length ≤ l.length * 20 := by
  have := listAll_len (M := 10) (shs l) (shs_len h) (by unfold U64; omega)
  rw [show (shs l).length = l.length from List.length_map _] at this
  omega
theorem ER.ok_split {r : ER} (h : r.ok = true) : okL [r.acc, r.item] = true ∧ r.ws.length ≤ 16 ∧ okL r.ws = true := by
  unfold ER.ok at h
  simp only [Bool.and_eq_true, decide_eq_true_eq] at h
  exact ⟨h.1.1, h.1.2, h.2⟩
theorem ER.len {r : ER} (h : r.ok = true) (hw : r.wf) : r.form.length ≤ 1000 ∧ ∀ f ∈ r.fl, f.2.length ≤ 1000 := by
  obtain ⟨h1, h2, h3⟩ := ER.ok_split h
  have a1 := okL_mem h1 (n := r.acc) (by simp)
  have a2 := okL_mem h1 (n := r.item) (by simp)
  have l1 := Nv_le hw.co
  have l2 := Nv_le (toNat_U a2)
  have l3 := Nv_le hw.pr
  have l4 := shsAll_len h3
  have l5 := Nv_le (toNat_U a1)
  have hl : ∀ f ∈ r.fl, f.2.length ≤ 1000 := by
    intro f hf
    simp only [ER.fl, List.mem_cons, List.mem_nil_iff, or_false] at hf
    rcases hf with rfl | rfl | rfl | rfl | rfl <;> simp only <;> omega
  refine ⟨?_, hl⟩
  have hp := putAll_live_le r.fl fun f hf => by have := hl f hf; unfold U64; omega
  have e : (r.fl.map fun f : Fd => f.2.length + 11).sum = (Nv r.co).length + 11 + ((Nv r.item.toNat).length + 11 + ((Nv r.pr).length + 11 + ((listAll (shs r.ws)).length + 11 + ((Nv r.acc.toNat).length + 11 + 0)))) := rfl
  unfold ER.form; omega
theorem CR.ok_split {r : CR} (h : r.ok = true) : r.es.length ≤ 16 ∧ (∀ e ∈ r.es, e.ok = true) ∧ okL r.seven = true := by
  unfold CR.ok at h
  simp only [Bool.and_eq_true, decide_eq_true_eq] at h
  exact ⟨h.1.1, List.all_eq_true.1 h.1.2, h.2⟩
theorem CR.forms_len {r : CR} (h : r.ok = true) (hw : r.wf) : (listAll (r.es.map ER.form)).length ≤ 16160 ∧ ∀ x ∈ r.es.map ER.form, x.length ≤ 1000 := by
  obtain ⟨h1, h2, h3⟩ := CR.ok_split h
  have hx : ∀ x ∈ r.es.map ER.form, x.length ≤ 1000 := fun x hx => by
    obtain ⟨e, he, rfl⟩ := List.mem_map.1 hx
    exact (ER.len (h2 e he) (hw.es e he)).1
  have l1 := listAll_len (M := 1000) _ hx (by unfold U64; omega)
  rw [List.length_map] at l1
  exact ⟨by omega, hx⟩
theorem CR.len {r : CR} (h : r.ok = true) (hw : r.wf) : r.form.length ≤ 20000 ∧ ∀ f ∈ r.fl, f.2.length ≤ 20000 := by
  obtain ⟨h1, h2, h3⟩ := CR.ok_split h
  have l11 := (CR.forms_len h hw).1
  have a : ∀ z ∈ r.seven, (Nv z.toNat).length ≤ 10 := fun z hz => Nv_le (toNat_U (okL_mem h3 hz))
  have l1 := a r.kind (by simp [CR.seven])
  have l2 := a r.to_ (by simp [CR.seven])
  have l3 := a r.num (by simp [CR.seven])
  have l4 := a r.of_ (by simp [CR.seven])
  have l6 := a r.dl (by simp [CR.seven])
  have l7 := a r.want (by simp [CR.seven])
  have l10 := a r.by_ (by simp [CR.seven])
  have l5 := Nv_le hw.pr
  have l8 := Nv_le hw.rs
  have l9 := Nv_le hw.st
  have hl : ∀ f ∈ r.fl, f.2.length ≤ 20000 := by
    intro f hf
    simp only [CR.fl, List.mem_cons, List.mem_nil_iff, or_false] at hf
    rcases hf with rfl | rfl | rfl | rfl | rfl | rfl | rfl | rfl | rfl | rfl | rfl <;> simp only <;> omega
  refine ⟨?_, hl⟩
  have hp := putAll_live_le r.fl fun f hf => by have := hl f hf; unfold U64; omega
  have e : (r.fl.map fun f : Fd => f.2.length + 11).sum = (Nv r.kind.toNat).length + 11 + ((Nv r.to_.toNat).length + 11 + ((Nv r.num.toNat).length + 11 + ((Nv r.of_.toNat).length + 11 + ((Nv r.pr).length + 11 + ((Nv r.dl.toNat).length + 11 + ((Nv r.want.toNat).length + 11 + ((Nv r.rs).length + 11 + ((Nv r.st).length + 11 + ((Nv r.by_.toNat).length + 11 + ((listAll (r.es.map ER.form)).length + 11 + 0)))))))))) := rfl
  unfold CR.form; omega
theorem RR.ok_split {r : RR} (h : r.ok = true) : (0 ≤ r.id ∧ r.id ≤ 4294967295) ∧ (0 ≤ r.err ∧ r.err ≤ 999) ∧ r.txt.length ≤ 128 ∧ okL [r.num] = true ∧ r.items.length ≤ 512 ∧ okL r.items = true ∧ r.k.ok = true := by
  unfold RR.ok at h
  simp only [Bool.and_eq_true, decide_eq_true_eq] at h
  obtain ⟨⟨⟨⟨⟨⟨⟨⟨a, b⟩, c⟩, d⟩, e⟩, f⟩, g⟩, i⟩, j⟩ := h
  exact ⟨⟨a, b⟩, ⟨c, d⟩, e, f, g, i, j⟩
theorem RR.len {r : RR} (h : r.ok = true) (hw : r.wf) : r.form.length ≤ 40000 ∧ ∀ f ∈ r.fl, f.2.length ≤ 40000 := by
  obtain ⟨h1, h2, h3, h4, h5, h6, h7⟩ := RR.ok_split h
  have l1 := Nv_le (n := r.id.toNat) (by unfold U64; omega)
  have l3 := Nv_le hw.co
  have l4 := Nv_le (toNat_U (okL_mem h4 (n := r.num) (by simp)))
  have l5 := (CR.len h7 hw.k).1
  have l6 := Nv_le (n := r.err.toNat) (by unfold U64; omega)
  have l7 := shsAll_len h6
  have l8 := Nv_le (n := r.bits) (by have := hw.bits; unfold U64; omega)
  have hl : ∀ f ∈ r.fl, f.2.length ≤ 40000 := by
    intro f hf
    simp only [RR.fl, List.mem_cons, List.mem_nil_iff, or_false] at hf
    rcases hf with rfl | rfl | rfl | rfl | rfl | rfl | rfl | rfl <;> simp only <;> omega
  refine ⟨?_, hl⟩
  have hp := putAll_live_le r.fl fun f hf => by have := hl f hf; unfold U64; omega
  have e : (r.fl.map fun f : Fd => f.2.length + 11).sum = (Nv r.id.toNat).length + 11 + (r.txt.length + 11 + ((Nv r.co).length + 11 + ((Nv r.num.toNat).length + 11 + (r.k.form.length + 11 + ((Nv r.err.toNat).length + 11 + ((listAll (shs r.items)).length + 11 + ((Nv r.bits).length + 11 + 0))))))) := rfl
  unfold RR.form; omega
end Go.Proofs.Ytlcjhbemgagchaa
end

section
/-
  proto: numbers, entry, contract, reply (may it be?).
-/
namespace Go.Proofs.Ytlcjhbemgagchaa
open Go.RowKit
set_option linter.unusedVariables false
set_option linter.unusedSimpArgs false
structure ER.at_ (w : World) (r : ER) : Prop where
  sl : Sl w 1 r.A r.n (r.ws.map iv)
  le : r.n ≤ 17592186043904
  cap : r.n ≤ r.c ∧ r.c ≤ 9223372036854775807
structure CR.at_ (w : World) (r : CR) : Prop where
  sl : Sl w 5 r.A r.n (r.es.flatMap ER.cells)
  le : r.n ≤ 2513169434843
  cap : r.n ≤ r.c ∧ r.c ≤ 9223372036854775807
  es : ∀ e ∈ r.es, e.at_ w
structure RR.at_ (w : World) (r : RR) : Prop where
  sl : Sl w 1 r.A r.n (r.items.map iv)
  le : r.n ≤ 17592186043904
  cap : r.n ≤ r.c ∧ r.c ≤ 9223372036854775807
  k : r.k.at_ w
theorem Sl.quiet {w w' : World} {s n : Nat} {A : Option Addr} {xs : List Value} (h : Sl w s A n xs) (hf : Fr (fun _ => False) w w') : Sl w' s A n xs := h.below hf fun _ _ => id
theorem ER.at_.quiet {w w' : World} {r : ER} (h : r.at_ w) (hf : Fr (fun _ => False) w w') : r.at_ w' := ⟨h.sl.quiet hf, h.le, h.cap⟩
theorem CR.at_.quiet {w w' : World} {r : CR} (h : r.at_ w) (hf : Fr (fun _ => False) w w') : r.at_ w' := ⟨h.sl.quiet hf, h.le, h.cap, fun e he => (h.es e he).quiet hf⟩
theorem RR.at_.quiet {w w' : World} {r : RR} (h : r.at_ w) (hf : Fr (fun _ => False) w w') : r.at_ w' := ⟨h.sl.quiet hf, h.le, h.cap, h.k.quiet hf⟩
theorem Sl.ilen {w : World} {A : Option Addr} {n : Nat} {xs : List Int} (h : Sl w 1 A n (xs.map iv)) : n = xs.length := by have := h.1; simpa using this.symm
theorem CR.at_.len {w : World} {r : CR} (h : r.at_ w) : r.n = r.es.length := by
  have := h.sl.1
  rw [rows_len ER.cells 5 ER.cells_len] at this
  omega
theorem CR.at_.row {w : World} {r : CR} (h : r.at_ w) {i : Nat} (hi : i < r.es.length) : ∃ b o, r.A = some ⟨b, o, none⟩ ∧ ∀ j u, (r.es[i].cells)[j]? = some u → w.cell? ⟨b, o + i * 5 + j, none⟩ = some u := by
  obtain ⟨b, o, hA, -⟩ := h.sl.at_ (j := i * 5 + 0) (u := .int .i64 r.es[i].acc) (by rw [rows_get ER.cells 5 ER.cells_len _ _ _ hi (by omega)]; rfl)
  refine ⟨b, o, hA, fun j u hu => ?_⟩
  have hj : j < 5 := by
    rcases Nat.lt_or_ge j 5 with h | h
    · exact h
    · rw [List.getElem?_eq_none (by rw [ER.cells_len]; exact h)] at hu; cases hu
  obtain ⟨b', o', hA', hc⟩ := h.sl.at_ (j := i * 5 + j) (u := u) (by rw [rows_get ER.cells 5 ER.cells_len _ _ _ hi hj]; exact hu)
  rw [hA] at hA'
  cases hA'
  rwa [← Nat.add_assoc] at hc

set_option maxHeartbeats 2000000 in
set_option maxRecDepth 4000 in
theorem numbers_any (w : World) (xs : List Int) (A : Option Addr) (n c : Nat) (hn : n ≤ 17592186043904) (hA : Sl w 1 A n (xs.map iv)) :
    Calls Try.prog 104 #[.slice A n c] w fun e w' => e = .returned (.bool (okL xs)) ∧ w = w' := by
  have Hn := hide (hA.ilen)
  have HA := hide hA
  clear hA
  go_enter Try.func104, Try.ntmps104
  go_wp2_with fail
  go_loopw [7] (fun vi wr => ∃ j : Nat, j ≤ n ∧ vi = .int .i64 (j : Int) ∧ Hid (okL xs = okL (xs.drop j)) ∧ Hid (wr = w)) (fun vi _ => n - (intOf vi).toNat)
  case atStart => exact ⟨0, Nat.zero_le _, rfl, rfl, rfl⟩
  case round =>
    obtain ⟨j, hj, rfl, hk, hw⟩ := hrel
    have hw2 := hw.out
    subst hw2
    by_cases hlt : j < n
    · have hjl : j < xs.length := by rw [← Hn.out]; exact hlt
      obtain ⟨z, hz⟩ : ∃ z, xs[j] = z := ⟨_, rfl⟩
      have hd : xs.drop j = z :: xs.drop (j + 1) := by rw [List.drop_eq_getElem_cons hjl, hz]
      obtain ⟨b, o, rfl, c0⟩ := HA.out.at_ (j := j) (u := .int .i64 z) (by rw [List.getElem?_map, List.getElem?_eq_getElem hjl, hz]; rfl)
      have i0 : (0 : Int) ≤ (j : Int) := by omega
      have i1 : (j : Int) < (n : Int) := by omega
      have q1 : IntKind.i64.wrap ((j : Int) + 1) = ((j + 1 : Nat) : Int) := by rw [IntWalk.i64_in _ (by omega)]; omega
      have Hd := hide hd
      have Hlt := hide hlt
      clear hz hd hjl hlt hj
      by_cases h1 : z < 0
      · have hf : Hid (okL xs = false) := by
          show _ = _
          rw [hk.out, Hd.out]
          have : okN z = false := by simp [okN]; omega
          simp [okL, this]
        go_wp2_with fail
        go_ret
        exact ⟨by rw [hf.out]; rfl, rfl⟩
      by_cases h2 : (1125899906842624 : Int) < z
      · have hf : Hid (okL xs = false) := by
          show _ = _
          rw [hk.out, Hd.out]
          have : okN z = false := by simp [okN]; omega
          simp [okL, this]
        go_wp2_with fail
        go_ret
        exact ⟨by rw [hf.out]; rfl, rfl⟩
      have hk2 : Hid (okL xs = okL (xs.drop (j + 1))) := by
        show _ = _
        rw [hk.out, Hd.out]
        have : okN z = true := by simp [okN]; omega
        simp [okL, this]
      have h3 : decide (z < 0) = false := decide_eq_false h1
      have h4 : decide ((1125899906842624 : Int) < z) = false := decide_eq_false h2
      clear h1 h2 hk
      go_wp2_with fail
      have := Hlt.out
      exact ⟨⟨j + 1, by omega, by first | rfl | go_num, hk2, trivial⟩, by simp [intOf]; try omega⟩
    · have hf : Hid (okL xs = true) := by
        show _ = _
        rw [hk.out, List.drop_eq_nil_of_le (by rw [← Hn.out]; omega)]; rfl
      obtain rfl : j = n := by omega
      clear hlt hj
      go_wp2_with fail
      go_ret
      exact ⟨by rw [hf.out]; rfl, rfl⟩
/-- numbers, of a row that is laid for the call. -/
theorem numbers_lit (w0 : World) (xs : List Int) (g n : Nat) (hg : g = w0.heap.size) (hn : n = xs.length) (hb : n ≤ 100) (cs : Array Value) (hc : cs.toList = xs.map iv) {b : Bool} (hr : okL xs = b) :
    Calls Try.prog 104 #[.slice (some ⟨g, 0, none⟩) n n] (w0.alloc (.cells cs 3)) fun e w' => e = .returned (.bool b) ∧ w0.alloc (.cells cs 3) = w' := by
  subst hg hr
  refine numbers_any _ xs _ n n (by omega) ?_
  rw [← hc]
  refine Sl.row w0 cs 3 1 n ?_
  rw [← Array.length_toList, hc, List.length_map, hn]; omega
set_option maxHeartbeats 2000000 in
set_option maxRecDepth 4000 in
theorem entry_any (w : World) (r : ER) (h : r.at_ w) :
    Calls Try.prog 105 #[.agg #[.int .i64 r.acc, .int .i64 r.item, .int .u64 (r.co : Int), .int .u64 (r.pr : Int), .slice r.A r.n r.c]] w fun e w' => e = .returned (.bool r.ok) ∧ Fr (fun _ => False) w w' := by
  obtain ⟨acc, item, co, pr, A, n, c, ws⟩ := r
  have hlen : n = ws.length := h.sl.ilen
  have hle : n ≤ 17592186043904 := h.le
  have hsl := hide h.sl
  simp only at hsl ⊢
  have hN2 : ∀ w1 : World, Fr (fun _ => False) w w1 → Calls Try.prog 104 #[.slice A n c] w1 fun e w' => e = .returned (.bool (okL ws)) ∧ w1 = w' := fun w1 hf => numbers_any w1 ws A n c hle (hsl.out.quiet hf)
  have HN2 := hide hN2
  have Hlen := hide hlen
  clear hN2 hlen h hsl
  cases h1 : okL [acc, item] with
  | false =>
    have hr : Hid (ER.ok ⟨acc, item, co, pr, A, n, c, ws⟩ = false) := by show ER.ok _ = _; simp [ER.ok, h1]
    have C1 := numbers_lit (w.alloc (.cells #[.int .i64 acc, .int .i64 item, .int .u64 (co : Int), .int .u64 (pr : Int), .slice A n c] 26)) [acc, item] (w.heap.size + 1) 2 (by simp) rfl (by omega) #[.int .i64 acc, .int .i64 item] rfl h1
    have HC1 := hide C1
    clear h1 C1
    go_enter Try.func105, Try.ntmps105
    go_wp2_with fail
    refine HC1.out.mono ?_
    rintro e w' ⟨rfl, rfl⟩
    go_wp2_with fail
    go_ret
    exact ⟨by rw [hr.out]; rfl, ((Fr.refl _ _).alloc _).alloc _⟩
  | true =>
    have C1 := numbers_lit (w.alloc (.cells #[.int .i64 acc, .int .i64 item, .int .u64 (co : Int), .int .u64 (pr : Int), .slice A n c] 26)) [acc, item] (w.heap.size + 1) 2 (by simp) rfl (by omega) #[.int .i64 acc, .int .i64 item] rfl h1
    have HC1 := hide C1
    have H1 := hide h1
    clear h1 C1
    by_cases h2 : 16 < n
    · have hr : Hid (ER.ok ⟨acc, item, co, pr, A, n, c, ws⟩ = false) := by
        have : decide (ws.length ≤ 16) = false := decide_eq_false (by have := Hlen.out; omega)
        show ER.ok _ = _; simp only [ER.ok, this, Bool.and_false, Bool.false_and]
      have i2 : decide ((n : Int) ≤ 16) = false := decide_eq_false (by omega)
      have i3 : decide (n ≤ 16) = false := decide_eq_false (by omega)
      clear h2
      go_enter Try.func105, Try.ntmps105
      go_wp2_with fail
      refine HC1.out.mono ?_
      rintro e w' ⟨rfl, rfl⟩
      go_wp2_with fail
      go_ret
      exact ⟨by rw [hr.out]; rfl, ((Fr.refl _ _).alloc _).alloc _⟩
    · have hr : Hid (ER.ok ⟨acc, item, co, pr, A, n, c, ws⟩ = okL ws) := by
        have : decide (ws.length ≤ 16) = true := decide_eq_true (by have := Hlen.out; omega)
        show ER.ok _ = _; simp only [ER.ok, this, H1.out, Bool.true_and]
      have i2 : decide ((n : Int) ≤ 16) = true := decide_eq_true (by omega)
      have i3 : decide (n ≤ 16) = true := decide_eq_true (by omega)
      clear h2
      go_enter Try.func105, Try.ntmps105
      go_wp2_with fail
      refine HC1.out.mono ?_
      rintro e w' ⟨rfl, rfl⟩
      go_wp2_with fail
      refine (HN2.out _ (((Fr.refl _ _).alloc _).alloc _)).mono ?_
      rintro e w' ⟨rfl, rfl⟩
      go_wp2_with fail
      all_goals go_ret
      all_goals exact ⟨by rw [hr.out]; rfl, ((Fr.refl _ _).alloc _).alloc _⟩
end Go.Proofs.Ytlcjhbemgagchaa
end
