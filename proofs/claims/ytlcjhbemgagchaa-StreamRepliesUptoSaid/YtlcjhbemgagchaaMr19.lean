/-
  Texts merged into one, to keep the claim small: Pr1, PrW, PrK1.
-/
import Derived.Test.YtlcjhbemgagchaaMr18
section
/-
  proto: entries, contracts, replies as rows of fields. No program in sight.
-/
namespace Go.Proofs.Ytlcjhbemgagchaa
set_option linter.unusedVariables false
set_option linter.unusedSimpArgs false
def iv (z : Int) : Value := .int .i64 z
def okN (n : Int) : Bool := decide (0 ≤ n) && decide (n ≤ 1125899906842624)
def okL (l : List Int) : Bool := l.all okN
theorem okN_iff {n : Int} : okN n = true ↔ 0 ≤ n ∧ n ≤ 1125899906842624 := by simp [okN]
theorem okL_mem {l : List Int} (h : okL l = true) {n : Int} (hn : n ∈ l) : 0 ≤ n ∧ n ≤ 1125899906842624 := okN_iff.1 (List.all_eq_true.1 h n hn)
/-- An entry, and where its wishes lie. -/
structure ER where
  acc : Int
  item : Int
  co : Nat
  pr : Nat
  A : Option Addr
  n : Nat
  c : Nat
  ws : List Int
def ER.cells (r : ER) : List Value := [.int .i64 r.acc, .int .i64 r.item, .int .u64 (r.co : Int), .int .u64 (r.pr : Int), .slice r.A r.n r.c]
theorem ER.cells_len (r : ER) : r.cells.length = 5 := rfl
def ER.ok (r : ER) : Bool := okL [r.acc, r.item] && decide (r.ws.length ≤ 16) && okL r.ws
def shs (l : List Int) : List (List Nat) := l.map fun n => short n.toNat
def ER.fl (r : ER) : List Fd := [(5, Nv r.co), (6, Nv r.item.toNat), (10, Nv r.pr), (11, listAll (shs r.ws)), (22, Nv r.acc.toNat)]
def ER.form (r : ER) : List Nat := putAll (live r.fl)
/-- A contract, and where its entries lie. -/
structure CR where
  num : Int
  kind : Int
  by_ : Int
  dl : Int
  to_ : Int
  want : Int
  pr : Nat
  rs : Nat
  st : Nat
  of_ : Int
  A : Option Addr
  n : Nat
  c : Nat
  es : List ER
def CR.cells (r : CR) : List Value := [.int .i64 r.num, .int .i64 r.kind, .int .i64 r.by_, .int .i64 r.dl, .int .i64 r.to_, .int .i64 r.want, .int .u64 (r.pr : Int), .int .u64 (r.rs : Int), .int .u64 (r.st : Int), .int .i64 r.of_, .slice r.A r.n r.c]
def CR.seven (r : CR) : List Int := [r.num, r.kind, r.by_, r.dl, r.to_, r.want, r.of_]
def CR.ok (r : CR) : Bool := decide (r.es.length ≤ 16) && r.es.all ER.ok && okL r.seven
def CR.fl (r : CR) : List Fd := [(2, Nv r.kind.toNat), (4, Nv r.to_.toNat), (7, Nv r.num.toNat), (8, Nv r.of_.toNat), (10, Nv r.pr), (13, Nv r.dl.toNat), (14, Nv r.want.toNat), (15, Nv r.rs), (16, Nv r.st), (20, Nv r.by_.toNat), (21, listAll (r.es.map ER.form))]
def CR.form (r : CR) : List Nat := putAll (live r.fl)
/-- A reply. -/
structure RR where
  id : Int
  err : Int
  num : Int
  co : Nat
  A : Option Addr
  n : Nat
  c : Nat
  items : List Int
  txt : List Nat
  bits : Nat
  k : CR
def RR.ok (r : RR) : Bool := decide (0 ≤ r.id) && decide (r.id ≤ 4294967295) && decide (0 ≤ r.err) && decide (r.err ≤ 999) && decide (r.txt.length ≤ 128) && okL [r.num] && decide (r.items.length ≤ 512) && okL r.items && r.k.ok
def RR.fl (r : RR) : List Fd := [(1, Nv r.id.toNat), (3, r.txt), (5, Nv r.co), (7, Nv r.num.toNat), (12, r.k.form), (17, Nv r.err.toNat), (18, listAll (shs r.items)), (19, Nv r.bits)]
def RR.form (r : RR) : List Nat := putAll (live r.fl)
theorem ER.asc (r : ER) : Asc 0 r.fl := by simp [ER.fl, Asc]
theorem CR.asc (r : CR) : Asc 0 r.fl := by simp [CR.fl, Asc]
theorem RR.asc (r : RR) : Asc 0 r.fl := by simp [RR.fl, Asc]
/-- The numbers are those of 64 bits. -/
structure ER.wf (r : ER) : Prop where
  co : r.co < U64
  pr : r.pr < U64
structure CR.wf (r : CR) : Prop where
  pr : r.pr < U64
  rs : r.rs < U64
  st : r.st < U64
  es : ∀ e ∈ r.es, e.wf
structure RR.wf (r : RR) : Prop where
  co : r.co < U64
  bits : r.bits < 4294967296
  k : r.k.wf
  txt : ∀ x ∈ r.txt, x < 256
theorem toNat_U {n : Int} (h : 0 ≤ n ∧ n ≤ 1125899906842624) : n.toNat < U64 := by unfold U64; omega
theorem listAll_len {M : Nat} : ∀ (l : List (List Nat)), (∀ x ∈ l, x.length ≤ M) → M < U64 → (listAll l).length ≤ l.length * (10 + M)
  | [], _, _ => by simp [listAll]
  | v :: r, h, hM => by
    have ih := listAll_len r (fun x hx => h x (List.mem_cons_of_mem _ hx)) hM
    have h1 := h v (List.mem_cons_self ..)
    have h2 := (short_le (n := v.length) (by omega)).2
    have e : listAll (v :: r) = short v.length ++ (v ++ listAll r) := by simp [listAll]
    rw [e]
    simp only [List.length_append, List.length_cons, Nat.add_mul, Nat.one_mul]
    omega
theorem shs_len {l : List Int} (h : okL l = true) : ∀ x ∈ shs l, x.length ≤ 10 := fun x hx => by
  obtain ⟨n, hn, rfl⟩ := List.mem_map.1 hx
  exact (short_le (toNat_U (okL_mem h hn))).2
theorem shsAll_len {l : List Int} (h : okL l = true) : (listAll (shs l)).length ≤ l.length * 20 := by
  have := listAll_len (M := 10) (shs l) (shs_len h) (by unfold U64; omega)
  rw [show (shs l).length = l.length from List.length_map _] at this
  omega
theorem ER.ok_split {r : ER} (h : r.ok = true) : okL [r.acc, r.item] = true ∧ r.ws.length ≤ 16 ∧ okL r.ws = true := by
  unfold ER.ok at h
  simp only [Bool.and_eq_true, decide_eq_true_eq] at h
  exact ⟨h.1.1, h.1.2, h.2⟩
theorem ER.len {r : ER} (h : r.ok = true) (hw : r.wf) : r.form.length ≤ 1000 ∧ ∀ f ∈ r.fl, f.2.length ≤ 1000 := by
  obtain ⟨h1, h2, h3⟩ := ER.ok_split h
  have a1 := okL_mem h1 (n := r.acc) (by simp)
  have a2 := okL_mem h1 (n := r.item) (by simp)
  have l1 := Nv_le hw.co
  have l2 := Nv_le (toNat_U a2)
  have l3 := Nv_le hw.pr
  have l4 := shsAll_len h3
  have l5 := Nv_le (toNat_U a1)
  have hl : ∀ f ∈ r.fl, f.2.length ≤ 1000 := by
    intro f hf
    simp only [ER.fl, List.mem_cons, List.mem_nil_iff, or_false] at hf
    rcases hf with rfl | rfl | rfl | rfl | rfl <;> simp only <;> omega
  refine ⟨?_, hl⟩
  have hp := putAll_live_le r.fl fun f hf => by have := hl f hf; unfold U64; omega
  have e : (r.fl.map fun f : Fd => f.2.length + 11).sum = (Nv r.co).length + 11 + ((Nv r.item.toNat).length + 11 + ((Nv r.pr).length + 11 + ((listAll (shs r.ws)).length + 11 + ((Nv r.acc.toNat).length + 11 + 0)))) := rfl
  unfold ER.form; omega
theorem CR.ok_split {r : CR} (h : r.ok = true) : r.es.length ≤ 16 ∧ (∀ e ∈ r.es, e.ok = true) ∧ okL r.seven = true := by
  unfold CR.ok at h
  simp only [Bool.and_eq_true, decide_eq_true_eq] at h
  exact ⟨h.1.1, List.all_eq_true.1 h.1.2, h.2⟩
theorem CR.forms_len {r : CR} (h : r.ok = true) (hw : r.wf) : (listAll (r.es.map ER.form)).length ≤ 16160 ∧ ∀ x ∈ r.es.map ER.form, x.length ≤ 1000 := by
  obtain ⟨h1, h2, h3⟩ := CR.ok_split h
  have hx : ∀ x ∈ r.es.map ER.form, x.length ≤ 1000 := fun x hx => by
    obtain ⟨e, he, rfl⟩ := List.mem_map.1 hx
    exact (ER.len (h2 e he) (hw.es e he)).1
  have l1 := listAll_len (M := 1000) _ hx (by unfold U64; omega)
  rw [List.length_map] at l1
  exact ⟨by omega, hx⟩
theorem CR.len {r : CR} (h : r.ok = true) (hw : r.wf) : r.form.length ≤ 20000 ∧ ∀ f ∈ r.fl, f.2.length ≤ 20000 := by
  obtain ⟨h1, h2, h3⟩ := CR.ok_split h
  have l11 := (CR.forms_len h hw).1
  have a : ∀ z ∈ r.seven, (Nv z.toNat).length ≤ 10 := fun z hz => Nv_le (toNat_U (okL_mem h3 hz))
  have l1 := a r.kind (by simp [CR.seven])
  have l2 := a r.to_ (by simp [CR.seven])
  have l3 := a r.num (by simp [CR.seven])
  have l4 := a r.of_ (by simp [CR.seven])
  have l6 := a r.dl (by simp [CR.seven])
  have l7 := a r.want (by simp [CR.seven])
  have l10 := a r.by_ (by simp [CR.seven])
  have l5 := Nv_le hw.pr
  have l8 := Nv_le hw.rs
  have l9 := Nv_le hw.st
  have hl : ∀ f ∈ r.fl, f.2.length ≤ 20000 := by
    intro f hf
    simp only [CR.fl, List.mem_cons, List.mem_nil_iff, or_false] at hf
    rcases hf with rfl | rfl | rfl | rfl | rfl | rfl | rfl | rfl | rfl | rfl | rfl <;> simp only <;> omega
  refine ⟨?_, hl⟩
  have hp := putAll_live_le r.fl fun f hf => by have := hl f hf; unfold U64; omega
  have e : (r.fl.map fun f : Fd => f.2.length + 11).sum = (Nv r.kind.toNat).length + 11 + ((Nv r.to_.toNat).length + 11 + ((Nv r.num.toNat).length + 11 + ((Nv r.of_.toNat).length + 11 + ((Nv r.pr).length + 11 + ((Nv r.dl.toNat).length + 11 + ((Nv r.want.toNat).length + 11 + ((Nv r.rs).length + 11 + ((Nv r.st).length + 11 + ((Nv r.by_.toNat).length + 11 + ((listAll (r.es.map ER.form)).length + 11 + 0)))))))))) := rfl
  unfold CR.form; omega
theorem RR.ok_split {r : RR} (h : r.ok = true) : (0 ≤ r.id ∧ r.id ≤ 4294967295) ∧ (0 ≤ r.err ∧ r.err ≤ 999) ∧ r.txt.length ≤ 128 ∧ okL [r.num] = true ∧ r.items.length ≤ 512 ∧ okL r.items = true ∧ r.k.ok = true := by
  unfold RR.ok at h
  simp only [Bool.and_eq_true, decide_eq_true_eq] at h
  obtain ⟨⟨⟨⟨⟨⟨⟨⟨a, b⟩, c⟩, d⟩, e⟩, f⟩, g⟩, i⟩, j⟩ := h
  exact ⟨⟨a, b⟩, ⟨c, d⟩, e, f, g, i, j⟩
theorem RR.len {r : RR} (h : r.ok = true) (hw : r.wf) : r.form.length ≤ 40000 ∧ ∀ f ∈ r.fl, f.2.length ≤ 40000 := by
  obtain ⟨h1, h2, h3, h4, h5, h6, h7⟩ := RR.ok_split h
  have l1 := Nv_le (n := r.id.toNat) (by unfold U64; omega)
  have l3 := Nv_le hw.co
  have l4 := Nv_le (toNat_U (okL_mem h4 (n := r.num) (by simp)))
  have l5 := (CR.len h7 hw.k).1
  have l6 := Nv_le (n := r.err.toNat) (by unfold U64; omega)
  have l7 := shsAll_len h6
  have l8 := Nv_le (n := r.bits) (by have := hw.bits; unfold U64; omega)
  have hl : ∀ f ∈ r.fl, f.2.length ≤ 40000 := by
    intro f hf
    simp only [RR.fl, List.mem_cons, List.mem_nil_iff, or_false] at hf
    rcases hf with rfl | rfl | rfl | rfl | rfl | rfl | rfl | rfl <;> simp only <;> omega
  refine ⟨?_, hl⟩
  have hp := putAll_live_le r.fl fun f hf => by have := hl f hf; unfold U64; omega
  have e : (r.fl.map fun f : Fd => f.2.length + 11).sum = (Nv r.id.toNat).length + 11 + (r.txt.length + 11 + ((Nv r.co).length + 11 + ((Nv r.num.toNat).length + 11 + (r.k.form.length + 11 + ((Nv r.err.toNat).length + 11 + ((listAll (shs r.items)).length + 11 + ((Nv r.bits).length + 11 + 0))))))) := rfl
  unfold RR.form; omega
end Go.Proofs.Ytlcjhbemgagchaa
end

section
/-
  proto: forms are rows of bytes. No program in sight.
-/
namespace Go.Proofs.Ytlcjhbemgagchaa
set_option linter.unusedVariables false
set_option linter.unusedSimpArgs false
theorem putAll_b : ∀ (fs : List (Int × List Nat)) (a : Int), -1 ≤ a → putScan a fs = 0 → (∀ f ∈ fs, ∀ y ∈ f.2, y < 256) → ∀ x ∈ putAll fs, x < 256
  | [], _, _, _, _, x, hx => by simp [putAll] at hx
  | (t, v) :: r, a, ha, h, hv, x, hx => by
    rw [putScan] at h
    split at h
    · simp at h
    · rename_i h1
      split at h
      · simp at h
      · have e : putAll ((t, v) :: r) = formF t.toNat v ++ putAll r := by simp [putAll]
        rw [e] at hx
        rcases List.mem_append.1 hx with hx | hx
        · rw [formF] at hx
          rcases List.mem_append.1 hx with hx | hx
          · rcases List.mem_cons.1 hx with rfl | hx
            · omega
            · exact short_bytes _ _ (Nat.le_refl _) x hx
          · exact hv _ (List.mem_cons_self ..) x hx
        · exact putAll_b r t (by omega) h (fun f hf => hv f (List.mem_cons_of_mem _ hf)) x hx
theorem listAll_b {xss : List (List Nat)} (h : ∀ x ∈ xss, ∀ y ∈ x, y < 256) : ∀ y ∈ listAll xss, y < 256 := by
  intro y hy
  obtain ⟨x, hx, hyx⟩ := List.mem_flatMap.1 hy
  rcases List.mem_append.1 hyx with hy | hy
  · exact short_bytes _ _ (Nat.le_refl _) y hy
  · exact h x hx y hy
theorem live_b {l : List Fd} (ha : Asc 0 l) (h : ∀ f ∈ l, ∀ y ∈ f.2, y < 256) : ∀ x ∈ putAll (live l), x < 256 :=
  putAll_b _ 0 (by omega) (asc_scan _ 0 ha.live live_ne) fun f hf => h f (List.mem_filter.1 hf).1
theorem Nv_b (n : Nat) : ∀ y ∈ Nv n, y < 256 := by
  unfold Nv
  split
  · intro y hy; cases hy
  · exact short_bytes _ _ (Nat.le_refl _)
theorem shs_b (l : List Int) : ∀ x ∈ shs l, ∀ y ∈ x, y < 256 := fun x hx => by
  obtain ⟨n, -, rfl⟩ := List.mem_map.1 hx
  exact short_bytes _ _ (Nat.le_refl _)
theorem ER.form_b (r : ER) : ∀ x ∈ r.form, x < 256 := live_b r.asc fun f hf => by
  simp only [ER.fl, List.mem_cons, List.mem_nil_iff, or_false] at hf
  rcases hf with rfl | rfl | rfl | rfl | rfl <;> first | exact Nv_b _ | exact listAll_b (shs_b _)
theorem CR.form_b (r : CR) : ∀ x ∈ r.form, x < 256 := live_b r.asc fun f hf => by
  simp only [CR.fl, List.mem_cons, List.mem_nil_iff, or_false] at hf
  rcases hf with rfl | rfl | rfl | rfl | rfl | rfl | rfl | rfl | rfl | rfl | rfl <;> first | exact Nv_b _ | exact listAll_b (fun x hx => by obtain ⟨e, -, rfl⟩ := List.mem_map.1 hx; exact e.form_b)
theorem RR.form_b {r : RR} (hw : r.wf) : ∀ x ∈ r.form, x < 256 := live_b r.asc fun f hf => by
  simp only [RR.fl, List.mem_cons, List.mem_nil_iff, or_false] at hf
  rcases hf with rfl | rfl | rfl | rfl | rfl | rfl | rfl | rfl <;> first | exact Nv_b _ | exact listAll_b (shs_b _) | exact r.k.form_b | exact hw.txt
end Go.Proofs.Ytlcjhbemgagchaa
end

section
/-
  proto: commands as rows of fields. No program in sight.
-/
namespace Go.Proofs.Ytlcjhbemgagchaa
set_option linter.unusedVariables false
set_option linter.unusedSimpArgs false
/-- What is known of the kinds. -/
def kindsL : List (Int × Int) := [(0, 0), (4, 1), (2, 6), (2, 34), (2, 6), (2, 10), (8, 192), (5, 80), (3, 16), (3, 2), (1, 2), (1, 8), (2, 16), (2, 32), (1, 1)]
def costI (k : Int) : Int := if 0 ≤ k then (kindsL.getD k.toNat (0, 0)).1 else 0
def hasI (k : Int) : Int := if 0 ≤ k then (kindsL.getD k.toNat (0, 0)).2 else 0
def inK (l : List Int) (k : Int) : Bool := l.contains k
/-- A command. -/
structure KC where
  id : Int
  kind : Int
  name : List Nat
  to_ : Int
  co : Nat
  item : Int
  num : Int
  of_ : Int
  e : ER
  k : CR
def ER.blank (e : ER) : Bool := decide (e.item = 0) && decide (e.co = 0) && decide (e.pr = 0) && decide (e.ws.length = 0)
def CR.blank (k : CR) : Bool := okL [-k.num, -k.kind, -k.by_, -k.dl, -k.to_, -k.want, -k.of_] && decide (k.pr = 0) && decide (k.rs = 0) && decide (k.st = 0) && decide (k.es.length = 0)
def KC.fine (r : KC) : Bool := (decide (1 ≤ r.kind) && decide (r.kind ≤ 14)) && decide (0 ≤ r.id) && decide (r.id ≤ 4294967295) && decide (r.name.length ≤ 128) && okL [r.to_, r.item, r.num, r.of_] && r.e.ok && decide (r.e.acc = 0) && r.k.ok && decide (r.k.num = 0) && decide (r.k.by_ = 0) && decide (r.k.es.length = 0)
def KC.ok (r : KC) : Bool := r.fine && (inK [1, 14] r.kind || decide (r.name.length = 0)) && (inK [2, 3, 4, 5, 9, 10] r.kind || decide (r.to_ = 0)) && (inK [2, 4] r.kind || decide (r.co = 0)) && (inK [5, 11] r.kind || decide (r.item = 0)) && (inK [7, 8, 12] r.kind || decide (r.num = 0)) && (inK [3, 13] r.kind || decide (r.of_ = 0)) && (inK [6] r.kind || r.k.blank) && (inK [6, 7] r.kind || r.e.blank)
def KC.fl (r : KC) : List Fd := [(1, Nv r.id.toNat), (2, Nv r.kind.toNat), (3, r.name), (4, Nv r.to_.toNat), (5, Nv r.co), (6, Nv r.item.toNat), (7, Nv r.num.toNat), (8, Nv r.of_.toNat), (9, r.e.form), (12, r.k.form)]
def KC.form (r : KC) : List Nat := putAll (live r.fl)
theorem KC.asc (r : KC) : Asc 0 r.fl := by simp [KC.fl, Asc]
structure KC.wf (r : KC) : Prop where
  co : r.co < U64
  e : r.e.wf
  k : r.k.wf
  name : ∀ x ∈ r.name, x < 256
theorem KC.fine_split {r : KC} (h : r.fine = true) : (1 ≤ r.kind ∧ r.kind ≤ 14) ∧ (0 ≤ r.id ∧ r.id ≤ 4294967295) ∧ r.name.length ≤ 128 ∧ okL [r.to_, r.item, r.num, r.of_] = true ∧ r.e.ok = true ∧ r.e.acc = 0 ∧ r.k.ok = true ∧ r.k.num = 0 ∧ r.k.by_ = 0 ∧ r.k.es.length = 0 := by
  unfold KC.fine at h
  simp only [Bool.and_eq_true, decide_eq_true_eq] at h
  obtain ⟨⟨⟨⟨⟨⟨⟨⟨⟨⟨a, b⟩, c⟩, d⟩, e⟩, f⟩, g⟩, i⟩, j⟩, k⟩, l⟩ := h
  exact ⟨a, ⟨b, c⟩, d, e, f, g, i, j, k, l⟩
theorem KC.ok_fine {r : KC} (h : r.ok = true) : r.fine = true := by
  unfold KC.ok at h
  simp only [Bool.and_eq_true] at h
  exact h.1.1.1.1.1.1.1.1
theorem KC.len {r : KC} (h : r.ok = true) (hw : r.wf) : r.form.length ≤ 40000 ∧ ∀ f ∈ r.fl, f.2.length ≤ 40000 := by
  obtain ⟨h1, h2, h3, h4, h5, h6, h7, h8, h9, h10⟩ := KC.fine_split (KC.ok_fine h)
  have l1 := Nv_le (n := r.id.toNat) (by unfold U64; omega)
  have l2 := Nv_le (n := r.kind.toNat) (by unfold U64; omega)
  have l4 := Nv_le (toNat_U (okL_mem h4 (n := r.to_) (by simp)))
  have l5 := Nv_le hw.co
  have l6 := Nv_le (toNat_U (okL_mem h4 (n := r.item) (by simp)))
  have l7 := Nv_le (toNat_U (okL_mem h4 (n := r.num) (by simp)))
  have l8 := Nv_le (toNat_U (okL_mem h4 (n := r.of_) (by simp)))
  have l9 := (ER.len h5 hw.e).1
  have l12 := (CR.len h7 hw.k).1
  have hl : ∀ f ∈ r.fl, f.2.length ≤ 40000 := by
    intro f hf
    simp only [KC.fl, List.mem_cons, List.mem_nil_iff, or_false] at hf
    rcases hf with rfl | rfl | rfl | rfl | rfl | rfl | rfl | rfl | rfl | rfl <;> simp only <;> omega
  refine ⟨?_, hl⟩
  have hp := putAll_live_le r.fl fun f hf => by have := hl f hf; unfold U64; omega
  have e : (r.fl.map fun f : Fd => f.2.length + 11).sum = (Nv r.id.toNat).length + 11 + ((Nv r.kind.toNat).length + 11 + (r.name.length + 11 + ((Nv r.to_.toNat).length + 11 + ((Nv r.co).length + 11 + ((Nv r.item.toNat).length + 11 + ((Nv r.num.toNat).length + 11 + ((Nv r.of_.toNat).length + 11 + (r.e.form.length + 11 + (r.k.form.length + 11 + 0))))))))) := rfl
  unfold KC.form; omega
theorem KC.form_b {r : KC} (hw : r.wf) : ∀ x ∈ r.form, x < 256 := live_b r.asc fun f hf => by
  simp only [KC.fl, List.mem_cons, List.mem_nil_iff, or_false] at hf
  rcases hf with rfl | rfl | rfl | rfl | rfl | rfl | rfl | rfl | rfl | rfl <;> first | exact Nv_b _ | exact r.e.form_b | exact r.k.form_b | exact hw.name
theorem short_cons (n : Nat) : short n ≠ [] := by unfold short; split <;> simp
theorem Nv_nil (n : Nat) : Nv n = [] ↔ n = 0 := by
  unfold Nv
  split
  · simp [*]
  · exact ⟨fun h => absurd h (short_cons n), fun h => by contradiction⟩
theorem listAll_nil (l : List (List Nat)) : listAll l = [] ↔ l = [] := by
  constructor
  · intro h
    match l, h with
    | [], _ => rfl
    | v :: r, h =>
      have e : listAll (v :: r) = short v.length ++ (v ++ listAll r) := by simp [listAll]
      rw [e] at h
      exact absurd (List.append_eq_nil_iff.1 h).1 (short_cons _)
  · rintro rfl; rfl
theorem put_live_nil (l : List Fd) : (putAll (live l)).length = 0 ↔ ∀ f ∈ l, f.2 = [] := by
  constructor
  · intro h f hf
    have h0 : putAll (live l) = [] := List.length_eq_zero_iff.1 h
    rcases hv : f.2 with _ | ⟨x, xs⟩
    · rfl
    · have h1 : f ∈ live l := List.mem_filter.2 ⟨hf, by rw [hv]; rfl⟩
      have h2 : f.1.toNat ∈ putAll (live l) := List.mem_flatMap.2 ⟨f, h1, List.mem_cons_self ..⟩
      rw [h0] at h2
      cases h2
  · intro h
    have h0 : live l = [] := List.filter_eq_nil_iff.2 fun f hf => by rw [h f hf]; simp
    rw [h0]; rfl
/-- An entry's form is empty only where the entry has nothing. -/
theorem ER.form_blank {e : ER} (h : e.ok = true) (ha : e.acc = 0) : decide (e.form.length = 0) = e.blank := by
  obtain ⟨h1, h2, h3⟩ := ER.ok_split h
  have a2 := okL_mem h1 (n := e.item) (by simp)
  have hb : (e.form.length = 0) ↔ e.blank = true := by
    unfold ER.form ER.blank
    rw [put_live_nil]
    simp only [Bool.and_eq_true, decide_eq_true_eq, ER.fl, List.mem_cons, List.mem_nil_iff, or_false, forall_eq_or_imp, forall_eq, Nv_nil, listAll_nil]
    constructor
    · rintro ⟨q1, q2, q3, q4, q5⟩
      refine ⟨⟨⟨by omega, q1⟩, q3⟩, ?_⟩
      have : (shs e.ws).length = 0 := by rw [q4]; rfl
      rwa [shs, List.length_map] at this
    · rintro ⟨⟨⟨q1, q2⟩, q3⟩, q4⟩
      refine ⟨q2, by omega, q3, ?_, by omega⟩
      have : e.ws = [] := List.length_eq_zero_iff.1 q4
      rw [this]; rfl
  rcases hq : e.blank with _ | _
  · exact decide_eq_false fun e2 => by rw [hb.1 e2] at hq; cases hq
  · exact decide_eq_true (hb.2 hq)
theorem CR.form_blank {k : CR} (h : k.ok = true) : decide (k.form.length = 0) = k.blank := by
  obtain ⟨h1, h2, h3⟩ := CR.ok_split h
  have a : ∀ z ∈ k.seven, 0 ≤ z ∧ z ≤ 1125899906842624 := fun z hz => okL_mem h3 hz
  have b1 := a k.num (by simp [CR.seven])
  have b2 := a k.kind (by simp [CR.seven])
  have b3 := a k.by_ (by simp [CR.seven])
  have b4 := a k.dl (by simp [CR.seven])
  have b5 := a k.to_ (by simp [CR.seven])
  have b6 := a k.want (by simp [CR.seven])
  have b7 := a k.of_ (by simp [CR.seven])
  have hb : (k.form.length = 0) ↔ k.blank = true := by
    unfold CR.form CR.blank
    rw [put_live_nil]
    simp only [Bool.and_eq_true, decide_eq_true_eq, CR.fl, List.mem_cons, List.mem_nil_iff, or_false, forall_eq_or_imp, forall_eq, Nv_nil, listAll_nil, okL, List.all_cons, List.all_nil, okN_iff]
    constructor
    · rintro ⟨q1, q2, q3, q4, q5, q6, q7, q8, q9, q10, q11⟩
      refine ⟨⟨⟨⟨⟨by omega, by omega, by omega, by omega, by omega, by omega, by omega, trivial⟩, q5⟩, q8⟩, q9⟩, ?_⟩
      have : (k.es.map ER.form).length = 0 := by rw [q11]; rfl
      rwa [List.length_map] at this
    · rintro ⟨⟨⟨⟨⟨q1, q2, q3, q4, q5, q6, q7, -⟩, q8⟩, q9⟩, q10⟩, q11⟩
      refine ⟨by omega, by omega, by omega, by omega, q8, by omega, by omega, q9, q10, by omega, ?_⟩
      have : k.es = [] := List.length_eq_zero_iff.1 q11
      rw [this]; rfl
  rcases hq : k.blank with _ | _
  · exact decide_eq_false fun e2 => by rw [hb.1 e2] at hq; cases hq
  · exact decide_eq_true (hb.2 hq)
theorem kind_cases {k : Int} (h : 1 ≤ k ∧ k ≤ 14) (P : Int → Prop) (h1 : P 1) (h2 : P 2) (h3 : P 3) (h4 : P 4) (h5 : P 5) (h6 : P 6) (h7 : P 7) (h8 : P 8) (h9 : P 9) (h10 : P 10) (h11 : P 11) (h12 : P 12) (h13 : P 13) (h14 : P 14) : P k := by
  have : k = 1 ∨ k = 2 ∨ k = 3 ∨ k = 4 ∨ k = 5 ∨ k = 6 ∨ k = 7 ∨ k = 8 ∨ k = 9 ∨ k = 10 ∨ k = 11 ∨ k = 12 ∨ k = 13 ∨ k = 14 := by omega
  rcases this with rfl | rfl | rfl | rfl | rfl | rfl | rfl | rfl | rfl | rfl | rfl | rfl | rfl | rfl <;> assumption
end Go.Proofs.Ytlcjhbemgagchaa
end
