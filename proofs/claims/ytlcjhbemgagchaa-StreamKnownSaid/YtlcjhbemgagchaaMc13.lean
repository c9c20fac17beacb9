/-
  Texts merged into one, to keep the claim small: PrW, PrK1, TlvL6, TlvOne0, Pd1.
-/
import Derived.Test.YtlcjhbemgagchaaMc12
import Derived.Test.YtlcjhbemgagchaaMc7
import Derived.Test.YtlcjhbemgagchaaMc10
section
/-
  proto: forms are rows of bytes. No program in sight.
-/
namespace Go.Proofs.Ytlcjhbemgagchaa
set_option linter.unusedVariables false
set_option linter.unusedSimpArgs false
theorem putAll_b : ∀ (fs : List (Int × List Nat)) (a : Int), -1 ≤ a → putScan a fs = 0 → (∀ f ∈ fs, ∀ y ∈ f.2, y < 256) → ∀ x ∈ putAll fs, x < 256
  | [], _, _, _, _, x, hx => by simp [putAll] at hx
  | (t, v) :: r, a, ha, h, hv, x, hx => by
    rw [putScan] at h
    split at h
    · simp at h
    · rename_i h1
      split at h
      · simp at h
      · have e : putAll ((t, v) :: r) = formF t.toNat v ++ putAll r := by simp [putAll]
        rw [e] at hx
        rcases List.mem_append.1 hx with hx | hx
        · rw [formF] at hx
          rcases List.mem_append.1 hx with hx | hx
          · rcases List.mem_cons.1 hx with rfl | hx
            · omega
            · exact short_bytes _ _ (Nat.le_refl _) x hx
          · exact hv _ (List.mem_cons_self ..) x hx
        · exact putAll_b r t (by omega) h (fun f hf => hv f (List.mem_cons_of_mem _ hf)) x hx
theorem listAll_b {xss : List (List Nat)} (h : ∀ x ∈ xss, ∀ y ∈ x, y < 256) : ∀ y ∈ listAll xss, y < 256 := by
  intro y hy
  obtain ⟨x, hx, hyx⟩ := List.mem_flatMap.1 hy
  rcases List.mem_append.1 hyx with hy | hy
  · exact short_bytes _ _ (Nat.le_refl _) y hy
  · exact h x hx y hy
theorem live_b {l : List Fd} (ha : Asc 0 l) (h : ∀ f ∈ l, ∀ y ∈ f.2, y < 256) : ∀ x ∈ putAll (live l), x < 256 :=
  putAll_b _ 0 (by omega) (asc_scan _ 0 ha.live live_ne) fun f hf => h f (List.mem_filter.1 hf).1
theorem Nv_b (n : Nat) : ∀ y ∈ Nv n, y < 256 := by
  unfold Nv
  split
  · intro y hy; cases hy
  · exact short_bytes _ _ (Nat.le_refl _)
theorem shs_b (l : List Int) : ∀ x ∈ shs l, ∀ y ∈ x, y < 256 := fun x hx => by
  obtain ⟨n, -, rfl⟩ := List.mem_map.1 hx
  exact short_bytes _ _ (Nat.le_refl _)
theorem ER.form_b (r : ER) : ∀ x ∈ r.form, x < 256 := live_b r.asc fun f hf => by
  simp only [ER.fl, List.mem_cons, List.mem_nil_iff, or_false] at hf
  rcases hf with rfl | rfl | rfl | rfl | rfl <;> first | exact Nv_b _ | exact listAll_b (shs_b _)
theorem CR.form_b (r : CR) : ∀ x ∈ r.form, x < 256 := live_b r.asc fun f hf => by
  simp only [CR.fl, List.mem_cons, List.mem_nil_iff, or_false] at hf
  rcases hf with rfl | rfl | rfl | rfl | rfl | rfl | rfl | rfl | rfl | rfl | rfl <;> first | exact Nv_b _ | exact listAll_b (fun x hx => by obtain ⟨e, -, rfl⟩ := List.mem_map.1 hx; exact e.form_b)
theorem RR.form_b {r : RR} (hw : r.wf) : ∀ x ∈ r.form, x < 256 := live_b r.asc fun f hf => by
  simp only [RR.fl, List.mem_cons, List.mem_nil_iff, or_false] at hf
  rcases hf with rfl | rfl | rfl | rfl | rfl | rfl | rfl | rfl <;> first | exact Nv_b _ | exact listAll_b (shs_b _) | exact r.k.form_b | exact hw.txt
end Go.Proofs.Ytlcjhbemgagchaa
end

section
/-
  proto: commands as rows of fields. No program in sight.
-/
namespace Go.Proofs.Ytlcjhbemgagchaa
set_option linter.unusedVariables false
set_option linter.unusedSimpArgs false
/-- What is known of the kinds. -/
def kindsL : List (Int × Int) := [(0, 0), (4, 1), (2, 6), (2, 34), (2, 6), (2, 10), (8, 192), (5, 80), (3, 16), (3, 2), (1, 2), (1, 8), (2, 16), (2, 32), (1, 1)]
def costI (k : Int) : Int := if 0 ≤ k then (kindsL.getD k.toNat (0, 0)).1 else 0
def hasI (k : Int) : Int := if 0 ≤ k then (kindsL.getD k.toNat (0, 0)).2 else 0
def inK (l : List Int) (k : Int) : Bool := l.contains k
/-- A command. -/
structure KC where
  id : Int
  kind : Int
  name : List Nat
  to_ : Int
  co : Nat
  item : Int
  num : Int
  of_ : Int
  e : ER
  k : CR
def ER.blank (e : ER) : Bool := decide (e.item = 0) && decide (e.co = 0) && decide (e.pr = 0) && decide (e.ws.length = 0)
def CR.blank (k : CR) : Bool := okL [-k.num, -k.kind, -k.by_, -k.dl, -k.to_, -k.want, -k.of_] && decide (k.pr = 0) && decide (k.rs = 0) && decide (k.st = 0) && decide (k.es.length = 0)
def KC.fine (r : KC) : Bool := (decide (1 ≤ r.kind) && decide (r.kind ≤ 14)) && decide (0 ≤ r.id) && decide (r.id ≤ 4294967295) && decide (r.name.length ≤ 128) && okL [r.to_, r.item, r.num, r.of_] && r.e.ok && decide (r.e.acc = 0) && r.k.ok && decide (r.k.num = 0) && decide (r.k.by_ = 0) && decide (r.k.es.length = 0)
def KC.ok (r : KC) : Bool := r.fine && (inK [1, 14] r.kind || decide (r.name.length = 0)) && (inK [2, 3, 4, 5, 9, 10] r.kind || decide (r.to_ = 0)) && (inK [2, 4] r.kind || decide (r.co = 0)) && (inK [5, 11] r.kind || decide (r.item = 0)) && (inK [7, 8, 12] r.kind || decide (r.num = 0)) && (inK [3, 13] r.kind || decide (r.of_ = 0)) && (inK [6] r.kind || r.k.blank) && (inK [6, 7] r.kind || r.e.blank)
def KC.fl (r : KC) : List Fd := [(1, Nv r.id.toNat), (2, Nv r.kind.toNat), (3, r.name), (4, Nv r.to_.toNat), (5, Nv r.co), (6, Nv r.item.toNat), (7, Nv r.num.toNat), (8, Nv r.of_.toNat), (9, r.e.form), (12, r.k.form)]
def KC.form (r : KC) : List Nat := putAll (live r.fl)
theorem KC.asc (r : KC) : Asc 0 r.fl := by simp [KC.fl, Asc]
structure KC.wf (r : KC) : Prop where
  co : r.co < U64
  e : r.e.wf
  k : r.k.wf
  name : ∀ x ∈ r.name, x < 256
theorem KC.fine_split {r : KC} (h : r.fine = true) : (1 ≤ r.kind ∧ r.kind ≤ 14) ∧ (0 ≤ r.id ∧ r.id ≤ 4294967295) ∧ r.name.length ≤ 128 ∧ okL [r.to_, r.item, r.num, r.of_] = true ∧ r.e.ok = true ∧ r.e.acc = 0 ∧ r.k.ok = true ∧ r.k.num = 0 ∧ r.k.by_ = 0 ∧ r.k.es.length = 0 := by
  unfold KC.fine at h
  simp only [Bool.and_eq_true, decide_eq_true_eq] at h
  obtain ⟨⟨⟨⟨⟨⟨⟨⟨⟨⟨a, b⟩, c⟩, d⟩, e⟩, f⟩, g⟩, i⟩, j⟩, k⟩, l⟩ := h
  exact ⟨a, ⟨b, c⟩, d, e, f, g, i, j, k, l⟩
theorem KC.ok_fine {r : KC} (h : r.ok = true) : r.fine = true := by
  unfold KC.ok at h
  simp only [Bool.and_eq_true] at h
  exact h.1.1.1.1.1.1.1.1
theorem KC.len {r : KC} (h : r.ok = true) (hw : r.wf) : r.form.length ≤ 40000 ∧ ∀ f ∈ r.fl, f.2.length ≤ 40000 := by
  obtain ⟨h1, h2, h3, h4, h5, h6, h7, h8, h9, h10⟩ := KC.fine_split (KC.ok_fine h)
  have l1 := Nv_le (n := r.id.toNat) (by unfold U64; omega)
  have l2 := Nv_le (n := r.kind.toNat) (by unfold U64; omega)
  have l4 := Nv_le (toNat_U (okL_mem h4 (n := r.to_) (by simp)))
  have l5 := Nv_le hw.co
  have l6 := Nv_le (toNat_U (okL_mem h4 (n := r.item) (by simp)))
  have l7 := Nv_le (toNat_U (okL_mem h4 (n := r.num) (by simp)))
  have l8 := Nv_le (toNat_U (okL_mem h4 (n := r.of_) (by simp)))
  have l9 := (ER.len h5 hw.e).1
  have l12 := (CR.len h7 hw.k).1
  have hl : ∀ f ∈ r.fl, f.2.length ≤ 40000 := by
    intro f hf
    simp only [KC.fl, List.mem_cons, List.mem_nil_iff, or_false] at hf
    rcases hf with rfl | rfl | rfl | rfl | rfl | rfl | rfl | rfl | rfl | rfl <;> simp only <;> omega
  refine ⟨?_, hl⟩
  have hp := putAll_live_le r.fl fun f hf => by have := hl f hf; unfold U64; omega
  have e : (r.fl.map fun f : Fd => f.2.length + 11).sum = (Nv r.id.toNat).length + 11 + ((Nv r.kind.toNat).length + 11 + (r.name.length + 11 + ((Nv r.to_.toNat).length + 11 + ((Nv r.co).length + 11 + ((Nv r.item.toNat).length + 11 + ((Nv r.num.toNat).length + 11 + ((Nv r.of_.toNat).length + 11 + (r.e.form.length + 11 + (r.k.form.length + 11 + 0))))))))) := rfl
  unfold KC.form; omega
theorem KC.form_b {r : KC} (hw : r.wf) : ∀ x ∈ r.form, x < 256 := live_b r.asc fun f hf => by
  simp only [KC.fl, List.mem_cons, List.mem_nil_iff, or_false] at hf
  rcases hf with rfl | rfl | rfl | rfl | rfl | rfl | rfl | rfl | rfl | rfl <;> first | exact Nv_b _ | exact r.e.form_b | exact r.k.form_b | exact hw.name
theorem short_cons (n : Nat) : short n ≠ [] := by unfold short; split <;> simp
theorem Nv_nil (n : Nat) : Nv n = [] ↔ n = 0 := by
  unfold Nv
  split
  · simp [*]
  · exact ⟨fun h => absurd h (short_cons n), fun h => by contradiction⟩
theorem listAll_nil (l : List (List Nat)) : listAll l = [] ↔ l = [] := by
  constructor
  · intro h
    match l, h with
    | [], _ => rfl
    | v :: r, h =>
      have e : listAll (v :: r) = short v.length ++ (v ++ listAll r) := by simp [listAll]
      rw [e] at h
      exact absurd (List.append_eq_nil_iff.1 h).1 (short_cons _)
  · rintro rfl; rfl
theorem put_live_nil (l : List Fd) : (putAll (live l)).length = 0 ↔ ∀ f ∈ l, f.2 = [] := by
  constructor
  · intro h f hf
    have h0 : putAll (live l) = [] := List.length_eq_zero_iff.1 h
    rcases hv : f.2 with _ | ⟨x, xs⟩
    · rfl
    · have h1 : f ∈ live l := List.mem_filter.2 ⟨hf, by rw [hv]; rfl⟩
      have h2 : f.1.toNat ∈ putAll (live l) := List.mem_flatMap.2 ⟨f, h1, List.mem_cons_self ..⟩
      rw [h0] at h2
      cases h2
  · intro h
    have h0 : live l = [] := List.filter_eq_nil_iff.2 fun f hf => by rw [h f hf]; simp
    rw [h0]; rfl
/-- An entry's form is empty only where the entry has nothing. -/
theorem ER.form_blank {e : ER} (h : e.ok = true) (ha : e.acc = 0) : decide (e.form.length = 0) = e.blank := by
  obtain ⟨h1, h2, h3⟩ := ER.ok_split h
  have a2 := okL_mem h1 (n := e.item) (by simp)
  have hb : (e.form.length = 0) ↔ e.blank = true := by
    unfold ER.form ER.blank
    rw [put_live_nil]
    simp only [Bool.and_eq_true, decide_eq_true_eq, ER.fl, List.mem_cons, List.mem_nil_iff, or_false, forall_eq_or_imp, forall_eq, Nv_nil, listAll_nil]
    constructor
    · rintro ⟨q1, q2, q3, q4, q5⟩
      refine ⟨⟨⟨by omega, q1⟩, q3⟩, ?_⟩
      have : (shs e.ws).length = 0 := by rw [q4]; rfl
      rwa [shs, List.length_map] at this
    · rintro ⟨⟨⟨q1, q2⟩, q3⟩, q4⟩
      refine ⟨q2, by omega, q3, ?_, by omega⟩
      have : e.ws = [] := List.length_eq_zero_iff.1 q4
      rw [this]; rfl
  rcases hq : e.blank with _ | _
  · exact decide_eq_false fun e2 => by rw [hb.1 e2] at hq; cases hq
  · exact decide_eq_true (hb.2 hq)
theorem CR.form_blank {k : CR} (h : k.ok = true) : decide (k.form.length = 0) = k.blank := by
  obtain ⟨h1, h2, h3⟩ := CR.ok_split h
  have a : ∀ z ∈ k.seven, 0 ≤ z ∧ z ≤ 1125899906842624 := fun z hz => okL_mem h3 hz
  have b1 := a k.num (by simp [CR.seven])
  have b2 := a k.kind (by simp [CR.seven])
  have b3 := a k.by_ (by simp [CR.seven])
  have b4 := a k.dl (by simp [CR.seven])
  have b5 := a k.to_ (by simp [CR.seven])
  have b6 := a k.want (by simp [CR.seven])
  have b7 := a k.of_ (by simp [CR.seven])
  have hb : (k.form.length = 0) ↔ k.blank = true := by
    unfold CR.form CR.blank
    rw [put_live_nil]
    simp only [Bool.and_eq_true, decide_eq_true_eq, CR.fl, List.mem_cons, List.mem_nil_iff, or_false, forall_eq_or_imp, forall_eq, Nv_nil, listAll_nil, okL, List.all_cons, List.all_nil, okN_iff]
    constructor
    · rintro ⟨q1, q2, q3, q4, q5, q6, q7, q8, q9, q10, q11⟩
      refine ⟨⟨⟨⟨⟨by omega, by omega, by omega, by omega, by omega, by omega, by omega, trivial⟩, q5⟩, q8⟩, q9⟩, ?_⟩
      have : (k.es.map ER.form).length = 0 := by rw [q11]; rfl
      rwa [List.length_map] at this
    · rintro ⟨⟨⟨⟨⟨q1, q2, q3, q4, q5, q6, q7, -⟩, q8⟩, q9⟩, q10⟩, q11⟩
      refine ⟨by omega, by omega, by omega, by omega, q8, by omega, by omega, q9, q10, by omega, ?_⟩
      have : k.es = [] := List.length_eq_zero_iff.1 q11
      rw [this]; rfl
  rcases hq : k.blank with _ | _
  · exact decide_eq_false fun e2 => by rw [hb.1 e2] at hq; cases hq
  · exact decide_eq_true (hb.2 hq)
theorem kind_cases {k : Int} (h : 1 ≤ k ∧ k ≤ 14) (P : Int → Prop) (h1 : P 1) (h2 : P 2) (h3 : P 3) (h4 : P 4) (h5 : P 5) (h6 : P 6) (h7 : P 7) (h8 : P 8) (h9 : P 9) (h10 : P 10) (h11 : P 11) (h12 : P 12) (h13 : P 13) (h14 : P 14) : P k := by
  have : k = 1 ∨ k = 2 ∨ k = 3 ∨ k = 4 ∨ k = 5 ∨ k = 6 ∨ k = 7 ∨ k = 8 ∨ k = 9 ∨ k = 10 ∨ k = 11 ∨ k = 12 ∨ k = 13 ∨ k = 14 := by omega
  rcases this with rfl | rfl | rfl | rfl | rfl | rfl | rfl | rfl | rfl | rfl | rfl | rfl | rfl | rfl <;> assumption
end Go.Proofs.Ytlcjhbemgagchaa
end

section
/-
  TlvLists: the walk.
-/
namespace Go.Proofs.Ytlcjhbemgagchaa
open Go.RowKit
set_option linter.unusedVariables false
attribute [local go_sem ↓] Go.wp_at_zero Go.wp_at_succ

theorem LentAll.rows {w0 w : World} {xss : List (List Nat)} {L : Option Addr} {n c : Nat} {rs : List BS} {g : Option Nat} (h : LentAll w0 w xss L n c rs g) (hn : n = xss.length) :
    (rs.take n).map (·.xs) = xss ∧ (rs.take n).length = n ∧ Ow w 22 1 L n c ((rs.take n).map BS.cell) g ∧ BSs w 5 w0.heap.size (rs.take n) := by
  obtain ⟨h1, h2, h3, h4⟩ := h
  have hl : rs.length = n + 2 := by have := congrArg List.length h1; simp at this; omega
  refine ⟨by rw [List.map_take, h1, hn, List.take_left], by simp; omega, ?_, h4.sub (List.take_sublist _ _)⟩
  have := h2.take (k := n) (by omega)
  rwa [Nat.mul_one, ← List.map_take] at this
theorem LentAll.lat {w0 w : World} {xss : List (List Nat)} {L : Option Addr} {n c : Nat} {rs : List BS} {g : Option Nat} (h : LentAll w0 w xss L n c rs g) (hn : n = xss.length) : LAt w w.heap.size L n xss := by
  obtain ⟨h1, h2, h3, h4⟩ := h.rows hn
  have := h4.lat' h3
  rwa [h1] at this
theorem LentAll.quiet {w0 w w' : World} {xss : List (List Nat)} {L : Option Addr} {n c : Nat} {rs : List BS} {g : Option Nat} (h : LentAll w0 w xss L n c rs g) (hf : Fr (fun _ => False) w w') : LentAll w0 w' xss L n c rs g :=
  ⟨h.1, h.2.1.fr hf (fun _ _ => id), h.2.2.1, h.2.2.2.quiet hf⟩
theorem LentAll.range {w0 w : World} {xss : List (List Nat)} {L : Option Addr} {n c : Nat} {rs : List BS} {g : Option Nat} (h : LentAll w0 w xss L n c rs g) : ∀ x, (some x = g ∨ ∃ r ∈ rs.take n, some x = r.g) → w0.heap.size ≤ x ∧ x < w.heap.size := by
  rintro x (e | ⟨r, hr, e⟩)
  · exact ⟨h.2.2.1 x e.symm, h.2.1.lt x e.symm⟩
  · have hr' := List.mem_of_mem_take hr
    exact ⟨h.2.2.2.new r hr' x e.symm, (h.2.2.2.own r hr').lt x e.symm⟩
theorem Told.range {bs : List Nat} {w w' : World} {rs : List BS} {A : Option Addr} {k c : Nat} {g : Option Nat} (h : Told bs w w' rs A k c g) : ∀ x, (some x = g ∨ ∃ r ∈ rs, some x = r.g) → w.heap.size ≤ x ∧ x < w'.heap.size := by
  rintro x (e | ⟨r, hr, e⟩)
  · exact ⟨h.new x e.symm, h.ow.lt x e.symm⟩
  · exact ⟨h.own.new r hr x e.symm, (h.own.own r hr).lt x e.symm⟩
theorem Told.lat {bs : List Nat} {w w' : World} {rs : List BS} {A : Option Addr} {k c : Nat} {g : Option Nat} (h : Told bs w w' rs A k c g) : LAt w' w'.heap.size A k ((itemsAll bs).1.map (GF.val bs)) := by
  have := h.own.lat' h.ow
  rwa [h.eq] at this
/-- What was told lies in blocks from w's size to w''s. -/
theorem Told.lat_fr {bs : List Nat} {w w' w'' : World} {rs : List BS} {A : Option Addr} {k c : Nat} {g : Option Nat} {S : Nat → Prop} (h : Told bs w w' rs A k c g) (hf : Fr S w' w'') (hS : ∀ x, w.heap.size ≤ x → x < w'.heap.size → ¬ S x) : LAt w'' w''.heap.size A k ((itemsAll bs).1.map (GF.val bs)) := by
  have h1 := h.own.fr hf hS
  have h2 := h.ow.fr hf (fun b e => hS b (h.new b e) (h.ow.lt b e))
  have := h1.lat' h2
  rwa [h.eq] at this
theorem vals_len {bs : List Nat} {N : Nat} (h : bs.length ≤ N) : ∀ x ∈ (itemsAll bs).1.map (GF.val bs), x.length ≤ N := by
  intro x hx
  obtain ⟨F, hF, rfl⟩ := List.mem_map.1 hx
  rw [GF.val_len (itemsAll_at bs F hF).2]
  have := (itemsAll_at bs F hF).2
  omega

end Go.Proofs.Ytlcjhbemgagchaa
end

section
/-
  TlvOne: what the walk wants: fields got as fields put, a beginning of bytes, a number read is below 2^64.
-/
namespace Go.Proofs.Ytlcjhbemgagchaa
open Go.RowKit
set_option linter.unusedVariables false

theorem FOs.fat {w : World} {bs : List Nat} {B : Nat} {rs : List FO} (h : FOs w bs B rs) {e : TypeId} {A : Option Addr} {n c : Nat} {g : Option Nat} (hO : Ow w e 2 A n c (rs.flatMap FO.tCells) g) : FAt w 2 A n (rs.map fun r => ((r.F.tag : Int), r.F.val bs)) := by
  have hn := hO.rowsLen FO.tCells_len (by omega)
  refine ⟨by simpa using hn, fun h0 => ?_⟩
  obtain ⟨b, o, hA, hg, _⟩ := hO.rowAt FO.tCells_len (k := 0) (by omega) (by omega)
  refine ⟨b, o, hA, fun i hi => ?_⟩
  have hi' : i < rs.length := by simpa using hi
  obtain ⟨b', o', hA', _, hc⟩ := hO.rowAt FO.tCells_len hi' (by omega)
  rw [hA] at hA'; cases hA'
  have ho := h.own _ (List.getElem_mem hi')
  have e : (rs.map fun r => ((r.F.tag : Int), r.F.val bs))[i] = ((rs[i].F.tag : Int), rs[i].F.val bs) := by simp
  rw [e]
  exact ⟨_, _, _, by simpa using (hc 0 _ rfl).1, (hc 1 _ rfl).1, ho.sl⟩
/-- A beginning of a slice. -/
theorem Sl.pre {w : World} {A : Option Addr} {n : Nat} {xs : List Value} (h : Sl w 1 A n xs) {t : Nat} (ht : t ≤ n) : Sl w 1 A t (xs.take t) := by
  have hl := h.1
  refine ⟨by rw [List.length_take]; omega, fun h0 => ?_⟩
  obtain ⟨b, o, hA, hc⟩ := h.2 (by omega)
  refine ⟨b, o, hA, fun j u hu => hc j u ?_⟩
  rw [List.getElem?_take] at hu
  split at hu
  · exact hu
  · cases hu

theorem readF_lt : ∀ (f k n : Nat) (l : List Nat) (N k' : Nat), readF f k n l = (N, k', 0) → k ≤ 9 → n < 128 ^ k → N < U64
  | 0, _, _, _, _, _, h, _, _ => by simp [readF] at h
  | f + 1, k, n, [], N, k', h, _, _ => by simp [readF] at h
  | f + 1, k, n, c :: l, N, k', h, hk, hn => by
    have h9 : (128 : Nat) ^ 9 = 9223372036854775808 := rfl
    have hm : c % 128 * 128 ^ k ≤ 127 * 128 ^ k := Nat.mul_le_mul_right _ (by omega)
    have hs : 128 ^ (k + 1) = 128 ^ k * 128 := Nat.pow_succ ..
    rw [readF] at h
    split at h
    · simp at h
    · rename_i hfar
      split at h
      · rename_i hc
        split at h
        · simp at h
        · simp only [Prod.mk.injEq] at h
          rw [← h.1]
          unfold U64
          by_cases h8 : k = 9
          · subst h8
            have : c % 128 * 128 ^ 9 ≤ 1 * 128 ^ 9 := Nat.mul_le_mul_right _ (by omega)
            omega
          · have : 128 ^ (k + 1) ≤ 128 ^ 9 := Nat.pow_le_pow_right (by omega) (by omega)
            omega
      · rename_i hc
        by_cases h8 : k = 9
        · exact absurd ⟨h8, by omega⟩ hfar
        · exact readF_lt f (k + 1) _ l N k' h (by omega) (by omega)
theorem readShort_lt {bs : List Nat} {a N : Nat} {t : Int} (h : readShort bs (a : Int) = (N, t, 0)) : N < U64 := by
  unfold readShort at h
  split at h
  · simp at h
  · simp only at h
    split at h
    · rename_i h0
      generalize hg : readF 10 0 0 (bs.drop (a : Int).toNat) = r at h0 h
      obtain ⟨x, y, z⟩ := r
      simp only at h0 h
      subst h0
      simp only [Prod.mk.injEq] at h
      rw [← h.1]
      exact readF_lt 10 0 0 _ _ _ hg (by omega) (by simp)
    · rename_i h0
      simp at h h0; omega
end Go.Proofs.Ytlcjhbemgagchaa
end

section
/-
  proto: what is read of bytes, in plain lists: a record's fields read with care. No program in sight.
-/
namespace Go.Proofs.Ytlcjhbemgagchaa
set_option linter.unusedVariables false
set_option linter.unusedSimpArgs false
def M50 : Nat := 1125899906842624
/-- A record's fields. -/
def FF (d : RD) : List Fd := d.fs.map fun F => ((F.tag : Int), F.val d.bs)
structure RD.good (d : RD) : Prop where
  asc : Asc 0 (FF d)
  ne : ∀ f ∈ FF d, f.2 ≠ []
  ok : d.ok
theorem live_self {l : List Fd} (h : ∀ f ∈ l, f.2 ≠ []) : live l = l := List.filter_eq_self.2 fun f hf => by
  have := h f hf
  cases hv : f.2 with
  | nil => exact absurd hv this
  | cons x v => rfl
theorem RD.good.shows {d : RD} (h : d.good) : Shows d (FF d) := ⟨(live_self h.ne).symm, h.asc⟩
theorem RD.empty_good {b : Nat} (h : b ≤ 1048576) : (RD.empty b).good := ⟨trivial, (fun f hf => by cases hf), RD.empty_ok h⟩
theorem asc_of_scan : ∀ (l : List Fd) (a : Int), putScan a l = 0 → Asc a l ∧ ∀ f ∈ l, f.2 ≠ []
  | [], _, _ => ⟨trivial, fun f h => by cases h⟩
  | (t, v) :: r, a, h => by
    rw [putScan] at h
    split at h
    · simp at h
    · split at h
      · simp at h
      · rename_i h1 h2
        obtain ⟨i1, i2⟩ := asc_of_scan r t h
        refine ⟨⟨by show a < t; omega, by show t ≤ 255; omega, i1⟩, fun f hf => ?_⟩
        rcases List.mem_cons.1 hf with rfl | hf
        · intro e; exact h2 (by rw [show v = [] from e]; rfl)
        · exact i2 f hf
theorem putErr_scan {l : List Fd} (h : putErr l = 0) : putScan 0 l = 0 := by
  unfold putErr at h
  split at h
  · rename_i h1; exact absurd h h1
  · rename_i h1; exact Decidable.not_not.1 h1
/-- A fault is not taken back. -/
theorem RF.wrong_e {f : RF} {a e : Int} (he : e ≠ 0) (h : (f.wrong a e).e = 0) : False := by
  unfold RF.wrong at h
  split at h
  · exact he h
  · rename_i h1; exact h1 h
theorem readS_good {f : RF} {base : Nat} {bs : List Nat} (hb : ∀ x ∈ bs, x < 256) (hl : base ≤ 1048576) (h2 : base = 0 ∨ base + bs.length ≤ 1048576) (h : (readS f base bs).2.e = 0) :
    f.e = 0 ∧ (readS f base bs).2 = f ∧ (readS f base bs).1.good ∧ putAll (FF (readS f base bs).1) = bs := by
  have hok := readS_ok (f := f) hb hl h2
  by_cases hf : f.e = 0
  · unfold readS at h hok ⊢
    rw [if_neg (by simp [hf])] at h hok ⊢
    simp only at h hok ⊢
    by_cases h0 : (getAll bs).2.2 = 0
    · rw [if_neg (by simp [h0])] at h hok ⊢
      obtain ⟨g1, g2, -⟩ := getAll_form hb h0
      obtain ⟨a1, a2⟩ := asc_of_scan _ 0 (putErr_scan g2)
      exact ⟨hf, rfl, ⟨a1, a2, hok⟩, g1⟩
    · rw [if_pos h0] at h
      exact (RF.wrong_e h0 h).elim
  · unfold readS at h
    rw [if_pos hf] at h
    exact absurd h hf
theorem fld_zero {d : RD} {f : RF} (h : f.e = 0) (t : Int) : d.fld f t = d.fld F0 t := by
  unfold RD.fld RD.idx
  rw [if_neg (by simp [h]), if_neg (by decide)]
theorem fld_bad {d : RD} {f : RF} (h : f.e ≠ 0) (t : Int) : d.fld f t = none := by
  unfold RD.fld RD.idx
  rw [if_pos h]
  simp
theorem fld_val {d : RD} (hg : d.good) {f : RF} (h : f.e = 0) {t : Int} {F : GF} (hF : d.fld f t = some F) : valOf (FF d) t = F.val d.bs ∧ F.val d.bs ≠ [] := by
  have := fld_live hg.shows t
  rw [← fld_zero h, hF] at this
  split at this
  · cases this
  · rename_i hn
    simp only [Option.map_some, Option.some.injEq] at this
    exact ⟨this.symm, by rw [this]; exact hn⟩
theorem fld_val0 {d : RD} (hg : d.good) {f : RF} (h : f.e = 0) {t : Int} (hF : d.fld f t = none) : valOf (FF d) t = [] := by
  have := fld_live hg.shows t
  rw [← fld_zero h, hF] at this
  split at this
  · assumption
  · cases this
/-- A number that was read. -/
theorem num_sound {d : RD} {f f' : RF} {t : Int} {above n : Nat} (hg : d.good) (h : numberS d f t above = (n, f')) (h0 : f'.e = 0) : f.e = 0 ∧ f' = f ∧ valOf (FF d) t = Nv n ∧ n ≤ above ∧ n < U64 := by
  by_cases hf : f.e = 0
  · unfold numberS at h
    rcases hF : d.fld f t with _ | F
    · rw [hF] at h
      cases h
      exact ⟨hf, rfl, by rw [fld_val0 hg hf hF]; rfl, Nat.zero_le _, by decide⟩
    · rw [hF] at h
      simp only at h
      split at h
      · cases h; exact (RF.wrong_e (by decide) h0).elim
      · split at h
        · cases h; exact (RF.wrong_e (by decide) h0).elim
        · rename_i h1 h2
          cases h
          obtain ⟨e1, e2⟩ := fld_val hg hf hF
          obtain ⟨v, hv⟩ : ∃ v, F.val d.bs = v := ⟨_, rfl⟩
          rw [hv] at h1 h2 e1 ⊢
          have hb : ∀ x ∈ v, x < 256 := by rw [← hv]; exact GF.val_bytes hg.ok.byte
          have hr : readShort v ((0 : Nat) : Int) = ((readShort v 0).1, (readShort v 0).2.1, 0) := by
            exact Prod.ext rfl (Prod.ext rfl (show (readShort v 0).2.2 = 0 by omega))
          have hs := readShort_short hr hb
          have hl : (readShort v 0).2.1 = v.length := by omega
          rw [hl] at hs
          simp at hs
          refine ⟨hf, rfl, ?_, by omega, readShort_lt hr⟩
          rw [e1, Nv, if_neg (by omega), hs]
  · unfold numberS at h
    rw [fld_bad hf] at h
    cases h
    exact absurd h0 hf
theorem raw_sound {d : RD} {f f' : RF} {t most : Int} {v : List Nat} (hg : d.good) (h : rawS d f t most = (v, f')) (h0 : f'.e = 0) : f.e = 0 ∧ f' = f ∧ valOf (FF d) t = v ∧ (v.length : Int) ≤ max most 0 ∧ ∀ x ∈ v, x < 256 := by
  by_cases hf : f.e = 0
  · unfold rawS at h
    rcases hF : d.fld f t with _ | F
    · rw [hF] at h
      cases h
      exact ⟨hf, rfl, fld_val0 hg hf hF, by simp; omega, fun x hx => by cases hx⟩
    · rw [hF] at h
      simp only at h
      split at h
      · cases h; exact (RF.wrong_e (by decide) h0).elim
      · rename_i h1
        cases h
        exact ⟨hf, rfl, (fld_val hg hf hF).1, by omega, GF.val_bytes hg.ok.byte⟩
  · unfold rawS at h
    rw [fld_bad hf] at h
    cases h
    exact absurd h0 hf
theorem it_sound {d : RD} {f : RF} {t most : Int} (hg : d.good) (h0 : (itS d f t most).2.2.e = 0) : f.e = 0 ∧ (itS d f t most).2.2 = f ∧ valOf (FF d) t = listAll (itVals d (itS d f t most)) ∧ ((itVals d (itS d f t most)).length : Int) ≤ max most 0 ∧ (∀ x ∈ itVals d (itS d f t most), ∀ y ∈ x, y < 256) ∧
    ((itS d f t most).1 = none → (itS d f t most).2.1 = []) := by
  by_cases hf : f.e = 0
  · unfold itS at h0 ⊢
    rcases hF : d.fld f t with _ | F
    · rw [hF] at h0
      exact ⟨hf, rfl, fld_val0 hg hf hF, by simp [itVals]; omega, (fun x hx => by simp [itVals] at hx), fun _ => rfl⟩
    · rw [hF] at h0
      simp only at h0 ⊢
      by_cases h1 : (itemsAll (F.val d.bs)).2.2 = 0
      · rw [if_neg (by simp [h1])] at h0 ⊢
        by_cases h2 : max most 0 < ((itemsAll (F.val d.bs)).1.length : Int)
        · rw [if_pos h2] at h0; exact (RF.wrong_e (by decide) h0).elim
        · rw [if_neg h2]
          have hb : ∀ x ∈ F.val d.bs, x < 256 := GF.val_bytes hg.ok.byte
          refine ⟨hf, rfl, ?_, ?_, ?_, fun h => by cases h⟩
          · rw [(fld_val hg hf hF).1]
            exact (itemsAll_form hb h1).2.symm
          · show ((List.map _ _).length : Int) ≤ _
            rw [List.length_map]; show ((itemsAll (F.val d.bs)).1.length : Int) ≤ _; omega
          · intro x hx
            obtain ⟨G, -, rfl⟩ := List.mem_map.1 hx
            exact GF.val_bytes hb
      · rw [if_pos h1] at h0; exact (RF.wrong_e h1 h0).elim
  · unfold itS at h0
    rw [fld_bad hf] at h0
    exact absurd h0 hf
/-- A list's items as numbers. -/
def intsL : List (List Nat) → Option (List Nat)
  | [] => some []
  | x :: r => if (readShort x 0).2.2 ≠ 0 ∨ (readShort x 0).2.1 ≠ x.length ∨ M50 < (readShort x 0).1 then none else (intsL r).map ((readShort x 0).1 :: ·)
theorem intsL_sound : ∀ (xs : List (List Nat)) (ns : List Nat), (∀ x ∈ xs, ∀ y ∈ x, y < 256) → intsL xs = some ns → xs = ns.map short ∧ ∀ n ∈ ns, n ≤ M50
  | [], ns, _, h => by cases h; exact ⟨rfl, fun n h => by cases h⟩
  | x :: r, ns, hb, h => by
    rw [intsL] at h
    split at h
    · cases h
    · rename_i h1
      rcases hr : intsL r with _ | ms
      · rw [hr] at h; cases h
      · rw [hr] at h
        simp only [Option.map_some, Option.some.injEq] at h
        subst h
        obtain ⟨i1, i2⟩ := intsL_sound r ms (fun x hx => hb x (List.mem_cons_of_mem _ hx)) hr
        have hrs : readShort x ((0 : Nat) : Int) = ((readShort x 0).1, (readShort x 0).2.1, 0) := by
          exact Prod.ext rfl (Prod.ext rfl (show (readShort x 0).2.2 = 0 by omega))
        have hs := readShort_short hrs (hb x (List.mem_cons_self ..))
        have hl : (readShort x 0).2.1 = x.length := by omega
        rw [hl] at hs
        simp at hs
        refine ⟨by rw [List.map_cons, hs, ← i1], fun n hn => ?_⟩
        rcases List.mem_cons.1 hn with rfl | hn
        · omega
        · exact i2 n hn
theorem readShort_all {n : Nat} (h : n < U64) : readShort (short n) 0 = (n, ((short n).length : Int), 0) := by
  have := readShort_of [] [] h
  simpa using this
theorem intsL_of : ∀ (ns : List Nat), (∀ n ∈ ns, n ≤ M50) → intsL (ns.map short) = some ns
  | [], _ => rfl
  | n :: r, h => by
    have hn := h n (List.mem_cons_self ..)
    rw [List.map_cons, intsL, readShort_all (by unfold U64; unfold M50 at hn; omega)]
    simp only
    rw [if_neg (by simp; exact hn), intsL_of r fun m hm => h m (List.mem_cons_of_mem _ hm)]
    rfl
/-- What ints answers of a list's items. -/
def IntsR (xs : List (List Nat)) (b : Bool) (ws : List Int) (b' : Bool) : Prop := (intsL xs = none ∧ ws = [] ∧ b' = true) ∨ ∃ ns, intsL xs = some ns ∧ ws = ns.map Int.ofNat ∧ b' = b
theorem IntsR.sound {xs : List (List Nat)} {b b' : Bool} {ws : List Int} (h : IntsR xs b ws b') (hb : ∀ x ∈ xs, ∀ y ∈ x, y < 256) (h0 : b' = false) : b = false ∧ xs = shs ws ∧ okL ws = true ∧ ws.length = xs.length := by
  rcases h with ⟨-, -, e⟩ | ⟨ns, h1, rfl, rfl⟩
  · rw [h0] at e; cases e
  · obtain ⟨e1, e2⟩ := intsL_sound xs ns hb h1
    refine ⟨h0, ?_, ?_, by rw [e1]; simp⟩
    · rw [e1, shs, List.map_map]; rfl
    · refine List.all_eq_true.2 fun z hz => ?_
      obtain ⟨n, hn, rfl⟩ := List.mem_map.1 hz
      have := e2 n hn
      unfold M50 at this
      exact okN_iff.2 ⟨by simp, by simp; omega⟩
theorem IntsR.of {b b' : Bool} {ws us : List Int} (h : IntsR (shs us) b ws b') (hu : okL us = true) : ws = us ∧ b' = b := by
  obtain ⟨ns, rfl, hn⟩ : ∃ ns : List Nat, us = ns.map Int.ofNat ∧ ∀ n ∈ ns, n ≤ M50 := by
    refine ⟨us.map Int.toNat, ?_, ?_⟩
    · rw [List.map_map]
      refine (List.map_id us).symm.trans (List.map_congr_left fun z hz => ?_)
      have := (okL_mem hu hz).1
      show z = ((z.toNat : Nat) : Int)
      omega
    · intro n hn
      obtain ⟨z, hz, rfl⟩ := List.mem_map.1 hn
      have := okL_mem hu hz
      unfold M50; omega
  have e : shs (ns.map Int.ofNat) = ns.map short := by rw [shs, List.map_map]; rfl
  rw [e] at h
  rcases h with ⟨h1, -, -⟩ | ⟨ms, h1, rfl, rfl⟩
  · rw [intsL_of ns hn] at h1; cases h1
  · rw [intsL_of ns hn] at h1; cases h1; exact ⟨rfl, rfl⟩
/-- Only fields of these tags are taken. -/
def Only (d : RD) (T : List Int) : Prop := ∀ j (h : j < d.fs.length), d.tk.getD j false = true → (d.fs[j].tag : Int) ∈ T
theorem Only.took {d : RD} {T : List Int} (h : Only d T) (f : RF) (t : Int) : Only (d.took f t) (t :: T) := by
  intro j hj hm
  have hj' : j < d.fs.length := hj
  show (d.fs[j].tag : Int) ∈ t :: T
  change (d.tk.set (d.idx f t) true).getD j false = true at hm
  rw [List.getD_eq_getElem?_getD, List.getElem?_set] at hm
  by_cases hx : d.idx f t = j
  · refine List.mem_cons.2 (.inl ?_)
    unfold RD.idx at hx
    split at hx
    · omega
    · subst hx; exact tagAt_is hj'
  · rw [if_neg hx] at hm
    exact List.mem_cons_of_mem _ (h j hj' (by rw [List.getD_eq_getElem?_getD]; exact hm))
theorem end_sound {d : RD} {f : RF} {T : List Int} (hO : Only d T) (hk : d.tk.length = d.fs.length) (h0 : (endS d f).e = 0) : f.e = 0 ∧ endS d f = f ∧ ∀ g ∈ FF d, g.1 ∈ T := by
  unfold endS at h0 ⊢
  by_cases hf : f.e = 0
  · rw [if_neg (by simp [hf])] at h0 ⊢
    rcases hF : d.fs[leftAt d.fs d.tk]? with _ | F
    · refine ⟨hf, rfl, fun g hg => ?_⟩
      obtain ⟨F, hm, rfl⟩ := List.mem_map.1 hg
      obtain ⟨j, hj, rfl⟩ := List.getElem_of_mem hm
      refine hO j hj ?_
      have hge := List.getElem?_eq_none_iff.1 hF
      have hjl : j < leftAt d.fs d.tk := by omega
      have := List.not_of_lt_findIdx hjl
      rw [List.getD_eq_getElem?_getD, List.getElem?_eq_getElem (by omega)]
      simpa using this
    · rw [hF] at h0
      exact (RF.wrong_e (by decide) h0).elim
  · rw [if_pos hf] at h0; exact absurd h0 hf
theorem live_tags : ∀ (T : List Int) (L : List Fd) (a : Int), Asc a L → (∀ f ∈ L, f.2 ≠ []) → (∀ f ∈ L, f.1 ∈ T) → T.Pairwise (· < ·) → live (T.map fun t => (t, valOf L t)) = L
  | [], L, a, _, _, hT, _ => by
    cases L with
    | nil => rfl
    | cons f r => exact absurd (hT f (List.mem_cons_self ..)) (by simp)
  | t :: T, [], a, _, _, _, hp => by
    have e : (t :: T).map (fun t => ((t, valOf [] t) : Fd)) = (t :: T).map fun t => (t, []) := rfl
    rw [e]
    unfold live
    rw [List.filter_eq_nil_iff]
    intro f hf
    obtain ⟨u, -, rfl⟩ := List.mem_map.1 hf
    simp
  | t :: T, (u, v) :: r, a, hA, hn, hT, hp => by
    have hv : v ≠ [] := hn (u, v) (List.mem_cons_self ..)
    obtain ⟨hp1, hp2⟩ := List.pairwise_cons.1 hp
    by_cases e : u = t
    · subst e
      rw [List.map_cons, valOf_yes rfl, live_cons u _ hv]
      congr 1
      have hc : T.map (fun t => ((t, valOf ((u, v) :: r) t) : Fd)) = T.map fun t => (t, valOf r t) := List.map_congr_left fun s hs => by
        rw [valOf_no (by have := hp1 s hs; omega)]
      rw [hc]
      exact live_tags T r u hA.2.2 (fun f hf => hn f (List.mem_cons_of_mem _ hf)) (fun f hf => by
        have h1 := hA.2.2.gt f hf
        rcases List.mem_cons.1 (hT f (List.mem_cons_of_mem _ hf)) with h2 | h2
        · simp only at h1; omega
        · exact h2) hp2
    · have hut : u ∈ T := by
        rcases List.mem_cons.1 (hT (u, v) (List.mem_cons_self ..)) with h2 | h2
        · exact absurd h2 e
        · exact h2
      have hlt := hp1 u hut
      have h0 : valOf ((u, v) :: r) t = [] := by
        rw [valOf_no e]
        exact valOf_absent fun f hf => by have := hA.2.2.gt f hf; simp only at this; omega
      rw [List.map_cons, h0, live_nil]
      refine live_tags T ((u, v) :: r) a hA hn (fun f hf => ?_) hp2
      rcases List.mem_cons.1 (hT f hf) with h2 | h2
      · rcases List.mem_cons.1 hf with rfl | hf
        · exact absurd h2 e
        · have := hA.2.2.gt f hf; simp only at this; omega
      · exact h2
end Go.Proofs.Ytlcjhbemgagchaa
end
