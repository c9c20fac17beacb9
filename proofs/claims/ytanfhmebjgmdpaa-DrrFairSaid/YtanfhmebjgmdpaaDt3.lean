/-
  DrrTime: a book in memory; serve, late.
-/
import Derived.Test.YtanfhmebjgmdpaaDt2
import Derived.Test.YtanfhmebjgmdpaaDr7
namespace Go.Proofs.Ytanfhmebjgmdpaa.Qj
open Go.RowKit
set_option linter.unusedVariables false
set_option linter.unusedSimpArgs false
def iv (x : Int) : Value := .int .i64 x
def nv (x : Nat) : Value := .int .i64 (x : Int)
abbrev tBook : TypeId := 33
abbrev tInt : TypeId := 3
abbrev tInts : TypeId := 30
structure BRow where
  A : Option Addr
  c : Nat
  g : Option Nat
/-- Where a book lies. -/
structure BL where
  pb : Nat
  A : Option Addr
  S : Option Addr
  U : Option Addr
  ca : Nat
  cs : Nat
  cu : Nat
  gA : Option Nat
  gS : Option Nat
  gU : Option Nat
  rows : List BRow
def urow (r : BRow) (v : List Int) : Value := .slice r.A v.length r.c
structure BkAt (W : World) (p : BL) (b : BK) : Prop where
  bl : Bl W p.pb tBook #[.slice p.A b.added.length p.ca, .slice p.S b.added.length p.cs, .slice p.U b.added.length p.cu, .int .i64 b.rounds]
  ls : b.served.length = b.added.length
  lu : b.until_.length = b.added.length
  lr : p.rows.length = b.added.length
  oa : Ow W tInt 1 p.A b.added.length p.ca (b.added.map nv) p.gA
  os : Ow W tInt 1 p.S b.added.length p.cs (b.served.map nv) p.gS
  ou : Ow W tInts 1 p.U b.added.length p.cu (List.zipWith urow p.rows b.until_) p.gU
  orow : ∀ (i : Nat) (r : BRow) (v : List Int), p.rows[i]? = some r → b.until_[i]? = some v → Ow W tInt 1 r.A v.length r.c (v.map iv) r.g
  apAS : ∀ (x : Nat), p.gA = some x → p.gS ≠ some x
  apR : ∀ (i : Nat) (r : BRow) (x : Nat), p.rows[i]? = some r → r.g = some x → p.gA ≠ some x ∧ p.gS ≠ some x
  apRR : ∀ (i j : Nat) (r r' : BRow) (x : Nat), i ≠ j → p.rows[i]? = some r → p.rows[j]? = some r' → r.g = some x → r'.g ≠ some x
def bfoot (p : BL) : Nat → Prop := fun x => x = p.pb ∨ some x = p.gA ∨ some x = p.gS ∨ some x = p.gU ∨ ∃ r ∈ p.rows, some x = r.g
section
variable {W W' : World} {p : BL} {b : BK}
theorem BkAt.fr {S : Nat → Prop} (h : BkAt W p b) (hf : Fr S W W') (hS : ∀ x, bfoot p x → ¬ S x) : BkAt W' p b :=
  ⟨h.bl.fr hf (hS _ (.inl rfl)), h.ls, h.lu, h.lr, h.oa.fr hf (fun x e => hS x (.inr (.inl e.symm))), h.os.fr hf (fun x e => hS x (.inr (.inr (.inl e.symm)))), h.ou.fr hf (fun x e => hS x (.inr (.inr (.inr (.inl e.symm))))),
    fun i r v hr hv => (h.orow i r v hr hv).fr hf (fun x e => hS x (.inr (.inr (.inr (.inr ⟨r, List.mem_of_getElem? hr, e.symm⟩))))), h.apAS, h.apR, h.apRR⟩
theorem Ow.tyAt {w : World} {e : TypeId} {size n c : Nat} {A : Option Addr} {xs : List Value} {g : Option Nat} (h : Ow w e size A n c xs g) {b : Nat} (hb : g = some b) : ∃ cs, Bl w b e cs := (hb ▸ h).tyOf
/-- Each block of a book has one of three types. -/
theorem BkAt.ty (h : BkAt W p b) {x : Nat} (hx : bfoot p x) : ∃ t cs, Bl W x t cs ∧ (t = tBook ∨ t = tInt ∨ t = tInts) := by
  rcases hx with rfl | hx | hx | hx | ⟨r, hr, hx⟩
  · exact ⟨_, _, h.bl, .inl rfl⟩
  · obtain ⟨cs, hc⟩ := Ow.tyAt h.oa hx.symm; exact ⟨_, _, hc, .inr (.inl rfl)⟩
  · obtain ⟨cs, hc⟩ := Ow.tyAt h.os hx.symm; exact ⟨_, _, hc, .inr (.inl rfl)⟩
  · obtain ⟨cs, hc⟩ := Ow.tyAt h.ou hx.symm; exact ⟨_, _, hc, .inr (.inr rfl)⟩
  · obtain ⟨i, hi⟩ := List.mem_iff_getElem?.1 hr
    obtain ⟨v, hv⟩ : ∃ v, b.until_[i]? = some v := ⟨_, List.getElem?_eq_getElem (by have := (List.getElem?_eq_some_iff.1 hi).1; have := h.lr; have := h.lu; omega)⟩
    obtain ⟨cs, hc⟩ := Ow.tyAt (h.orow i r v hi hv) hx.symm; exact ⟨_, _, hc, .inr (.inl rfl)⟩
theorem BkAt.lt (h : BkAt W p b) {x : Nat} (hx : bfoot p x) : x < W.heap.size := by
  obtain ⟨t, cs, hc, _⟩ := h.ty hx; exact hc.lt
theorem BkAt.own {row : Option Nat} (h : BkAt W p b) (hg : W.grownBy W' row) (hr : ∀ r, row = some r → ∃ o : Obj, W.heap[r]? = some o ∧ o.isCells = false) : BkAt W' p b :=
  h.fr (Fr.ofGrown hg) fun x hx e => by
    obtain ⟨t, cs, hb, _⟩ := h.ty hx
    exact row_ne (W' := W') hb hr e
/-- The cells of queue q. -/
theorem BkAt.lookA (h : BkAt W p b) {q ad : Nat} (ha : b.added[q]? = some ad) : ∃ x o, p.A = some ⟨x, o, none⟩ ∧ p.gA = some x ∧ W.cell? ⟨x, o + q, none⟩ = some (.int .i64 (ad : Int)) ∧ W.frozen? ⟨x, o + q, none⟩ = false :=
  h.oa.look (j := q) (by rw [List.getElem?_map, ha]; rfl)
theorem BkAt.lookS (h : BkAt W p b) {q sv : Nat} (hs : b.served[q]? = some sv) : ∃ x o, p.S = some ⟨x, o, none⟩ ∧ p.gS = some x ∧ W.cell? ⟨x, o + q, none⟩ = some (.int .i64 (sv : Int)) ∧ W.frozen? ⟨x, o + q, none⟩ = false :=
  h.os.look (j := q) (by rw [List.getElem?_map, hs]; rfl)
theorem BkAt.lookU (h : BkAt W p b) {q : Nat} {r : BRow} {v : List Int} (hr : p.rows[q]? = some r) (hv : b.until_[q]? = some v) : ∃ x o, p.U = some ⟨x, o, none⟩ ∧ p.gU = some x ∧ W.cell? ⟨x, o + q, none⟩ = some (.slice r.A v.length r.c) ∧ W.frozen? ⟨x, o + q, none⟩ = false :=
  h.ou.look (j := q) (by rw [List.getElem?_zipWith, hr, hv]; rfl)
theorem BkAt.lookR (h : BkAt W p b) {q j : Nat} {r : BRow} {v : List Int} {u : Int} (hr : p.rows[q]? = some r) (hv : b.until_[q]? = some v) (hu : v[j]? = some u) : ∃ x o, r.A = some ⟨x, o, none⟩ ∧ r.g = some x ∧ W.cell? ⟨x, o + j, none⟩ = some (.int .i64 u) ∧ W.frozen? ⟨x, o + j, none⟩ = false :=
  (h.orow q r v hr hv).look (j := j) (by rw [List.getElem?_map, hu]; rfl)
end
/-- A service is booked in memory. -/
theorem BkAt.serve {W : World} {p : BL} {b : BK} (h : BkAt W p b) {q sv : Nat} (hs : b.served[q]? = some sv) {x o : Nat} (hS : p.S = some ⟨x, o, none⟩) (hg : p.gS = some x) :
    BkAt (W.setCell ⟨x, o + q, none⟩ (.int .i64 ((sv : Int) + 1))) p { b with served := b.served.set q (sv + 1) } := by
  have hF : Fr (fun y => y = x) W (W.setCell ⟨x, o + q, none⟩ (.int .i64 ((sv : Int) + 1))) := (Fr.refl _ _).setAt _
  have hq : q < b.served.length := (List.getElem?_eq_some_iff.1 hs).1
  have hos := h.os
  rw [hS] at hos
  have ho2 := hos.put (j := q) (by have := h.ls; omega) (.int .i64 ((sv : Int) + 1))
  have hty := Ow.tyAt h.os hg
  obtain ⟨cs, hc⟩ := hty
  refine ⟨h.bl.fr hF (fun e => ?_), by show (b.served.set q (sv + 1)).length = _; rw [List.length_set]; exact h.ls, h.lu, h.lr, h.oa.fr hF (fun y e e' => ?_), ?_, h.ou.fr hF (fun y e e' => ?_), fun i r v hr hv => (h.orow i r v hr hv).fr hF (fun y e e' => ?_), h.apAS, h.apR, h.apRR⟩
  · exact h.bl.apart hc (by decide) e
  · subst e'; exact h.apAS y e hg
  · show Ow _ tInt 1 p.S _ _ ((b.served.set q (sv + 1)).map nv) p.gS
    rw [hS, List.map_set]
    exact ho2
  · subst e'
    obtain ⟨cs', hc'⟩ := Ow.tyAt h.ou e
    have := (hc.same hc').2
    revert this; decide
  · subst e'; exact (h.apR i r y hr e).2 hg
set_option maxHeartbeats 2000000 in
set_option maxRecDepth 20000 in
theorem serve_any (W : World) (p : BL) (b : BK) (h : BkAt W p b) (q : Nat) (N C : Int) {sv ad : Nat} {un : List Int} {u : Int} (hs : b.served[q]? = some sv) (ha : b.added[q]? = some ad) (hu : b.until_[q]? = some un) (hN : N = (sv : Int)) (hsa : sv < ad) (hun : un[sv]? = some u) (hur : b.rounds < u) (hbd : b.added.length ≤ 4611686018427387904 ∧ ad ≤ 4611686018427387904) :
    Calls Try.prog 30 #[.pointer (some ⟨p.pb, 0, none⟩), .int .i64 (q : Int), .agg #[.int .i64 N, .int .i64 C]] W fun e W' => e = .returned (.bool true) ∧ BkAt W' p { b with served := b.served.set q (sv + 1) } ∧ Fr (fun y => some y = p.gS) W W' := by
  subst hN
  obtain ⟨W0, hW0⟩ : ∃ W0, W.alloc (.cells #[.int .i64 (sv : Int), .int .i64 C] 39) = W0 := ⟨_, rfl⟩
  have hF0 : Fr (fun _ => False) W W0 := by rw [← hW0]; exact (Fr.refl _ _).alloc _
  have hX : Bl W0 W.heap.size 39 #[.int .i64 (sv : Int), .int .i64 C] := by rw [← hW0]; exact Bl.new _ _ _
  have h0 := h.fr hF0 (fun _ _ => id)
  have hq : q < b.added.length := (List.getElem?_eq_some_iff.1 ha).1
  obtain ⟨r, hr⟩ : ∃ r, p.rows[q]? = some r := ⟨_, List.getElem?_eq_getElem (by rw [h.lr]; exact hq)⟩
  obtain ⟨xs, os, hS, hgS, cS, zS⟩ := h0.lookS hs
  have h1 := h0.serve hs hS hgS
  obtain ⟨xa, oa, hA, hgA, cA, -⟩ := h1.lookA ha
  obtain ⟨xu, ou, hU, hgU, cU, -⟩ := h1.lookU hr hu
  obtain ⟨xr, or_, hR, hgR, cR, -⟩ := h1.lookR hr hu hun
  have hX1 : Bl (W0.setCell ⟨xs, os + q, none⟩ (.int .i64 ((sv : Int) + 1))) W.heap.size 39 #[.int .i64 (sv : Int), .int .i64 C] := hX.far (by have h5 : xs < W.heap.size := h.lt (.inr (.inr (.inl hgS.symm))); show W.heap.size ≠ xs; omega) _
  have c1 : W0.cell? ⟨p.pb, 1, none⟩ = some (.slice (some ⟨xs, os, none⟩) b.added.length p.cs) := by rw [← hS]; exact h0.bl.cell' rfl
  have e0 : (W0.setCell ⟨xs, os + q, none⟩ (.int .i64 ((sv : Int) + 1))).cell? ⟨p.pb, 0, none⟩ = some (.slice (some ⟨xa, oa, none⟩) b.added.length p.ca) := by rw [← hA]; exact h1.bl.cell' rfl
  have e2 : (W0.setCell ⟨xs, os + q, none⟩ (.int .i64 ((sv : Int) + 1))).cell? ⟨p.pb, 2, none⟩ = some (.slice (some ⟨xu, ou, none⟩) b.added.length p.cu) := by rw [← hU]; exact h1.bl.cell' rfl
  have e3 : (W0.setCell ⟨xs, os + q, none⟩ (.int .i64 ((sv : Int) + 1))).cell? ⟨p.pb, 3, none⟩ = some (.int .i64 b.rounds) := h1.bl.cell' rfl
  have eN : (W0.setCell ⟨xs, os + q, none⟩ (.int .i64 ((sv : Int) + 1))).cell? ⟨W.heap.size, 0, none⟩ = some (.int .i64 (sv : Int)) := hX1.cell' rfl
  rw [hR] at cU
  have hunl : sv < un.length := (List.getElem?_eq_some_iff.1 hun).1
  have i1 : (0 : Int) ≤ (q : Int) := by omega
  have i2 : (q : Int) < (b.added.length : Int) := by omega
  have i3 : (0 : Int) ≤ (sv : Int) := by omega
  have i4 : (sv : Int) < (un.length : Int) := by omega
  have i5 : (sv : Int) < (ad : Int) := by omega
  have iw : IntKind.i64.wrap ((sv : Int) + 1) = (sv : Int) + 1 := IntWalk.i64_in _ (by omega)
  have H1 := hide h1
  have HF : Hid (Fr (fun y => some y = p.gS) W (W0.setCell ⟨xs, os + q, none⟩ (.int .i64 ((sv : Int) + 1)))) := (hF0.weak _).setIn (.inl hgS.symm) _
  clear h h0 h1 hX hX1 hF0 hs ha hu hun hr hS hgS hA hgA hU hgU hR hgR
  go_enter Try.func30, Try.ntmps30
  go_wp2_with fail
  clear cS zS hW0 c1
  generalize W0.setCell ⟨xs, os + q, none⟩ (.int .i64 ((sv : Int) + 1)) = W1 at cA cU cR e0 e2 e3 eN H1 HF ⊢
  go_quiet (fail)
  go_wp2_with fail
  go_ret
  exact ⟨rfl, H1.out.fr ((Fr.refl (fun _ => False) W1).drewN nq) (fun _ _ => id), HF.out.drewN nq⟩
end Go.Proofs.Ytanfhmebjgmdpaa.Qj
