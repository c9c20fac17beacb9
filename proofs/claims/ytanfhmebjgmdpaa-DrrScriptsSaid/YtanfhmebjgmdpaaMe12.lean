/-
  Texts merged into one, to keep the claim small: Dx3, Dx6.
-/
import Derived.Test.YtanfhmebjgmdpaaMe9
import Derived.Test.YtanfhmebjgmdpaaMe11
section
/-
  bazaarref16.Drr: Cost.
-/
namespace Go.Proofs.Ytanfhmebjgmdpaa
open Go.RowKit
set_option linter.unusedVariables false
def costP (x : Int × Int) : Int := x.2
section
variable {q : Nat} {b : DB} {s : DR}
theorem csum_take {xs : List (Int × Int)} {k : Nat} (h : k < xs.length) : csum costP (xs.take (k + 1)) = csum costP (xs.take k) + (xs.getD k (0, 0)).2 := by
  have e : xs[k]? = some (xs.getD k (0, 0)) := by rw [List.getD, List.getElem?_eq_getElem h]; rfl
  rw [List.take_add_one, csum_append, e]
  show _ + (costP (xs.getD k (0, 0)) + 0) = _
  unfold costP; omega
theorem csum_small {xs : List (Int × Int)} (hc : ∀ x ∈ xs, 1 ≤ x.2 ∧ x.2 ≤ 8) (hl : xs.length ≤ 65536) (k : Nat) : 0 ≤ csum costP (xs.take k) ∧ csum costP (xs.take k) ≤ 524288 := by
  have h := csum_bd' (cost := costP) (xs.take k) (fun x hx => hc x (List.mem_of_mem_take hx))
  have h2 : (xs.take k).length ≤ xs.length := by rw [List.length_take]; omega
  omega
set_option maxHeartbeats 1000000 in
set_option maxRecDepth 4000 in
theorem rCost_in (w : World) (h : DAt w q b s) (i : Nat) (l : DQ) (hl : s.lines[i]? = some l) (hc : ∀ x ∈ l.things, 1 ≤ x.2 ∧ x.2 ≤ 8) (hn : l.things.length ≤ 65536) :
    Calls Try.prog 46 #[.pointer (some ⟨q, 0, none⟩), .int .i64 (i : Int)] w fun e w' => e = .returned (.int .i64 (csum costP l.things)) ∧ Fr (fun _ => False) w w' := by
  have hlt : i < s.lines.length := (List.getElem?_eq_some_iff.1 hl).1
  have H := hide h
  have hbl := h.bl
  have Hc := hide hc
  obtain ⟨xs, hxs⟩ : ∃ xs, l.things = xs := ⟨_, rfl⟩
  obtain ⟨m, hm⟩ : ∃ m, xs.length = m := ⟨_, rfl⟩
  have Hxs := hide hxs
  have Hm := hide hm
  have Hl := hide hl
  have hn' : m ≤ 65536 := by rw [← hm, ← hxs]; exact hn
  obtain ⟨x, o, e1, -, c, -⟩ := h.clook hl
  unfold dcells at hbl
  obtain ⟨n, hnn⟩ : ∃ n, s.lines.length = n := ⟨_, rfl⟩
  rw [hnn, e1] at hbl
  rw [hxs, hm] at c
  rw [hnn] at hlt
  have c4 : w.cell? ⟨q, 4, none⟩ = some (.slice (some ⟨x, o, none⟩) n b.cc) := hbl.cell' rfl
  have i1 : (0 : Int) ≤ (i : Int) := by omega
  have i2 : (i : Int) < (n : Int) := by omega
  rw [hxs]
  clear hbl hnn hm hl h e1 hc hn hxs
  go_enter Try.func46, Try.ntmps46
  go_wp2_with fail
  go_loopw [5, 6] (fun v j wr => ∃ k : Nat, v = .int .i64 (csum costP (xs.take k)) ∧ j = .int .i64 (k : Int) ∧ k ≤ m ∧ Fr (fun _ => False) w wr) (fun _ j _ => m - (intOf j).toNat)
  case atStart => exact ⟨0, rfl, rfl, by omega, Fr.refl _ _⟩
  case round =>
    obtain ⟨k, rfl, rfl, hk, hf⟩ := hrel
    have hL := rLen_in wr (H.out.quiet hf) i l Hl.out
    rw [Hxs.out, Hm.out] at hL
    by_cases hlt2 : k < m
    · have c4' := (hf.cell (World.block_lt_of_cell? w _ c4) id).trans c4
      have c' := (hf.cell (World.block_lt_of_cell? w _ c) id).trans c
      have hO := (H.out.quiet hf).lc l (List.mem_of_getElem? Hl.out)
      obtain ⟨y, oy, eA, -, cy, -⟩ := hO.look (j := k) (u := iv_ (xs.getD k (0, 0)).2) (by
        unfold cvals
        rw [Hxs.out, List.getElem?_map, List.getElem?_eq_getElem (by rw [Hm.out]; exact hlt2)]
        simp [List.getD, List.getElem?_eq_getElem (show k < xs.length by rw [Hm.out]; exact hlt2)])
      rw [eA] at c'
      obtain ⟨v, hv⟩ : ∃ v, (xs.getD k (0, 0)).2 = v := ⟨_, rfl⟩
      obtain ⟨t, ht⟩ : ∃ t, csum costP (xs.take k) = t := ⟨_, rfl⟩
      have h1 := csum_take (xs := xs) (k := k) (by rw [Hm.out]; exact hlt2)
      have h2 := csum_small (xs := xs) (by rw [← Hxs.out]; exact Hc.out) (by rw [Hm.out]; exact hn') k
      have h3 := csum_small (xs := xs) (by rw [← Hxs.out]; exact Hc.out) (by rw [Hm.out]; exact hn') (k + 1)
      rw [h1, hv, ht] at h3
      rw [hv, ht] at h1
      rw [ht] at h2 ⊢
      have cy' : wr.cell? ⟨y, oy + k, none⟩ = some (.int .i64 v) := by rw [← hv]; exact cy
      have i3 : IntKind.i64.wrap (t + v) = t + v := IntWalk.i64_in _ (by omega)
      have i4 : (0 : Int) ≤ (k : Int) := by omega
      have i5 : (k : Int) < (m : Int) := by omega
      have H1 := hide h1
      clear cy hO eA hv ht h1 h2 h3
      go_wp2_with fail
      refine hL.mono ?_
      rintro e w' ⟨rfl, rfl⟩
      go_wp2_with fail
      exact ⟨⟨k + 1, by rw [H1.out], by go_num, hlt2, hf⟩, by simp [intOf]; omega⟩
    · obtain rfl : k = m := by omega
      have e2 : xs.take k = xs := List.take_of_length_le (by rw [Hm.out]; exact Nat.le_refl _)
      rw [e2]
      clear e2
      go_wp2_with fail
      refine hL.mono ?_
      rintro e w' ⟨rfl, rfl⟩
      go_wp2_with fail
      go_ret
      exact ⟨rfl, hf⟩
theorem rCost_out (w : World) (h : DAt w q b s) (i : Int) (ho : i < 0 ∨ (s.lines.length : Int) ≤ i) :
    Calls Try.prog 46 #[.pointer (some ⟨q, 0, none⟩), .int .i64 i] w fun e w' => e = .returned (.int .i64 0) ∧ w = w' := by
  have hL := rLen_out w h i ho
  clear ho h
  go_enter Try.func46, Try.ntmps46
  go_wp2_with fail
  go_loopw [5, 6] (fun v j wr => v = .int .i64 0 ∧ j = .int .i64 0 ∧ wr = w) (fun _ j _ => 0)
  case atStart => exact ⟨rfl, rfl, rfl⟩
  case round =>
    obtain ⟨rfl, rfl, rfl⟩ := hrel
    go_wp2_with fail
    refine hL.mono ?_
    rintro e w' ⟨rfl, rfl⟩
    go_wp2_with fail
    go_ret
    exact ⟨rfl, rfl⟩
theorem rCost_nil (w : World) (i : Int) : Calls Try.prog 46 #[.pointer none, .int .i64 i] w fun e w' => e = .returned (.int .i64 0) ∧ w = w' := by
  go_enter Try.func46, Try.ntmps46
  go_wp2_with fail
  go_loopw [5, 6] (fun v j wr => v = .int .i64 0 ∧ j = .int .i64 0 ∧ wr = w) (fun _ j _ => 0)
  case atStart => exact ⟨rfl, rfl, rfl⟩
  case round =>
    obtain ⟨rfl, rfl, rfl⟩ := hrel
    go_wp2_with fail
    refine (rLen_nil wr i).mono ?_
    rintro e w' ⟨rfl, rfl⟩
    go_wp2_with fail
    go_ret
    exact ⟨rfl, rfl⟩
end
end Go.Proofs.Ytanfhmebjgmdpaa
end

section
/-
  bazaarref16.Drr: what a Next leaves (plain, and in memory).
-/
namespace Go.Proofs.Ytanfhmebjgmdpaa
open Go.RowKit
set_option linter.unusedVariables false
def toLN (l : DQ) : LN (Int × Int) := ⟨0, none, l.things, l.df⟩
def toDS (s : DR) : DS (Int × Int) := ⟨s.quantum, s.room, s.lines.map toLN, true⟩
/-- Where a round goes on from line k, visited or not. -/
def Gs (s : DS (Int × Int)) (k : Nat) (vis : Bool) : RSt (Int × Int) := if vis = true then goOn costP s k else adv costP (s.lines.length - k) s k
theorem toDS_get {s : DR} {k : Nat} {l : DQ} (h : s.lines[k]? = some l) : (toDS s).lines[k]? = some (toLN l) := by
  show (s.lines.map toLN)[k]? = _
  rw [List.getElem?_map, h]; rfl
theorem toDS_len (s : DR) : (toDS s).lines.length = s.lines.length := by simp [toDS]
theorem Gs_skip {s : DR} {k : Nat} {l : DQ} (hl : s.lines[k]? = some l) (h : l.things = []) : Gs (toDS s) k false = Gs (toDS s) (k + 1) false := by
  unfold Gs
  simp only [Bool.false_eq_true, if_false]
  exact adv_skip costP (toDS_get hl) h
theorem Gs_none {s : DR} {k : Nat} {l : DQ} (hl : s.lines[k]? = some l) (h : ∀ x t, l.things = x :: t → l.df < x.2) : Gs (toDS s) k true = Gs (toDS s) (k + 1) false := by
  unfold Gs
  simp only [Bool.false_eq_true, if_false, if_true]
  exact goOn_none costP (toDS_get hl) h
theorem Gs_end {s : DR} {k : Nat} (h : s.lines.length ≤ k) : Gs (toDS s) k false = ⟨{ toDS s with busy := false }, k, false, none, true⟩ := by
  unfold Gs
  simp only [Bool.false_eq_true, if_false]
  exact adv_end costP _ _ _ (by rw [toDS_len]; exact h)
theorem Gs_some {s : DR} {k : Nat} {l : DQ} {x : Int × Int} {t : List (Int × Int)} (hl : s.lines[k]? = some l) (hx : l.things = x :: t) (hc : x.2 ≤ l.df) :
    Gs (toDS s) k true = ⟨(toDS s).put k ⟨0, none, t, if t = [] then 0 else l.df - x.2⟩, k, true, some (k, x), false⟩ := by
  unfold Gs
  simp only [if_true]
  exact goOn_some costP (toDS_get hl) hx hc
theorem Gs_visit {s : DR} {k : Nat} {l : DQ} {x : Int × Int} {t : List (Int × Int)} (hl : s.lines[k]? = some l) (hx : l.things = x :: t) (hc : x.2 ≤ l.df + s.quantum) :
    Gs (toDS s) k false = ⟨(toDS s).put k ⟨0, none, t, if t = [] then 0 else l.df + s.quantum - x.2⟩, k, true, some (k, x), false⟩ := by
  unfold Gs
  simp only [Bool.false_eq_true, if_false]
  rw [adv_visit costP (toDS_get hl) (by show l.things ≠ []; rw [hx]; simp)]
  have hv := visit_at (toDS_get hl)
  rw [goOn_some costP hv (x := x) (t := t) hx hc]
  show (⟨((toDS s).put k _).put k _, k, true, some (k, x), false⟩ : RSt (Int × Int)) = _
  congr 1
  show (⟨_, _, ((toDS s).lines.set k _).set k _, _⟩ : DS (Int × Int)) = ⟨_, _, (toDS s).lines.set k _, _⟩
  rw [List.set_set]; rfl
/-- The rows while a line turns. -/
structure Stg (w : World) (q : Nat) (b : DB) (s : DR) (i : Nat) (tv cv : Value) (dv : Int) (W : World) : Prop where
  ot : Ow W tInts_ 1 b.tA s.lines.length b.tc ((s.lines.map thdr).set i tv) b.tg
  oc : Ow W tInts_ 1 b.cA s.lines.length b.cc ((s.lines.map chdr).set i cv) b.cg
  od : Ow W tInt_ 1 b.dA s.lines.length b.dc ((s.lines.map fun l => iv_ l.df).set i (iv_ dv)) b.dg
  fr : Fr (fun k => b.tg = some k ∨ b.cg = some k ∨ b.dg = some k) w W
section
variable {w W : World} {q : Nat} {b : DB} {s : DR} {i : Nat} {l : DQ} {tv cv : Value} {dv : Int}
theorem map_self {β : Type} {f : DQ → β} {L : List DQ} (hl : L[i]? = some l) : (L.map f).set i (f l) = L.map f := by
  apply List.ext_getElem?
  intro j
  by_cases hj : i = j
  · subst hj
    rw [List.getElem?_set_self (by have := (List.getElem?_eq_some_iff.1 hl).1; simpa using this), List.getElem?_map, hl]; rfl
  · rw [List.getElem?_set_ne hj]
theorem Stg.start (h : DAt w q b s) (hl : s.lines[i]? = some l) : Stg w q b s i (thdr l) (chdr l) l.df w :=
  ⟨by rw [map_self hl]; exact h.ot, by rw [map_self hl]; exact h.oc, by rw [map_self (f := fun l => iv_ l.df) hl]; exact h.od, Fr.refl _ _⟩
theorem Stg.quiet {W' : World} (h : Stg w q b s i tv cv dv W) (hf : Fr (fun _ => False) W W') : Stg w q b s i tv cv dv W' :=
  ⟨h.ot.fr hf (fun _ _ => id), h.oc.fr hf (fun _ _ => id), h.od.fr hf (fun _ _ => id), h.fr.trans (hf.weak _)⟩
theorem Stg.setT (hd : DAt w q b s) (h : Stg w q b s i tv cv dv W) (hi : i < s.lines.length) {x o : Nat} (e : b.tA = some ⟨x, o, none⟩) (g : b.tg = some x) (v : Value) : Stg w q b s i v cv dv (W.setCell ⟨x, o + i, none⟩ v) := by
  have F : Fr (fun y => y = x) W (W.setCell ⟨x, o + i, none⟩ v) := (Fr.refl _ _).setAt _
  refine ⟨?_, h.oc.fr F fun y hy e => hd.tc x g (e ▸ hy), h.od.fr F fun y hy e => hd.td g (e ▸ hy), h.fr.trans (F.mono fun y _ e => by subst e; exact .inl g)⟩
  have h0 := h.ot
  rw [e] at h0 ⊢
  have h1 := h0.put (j := i) (by omega) v
  rw [List.set_set] at h1
  exact h1
theorem Stg.setC (hd : DAt w q b s) (h : Stg w q b s i tv cv dv W) (hi : i < s.lines.length) {x o : Nat} (e : b.cA = some ⟨x, o, none⟩) (g : b.cg = some x) (v : Value) : Stg w q b s i tv v dv (W.setCell ⟨x, o + i, none⟩ v) := by
  have F : Fr (fun y => y = x) W (W.setCell ⟨x, o + i, none⟩ v) := (Fr.refl _ _).setAt _
  refine ⟨h.ot.fr F fun y hy e => hd.tc y hy (e ▸ g), ?_, h.od.fr F fun y hy e => hd.cd g (e ▸ hy), h.fr.trans (F.mono fun y _ e => by subst e; exact .inr (.inl g))⟩
  have h0 := h.oc
  rw [e] at h0 ⊢
  have h1 := h0.put (j := i) (by omega) v
  rw [List.set_set] at h1
  exact h1
theorem Stg.setD (hd : DAt w q b s) (h : Stg w q b s i tv cv dv W) (hi : i < s.lines.length) {x o : Nat} (e : b.dA = some ⟨x, o, none⟩) (g : b.dg = some x) (v : Int) : Stg w q b s i tv cv v (W.setCell ⟨x, o + i, none⟩ (.int .i64 v)) := by
  have F : Fr (fun y => y = x) W (W.setCell ⟨x, o + i, none⟩ (.int .i64 v)) := (Fr.refl _ _).setAt _
  refine ⟨h.ot.fr F fun y hy e => hd.td hy (e ▸ g), h.oc.fr F fun y hy e => hd.cd hy (e ▸ g), ?_, h.fr.trans (F.mono fun y _ e => by subst e; exact .inr (.inr g))⟩
  have h0 := h.od
  rw [e] at h0 ⊢
  have h1 := h0.put (j := i) (by omega) (iv_ v)
  rw [List.set_set] at h1
  exact h1
theorem Stg.lookT (h : Stg w q b s i tv cv dv W) (hi : i < s.lines.length) {x o : Nat} (e : b.tA = some ⟨x, o, none⟩) : W.cell? ⟨x, o + i, none⟩ = some tv ∧ W.frozen? ⟨x, o + i, none⟩ = false := by
  obtain ⟨y, p, e', -, h1, h2⟩ := h.ot.look (j := i) (u := tv) (List.getElem?_set_self (by simpa using hi))
  rw [e] at e'; cases e'; exact ⟨h1, h2⟩
theorem Stg.lookC (h : Stg w q b s i tv cv dv W) (hi : i < s.lines.length) {x o : Nat} (e : b.cA = some ⟨x, o, none⟩) : W.cell? ⟨x, o + i, none⟩ = some cv ∧ W.frozen? ⟨x, o + i, none⟩ = false := by
  obtain ⟨y, p, e', -, h1, h2⟩ := h.oc.look (j := i) (u := cv) (List.getElem?_set_self (by simpa using hi))
  rw [e] at e'; cases e'; exact ⟨h1, h2⟩
theorem Stg.lookD (h : Stg w q b s i tv cv dv W) (hi : i < s.lines.length) {x o : Nat} (e : b.dA = some ⟨x, o, none⟩) : W.cell? ⟨x, o + i, none⟩ = some (.int .i64 dv) ∧ W.frozen? ⟨x, o + i, none⟩ = false := by
  obtain ⟨y, p, e', -, h1, h2⟩ := h.od.look (j := i) (u := iv_ dv) (List.getElem?_set_self (by simpa using hi))
  rw [e] at e'; cases e'; exact ⟨h1, h2⟩
/-- The line that the rows now tell. -/
theorem Stg.done (hd : DAt w q b s) (hl : s.lines[i]? = some l) {A2 A5 : Option Addr} {c2 c5 : Nat} {t : List (Int × Int)} (h : Stg w q b s i (.slice A2 t.length c2) (.slice A5 t.length c5) dv W)
    (h2 : Ow W tInt_ 1 A2 t.length c2 (t.map fun x => iv_ x.1) l.tg) (h5 : Ow W tInt_ 1 A5 t.length c5 (t.map fun x => iv_ x.2) l.cg) : DAt W q b (s.put i ⟨A2, c2, l.tg, A5, c5, l.cg, t, dv⟩) := by
  have hm : l ∈ s.lines := List.mem_of_getElem? hl
  refine hd.line (l' := ⟨A2, c2, l.tg, A5, c5, l.cg, t, dv⟩) hl h.fr (fun x _ e => .inr e) ?_ ?_ ?_ h2 h5 (hd.own l hm) (fun x hx => .inl hx)
  · rw [List.map_set]; exact h.ot
  · rw [List.map_set]; exact h.oc
  · rw [List.map_set]; exact h.od
theorem Ow.tlD {e : TypeId} {n c b o : Nat} {xs : List Value} {g : Option Nat} (h : Ow W e 1 (some ⟨b, o, none⟩) n c xs g) {k : Nat} (hk : k ≤ n) : Ow W e 1 (some ⟨b, o + k, none⟩) (n - k) (c - k) (xs.drop k) g := by
  have hl := h.1
  rcases h.2 with ⟨h0, _⟩ | ⟨b', o', cur, hA, hg, hh, h1, h2, h3, h4⟩
  · cases h0
  · cases hA
    refine ⟨by simp; omega, .inr ⟨b, o + k, cur, rfl, hg, hh, by omega, by omega, by omega, fun j hj => ?_⟩⟩
    rw [List.getElem?_drop, Nat.add_assoc]
    exact h4 (k + j) (by omega)
theorem Ow.noughtD {e : TypeId} {n c b o : Nat} {xs : List Value} {g : Option Nat} (h : Ow W e 1 (some ⟨b, o, none⟩) n c xs g) : Ow W e 1 (some ⟨b, o, none⟩) 0 0 [] g := by
  rcases h.2 with ⟨h0, _⟩ | ⟨b', o', cur, hA, hg, hh, h1, h2, h3, h4⟩
  · cases h0
  · cases hA
    exact ⟨rfl, .inr ⟨b, o, cur, rfl, hg, hh, by omega, Nat.le_refl _, by unfold maxLen; omega, fun j hj => by omega⟩⟩
/-- A list without its first. -/
theorem Ow.first {e : TypeId} {n c b o : Nat} {x : Value} {xs : List Value} {g : Option Nat} (h : Ow W e 1 (some ⟨b, o, none⟩) (n + 1) c (x :: xs) g) :
    (c = 1 → Ow W e 1 (some ⟨b, o, none⟩) n 0 xs g ∧ n = 0) ∧ (¬ c = 1 → Ow W e 1 (some ⟨b, o + 1, none⟩) n (c - 1) xs g) := by
  have hcap := h.cap
  have hl := h.1
  simp at hl
  refine ⟨fun hc => ?_, fun hc => ?_⟩
  · obtain rfl : n = 0 := by omega
    have : xs = [] := List.eq_nil_of_length_eq_zero hl
    subst this
    exact ⟨h.noughtD, rfl⟩
  · have := h.tlD (k := 1) (by omega)
    simpa using this
end
end Go.Proofs.Ytanfhmebjgmdpaa
end
