/-
  container/heap: Push.
-/
import Derived.Test.YtcfpmnlpoihgfaaHh3
namespace Go.Proofs.Ytcfpmnlpoihgfaa
open Go.RowKit
set_option linter.unusedVariables false
set_option linter.unusedSimpArgs false
attribute [local go_sem] method_len method_less method_swap method_pop method_push
theorem Sl.row (w : World) (cs : List Value) (t : TypeId) (size n : Nat) (h : cs.length = n * size) : Sl (w.alloc (.cells cs.toArray t)) size (some ⟨w.heap.size, 0, none⟩) n cs :=
  ⟨h, fun _ => ⟨w.heap.size, 0, rfl, fun j u hu => by
    have h := (Bl.new w t cs.toArray).cell j
    simp only [Nat.zero_add]
    rw [h]; simpa using hu⟩⟩
theorem infoI : (Try.prog.info? 3).map (fun i => (i.zero, i.size, i.bytes)) = some (some (.int .i64 0), 1, 8) := by kernel_rfl
theorem info_parts {P : Program} {t : TypeId} {z : Value} {s b : Nat} (h : (P.info? t).map (fun i => (i.zero, i.size, i.bytes)) = some (some z, s, b)) : ∃ i, P.info? t = some i ∧ i.zero = some z ∧ i.size = s ∧ i.bytes = b := by
  cases hi : P.info? t with
  | none => rw [hi] at h; cases h
  | some i => rw [hi] at h; simp at h; exact ⟨i, rfl, h.1, h.2.1, h.2.2⟩
theorem assert_int (x : Int) (w : World) : (Instr.typeAssert (.iface 3 (.int .i64 x)) 20 3 false).run Try.prog w = .ok (.int .i64 x) w := by kernel_rfl
attribute [local go_sem] assert_int
structure AppIs (w : World) (p : Nat) (n : Nat) (g : Option Nat) (ys : List Nat) (A2 : Option Addr) (c2 : Nat) (g2 : Option Nat) (w3 w' : World) : Prop where
  fr : Fr (fun k => g = some k) w w3
  eq : w' = w3.setCell ⟨p, 2, none⟩ (.slice A2 (n + 1) c2)
  ow : Ow w' 3 1 A2 (n + 1) c2 (ys.map ix) g2
  new : g2 = g ∨ ∃ b, g2 = some b ∧ w.heap.size ≤ b
def PPushPost (w : World) (p n : Nat) (g : Option Nat) (ys : List Nat) (e : Ending) (w' : World) : Prop := ∃ A2 c2 g2 w3, e = .returned (.tuple #[]) ∧ AppIs w p n g ys A2 c2 g2 w3 w'
set_option maxHeartbeats 2000000 in
set_option maxRecDepth 8000 in
theorem ppush_any {w : World} {p : Nat} {A : Option Addr} {n c : Nat} {g : Option Nat} {xs : List Nat} (h : FAt w p A n c g xs) (hn : n ≤ 65536) (x : Nat) :
    Calls Try.prog 79 #[.pointer (some ⟨p, 2, none⟩), .iface 3 (.int .i64 (x : Int))] w (PPushPost w p n g (xs ++ [x])) := by
  obtain ⟨j0, jj, jj0, jj1, jj2⟩ := info_parts infoI
  have hc := h.cell
  have hz := h.free
  have H := hide h
  have hgp : ¬ some p = g := fun e => h.off e.symm
  have hmx : n + 1 ≤ maxLen := by unfold maxLen; omega
  have hRw4 : Ow (w.alloc (.cells #[.int .i64 (x : Int)] 3)).drew 3 1 A n c (xs.map ix) g := h.ow.fr (S := fun _ => False) (Fr.drew (Fr.alloc (Fr.refl _ _) _)) (fun _ _ => id)
  have hSl4 : Sl (w.alloc (.cells #[.int .i64 (x : Int)] 3)).drew 1 (some ⟨w.heap.size, 0, none⟩) 1 [.int .i64 (x : Int)] := (Sl.row w [.int .i64 (x : Int)] 3 1 1 rfl).below (S := fun _ => False) (Fr.drew (Fr.refl _ _)) (fun _ _ => id)
  have hf24 : Fr (fun k => some k = g) w (w.alloc (.cells #[.int .i64 (x : Int)] 3)).drew := Fr.drew (Fr.alloc (Fr.refl _ _) _)
  have hone' : ∀ u ∈ [Value.int .i64 (x : Int)], u.oneCell' = true := by intro u hu; simp at hu; subst hu; rfl
  have hT : ∀ (ops : Array Oper) (o : Oper) (a : Act) (K : Act → World → Prop) (Q : Exit → Act → World → Prop) (E : Prop), o.guard = none → o.op = .call { callee := .builtin .append, args := #[.tmp 7, .tmp 10], argTypes := #[45, 45] } →
      a.eval (.tmp 7) = .slice A n c → a.eval (.tmp 10) = .slice (some ⟨w.heap.size, 0, none⟩) 1 1 →
      (∀ A2 c2 w' g2, Ow w' 3 1 A2 (n + 1) c2 (xs.map ix ++ [.int .i64 (x : Int)]) g2 → Fr (fun k => some k = g) (w.alloc (.cells #[.int .i64 (x : Int)] 3)).drew w' → (g2 = g ∨ ∃ b, g2 = some b ∧ w.heap.size ≤ b) → K (a.put o.dst (.slice A2 (n + 1) c2)) w') →
      if Region.wanted o (yielded ops a.tmps) = true then Oper.wp Try.prog o a (w.alloc (.cells #[.int .i64 (x : Int)] 3)).drew K Q else E := fun ops o a K Q E hgd ho h41 h47 hK =>
    step_append_ow _ hgd _ _ 45 ho 3 j0 _ 1 8 Try.underlying45 jj jj0 jj1 jj2 rfl (by decide) A n c (xs.map ix) g h41 hRw4 _ 1 1 _ h47 hSl4 hone' hmx (by omega) (fun A2 c2 w' g2 h1 h2 h3 => hK A2 c2 w' g2 h1 h2 (h3.imp id fun ⟨b, e, h⟩ => ⟨b, e, by simp at h; omega⟩))
  have hca : (w.alloc (.cells #[.int .i64 (x : Int)] 3)).cell? ⟨p, 2, none⟩ = some (.slice A n c) := ((Fr.alloc (Fr.refl (fun _ => False) w) _).cell (World.block_lt_of_cell? w _ hc) id).trans hc
  clear h
  go_enter Try.func79, Try.ntmps79
  go_wp2_with fail
  go_region_law (refine hT _ _ _ _ _ _ (by rfl) (by rfl) (by rfl) (by rfl) ?_; intro R3 rc3 w3 g3 hR3 hf3 hg3; have hf13 : Fr (fun k => some k = g) w w3 := Fr.comp hf24 hf3 (fun _ _ e => e); have kd0 := (hf13.cell (World.block_lt_of_cell? w _ hc) hgp).trans hc; have kz := (hf13.frozen (World.block_lt_of_cell? w _ hc) hgp).trans hz)
  all_goals go_wp2_with fail
  all_goals (
    go_end0
    refine ⟨R3, rc3, g3, w3, rfl, ⟨hf13.mono fun _ _ e => e.symm, rfl, ?_, hg3⟩⟩
    rw [List.map_append]
    exact hR3.fr (S := fun x => x = p) ((Fr.refl _ _).setAt _) (fun b hb e => by
      subst e
      rcases hg3 with e2 | ⟨b2, e2, hb2⟩
      · exact hgp (by rw [← e2, hb])
      · rw [hb] at e2; cases e2; have := World.block_lt_of_cell? w _ hc; simp only at this; omega))
/-- Behind heap.Push: one more, a heap again. -/
structure PushIs (w : World) (p n : Nat) (g : Option Nat) (zs : List Nat) (A2 : Option Addr) (c2 : Nat) (g2 : Option Nat) (ys : List Nat) (w3 w' : World) : Prop where
  fr : Fr (fun k => g = some k) w w3
  fr2 : Fr (fun k => g2 = some k) (w3.setCell ⟨p, 2, none⟩ (.slice A2 (n + 1) c2)) w'
  at_ : FAt w' p A2 (n + 1) c2 g2 ys
  new : g2 = g ∨ ∃ b, g2 = some b ∧ w.heap.size ≤ b
  perm : ys.Perm zs
  heap : HeapN ys (n + 1)
def PushPost (w : World) (p n : Nat) (g : Option Nat) (zs : List Nat) (e : Ending) (w' : World) : Prop := ∃ A2 c2 g2 ys w3, e = .returned (.tuple #[]) ∧ PushIs w p n g zs A2 c2 g2 ys w3 w'
set_option maxHeartbeats 2000000 in
set_option maxRecDepth 8000 in
theorem push_any {w : World} {p : Nat} {t : TypeId} {cs : Array Value} (hB : Bl w p t cs) (hcs : 2 < cs.size) {A : Option Addr} {n c : Nat} {g : Option Nat} {xs : List Nat} (h : FAt w p A n c g xs) (hn : n < 65536) (hh : HeapN xs n) (x : Nat) :
    Calls Try.prog 32 #[hpV p, .iface 3 (.int .i64 (x : Int))] w (PushPost w p n g (xs ++ [x])) := by
  have hlen := h.len
  have H := hide h
  have Hh := hide hh
  have HB := hide hB
  have Hlen := hide hlen
  have q1 : IntKind.i64.wrap (((n + 1 : Nat) : Int) - 1) = (n : Int) := by rw [IntWalk.i64_in _ (by omega)]; omega
  clear h hh hlen hB
  go_enter Try.func32, Try.ntmps32
  go_wp2_with fail
  refine (ppush_any H.out (by omega) x).mono ?_
  rintro e w2 ⟨A2, c2, g2, w3, rfl, hA⟩
  have hb3 := HB.out.fr hA.fr H.out.off
  have hb2 : Bl w2 p t (cs.setIfInBounds 2 (.slice A2 (n + 1) c2)) := by rw [hA.eq]; exact hb3.set 2 _
  have hF2 : FAt w2 p A2 (n + 1) c2 g2 (xs ++ [x]) := by
    refine ⟨hb2.cell' (by rw [Array.getElem?_setIfInBounds_self_of_lt hcs]), hb2.free 2, hA.ow, ?_⟩
    rintro e
    rcases hA.new with e2 | ⟨b, e2, hb⟩
    · exact H.out.off (by rw [← e2, e])
    · rw [e] at e2; cases e2; have := HB.out.lt; omega
  have HA := hide hA
  have HF2 := hide hF2
  have hc2 := hF2.cell
  clear hA hb3 hb2 hF2
  go_wp2_with fail
  refine (len_any w2 A2 (n + 1) c2).mono ?_
  rintro e w' ⟨rfl, rfl⟩
  go_wp2_with fail
  have hu : UpAt (xs ++ [x]) (n + 1) n := by
    have hl := Hlen.out
    have hget : ∀ k, k < n → (xs ++ [x]).getD k 0 = xs.getD k 0 := fun k hk => by
      rw [List.getD_eq_getElem?_getD, List.getElem?_append_left (by omega), ← List.getD_eq_getElem?_getD]
    refine ⟨fun k h0 hk hne => ?_, fun h0 k hk0 hk e => by omega⟩
    rw [hget k (by omega), hget _ (by omega)]
    exact Hh.out k h0 (by omega)
  refine (up_any HF2.out n (by omega) (by omega) hu).mono ?_
  rintro e w4 ⟨ys, rfl, hS⟩
  have HS := hide hS
  clear hS hu hc2
  go_wp2_with fail
  go_end0
  have he := HA.out.eq
  refine ⟨A2, c2, g2, ys, w3, rfl, ⟨HA.out.fr, by rw [← he]; exact HS.out.fr, HS.out.at_, HA.out.new, HS.out.perm, HS.out.heap⟩⟩
end Go.Proofs.Ytcfpmnlpoihgfaa
