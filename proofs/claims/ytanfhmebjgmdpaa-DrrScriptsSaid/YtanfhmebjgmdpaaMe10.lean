/-
  Texts merged into one, to keep the claim small: Dx4.
-/
import Derived.Test.YtanfhmebjgmdpaaMe9
/-
  bazaarref16.New.
-/
namespace Go.Proofs.Ytanfhmebjgmdpaa
open Go.RowKit
set_option linter.unusedVariables false
theorem infoI_ : (Try.prog.info? 3).map (fun i => (i.zero, i.size, i.bytes)) = some (some (.int .i64 0), 1, 8) := by kernel_rfl
theorem infoIs_ : (Try.prog.info? 30).map (fun i => (i.zero, i.size, i.bytes)) = some (some (.slice none 0 0), 1, 24) := by kernel_rfl
theorem SlD.one (w : World) (v : Value) (t : TypeId) : Sl (w.alloc (.cells #[v] t)) 1 (some ⟨w.heap.size, 0, none⟩) 1 [v] :=
  ⟨by simp, fun _ => ⟨w.heap.size, 0, rfl, fun j u hu => by
    have h := (Bl.new w t #[v]).cell j
    simp only [Nat.zero_add]
    rw [h]; simpa using hu⟩⟩
theorem SlD.oneAt {w : World} {k : Nat} {v : Value} {t : TypeId} (h : k = w.heap.size) : Sl (w.alloc (.cells #[v] t)) 1 (some ⟨k, 0, none⟩) 1 [v] := by subst h; exact SlD.one _ _ _
theorem rnewD_bad (w : World) (n room qu : Int) (h : n < 1 ∨ 1024 < n ∨ room < 1 ∨ 65536 < room ∨ qu < 8 ∨ 1024 < qu) :
    Calls Try.prog 19 #[.int .i64 n, .int .i64 room, .int .i64 qu] w fun e w' => e = .returned (.tuple #[.pointer none, .int .i64 2]) ∧ w = w' := by
  by_cases h1 : n < 1
  · clear h
    go_enter Try.func19, Try.ntmps19
    go_wp2_with fail
    go_ret2
    exact ⟨rfl, rfl⟩
  by_cases h2 : 1024 < n
  · clear h
    go_enter Try.func19, Try.ntmps19
    go_wp2_with fail
    go_ret2
    exact ⟨rfl, rfl⟩
  by_cases h3 : room < 1
  · clear h
    go_enter Try.func19, Try.ntmps19
    go_wp2_with fail
    go_ret2
    exact ⟨rfl, rfl⟩
  by_cases h4 : 65536 < room
  · clear h
    go_enter Try.func19, Try.ntmps19
    go_wp2_with fail
    go_ret2
    exact ⟨rfl, rfl⟩
  by_cases h5 : qu < 8
  · clear h
    go_enter Try.func19, Try.ntmps19
    go_wp2_with fail
    go_ret2
    exact ⟨rfl, rfl⟩
  have h6 : 1024 < qu := by omega
  clear h
  go_enter Try.func19, Try.ntmps19
  go_wp2_with fail
  go_ret2
  exact ⟨rfl, rfl⟩
/-- The document's server under making: its rows so far. -/
structure NB (n0 room qu p : Nat) (n1 : Nat) (A1 : Option Addr) (c1 : Nat) (g1 : Option Nat) (n2 : Nat) (A2 : Option Addr) (c2 : Nat) (g2 : Option Nat) (n3 : Nat) (A3 : Option Addr) (c3 : Nat) (g3 : Option Nat) (B : Nat) (w : World) : Prop where
  bl : Bl w p tRD #[.int .i64 (n0 : Int), .int .i64 (room : Int), .int .i64 (qu : Int), .slice A1 n1 c1, .slice A2 n2 c2, .slice A3 n3 c3, .int .i64 (-1), .bool false]
  o1 : Ow w tInts_ 1 A1 n1 c1 (List.replicate n1 (.slice none 0 0)) g1
  o2 : Ow w tInts_ 1 A2 n2 c2 (List.replicate n2 (.slice none 0 0)) g2
  o3 : Ow w tInt_ 1 A3 n3 c3 (List.replicate n3 (.int .i64 0)) g3
  ne : ∀ x, g1 = some x → g2 ≠ some x
  b0 : B ≤ p
  b1 : ∀ x, g1 = some x → B ≤ x
  b2 : ∀ x, g2 = some x → B ≤ x
  b3 : ∀ x, g3 = some x → B ≤ x
section
variable {n0 room qu p n1 c1 n2 c2 n3 c3 B : Nat} {A1 A2 A3 : Option Addr} {g1 g2 g3 : Option Nat} {w wx w3 : World}
theorem NB.quiet (h : NB n0 room qu p n1 A1 c1 g1 n2 A2 c2 g2 n3 A3 c3 g3 B w) (hf : Fr (fun _ => False) w wx) : NB n0 room qu p n1 A1 c1 g1 n2 A2 c2 g2 n3 A3 c3 g3 B wx :=
  ⟨h.bl.fr hf id, h.o1.fr hf (fun _ _ => id), h.o2.fr hf (fun _ _ => id), h.o3.fr hf (fun _ _ => id), h.ne, h.b0, h.b1, h.b2, h.b3⟩
theorem ow_ne {e t : TypeId} {size n c : Nat} {A : Option Addr} {xs : List Value} {g : Option Nat} (h : Ow w e size A n c xs g) {b : Nat} {cs : Array Value} (hb : Bl w b t cs) (ht : t ≠ e) : g ≠ some b := fun e' => by
  obtain ⟨cs', hc⟩ := Ow.tyD h e'
  exact ht (hb.same hc).2
theorem ow_ne2 {e t : TypeId} {size n c size' n' c' : Nat} {A A' : Option Addr} {xs xs' : List Value} {g g' : Option Nat} (h : Ow w e size A n c xs g) (h' : Ow w t size' A' n' c' xs' g') (ht : t ≠ e) : ∀ b, g = some b → g' ≠ some b := fun b hb hb' => by
  obtain ⟨cs', hc⟩ := Ow.tyD h hb
  obtain ⟨cs, hc'⟩ := Ow.tyD h' hb'
  exact ht (hc'.same hc).2
theorem NB.more1 {A4 : Option Addr} {c4 : Nat} {g4 : Option Nat} (h : NB n0 room qu p n1 A1 c1 g1 n2 A2 c2 g2 n3 A3 c3 g3 B w) (hB : B ≤ w.heap.size) (hx : Fr (fun _ => False) w wx) (h4 : Ow w3 tInts_ 1 A4 (n1 + 1) c4 (List.replicate n1 (.slice none 0 0) ++ [.slice none 0 0]) g4)
    (hf : Fr (fun k => some k = g1) wx w3) (hg : g4 = g1 ∨ ∃ b, g4 = some b ∧ wx.heap.size ≤ b) :
    Bl w3 p tRD #[.int .i64 (n0 : Int), .int .i64 (room : Int), .int .i64 (qu : Int), .slice A1 n1 c1, .slice A2 n2 c2, .slice A3 n3 c3, .int .i64 (-1), .bool false] ∧
    NB n0 room qu p (n1 + 1) A4 c4 g4 n2 A2 c2 g2 n3 A3 c3 g3 B (w3.setCell ⟨p, 3, none⟩ (.slice A4 (n1 + 1) c4)) ∧ Fr (fun k => some k = g1 ∨ k = p) w (w3.setCell ⟨p, 3, none⟩ (.slice A4 (n1 + 1) c4)) := by
  have q := h.quiet hx
  have sx := hx.size
  have hset : Fr (fun k => k = p) w3 (w3.setCell ⟨p, 3, none⟩ (.slice A4 (n1 + 1) c4)) := (Fr.refl _ _).setAt _
  have hbl : Bl w3 p tRD _ := q.bl.fr hf fun e => ow_ne q.o1 q.bl (by decide) e.symm
  refine ⟨hbl, ⟨by simpa using hbl.set 3 (.slice A4 (n1 + 1) c4), ?_, ((q.o2.fr hf fun x hx e => q.ne x e.symm hx)).fr hset fun x hx e => ow_ne q.o2 q.bl (by decide) (e ▸ hx), (q.o3.fr hf fun x hx e => ow_ne2 q.o1 q.o3 (by decide) x e.symm hx).fr hset fun x hx e => ow_ne q.o3 q.bl (by decide) (e ▸ hx), ?_, h.b0, ?_, h.b2, h.b3⟩, ((hx.weak _).comp hf fun i _ e => .inl e).comp hset fun i _ e => .inr e⟩
  · rw [List.replicate_succ']
    exact h4.fr hset fun x hx e => ow_ne h4 hbl (by decide) (e ▸ hx)
  · rcases hg with hg | ⟨b, hg, hb⟩
    · rw [hg]; exact h.ne
    · rw [hg]
      intro x e1 e2
      cases e1
      have := q.o2.lt b e2
      omega
  · rcases hg with hg | ⟨b, hg, hb⟩
    · rw [hg]; exact h.b1
    · rw [hg]; intro x e; cases e; omega
theorem NB.more2 {A4 : Option Addr} {c4 : Nat} {g4 : Option Nat} (h : NB n0 room qu p n1 A1 c1 g1 n2 A2 c2 g2 n3 A3 c3 g3 B w) (hB : B ≤ w.heap.size) (hx : Fr (fun _ => False) w wx) (h4 : Ow w3 tInts_ 1 A4 (n2 + 1) c4 (List.replicate n2 (.slice none 0 0) ++ [.slice none 0 0]) g4)
    (hf : Fr (fun k => some k = g2) wx w3) (hg : g4 = g2 ∨ ∃ b, g4 = some b ∧ wx.heap.size ≤ b) :
    Bl w3 p tRD #[.int .i64 (n0 : Int), .int .i64 (room : Int), .int .i64 (qu : Int), .slice A1 n1 c1, .slice A2 n2 c2, .slice A3 n3 c3, .int .i64 (-1), .bool false] ∧
    NB n0 room qu p n1 A1 c1 g1 (n2 + 1) A4 c4 g4 n3 A3 c3 g3 B (w3.setCell ⟨p, 4, none⟩ (.slice A4 (n2 + 1) c4)) ∧ Fr (fun k => some k = g2 ∨ k = p) w (w3.setCell ⟨p, 4, none⟩ (.slice A4 (n2 + 1) c4)) := by
  have q := h.quiet hx
  have sx := hx.size
  have hset : Fr (fun k => k = p) w3 (w3.setCell ⟨p, 4, none⟩ (.slice A4 (n2 + 1) c4)) := (Fr.refl _ _).setAt _
  have hbl : Bl w3 p tRD _ := q.bl.fr hf fun e => ow_ne q.o2 q.bl (by decide) e.symm
  refine ⟨hbl, ⟨by simpa using hbl.set 4 (.slice A4 (n2 + 1) c4), ((q.o1.fr hf fun x hx e => q.ne x hx e.symm)).fr hset fun x hx e => ow_ne q.o1 q.bl (by decide) (e ▸ hx), ?_, (q.o3.fr hf fun x hx e => ow_ne2 q.o2 q.o3 (by decide) x e.symm hx).fr hset fun x hx e => ow_ne q.o3 q.bl (by decide) (e ▸ hx), ?_, h.b0, h.b1, ?_, h.b3⟩, ((hx.weak _).comp hf fun i _ e => .inl e).comp hset fun i _ e => .inr e⟩
  · rw [List.replicate_succ']
    exact h4.fr hset fun x hx e => ow_ne h4 hbl (by decide) (e ▸ hx)
  · rcases hg with hg | ⟨b, hg, hb⟩
    · rw [hg]; exact h.ne
    · rw [hg]
      intro x e1 e2
      cases e2
      have := q.o1.lt b e1
      omega
  · rcases hg with hg | ⟨b, hg, hb⟩
    · rw [hg]; exact h.b2
    · rw [hg]; intro x e; cases e; omega
theorem NB.more3 {A4 : Option Addr} {c4 : Nat} {g4 : Option Nat} (h : NB n0 room qu p n1 A1 c1 g1 n2 A2 c2 g2 n3 A3 c3 g3 B w) (hB : B ≤ w.heap.size) (hx : Fr (fun _ => False) w wx) (h4 : Ow w3 tInt_ 1 A4 (n3 + 1) c4 (List.replicate n3 (.int .i64 0) ++ [.int .i64 0]) g4)
    (hf : Fr (fun k => some k = g3) wx w3) (hg : g4 = g3 ∨ ∃ b, g4 = some b ∧ wx.heap.size ≤ b) :
    Bl w3 p tRD #[.int .i64 (n0 : Int), .int .i64 (room : Int), .int .i64 (qu : Int), .slice A1 n1 c1, .slice A2 n2 c2, .slice A3 n3 c3, .int .i64 (-1), .bool false] ∧
    NB n0 room qu p n1 A1 c1 g1 n2 A2 c2 g2 (n3 + 1) A4 c4 g4 B (w3.setCell ⟨p, 5, none⟩ (.slice A4 (n3 + 1) c4)) ∧ Fr (fun k => some k = g3 ∨ k = p) w (w3.setCell ⟨p, 5, none⟩ (.slice A4 (n3 + 1) c4)) := by
  have q := h.quiet hx
  have sx := hx.size
  have hset : Fr (fun k => k = p) w3 (w3.setCell ⟨p, 5, none⟩ (.slice A4 (n3 + 1) c4)) := (Fr.refl _ _).setAt _
  have hbl : Bl w3 p tRD _ := q.bl.fr hf fun e => ow_ne q.o3 q.bl (by decide) e.symm
  refine ⟨hbl, ⟨by simpa using hbl.set 5 (.slice A4 (n3 + 1) c4), (q.o1.fr hf fun x hx e => ow_ne2 q.o3 q.o1 (by decide) x e.symm hx).fr hset fun x hx e => ow_ne q.o1 q.bl (by decide) (e ▸ hx), (q.o2.fr hf fun x hx e => ow_ne2 q.o3 q.o2 (by decide) x e.symm hx).fr hset fun x hx e => ow_ne q.o2 q.bl (by decide) (e ▸ hx), ?_, h.ne, h.b0, h.b1, h.b2, ?_⟩, ((hx.weak _).comp hf fun i _ e => .inl e).comp hset fun i _ e => .inr e⟩
  · rw [List.replicate_succ']
    exact h4.fr hset fun x hx e => ow_ne h4 hbl (by decide) (e ▸ hx)
  · rcases hg with hg | ⟨b, hg, hb⟩
    · rw [hg]; exact h.b3
    · rw [hg]; intro x e; cases e; omega
end
def DQ.none_ : DQ := ⟨none, 0, none, none, 0, none, [], 0⟩
def DR.fresh (n room qu : Nat) : DR := ⟨qu, room, List.replicate n DQ.none_, -1, false⟩
theorem NB.done {n room qu p c1 c2 c3 B : Nat} {A1 A2 A3 : Option Addr} {g1 g2 g3 : Option Nat} {w : World} (h : NB n room qu p n A1 c1 g1 n A2 c2 g2 n A3 c3 g3 B w) :
    DAt w p ⟨A1, c1, g1, A2, c2, g2, A3, c3, g3⟩ (DR.fresh n room qu) := by
  have hl : (DR.fresh n room qu).lines.length = n := by simp [DR.fresh]
  have hm : ∀ l ∈ (DR.fresh n room qu).lines, l = DQ.none_ := fun l hl => by simp [DR.fresh] at hl; exact hl.2
  refine ⟨?_, ?_, ?_, ?_, fun l hl => ?_, fun l hl => ?_, h.ne, fun l hl x _ hfo => ?_, fun l hl x hx => ?_, fun i j l m hi hj _ x hx => ?_⟩
  · unfold dcells; rw [hl]; exact h.bl
  · rw [hl]; simp only [DR.fresh, List.map_replicate]; exact h.o1
  · rw [hl]; simp only [DR.fresh, List.map_replicate]; exact h.o2
  · rw [hl]; simp only [DR.fresh, List.map_replicate]; exact h.o3
  · rw [hm l hl]; exact Ow.nil_ _ _ _
  · rw [hm l hl]; exact Ow.nil_ _ _ _
  · rw [hm l hl] at hfo; rcases hfo with e | e <;> cases e
  · rw [hm l hl] at hx; cases hx
  · rw [hm l (List.mem_of_getElem? hi)] at hx; rcases hx with e | e <;> cases e
set_option maxHeartbeats 8000000 in
set_option maxRecDepth 4000 in
theorem rnewD_ok (w : World) (n room qu : Nat) (h1 : 1 ≤ n) (h2 : n ≤ 1024) (h3 : 1 ≤ room) (h4 : room ≤ 65536) (h5 : 8 ≤ qu) (h6 : qu ≤ 1024) :
    Calls Try.prog 19 #[.int .i64 (n : Int), .int .i64 (room : Int), .int .i64 (qu : Int)] w fun e w' => ∃ (q : Nat) (b : DB), e = .returned (.tuple #[.pointer (some ⟨q, 0, none⟩), .int .i64 0]) ∧ DAt w' q b (DR.fresh n room qu) ∧ Fr (fun _ => False) w w' ∧ ∀ x, dfoot q b (DR.fresh n room qu) x → w.heap.size ≤ x := by
  obtain ⟨i0, ih, i0', i1', i2'⟩ := info_parts infoI_
  obtain ⟨s0, sh, s0', s1', s2'⟩ := info_parts infoIs_
  obtain ⟨p, hp⟩ : ∃ p, w.heap.size = p := ⟨_, rfl⟩
  have Hp := hide hp
  clear hp
  go_enter Try.func19, Try.ntmps19
  go_wp2_with fail
  rw [Hp.out]
  go_loopw [9] (fun i wr => ∃ (k : Nat) (A1 : Option Addr) (c1 : Nat) (g1 : Option Nat) (A2 : Option Addr) (c2 : Nat) (g2 : Option Nat) (A3 : Option Addr) (c3 : Nat) (g3 : Option Nat), i = .int .i64 (k : Int) ∧ k ≤ n ∧ NB n room qu p k A1 c1 g1 k A2 c2 g2 k A3 c3 g3 p wr ∧ Fr (fun x => p ≤ x) w wr) (fun i _ => n - (intOf i).toNat)
  case atStart =>
    refine ⟨0, none, 0, none, none, 0, none, none, 0, none, rfl, Nat.zero_le _, ⟨?_, Ow.nil_ _ _ _, Ow.nil_ _ _ _, Ow.nil_ _ _ _, (fun x h => by cases h), Nat.le_refl _, (fun x h => by cases h), (fun x h => by cases h), (fun x h => by cases h)⟩, (Fr.refl _ _).alloc _⟩
    exact Bl.newAt Hp.out.symm
  case round =>
    obtain ⟨k, A1, c1, g1, A2, c2, g2, A3, c3, g3, rfl, hk, hN, hfr⟩ := hrel
    have hsz : p ≤ wr.heap.size := by have := hfr.size; have := Hp.out; omega
    by_cases hlt : k < n
    · have e3 : wr.cell? ⟨p, 3, none⟩ = some (.slice A1 k c1) := hN.bl.cell' rfl
      have HN := hide hN
      have Hfr := hide hfr
      clear hN hfr
      go_wp2_with (first | (at_builtin; go_loud (refine wpList_append_ow _ rfl _ _ 31 rfl 30 s0 (.slice none 0 0) 1 24 Try.underlying31 sh s0' s1' s2' rfl (by decide) _ _ _ _ _ rfl (HN.out.o1.fr (S := fun _ => False) ((Fr.refl _ _).alloc _) (fun _ _ => id)) _ _ _ [.slice none 0 0] rfl (SlD.oneAt (by simp)) (by intro u hu; simp at hu; subst hu; rfl) (by unfold maxLen; omega) (by omega) ?_)) | go_in)
      intro A4 c4 w4 g4 hA4 hf4 hg4
      obtain ⟨hb4, hN4, hF4⟩ := HN.out.more1 hsz ((Fr.refl _ _).alloc _) hA4 hf4 (hg4.imp_right fun ⟨b, e, h⟩ => ⟨b, e, by first | omega | (simp at h; omega) | simpa using h⟩)
      have z3 := hb4.free 3
      have y3 : w4.cell? ⟨p, 3, none⟩ = some (.slice A1 k c1) := hb4.cell' rfl
      have e4 : (w4.setCell ⟨p, 3, none⟩ (.slice A4 (k + 1) c4)).cell? ⟨p, 4, none⟩ = some (.slice A2 k c2) := hN4.bl.cell' rfl
      have HN4 := hide hN4
      have HF4 := hide hF4
      clear hA4 hf4 hg4 hN4 hF4 hb4
      go_wp2_with (first | (at_builtin; go_loud (refine wpList_append_ow _ rfl _ _ 31 rfl 30 s0 (.slice none 0 0) 1 24 Try.underlying31 sh s0' s1' s2' rfl (by decide) _ _ _ _ _ rfl (HN4.out.o2.fr (S := fun _ => False) ((Fr.refl _ _).alloc _) (fun _ _ => id)) _ _ _ [.slice none 0 0] rfl (SlD.oneAt (by simp)) (by intro u hu; simp at hu; subst hu; rfl) (by unfold maxLen; omega) (by omega) ?_)) | go_in)
      intro A5 c5 w5 g5 hA5 hf5 hg5
      obtain ⟨hb5, hN5, hF5⟩ := HN4.out.more2 (by have := HF4.out.size; omega) ((Fr.refl _ _).alloc _) hA5 hf5 (hg5.imp_right fun ⟨b, e, h⟩ => ⟨b, e, by first | omega | (simp at h; omega) | simpa using h⟩)
      have z4 := hb5.free 4
      have y4 : w5.cell? ⟨p, 4, none⟩ = some (.slice A2 k c2) := hb5.cell' rfl
      have e5 : (w5.setCell ⟨p, 4, none⟩ (.slice A5 (k + 1) c5)).cell? ⟨p, 5, none⟩ = some (.slice A3 k c3) := hN5.bl.cell' rfl
      have HN5 := hide hN5
      have HF5 := hide hF5
      clear hA5 hf5 hg5 hN5 hF5 hb5
      go_wp2_with (first | (at_builtin; go_loud (refine wpList_append_ow _ rfl _ _ 30 rfl 3 i0 (.int .i64 0) 1 8 Try.underlying30 ih i0' i1' i2' rfl (by decide) _ _ _ _ _ rfl (HN5.out.o3.fr (S := fun _ => False) ((Fr.refl _ _).alloc _) (fun _ _ => id)) _ _ _ [.int .i64 0] rfl (SlD.oneAt (by simp)) (by intro u hu; simp at hu; subst hu; rfl) (by unfold maxLen; omega) (by omega) ?_)) | go_in)
      intro A6 c6 w6 g6 hA6 hf6 hg6
      obtain ⟨hb6, hN6, hF6⟩ := HN5.out.more3 (by have := HF4.out.size; have := HF5.out.size; omega) ((Fr.refl _ _).alloc _) hA6 hf6 (hg6.imp_right fun ⟨b, e, h⟩ => ⟨b, e, by first | omega | (simp at h; omega) | simpa using h⟩)
      have z5 := hb6.free 5
      have y5 : w6.cell? ⟨p, 5, none⟩ = some (.slice A3 k c3) := hb6.cell' rfl
      have hF : Fr (fun x => p ≤ x) w (w6.setCell ⟨p, 5, none⟩ (.slice A6 (k + 1) c6)) := by
        refine ((Hfr.out.comp HF4.out fun i _ e => ?_).comp HF5.out fun i _ e => ?_).comp hF6 fun i _ e => ?_
        · rcases e with e | rfl
          · exact HN.out.b1 i e.symm
          · exact Nat.le_refl _
        · rcases e with e | rfl
          · exact HN4.out.b2 i e.symm
          · exact Nat.le_refl _
        · rcases e with e | rfl
          · exact HN5.out.b3 i e.symm
          · exact Nat.le_refl _
      have HN6 := hide hN6
      have HF := hide hF
      clear hA6 hf6 hg6 hN6 hF6 hb6 hF
      go_wp2_with fail
      exact ⟨⟨k + 1, A4, c4, g4, A5, c5, g5, A6, c6, g6, by go_num, hlt, HN6.out, HF.out⟩, by simp [intOf]; omega⟩
    · obtain rfl : k = n := by omega
      have HN := hide hN
      have Hfr := hide hfr
      clear hN hfr
      go_wp2_with fail
      go_ret2
      refine ⟨p, _, rfl, HN.out.done, Hfr.out.mono fun x hx e => by have := Hp.out; omega, fun x hx => ?_⟩
      rw [Hp.out]
      rcases hx with rfl | e | e | e | ⟨l, hl, e⟩
      · exact Nat.le_refl _
      · exact HN.out.b1 x e
      · exact HN.out.b2 x e
      · exact HN.out.b3 x e
      · simp [DR.fresh] at hl
        rw [hl.2] at e
        rcases e with e | e <;> cases e
end Go.Proofs.Ytanfhmebjgmdpaa
