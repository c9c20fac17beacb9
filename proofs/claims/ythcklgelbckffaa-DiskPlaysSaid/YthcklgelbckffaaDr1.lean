/-
  bazaarref08.Disk: what the reference's disk holds (RAt); the small calls.
-/
import Derived.Test.YthcklgelbckffaaDkV
import Derived.Test.YthcklgelbckffaaDkN
namespace Go.Proofs.Ythcklgelbckffaa
open Go.RowKit
set_option linter.unusedVariables false
set_option linter.unusedSimpArgs false
abbrev tRef : TypeId := 79
abbrev tWait : TypeId := 84
/-- A disk of the reference lies at block q: its bytes in gs, its row in gr, each write's bytes in vs. -/
structure RAt (w : World) (q : Nat) (n : Nat) (SA : Option Addr) (sc : Nat) (gs : Option Nat) (RA : Option Addr) (rc : Nat) (gr : Option Nat) (vs : List (Nat × Nat × Nat)) (s : DS) : Prop where
  bl : Bl w q tRef #[.slice SA (n * 64) sc, .slice RA s.row.length rc, .int .i64 s.fuse, .int .i64 (s.wr : Int), .int .i64 (s.sy : Int)]
  safe : Ow w 5 1 SA (n * 64) sc (s.sf.map bn) gs
  rows : Ow w tWait 2 RA s.row.length rc (lcells s.row vs) gr
  len : vs.length = s.row.length
  data : ∀ (i : Nat) r v, s.row[i]? = some r → vs[i]? = some v → Ow w 5 1 (some ⟨v.1, v.2.1, none⟩) 64 v.2.2 (r.2.map bn) (some v.1)
  off : ∀ v ∈ vs, gs ≠ some v.1
  ok : s.Ok n
def rfoot (q : Nat) (gs gr : Option Nat) (vs : List (Nat × Nat × Nat)) (k : Nat) : Prop := k = q ∨ gs = some k ∨ gr = some k ∨ ∃ v ∈ vs, k = v.1
section
variable {w w' : World} {q n : Nat} {SA : Option Addr} {sc : Nat} {gs : Option Nat} {RA : Option Addr} {rc : Nat} {gr : Option Nat} {vs : List (Nat × Nat × Nat)} {s : DS}
theorem RAt.row_of (h : RAt w q n SA sc gs RA rc gr vs s) {v : Nat × Nat × Nat} (hv : v ∈ vs) : ∃ (i : Nat) (r : Nat × List Nat), s.row[i]? = some r ∧ vs[i]? = some v := by
  obtain ⟨i, hi, e⟩ := List.getElem_of_mem hv
  exact ⟨i, _, List.getElem?_eq_getElem (by rw [← h.len]; exact hi), by rw [List.getElem?_eq_getElem hi, e]⟩
theorem RAt.fr {S : Nat → Prop} (h : RAt w q n SA sc gs RA rc gr vs s) (hf : Fr S w w') (hS : ∀ k, rfoot q gs gr vs k → ¬ S k) : RAt w' q n SA sc gs RA rc gr vs s :=
  ⟨h.bl.fr hf (hS q (.inl rfl)), h.safe.fr hf (fun b hb => hS b (.inr (.inl hb))), h.rows.fr hf (fun b hb => hS b (.inr (.inr (.inl hb)))), h.len,
    fun i r v h1 h2 => (h.data i r v h1 h2).fr hf (fun b hb => by cases hb; exact hS v.1 (.inr (.inr (.inr ⟨v, List.mem_of_getElem? h2, rfl⟩)))), h.off, h.ok⟩
theorem RAt.lt (h : RAt w q n SA sc gs RA rc gr vs s) {k : Nat} (hk : rfoot q gs gr vs k) : k < w.heap.size := by
  rcases hk with rfl | hk | hk | ⟨v, hv, rfl⟩
  · exact h.bl.lt
  · exact h.safe.lt k hk
  · exact h.rows.lt k hk
  · obtain ⟨i, r, h1, h2⟩ := h.row_of hv
    exact (h.data i r v h1 h2).lt _ rfl
theorem RAt.nqs (h : RAt w q n SA sc gs RA rc gr vs s) : gs ≠ some q := by
  intro e
  have h1 := h.safe
  rw [e] at h1
  obtain ⟨cs, hc⟩ := h1.ty
  exact absurd (h.bl.same hc).2 (by decide)
theorem RAt.nqr (h : RAt w q n SA sc gs RA rc gr vs s) : gr ≠ some q := by
  intro e
  have h1 := h.rows
  rw [e] at h1
  obtain ⟨cs, hc⟩ := h1.ty
  exact absurd (h.bl.same hc).2 (by decide)
theorem RAt.nsr (h : RAt w q n SA sc gs RA rc gr vs s) {b : Nat} (e : gs = some b) : gr ≠ some b := by
  intro e2
  have h1 := h.safe; have h2 := h.rows
  rw [e] at h1; rw [e2] at h2
  obtain ⟨cs, hc⟩ := h1.ty
  obtain ⟨ds, hd⟩ := h2.ty
  exact absurd (hc.same hd).2 (by decide)
theorem RAt.nvq (h : RAt w q n SA sc gs RA rc gr vs s) {v : Nat × Nat × Nat} (hv : v ∈ vs) : v.1 ≠ q := by
  obtain ⟨i, r, h1, h2⟩ := h.row_of hv
  obtain ⟨cs, hc⟩ := (h.data i r v h1 h2).ty
  intro e
  rw [e] at hc
  exact absurd (h.bl.same hc).2 (by decide)
theorem RAt.nvr (h : RAt w q n SA sc gs RA rc gr vs s) {v : Nat × Nat × Nat} (hv : v ∈ vs) : gr ≠ some v.1 := by
  obtain ⟨i, r, h1, h2⟩ := h.row_of hv
  obtain ⟨cs, hc⟩ := (h.data i r v h1 h2).ty
  intro e
  have h3 := h.rows
  rw [e] at h3
  obtain ⟨ds, hd⟩ := h3.ty
  exact absurd (hc.same hd).2 (by decide)
end
def RI (w : World) (q n : Nat) (G : Nat → Prop) (s : DS) : Prop := ∃ SA sc gs RA rc gr vs, RAt w q n SA sc gs RA rc gr vs s ∧ G = rfoot q gs gr vs
def ROut (w : World) (q n : Nat) (G : Nat → Prop) (s : DS) (w' : World) : Prop :=
  ∃ G', RI w' q n G' s ∧ Fr G w w' ∧ ∀ k, k < w.heap.size → G' k → G k
theorem RI.fr {w w' : World} {q n : Nat} {G : Nat → Prop} {s : DS} {S : Nat → Prop} (h : RI w q n G s) (hf : Fr S w w') (hS : ∀ k, G k → ¬ S k) : RI w' q n G s := by
  obtain ⟨SA, sc, gs, RA, rc, gr, vs, h, rfl⟩ := h
  exact ⟨SA, sc, gs, RA, rc, gr, vs, h.fr hf hS, rfl⟩
theorem RI.lt {w : World} {q n : Nat} {G : Nat → Prop} {s : DS} (h : RI w q n G s) {k : Nat} (hk : G k) : k < w.heap.size := by
  obtain ⟨SA, sc, gs, RA, rc, gr, vs, h, rfl⟩ := h
  exact h.lt hk
theorem RI.ok {w : World} {q n : Nat} {G : Nat → Prop} {s : DS} (h : RI w q n G s) : s.Ok n := by
  obtain ⟨SA, sc, gs, RA, rc, gr, vs, h, rfl⟩ := h
  exact h.ok
theorem RI.bl {w : World} {q n : Nat} {G : Nat → Prop} {s : DS} (h : RI w q n G s) : ∃ SA sc RA rc, Bl w q tRef #[.slice SA (n * 64) sc, .slice RA s.row.length rc, .int .i64 s.fuse, .int .i64 (s.wr : Int), .int .i64 (s.sy : Int)] := by
  obtain ⟨SA, sc, gs, RA, rc, gr, vs, h, rfl⟩ := h
  exact ⟨_, _, _, _, h.bl⟩
theorem ROut.refl {w w' : World} {q n : Nat} {G : Nat → Prop} {s : DS} (h : RI w q n G s) (hf : Fr (fun _ => False) w w') : ROut w q n G s w' :=
  ⟨G, h.fr hf (fun _ _ => id), hf.weak _, fun _ _ h => h⟩
/-! The small calls. -/
theorem rsectors_any {w : World} {q n : Nat} {G : Nat → Prop} {s : DS} (h : RI w q n G s) :
    Calls Try.prog 45 #[.pointer (some ⟨q, 0, none⟩)] w fun e w' => e = .returned (.int .i64 (n : Int)) ∧ w = w' := by
  have hn := h.ok.n2
  obtain ⟨SA, sc, RA, rc, hb⟩ := h.bl
  obtain ⟨m, hm⟩ : ∃ m, n * 64 = m := ⟨_, rfl⟩
  rw [hm] at hb
  have c0 : w.cell? ⟨q, 0, none⟩ = some (.slice SA m sc) := hb.cell' rfl
  have ht : ((m : Int).tdiv 64) = (n : Int) := by rw [Int.tdiv_eq_ediv_of_nonneg (by omega)]; omega
  have hw : IntKind.i64.wrap (n : Int) = (n : Int) := by rw [IntWalk.i64_in _ (by omega)]
  clear hb h hm
  go_enter Try.func45, Try.ntmps45
  go_wp2
  go_ret
  exact ⟨rfl, rfl⟩
theorem rsectors_nil (w : World) : Calls Try.prog 45 #[.pointer none] w fun e w' => e = .returned (.int .i64 0) ∧ w = w' := by
  go_enter Try.func45, Try.ntmps45
  go_wp2
  go_ret
  exact ⟨rfl, rfl⟩
theorem rwaiting_any {w : World} {q n : Nat} {G : Nat → Prop} {s : DS} (h : RI w q n G s) :
    Calls Try.prog 43 #[.pointer (some ⟨q, 0, none⟩)] w fun e w' => e = .returned (.int .i64 (s.row.length : Int)) ∧ w = w' := by
  obtain ⟨SA, sc, RA, rc, hb⟩ := h.bl
  have c0 : w.cell? ⟨q, 1, none⟩ = some (.slice RA s.row.length rc) := hb.cell' rfl
  clear hb h
  go_enter Try.func43, Try.ntmps43
  go_wp2
  go_ret
  exact ⟨rfl, rfl⟩
theorem rwaiting_nil (w : World) : Calls Try.prog 43 #[.pointer none] w fun e w' => e = .returned (.int .i64 0) ∧ w = w' := by
  go_enter Try.func43, Try.ntmps43
  go_wp2
  go_ret
  exact ⟨rfl, rfl⟩
theorem rpower_any {w : World} {q n : Nat} {G : Nat → Prop} {s : DS} (h : RI w q n G s) :
    Calls Try.prog 44 #[.pointer (some ⟨q, 0, none⟩)] w fun e w' => e = .returned (.bool (decide (s.fuse ≠ 0))) ∧ w = w' := by
  obtain ⟨SA, sc, RA, rc, hb⟩ := h.bl
  have c3 : w.cell? ⟨q, 2, none⟩ = some (.int .i64 s.fuse) := hb.cell' rfl
  obtain ⟨f, hf⟩ : ∃ f, s.fuse = f := ⟨_, rfl⟩
  rw [hf] at c3 ⊢
  clear hb hf h
  by_cases h0 : f = 0
  · subst h0
    go_enter Try.func44, Try.ntmps44
    go_wp2
    go_ret
    exact ⟨rfl, rfl⟩
  · rw [decide_eq_true h0]
    have q : (f != 0) = true := by simpa using h0
    go_enter Try.func44, Try.ntmps44
    go_wp2
    go_ret
    exact ⟨rfl, rfl⟩
theorem rpower_nil (w : World) : Calls Try.prog 44 #[.pointer none] w fun e w' => e = .returned (.bool false) ∧ w = w' := by
  go_enter Try.func44, Try.ntmps44
  go_wp2
  go_ret
  exact ⟨rfl, rfl⟩
theorem racts_any {w : World} {q n : Nat} {G : Nat → Prop} {s : DS} (h : RI w q n G s) :
    Calls Try.prog 42 #[.pointer (some ⟨q, 0, none⟩)] w fun e w' => e = .returned (.tuple #[.int .i64 (s.wr : Int), .int .i64 (s.sy : Int)]) ∧ Fr (fun _ => False) w w' := by
  obtain ⟨SA, sc, RA, rc, hb⟩ := h.bl
  have c4 : w.cell? ⟨q, 3, none⟩ = some (.int .i64 (s.wr : Int)) := hb.cell' rfl
  have c5 : w.cell? ⟨q, 4, none⟩ = some (.int .i64 (s.sy : Int)) := hb.cell' rfl
  clear hb h
  go_enter Try.func42, Try.ntmps42
  go_wp2_with fail
  go_quiet (fail)
  go_wp2_with fail
  go_ret2
  exact ⟨rfl, (Fr.refl _ _).drewN _⟩
theorem racts_nil (w : World) : Calls Try.prog 42 #[.pointer none] w fun e w' => e = .returned (.tuple #[.int .i64 0, .int .i64 0]) ∧ Fr (fun _ => False) w w' := by
  go_enter Try.func42, Try.ntmps42
  go_wp2_with fail
  go_ret2
  exact ⟨rfl, Fr.refl _ _⟩
/-- The fuse is another one. -/
theorem RAt.setF {w w' : World} {q n : Nat} {SA : Option Addr} {sc : Nat} {gs : Option Nat} {RA : Option Addr} {rc : Nat} {gr : Option Nat} {vs : List (Nat × Nat × Nat)} {s : DS} (h : RAt w q n SA sc gs RA rc gr vs s) (f : Int) (h1 : -1 ≤ f) (h2 : f ≤ 9223372036854775807)
    (hB : Bl w' q tRef #[.slice SA (n * 64) sc, .slice RA s.row.length rc, .int .i64 f, .int .i64 (s.wr : Int), .int .i64 (s.sy : Int)]) (hF : Fr (fun x => x = q) w w') :
    RAt w' q n SA sc gs RA rc gr vs { s with fuse := f } :=
  ⟨hB, h.safe.fr hF (fun b e e' => h.nqs (by rw [e, e'])), h.rows.fr hF (fun b e e' => h.nqr (by rw [e, e'])), h.len, fun i r v a b => (h.data i r v a b).fr hF (fun y hy e => by cases hy; exact h.nvq (List.mem_of_getElem? b) e), h.off, ⟨h.ok.n1, h.ok.n2, h.ok.len, h.ok.row, h1, h2, h.ok.c1, h.ok.c2, h.ok.c3⟩⟩
theorem spent_any {w : World} {q n : Nat} {SA : Option Addr} {sc : Nat} {gs : Option Nat} {RA : Option Addr} {rc : Nat} {gr : Option Nat} {vs : List (Nat × Nat × Nat)} {s : DS} (h : RAt w q n SA sc gs RA rc gr vs s) :
    Calls Try.prog 46 #[.pointer (some ⟨q, 0, none⟩)] w fun e w' => e = .returned (.tuple #[]) ∧ RAt w' q n SA sc gs RA rc gr vs { s with fuse := spend s.fuse } ∧ Fr (fun k => k = q) w w' := by
  have c2 : w.cell? ⟨q, 2, none⟩ = some (.int .i64 s.fuse) := h.bl.cell' rfl
  have z2 := h.bl.free 2
  have f1 := h.ok.f1
  have f2 := h.ok.f2
  have H := hide h
  obtain ⟨f, hf⟩ : ∃ f, s.fuse = f := ⟨_, rfl⟩
  rw [hf] at c2 f1 f2
  have Hf := hide hf
  clear h hf
  by_cases h0 : f > 0
  · have hw : IntKind.i64.wrap (f - 1) = f - 1 := IntWalk.i64_in _ (by omega)
    go_enter Try.func46, Try.ntmps46
    go_wp2_with fail
    go_end0
    refine ⟨rfl, ?_, (Fr.refl _ _).setAt _⟩
    have e : spend s.fuse = f - 1 := by rw [Hf.out]; unfold spend; rw [if_pos h0]
    rw [e]
    exact H.out.setF (f - 1) (by omega) (by omega) (H.out.bl.set 2 _) ((Fr.refl _ _).setAt _)
  · go_enter Try.func46, Try.ntmps46
    go_wp2_with fail
    go_end0
    refine ⟨rfl, ?_, Fr.refl _ _⟩
    have e : spend s.fuse = s.fuse := by rw [Hf.out]; unfold spend; rw [if_neg (by omega)]
    rw [e]
    exact H.out
theorem rfuse_any {w : World} {q n : Nat} {G : Nat → Prop} {s : DS} (k : Int) (hk : k ≤ 9223372036854775807) (h : RI w q n G s) :
    Calls Try.prog 39 #[.pointer (some ⟨q, 0, none⟩), .int .i64 k] w fun e w' => e = .returned (.tuple #[]) ∧ ROut w q n G { s with fuse := if k < 0 then -1 else k } w' := by
  obtain ⟨SA, sc, gs, RA, rc, gr, vs, h, rfl⟩ := h
  have c2 : w.cell? ⟨q, 2, none⟩ = some (.int .i64 s.fuse) := h.bl.cell' rfl
  have z2 := h.bl.free 2
  have H := hide h
  clear h
  by_cases h0 : k < 0
  · go_enter Try.func39, Try.ntmps39
    go_wp2_with fail
    go_end0
    have hw : Fr (fun x => x = q) w ((w.setCell ⟨q, 2, none⟩ (.int .i64 k)).setCell ⟨q, 2, none⟩ (.int .i64 (-1))) := ((Fr.refl _ _).setAt _).setAt _
    refine ⟨rfl, _, ⟨_, _, _, _, _, _, _, H.out.setF (-1) (by omega) (by omega) ?_ hw, rfl⟩, hw.mono fun x _ e => .inl e, fun _ _ h => h⟩
    have := (H.out.bl.set 2 (.int .i64 k)).set 2 (.int .i64 (-1))
    simpa using this
  · have h1 : ¬ k < 0 := h0
    go_enter Try.func39, Try.ntmps39
    go_wp2_with fail
    go_end0
    have hw : Fr (fun x => x = q) w (w.setCell ⟨q, 2, none⟩ (.int .i64 k)) := (Fr.refl _ _).setAt _
    have e : (if k < 0 then -1 else k) = k := if_neg (by omega)
    first | rw [e] | skip
    exact ⟨rfl, _, ⟨_, _, _, _, _, _, _, H.out.setF k (by omega) hk (H.out.bl.set 2 _) hw, rfl⟩, hw.mono fun x _ e => .inl e, fun _ _ h => h⟩
theorem rfuse_nil (w : World) (k : Int) : Calls Try.prog 39 #[.pointer none, .int .i64 k] w fun e w' => e = .returned (.tuple #[]) ∧ w = w' := by
  go_enter Try.func39, Try.ntmps39
  go_wp2_with fail
  refine bodyPost_ret (results_none rfl _ _ _) rfl ?_
  exact ⟨rfl, rfl⟩
theorem rimage_any {w : World} {q n : Nat} {G : Nat → Prop} {s : DS} (h : RI w q n G s) :
    Calls Try.prog 41 #[.pointer (some ⟨q, 0, none⟩)] w fun e w' => ∃ A c g, e = .returned (.slice A (n * 64) c) ∧ Ow w' 5 1 A (n * 64) c (s.sf.map bn) g ∧ (∀ b, g = some b → w.heap.size ≤ b) ∧ Fr (fun _ => False) w w' := by
  obtain ⟨i0, hi, hz0, hz1, hz2⟩ := info_parts infoU8
  have hn := h.ok.n2
  obtain ⟨SA, sc, gs, RA, rc, gr, vs, h, rfl⟩ := h
  have c0 : w.cell? ⟨q, 0, none⟩ = some (.slice SA (n * 64) sc) := h.bl.cell' rfl
  have H := hide h
  obtain ⟨m, hm⟩ : ∃ m, n * 64 = m := ⟨_, rfl⟩
  have hS : Sl w 1 SA m (s.sf.map bn) := by rw [← hm]; exact h.safe.sl
  rw [hm] at c0 ⊢
  have HS := hide hS
  have hmb : m ≤ 4194304 := by omega
  clear h hm hS
  go_enter Try.func41, Try.ntmps41
  go_wp2_with (at_builtin; refine wpList_append_ow _ rfl _ _ 34 rfl 5 i0 (.int .u8 0) 1 1 Try.underlying34 hi hz0 hz1 hz2 rfl (by decide) _ _ _ _ _ rfl (Ow.nil_ _ _ _) _ _ _ _ rfl HS.out (bn_one _) (by unfold maxLen; omega) (by omega) ?_)
  intro A1 c1 w1 g1 hO1 hf1 hg1
  go_wp2_with fail
  go_ret
  refine ⟨A1, c1, g1, by simp, by simpa using hO1, fun b hb => ?_, hf1.mono fun x _ e => by cases e⟩
  rcases hg1 with rfl | ⟨b', rfl, h⟩
  · cases hb
  · cases hb; exact h
theorem rimage_nil (w : World) : Calls Try.prog 41 #[.pointer none] w fun e w' => e = .returned (.slice none 0 0) ∧ w = w' := by
  go_enter Try.func41, Try.ntmps41
  go_wp2_with fail
  go_ret
  exact ⟨rfl, rfl⟩
end Go.Proofs.Ythcklgelbckffaa
