/-
  does: Copy: one more bucket of both kinds.
-/
import Derived.Test.YtgogagapapdlgaaBkW2
namespace Go.Proofs.Ytgogagapapdlgaa
open Go.RowKit
set_option linter.unusedVariables false
attribute [local go_sem ↓] Go.wp_at_zero Go.wp_at_succ
theorem infoPB : (Try.prog.info? 25).map (fun i => (i.zero, i.size, i.bytes)) = some (some (.pointer none), 1, 8) := by kernel_rfl
theorem infoPM : (Try.prog.info? 50).map (fun i => (i.zero, i.size, i.bytes)) = some (some (.pointer none), 1, 8) := by kernel_rfl
theorem Sl.one (w : World) (v : Value) (t : TypeId) : Sl (w.alloc (.cells #[v] t)) 1 (some ⟨w.heap.size, 0, none⟩) 1 [v] :=
  ⟨by simp, fun _ => ⟨w.heap.size, 0, rfl, fun j u hu => by
    have h := (Bl.new w t #[v]).cell j
    simp only [Nat.zero_add]
    rw [h]; simpa using hu⟩⟩

theorem Sl.oneAt {w : World} {k : Nat} {v : Value} {t : TypeId} (h : k = w.heap.size) : Sl (w.alloc (.cells #[v] t)) 1 (some ⟨k, 0, none⟩) 1 [v] := by subst h; exact Sl.one _ _ _
/-- What turns is of other types. -/
def Apart (t : TypeId) (S : Nat → Prop) (w : World) : Prop := ∀ x, S x → x < w.heap.size → ∃ t' cs, Bl w x t' cs ∧ t' ≠ t
theorem Bl.frA {w w' : World} {p : Nat} {t : TypeId} {cs : Array Value} {S : Nat → Prop} (h : Bl w p t cs) (hf : Fr S w w') (hS : Apart t S w) : Bl w' p t cs :=
  h.fr hf fun hs => by
    obtain ⟨t', cs', h', hne⟩ := hS _ hs h.lt
    exact h.apart h' (fun e => hne e.symm) rfl
theorem InvS.frA {t : TypeId} {sel : Nat × Nat → Nat} {L : List Ent} {σ : Nat → St} {w w' : World} {S : Nat → Prop} (h : InvS t sel L σ w) (hf : Fr S w w') (hS : Apart t S w) : InvS t sel L σ w' :=
  fun x hx => ⟨Bl.frA (h x hx).1 hf hS, (h x hx).2⟩
theorem Apart.none_ (t : TypeId) (w : World) : Apart t (fun _ => False) w := fun x h => h.elim

structure WQ (B0 wb n1 : Nat) (xs : List Value) (A1 : Option Addr) (c1 : Nat) (g1 : Option Nat) (n2 : Nat) (ys : List Value) (A2 : Option Addr) (c2 : Nat) (g2 : Option Nat) (w : World) : Prop where
  bl : Bl w wb tW #[.slice A1 n1 c1, .slice A2 n2 c2]
  o1 : Ow w tPB 1 A1 n1 c1 xs g1
  o2 : Ow w tPM 1 A2 n2 c2 ys g2
  n0 : B0 ≤ wb
  k1 : ∀ b, g1 = some b → B0 ≤ b
  k2 : ∀ b, g2 = some b → B0 ≤ b
section
variable {B0 wb n1 n2 : Nat} {xs ys : List Value} {A1 : Option Addr} {c1 : Nat} {g1 : Option Nat} {A2 : Option Addr} {c2 : Nat} {g2 : Option Nat} {w : World}
theorem WQ.fr0 {w' : World} (h : WQ B0 wb n1 xs A1 c1 g1 n2 ys A2 c2 g2 w) (hf : Fr (fun _ => False) w w') : WQ B0 wb n1 xs A1 c1 g1 n2 ys A2 c2 g2 w' :=
  ⟨h.bl.fr hf id, h.o1.fr hf (fun _ _ => id), h.o2.fr hf (fun _ _ => id), h.n0, h.k1, h.k2⟩
/-- One more of the one kind. -/
theorem WQ.more1 {v : Value} {A3 : Option Addr} {c3 : Nat} {g3 : Option Nat} {wx w3 : World} (h : WQ B0 wb n1 xs A1 c1 g1 n2 ys A2 c2 g2 w) (hB : B0 ≤ w.heap.size) (hx : Fr (fun _ => False) w wx) (h3 : Ow w3 tPB 1 A3 (n1 + 1) c3 (xs ++ [v]) g3)
    (hf : Fr (fun k => some k = g1) wx w3) (hg : g3 = g1 ∨ ∃ b, g3 = some b ∧ wx.heap.size ≤ b) :
    WQ B0 wb (n1 + 1) (xs ++ [v]) A3 c3 g3 n2 ys A2 c2 g2 (w3.setCell ⟨wb, 0, none⟩ (.slice A3 (n1 + 1) c3)) ∧ Fr (fun k => some k = g1 ∨ k = wb) w (w3.setCell ⟨wb, 0, none⟩ (.slice A3 (n1 + 1) c3)) ∧ Bl w3 wb tW #[.slice A1 n1 c1, .slice A2 n2 c2] := by
  have hx' := h.fr0 hx
  have hw3 : Bl w3 wb tW #[.slice A1 n1 c1, .slice A2 n2 c2] := hx'.bl.fr hf fun e => by
    have h1 := hx'.o1
    rw [← e] at h1
    obtain ⟨cs, hc⟩ := h1.ty
    exact absurd (hx'.bl.same hc).2 (by decide)
  have hsx := hx.size
  have hs3 := hf.size
  have hset : Fr (fun k => k = wb) w3 (w3.setCell ⟨wb, 0, none⟩ (.slice A3 (n1 + 1) c3)) := (Fr.refl _ _).setAt _
  refine ⟨⟨hw3.set 0 _, h3.fr hset fun b hb e => ?_, (hx'.o2.fr hf fun b hb e => ?_).fr hset fun b hb e => ?_, h.n0, ?_, h.k2⟩, ?_, hw3⟩
  · rw [hb, e] at h3
    obtain ⟨cs, hc⟩ := h3.ty
    exact absurd (hw3.same hc).2 (by decide)
  · have h1 := hx'.o1
    have h2 := hx'.o2
    rw [← e] at h1
    rw [hb] at h2
    obtain ⟨cs, hc⟩ := h1.ty
    obtain ⟨cs', hc'⟩ := h2.ty
    exact absurd (hc.same hc').2 (by decide)
  · have h2 := hx'.o2
    rw [hb, e] at h2
    obtain ⟨cs', hc'⟩ := h2.ty
    exact absurd (hx'.bl.same hc').2 (by decide)
  · rcases hg with hg | ⟨b, hg, hb⟩
    · rw [hg]; exact h.k1
    · rw [hg]; intro b' e; cases e; omega
  · exact ((hx.weak _).comp hf fun i _ e => .inl e).comp hset fun i _ e => .inr e
theorem WQ.more2 {v : Value} {A3 : Option Addr} {c3 : Nat} {g3 : Option Nat} {wx w3 : World} (h : WQ B0 wb n1 xs A1 c1 g1 n2 ys A2 c2 g2 w) (hB : B0 ≤ w.heap.size) (hx : Fr (fun _ => False) w wx) (h3 : Ow w3 tPM 1 A3 (n2 + 1) c3 (ys ++ [v]) g3)
    (hf : Fr (fun k => some k = g2) wx w3) (hg : g3 = g2 ∨ ∃ b, g3 = some b ∧ wx.heap.size ≤ b) :
    WQ B0 wb n1 xs A1 c1 g1 (n2 + 1) (ys ++ [v]) A3 c3 g3 (w3.setCell ⟨wb, 1, none⟩ (.slice A3 (n2 + 1) c3)) ∧ Fr (fun k => some k = g2 ∨ k = wb) w (w3.setCell ⟨wb, 1, none⟩ (.slice A3 (n2 + 1) c3)) ∧ Bl w3 wb tW #[.slice A1 n1 c1, .slice A2 n2 c2] := by
  have hx' := h.fr0 hx
  have hw3 : Bl w3 wb tW #[.slice A1 n1 c1, .slice A2 n2 c2] := hx'.bl.fr hf fun e => by
    have h1 := hx'.o2
    rw [← e] at h1
    obtain ⟨cs, hc⟩ := h1.ty
    exact absurd (hx'.bl.same hc).2 (by decide)
  have hsx := hx.size
  have hs3 := hf.size
  have hset : Fr (fun k => k = wb) w3 (w3.setCell ⟨wb, 1, none⟩ (.slice A3 (n2 + 1) c3)) := (Fr.refl _ _).setAt _
  refine ⟨⟨hw3.set 1 _, (hx'.o1.fr hf fun b hb e => ?_).fr hset fun b hb e => ?_, h3.fr hset fun b hb e => ?_, h.n0, h.k1, ?_⟩, ?_, hw3⟩
  · have h1 := hx'.o1
    have h2 := hx'.o2
    rw [← e] at h2
    rw [hb] at h1
    obtain ⟨cs, hc⟩ := h1.ty
    obtain ⟨cs', hc'⟩ := h2.ty
    exact absurd (hc.same hc').2 (by decide)
  · have h2 := hx'.o1
    rw [hb, e] at h2
    obtain ⟨cs', hc'⟩ := h2.ty
    exact absurd (hx'.bl.same hc').2 (by decide)
  · rw [hb, e] at h3
    obtain ⟨cs, hc⟩ := h3.ty
    exact absurd (hw3.same hc).2 (by decide)
  · rcases hg with hg | ⟨b, hg, hb⟩
    · rw [hg]; exact h.k2
    · rw [hg]; intro b' e; cases e; omega
  · exact ((hx.weak _).comp hf fun i _ e => .inl e).comp hset fun i _ e => .inr e
theorem WQ.apart1 (h : WQ B0 wb n1 xs A1 c1 g1 n2 ys A2 c2 g2 w) {t : TypeId} (h1 : tPB ≠ t) (h2 : tW ≠ t) : Apart t (fun k => some k = g1 ∨ k = wb) w := by
  rintro x (e | rfl) _
  · have := h.o1
    rw [← e] at this
    obtain ⟨cs, hc⟩ := this.ty
    exact ⟨_, cs, hc, h1⟩
  · exact ⟨_, _, h.bl, h2⟩
theorem WQ.apart2 (h : WQ B0 wb n1 xs A1 c1 g1 n2 ys A2 c2 g2 w) {t : TypeId} (h1 : tPM ≠ t) (h2 : tW ≠ t) : Apart t (fun k => some k = g2 ∨ k = wb) w := by
  rintro x (e | rfl) _
  · have := h.o2
    rw [← e] at this
    obtain ⟨cs, hc⟩ := this.ty
    exact ⟨_, cs, hc, h1⟩
  · exact ⟨_, _, h.bl, h2⟩
theorem WQ.old1 (h : WQ B0 wb n1 xs A1 c1 g1 n2 ys A2 c2 g2 w) : ∀ i, (some i = g1 ∨ i = wb) → B0 ≤ i := by
  rintro i (e | rfl)
  · exact h.k1 i e.symm
  · exact h.n0
theorem WQ.old2 (h : WQ B0 wb n1 xs A1 c1 g1 n2 ys A2 c2 g2 w) : ∀ i, (some i = g2 ∨ i = wb) → B0 ≤ i := by
  rintro i (e | rfl)
  · exact h.k2 i e.symm
  · exact h.n0
end
section
variable {B0 wb : Nat} {L : List Ent} {σ : Nat → St} {A1 : Option Addr} {c1 : Nat} {g1 : Option Nat} {A2 : Option Addr} {c2 : Nat} {g2 : Option Nat} {w : World}
theorem WP.toQ (h : WP B0 wb L A1 c1 g1 A2 c2 g2 w) {m : Nat} (hm : L.length = m) : WQ B0 wb m (L.map (ptr Prod.fst)) A1 c1 g1 m (L.map (ptr Prod.snd)) A2 c2 g2 w := by
  subst hm; exact ⟨h.bl, h.o1, h.o2, h.n0, h.n1, h.n2⟩
theorem WQ.toP {m : Nat} (h : WQ B0 wb m (L.map (ptr Prod.fst)) A1 c1 g1 m (L.map (ptr Prod.snd)) A2 c2 g2 w) (hm : L.length = m) : WP B0 wb L A1 c1 g1 A2 c2 g2 w := by
  subst hm; exact ⟨h.bl, h.o1, h.o2, h.n0, h.k1, h.k2⟩

/-- One more entry. -/
theorem BI.more {w' : World} {pq : Nat × Nat} {s : St} (hI : BI B0 L σ w') (hb : StAt tB w' pq.1 s) (hm : StAt tM w' pq.2 s) (ho : StOk s) (h1 : ∀ x, some x ∈ L → x.1 ≠ pq.1 ∧ x.2 ≠ pq.2) (h2 : B0 ≤ pq.1 ∧ B0 ≤ pq.2) : BI B0 (L ++ [some pq]) (upd σ pq.1 s) w' := by
  have hc : ∀ x, some x ∈ L ++ [some pq] → some x ∈ L ∨ x = pq := fun x hx => by
    rcases List.mem_append.1 hx with hx | hx
    · exact .inl hx
    · exact .inr (by simpa using hx)
  refine ⟨fun x hx => ?_, fun x hx => ?_, fun x y hx hy => ?_, fun x hx => ?_⟩
  · rcases hc x hx with hx | rfl
    · rw [upd_ne _ _ (h1 x hx).1]; exact hI.b x hx
    · rw [upd_same]; exact ⟨hb, ho⟩
  · rcases hc x hx with hx | rfl
    · rw [upd_ne _ _ (h1 x hx).1]; exact hI.m x hx
    · rw [upd_same]; exact ⟨hm, ho⟩
  · rcases hc x hx with hx1 | hx1
    · rcases hc y hy with hy1 | hy1
      · exact hI.sep x y hx1 hy1
      · rw [hy1]; exact ⟨fun e => absurd e (h1 x hx1).2, fun e => absurd e (h1 x hx1).1⟩
    · rw [hx1]
      rcases hc y hy with hy1 | hy1
      · exact ⟨fun e => absurd e.symm (h1 y hy1).2, fun e => absurd e.symm (h1 y hy1).1⟩
      · rw [hy1]; exact ⟨fun _ => rfl, fun _ => rfl⟩
  · rcases hc x hx with hx | rfl
    · exact hI.new x hx
    · exact h2
theorem BI.moreN {w' : World} (hI : BI B0 L σ w') : BI B0 (L ++ [none]) σ w' := by
  have hc : ∀ x : Nat × Nat, some x ∈ L ++ [none] → some x ∈ L := fun x hx => by
    rcases List.mem_append.1 hx with hx | hx
    · exact hx
    · simp at hx
  exact ⟨fun x hx => hI.b x (hc x hx), fun x hx => hI.m x (hc x hx), fun x y hx hy => hI.sep x y (hc x hx) (hc y hy), fun x hx => hI.new x (hc x hx)⟩
theorem BI.frA {S : Nat → Prop} {w' : World} (h : BI B0 L σ w) (hf : Fr S w w') (h1 : Apart tB S w) (h2 : Apart tM S w) : BI B0 L σ w' :=
  ⟨h.b.frA hf h1, h.m.frA hf h2, h.sep, h.new⟩

set_option maxHeartbeats 4000000 in
set_option maxRecDepth 4000 in
theorem does_copy (hW : WP B0 wb L A1 c1 g1 A2 c2 g2 w) (hI : BI B0 L σ w) (m : Nat) (Hm : Hid (L.length = m)) (hL1 : 1 ≤ m) (hL2 : m ≤ 20) (wh n : Int) (k : Nat) (Hk : Hid (wh % (m : Int) = (k : Int))) (hkm : k < m) (e : Ent) (he : L[k]? = some e) (AL : Option Addr) (nl cl : Nat) (hB : B0 ≤ w.heap.size) :
    Calls Try.prog 18 #[.pointer (some ⟨wb, 0, none⟩), .agg #[.int .i64 5, .int .i64 wh, .int .i64 n, .slice AL nl cl]] w fun r w' => r = .returned (.bool true) ∧ DoesOut B0 wb w w' := by
  obtain ⟨j0, hj, hj0, hj1, hj2⟩ := info_parts infoPB
  obtain ⟨q0, hq, hq0, hq1, hq2⟩ := info_parts infoPM
  (obtain ⟨b1, o1, rfl, hg1, hc1, -⟩ := hW.o1.look (j := k) (u := ptr Prod.fst e) (by rw [List.getElem?_map, he]; rfl)); (obtain ⟨b2, o2, rfl, hg2, hc2, -⟩ := hW.o2.look (j := k) (u := ptr Prod.snd e) (by rw [List.getElem?_map, he]; rfl)); (have hl1 := hW.o1.lt b1 hg1); (have hl2 := hW.o2.lt b2 hg2); (have hlw := hW.bl.lt); (have he' : e ∈ L := List.mem_of_getElem? he); (have w0 : w.cell? ⟨wb, 0, none⟩ = some (.slice (some ⟨b1, o1, none⟩) m c1) := by rw [← Hm.out]; exact hW.bl.cell' rfl); (have w1 : w.cell? ⟨wb, 1, none⟩ = some (.slice (some ⟨b2, o2, none⟩) m c2) := by rw [← Hm.out]; exact hW.bl.cell' rfl); (have He := hide he); (have Hg1 := hide hg1); (have Hg2 := hide hg2); clear he hg1 hg2
  have hQ := hide (hW.toQ Hm.out)
  cases e with
  | none =>
    have hc1' : w.cell? ⟨b1, o1 + k, none⟩ = some (.pointer none) := hc1
    have hc2' : w.cell? ⟨b2, o2 + k, none⟩ = some (.pointer none) := hc2
    clear hc1 hc2
    by_cases hm20 : m < 20
    · go_enter Try.func18, Try.ntmps18
      (go_wp2_with fail); (go_quiet ((go_at_call 13; exact quiet_left (round_nat _ wh m k (by omega) (by omega) Hk.out)))); (go_wp2_with fail)
      have hfA := ((Fr.refl (fun _ => False) w).alloc (.cells #[.int .i64 5, .int .i64 wh, .int .i64 n, .slice AL nl cl] tOp)).drewN nq
      refine (copy_un _ none (fun q h => by cases h)).mono ?_
      rintro r w' ⟨rfl, rfl⟩
      have Q1 := hQ.out.fr0 hfA
      go_wp2_with (first | (at_builtin; go_loud (refine wpList_append_ow _ rfl _ _ 44 rfl 25 j0 (.pointer none) 1 8 Try.underlying44 hj hj0 hj1 hj2 rfl (by decide) _ _ _ _ _ rfl (Q1.o1.fr (S := fun _ => False) ((Fr.refl _ _).alloc _) (fun _ _ => id)) _ _ _ [.pointer none] rfl (Sl.oneAt (by simp)) (by intro u hu; simp at hu; subst hu; rfl) (by unfold maxLen; omega) (by omega) ?_)) | go_in)
      intro A3 c3 w3 g3 hA3 hf3 hg3
      obtain ⟨Q2, hf2, hbl3⟩ := Q1.more1 (by have := hfA.size; omega) ((Fr.refl _ _).alloc _) hA3 hf3 (hg3.imp_right fun ⟨b, e, h⟩ => ⟨b, e, by simpa using h⟩)
      (have z0 := hbl3.free 0); (have z1 := hbl3.free 1); (have d0 : w3.cell? ⟨wb, 0, none⟩ = some (.slice (some ⟨b1, o1, none⟩) m c1) := hbl3.cell' rfl); (have d1 : w3.cell? ⟨wb, 1, none⟩ = some (.slice (some ⟨b2, o2, none⟩) m c2) := hbl3.cell' rfl)
      go_wp2_with fail
      refine (rcopy_nil _).mono ?_
      rintro r w' ⟨rfl, rfl⟩
      clear z0 z1 d0 d1 hbl3 hA3 hf3 hg3
      generalize hw4 : w3.setCell ⟨wb, 0, none⟩ (.slice A3 (m + 1) c3) = w4 at Q2 hf2 ⊢
      clear hw4
      have e1 : w4.cell? ⟨wb, 1, none⟩ = some (.slice (some ⟨b2, o2, none⟩) m c2) := Q2.bl.cell' rfl
      have Q3 := Q2
      go_wp2_with (first | (at_builtin; go_loud (refine wpList_append_ow _ rfl _ _ 45 rfl 50 q0 (.pointer none) 1 8 Try.underlying45 hq hq0 hq1 hq2 rfl (by decide) _ _ _ _ _ rfl (Q3.o2.fr (S := fun _ => False) ((Fr.refl _ _).alloc _) (fun _ _ => id)) _ _ _ [.pointer none] rfl (Sl.oneAt (by simp)) (by intro u hu; simp at hu; subst hu; rfl) (by unfold maxLen; omega) (by omega) ?_)) | go_in)
      intro A6 c6 w6 g6 hA6 hf6 hg6
      obtain ⟨Q4, hf4, hbl6⟩ := Q3.more2 (by have := hfA.size; have := hf2.size; omega) ((Fr.refl _ _).alloc _) hA6 hf6 (hg6.imp_right fun ⟨b, e, h⟩ => ⟨b, e, by simpa using h⟩)
      (have z0 := hbl6.free 0); (have z1 := hbl6.free 1); (have d0 : w6.cell? ⟨wb, 0, none⟩ = some (.slice A3 (m + 1) c3) := hbl6.cell' rfl); (have d1 : w6.cell? ⟨wb, 1, none⟩ = some (.slice (some ⟨b2, o2, none⟩) m c2) := hbl6.cell' rfl)
      have hP : WP B0 wb (L ++ [none]) A3 c3 g3 A6 c6 g6 (w6.setCell ⟨wb, 1, none⟩ (.slice A6 (m + 1) c6)) := WQ.toP (m := m + 1) (by rw [List.map_append, List.map_append]; exact Q4) (by rw [List.length_append, Hm.out]; rfl)
      have hI6 := (((hI.fr hfA (fun _ => id)).frA hf2 (Q1.apart1 (by decide) (by decide)) (Q1.apart1 (by decide) (by decide))).frA hf4 (Q3.apart2 (by decide) (by decide)) (Q3.apart2 (by decide) (by decide))).moreN
      have hF := ((hfA.weak (fun k => B0 ≤ k)).comp hf2 (fun i _ e => Q1.old1 i e)).comp hf4 (fun i _ e => Q3.old2 i e)
      go_wp2_with fail
      go_ret
      exact ⟨rfl, L ++ [none], σ, A3, c3, g3, A6, c6, g6, hP, hI6, by rw [List.length_append, Hm.out]; simp, by rw [List.length_append, Hm.out]; simp; omega, hF⟩
    · go_enter Try.func18, Try.ntmps18
      (go_wp2_with fail); (go_quiet ((go_at_call 13; exact quiet_left (round_nat _ wh m k (by omega) (by omega) Hk.out)))); (go_wp2_with fail)
      have hfA := ((Fr.refl (fun _ => False) w).alloc (.cells #[.int .i64 5, .int .i64 wh, .int .i64 n, .slice AL nl cl] tOp)).drewN nq
      refine (copy_un _ none (fun q h => by cases h)).mono ?_
      rintro r w' ⟨rfl, rfl⟩
      go_wp2_with fail
      go_ret
      exact ⟨rfl, DoesOut.same hW hI (by rw [Hm.out]; exact hL1) (by rw [Hm.out]; exact hL2) hfA⟩
  | some pq =>
    have hc1' : w.cell? ⟨b1, o1 + k, none⟩ = some (.pointer (some ⟨pq.1, 0, none⟩)) := hc1
    have hc2' : w.cell? ⟨b2, o2 + k, none⟩ = some (.pointer (some ⟨pq.2, 0, none⟩)) := hc2
    clear hc1 hc2
    have hold : Hid (∀ x, some x ∈ L → x.1 < w.heap.size ∧ x.2 < w.heap.size) := fun x hx => ⟨Bl.lt (hI.b x hx).1, Bl.lt (hI.m x hx).1⟩
    by_cases hm20 : m < 20
    · go_enter Try.func18, Try.ntmps18
      (go_wp2_with fail); (go_quiet ((go_at_call 13; exact quiet_left (round_nat _ wh m k (by omega) (by omega) Hk.out)))); (go_wp2_with fail)
      have hfA := ((Fr.refl (fun _ => False) w).alloc (.cells #[.int .i64 5, .int .i64 wh, .int .i64 n, .slice AL nl cl] tOp)).drewN nq
      refine (copy_made _ (Bl.fr (hI.b pq he').1 hfA id) (hI.b pq he').2.p1).mono ?_
      rintro r wB ⟨rfl, hbB, hfB, hsB⟩
      obtain ⟨p', hp'⟩ : ∃ p', ((w.alloc (.cells #[.int .i64 5, .int .i64 wh, .int .i64 n, .slice AL nl cl] tOp)).drewN nq).heap.size = p' := ⟨_, rfl⟩
      rw [hp'] at hbB hsB ⊢
      have hpn : w.heap.size ≤ p' := by rw [← hp']; exact hfA.size
      clear hp'
      have hfAB := hfA.trans hfB
      have Q1 := hQ.out.fr0 hfAB
      have w0' : wB.cell? ⟨wb, 0, none⟩ = some (.slice (some ⟨b1, o1, none⟩) m c1) := Q1.bl.cell' rfl
      go_wp2_with (first | (at_builtin; go_loud (refine wpList_append_ow _ rfl _ _ 44 rfl 25 j0 (.pointer none) 1 8 Try.underlying44 hj hj0 hj1 hj2 rfl (by decide) _ _ _ _ _ rfl (Q1.o1.fr (S := fun _ => False) ((Fr.refl _ _).alloc _) (fun _ _ => id)) _ _ _ [.pointer (some ⟨p', 0, none⟩)] rfl (Sl.oneAt (by simp)) (by intro u hu; simp at hu; subst hu; rfl) (by unfold maxLen; omega) (by omega) ?_)) | go_in)
      intro A3 c3 w3 g3 hA3 hf3 hg3
      obtain ⟨Q2, hf2, hbl3⟩ := Q1.more1 (by have := hfAB.size; omega) ((Fr.refl _ _).alloc _) hA3 hf3 (hg3.imp_right fun ⟨b, e, h⟩ => ⟨b, e, by simpa using h⟩)
      (have z0 := hbl3.free 0); (have z1 := hbl3.free 1); (have d0 : w3.cell? ⟨wb, 0, none⟩ = some (.slice (some ⟨b1, o1, none⟩) m c1) := hbl3.cell' rfl); (have d1 : w3.cell? ⟨wb, 1, none⟩ = some (.slice (some ⟨b2, o2, none⟩) m c2) := hbl3.cell' rfl)
      have hI4 := (hI.fr hfAB (fun _ => id)).frA hf2 (Q1.apart1 (by decide) (by decide)) (Q1.apart1 (by decide) (by decide))
      have hb4 := hbB.frA hf2 (Q1.apart1 (by decide) (by decide))
      go_wp2_with fail
      refine (rcopy_made _ (hI4.m pq he').1).mono ?_
      rintro r w5 ⟨rfl, hr5, hf5, hs5⟩
      clear z0 z1 d0 d1 hbl3 hA3 hf3 hg3
      generalize hw4 : w3.setCell ⟨wb, 0, none⟩ (.slice A3 (m + 1) c3) = w4 at Q2 hf2 hI4 hb4 hr5 hf5 hs5 ⊢
      clear hw4
      obtain ⟨q', hq'⟩ : ∃ q', w4.heap.size = q' := ⟨_, rfl⟩
      rw [hq'] at hr5 hs5 ⊢
      have hqn : w.heap.size ≤ q' := by rw [← hq']; have := hfAB.size; have := hf2.size; omega
      clear hq'
      have Q3 := Q2.fr0 hf5
      have e1 : w5.cell? ⟨wb, 1, none⟩ = some (.slice (some ⟨b2, o2, none⟩) m c2) := Q3.bl.cell' rfl
      go_wp2_with (first | (at_builtin; go_loud (refine wpList_append_ow _ rfl _ _ 45 rfl 50 q0 (.pointer none) 1 8 Try.underlying45 hq hq0 hq1 hq2 rfl (by decide) _ _ _ _ _ rfl (Q3.o2.fr (S := fun _ => False) ((Fr.refl _ _).alloc _) (fun _ _ => id)) _ _ _ [.pointer (some ⟨q', 0, none⟩)] rfl (Sl.oneAt (by simp)) (by intro u hu; simp at hu; subst hu; rfl) (by unfold maxLen; omega) (by omega) ?_)) | go_in)
      intro A6 c6 w6 g6 hA6 hf6 hg6
      obtain ⟨Q4, hf4, hbl6⟩ := Q3.more2 (by have := hfAB.size; have := hf2.size; have := hf5.size; omega) ((Fr.refl _ _).alloc _) hA6 hf6 (hg6.imp_right fun ⟨b, e, h⟩ => ⟨b, e, by simpa using h⟩)
      (have z0 := hbl6.free 0); (have z1 := hbl6.free 1); (have d0 : w6.cell? ⟨wb, 0, none⟩ = some (.slice A3 (m + 1) c3) := hbl6.cell' rfl); (have d1 : w6.cell? ⟨wb, 1, none⟩ = some (.slice (some ⟨b2, o2, none⟩) m c2) := hbl6.cell' rfl)
      have hP : WP B0 wb (L ++ [some (p', q')]) A3 c3 g3 A6 c6 g6 (w6.setCell ⟨wb, 1, none⟩ (.slice A6 (m + 1) c6)) := WQ.toP (m := m + 1) (by rw [List.map_append, List.map_append]; exact Q4) (by rw [List.length_append, Hm.out]; rfl)
      have hI6 := ((hI4.fr hf5 (fun _ => id)).frA hf4 (Q3.apart2 (by decide) (by decide)) (Q3.apart2 (by decide) (by decide))).more (pq := (p', q')) (s := σ pq.1) ((hb4.fr hf5 id).frA hf4 (Q3.apart2 (by decide) (by decide))) (hr5.frA hf4 (Q3.apart2 (by decide) (by decide)))
        (hI.b pq he').2 (fun x hx => by have h1 := (hold.out x hx).1; have h2 := (hold.out x hx).2; refine ⟨?_, ?_⟩ <;> (simp only; omega)) (by refine ⟨?_, ?_⟩ <;> (simp only; omega))
      have hF := (((hfAB.weak (fun k => B0 ≤ k)).comp hf2 (fun i _ e => Q1.old1 i e)).comp hf5 (fun i _ e => e.elim)).comp hf4 (fun i _ e => Q3.old2 i e)
      go_wp2_with fail
      go_ret
      exact ⟨rfl, L ++ [some (p', q')], upd σ p' (σ pq.1), A3, c3, g3, A6, c6, g6, hP, hI6, by rw [List.length_append, Hm.out]; simp, by rw [List.length_append, Hm.out]; simp; omega, hF⟩
    · go_enter Try.func18, Try.ntmps18
      (go_wp2_with fail); (go_quiet ((go_at_call 13; exact quiet_left (round_nat _ wh m k (by omega) (by omega) Hk.out)))); (go_wp2_with fail)
      have hfA := ((Fr.refl (fun _ => False) w).alloc (.cells #[.int .i64 5, .int .i64 wh, .int .i64 n, .slice AL nl cl] tOp)).drewN nq
      refine (copy_made _ (Bl.fr (hI.b pq he').1 hfA id) (hI.b pq he').2.p1).mono ?_
      rintro r wB ⟨rfl, hbB, hfB, hsB⟩
      have Q1 := hQ.out.fr0 (hfA.trans hfB)
      have w0' : wB.cell? ⟨wb, 0, none⟩ = some (.slice (some ⟨b1, o1, none⟩) m c1) := Q1.bl.cell' rfl
      go_wp2_with fail
      go_ret
      exact ⟨rfl, DoesOut.same hW hI (by rw [Hm.out]; exact hL1) (by rw [Hm.out]; exact hL2) (hfA.trans hfB)⟩
end
end Go.Proofs.Ytgogagapapdlgaa
