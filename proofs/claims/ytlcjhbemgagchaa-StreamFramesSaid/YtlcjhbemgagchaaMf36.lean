/-
  Texts merged into one, to keep the claim small: Pr9.
-/
import Derived.Test.YtlcjhbemgagchaaMf32
import Derived.Test.YtlcjhbemgagchaaMf8
/-
  proto's reference: rows of fields that grow: with, num.
-/
namespace Go.Proofs.Ytlcjhbemgagchaa
open Go.RowKit
set_option linter.unusedVariables false
set_option linter.unusedSimpArgs false
abbrev tFld : TypeId := 173
structure FV where
  t : Int
  V : Option Addr
  m : Nat
  d : Nat
  v : List Nat
def FV.cells (r : FV) : List Value := [.int .i64 r.t, .slice r.V r.m r.d, .int .i64 0, .int .i64 0, .bool false]
theorem FV.cells_len (r : FV) : r.cells.length = 5 := rfl
theorem live_app (a b : List Fd) : live (a ++ b) = live a ++ live b := List.filter_append ..
/-- A row of fields, its own; the values can be read. -/
structure FLr (W w : World) (l : List Fd) (A : Option Addr) (n c : Nat) (rs : List FV) (g : Option Nat) : Prop where
  eq : rs.map (fun r => ((r.t, r.v) : Fd)) = live l
  ow : Ow w tFld 5 A n c (rs.flatMap FV.cells) g
  new : ∀ b, g = some b → W.heap.size ≤ b
  sl : ∀ r ∈ rs, Sl w 1 r.V r.m (r.v.map bn)
  ne : ∀ r ∈ rs, ∀ b o, r.V = some ⟨b, o, none⟩ → 0 < r.m → g ≠ some b
  fr : Fr (fun _ => False) W w
def FL (W w : World) (l : List Fd) (A : Option Addr) (n c : Nat) : Prop := ∃ rs g, FLr W w l A n c rs g
theorem FL.begin (W w : World) (hf : Fr (fun _ => False) W w) : FL W w [] none 0 0 := ⟨[], none, rfl, Ow.nil_ _ _ _, (fun b h => by cases h), (fun r h => by cases h), (fun r h => by cases h), hf⟩
theorem FLr.quiet {W w w' : World} {l : List Fd} {A : Option Addr} {n c : Nat} {rs : List FV} {g : Option Nat} (h : FLr W w l A n c rs g) (hf : Fr (fun _ => False) w w') : FLr W w' l A n c rs g :=
  ⟨h.eq, h.ow.fr hf (fun _ _ => id), h.new, fun r hr => (h.sl r hr).quiet hf, h.ne, h.fr.trans hf⟩
theorem FL.quiet {W w w' : World} {l : List Fd} {A : Option Addr} {n c : Nat} (h : FL W w l A n c) (hf : Fr (fun _ => False) w w') : FL W w' l A n c := by
  obtain ⟨rs, g, h⟩ := h; exact ⟨rs, g, h.quiet hf⟩
theorem FL.frame {W w : World} {l : List Fd} {A : Option Addr} {n c : Nat} (h : FL W w l A n c) : Fr (fun _ => False) W w := by
  obtain ⟨rs, g, h⟩ := h; exact h.fr
theorem FLr.len {W w : World} {l : List Fd} {A : Option Addr} {n c : Nat} {rs : List FV} {g : Option Nat} (h : FLr W w l A n c rs g) : n = rs.length ∧ rs.length = (live l).length := by
  have h1 := h.ow.1
  rw [rows_len FV.cells 5 FV.cells_len] at h1
  have h2 := congrArg List.length h.eq
  rw [List.length_map] at h2
  exact ⟨by omega, h2⟩
theorem FL.fat {W w : World} {l : List Fd} {A : Option Addr} {n c : Nat} (h : FL W w l A n c) : FAt w 5 A n (live l) := by
  obtain ⟨rs, g, h⟩ := h
  obtain ⟨h1, h2⟩ := h.len
  refine ⟨by omega, fun hn => ?_⟩
  have h0 : 0 < rs.length := by omega
  obtain ⟨b, o, hA, -, -⟩ := h.ow.look (j := 0 * 5 + 0) (u := .int .i64 rs[0].t) (by rw [rows_get FV.cells 5 FV.cells_len _ _ _ h0 (by omega)]; rfl)
  refine ⟨b, o, hA, fun i hi => ?_⟩
  have hi' : i < rs.length := by omega
  have e : (live l)[i] = (rs[i].t, rs[i].v) := by
    have : (rs.map (fun r => ((r.t, r.v) : Fd)))[i]'(by rw [List.length_map]; exact hi') = (live l)[i] := by simp only [h.eq]
    rw [← this, List.getElem_map]
  obtain ⟨b0, o0, hA0, -, c0, -⟩ := h.ow.look (j := i * 5 + 0) (u := .int .i64 rs[i].t) (by rw [rows_get FV.cells 5 FV.cells_len _ _ _ hi' (by omega)]; rfl)
  obtain ⟨b1, o1, hA1, -, c1, -⟩ := h.ow.look (j := i * 5 + 1) (u := .slice rs[i].V rs[i].m rs[i].d) (by rw [rows_get FV.cells 5 FV.cells_len _ _ _ hi' (by omega)]; rfl)
  rw [hA] at hA0 hA1
  cases hA0
  cases hA1
  rw [Nat.add_zero] at c0
  rw [← Nat.add_assoc] at c1
  exact ⟨rs[i].V, rs[i].m, rs[i].d, by rw [e]; exact c0, c1, by rw [e]; exact h.sl _ (List.getElem_mem hi')⟩
set_option maxHeartbeats 2000000 in
set_option maxRecDepth 8000 in
theorem with_any (W w0 w : World) (l : List Fd) (A : Option Addr) (n c : Nat) (hF : FL W w0 l A n c) (hf0 : Fr (fun _ => False) w0 w) (t : Int) (V : Option Addr) (m d : Nat) (v : List Nat) (hV : Sl w 1 V m (v.map bn)) (hnew : ∀ b o, V = some ⟨b, o, none⟩ → 0 < m → w0.heap.size ≤ b) (hl : l.length ≤ 100) :
    Calls Try.prog 76 #[.slice A n c, .int .i64 t, .slice V m d] w fun e w' => ∃ A' n' c', e = .returned (.slice A' n' c') ∧ FL W w' (l ++ [(t, v)]) A' n' c' := by
  obtain ⟨j0, hj, hj0, hj1, hj2⟩ := info_parts info42
  have hm : m = v.length := hV.len
  by_cases h0 : m = 0
  · have hv : v = [] := List.eq_nil_of_length_eq_zero (by omega)
    have HR : Hid (FL W w (l ++ [(t, v)]) A n c) := by
      obtain ⟨rs, g, h⟩ := hF.quiet hf0
      refine ⟨rs, g, ?_, h.ow, h.new, h.sl, h.ne, h.fr⟩
      rw [h.eq, live_app, hv]
      show _ = live l ++ []
      rw [List.append_nil]
    subst h0
    clear hF hf0 hV hnew hm hv
    go_enter Try.func76, Try.ntmps76
    go_wp2_with fail
    go_ret
    exact ⟨A, n, c, rfl, HR.out⟩
  · obtain ⟨rs, g, h0r⟩ := hF
    have hr := h0r.quiet hf0
    have Hr := hide hr
    have hB := hr.ow
    have hn : n ≤ 100 := by
      obtain ⟨a1, a2⟩ := hr.len
      have : (live l).length ≤ l.length := List.length_filter_le ..
      omega
    have Hg : Hid (∀ b o, V = some ⟨b, o, none⟩ → 0 < m → g ≠ some b) := fun b o e hm e2 => by
      have := hnew b o e hm
      have := h0r.ow.lt b e2
      omega
    have HV := hide hV
    have Hv : Hid (v ≠ []) := fun e => h0 (by rw [hm, e]; rfl)
    have hm0 : ¬ (m : Int) = 0 := by omega
    have hb0 : ((m : Int) == 0) = false := beq_eq_false_iff_ne.2 hm0
    have hd0 : decide (m = 0) = false := decide_eq_false h0
    have he0 : (m == 0) = false := beq_eq_false_iff_ne.2 h0
    clear h0r hf0 hV hnew hm hr hl
    go_enter Try.func76, Try.ntmps76
    go_wp2_with (first | (at_builtin; go_loud (refine wpList_append_ow _ rfl _ _ 132 rfl tFld j0 _ 5 56 Try.underlying132 hj hj0 hj1 hj2 rfl (by decide) _ _ _ _ _ rfl (hB.fr (S := fun _ => False) ((Fr.refl _ _).alloc _) (fun _ _ => id)) _ _ _ [.int .i64 t, .slice V m d, .int .i64 0, .int .i64 0, .bool false] rfl (Sl.row _ #[.int .i64 t, .slice V m d, .int .i64 0, .int .i64 0, .bool false] tFld 5 1 rfl) (by intro u hu; simp at hu; rcases hu with rfl | rfl | rfl | rfl <;> rfl) (by unfold maxLen; omega) (by omega) ?_)) | go_in)
    intro A2 c2 w2 g2 hB2 hf2 hg2
    have hf02 : Fr (fun x => some x = g) w w2 := ((Fr.refl _ _).alloc _).comp hf2 (fun _ _ e => e)
    have HR : Hid (FL W w2 (l ++ [(t, v)]) A2 (n + 1) c2) := by
      have s0 := Hr.out.fr.size
      refine ⟨rs ++ [⟨t, V, m, d, v⟩], g2, ?_, ?_, ?_, ?_, ?_, ?_⟩
      · rw [List.map_append, Hr.out.eq, live_app, live_cons t [] Hv.out]; rfl
      · rw [List.flatMap_append]; exact hB2
      · intro b e
        rcases hg2 with e3 | ⟨x, e3, hx⟩
        · exact Hr.out.new b (by rw [← e3]; exact e)
        · rw [e3] at e; cases e; (try simp at hx); omega
      · intro r hrm
        rcases List.mem_append.1 hrm with h | h
        · exact Sl.fr' hf02 (Hr.out.sl r h) (fun b o e hm e2 => Hr.out.ne r h b o e hm e2.symm)
        · have : r = ⟨t, V, m, d, v⟩ := by simpa using h
          subst this
          exact Sl.fr' hf02 HV.out (fun b o e hm e2 => Hg.out b o e hm e2.symm)
      · intro r hrm b o e hm e2
        rcases hg2 with e3 | ⟨x, e3, hx⟩
        · rw [e3] at e2
          rcases List.mem_append.1 hrm with h | h
          · exact Hr.out.ne r h b o e hm e2
          · have : r = ⟨t, V, m, d, v⟩ := by simpa using h
            subst this
            exact Hg.out b o e hm e2
        · rw [e3] at e2
          cases e2
          have hlt : b < w.heap.size := by
            rcases List.mem_append.1 hrm with h | h
            · exact (Hr.out.sl r h).lt b o e hm
            · have : r = ⟨t, V, m, d, v⟩ := by simpa using h
              subst this
              exact HV.out.lt b o e hm
          (try simp at hx)
          omega
      · exact Hr.out.fr.comp hf02 fun x hx e => by have := Hr.out.new x e.symm; omega
    clear hB2 hf2 hg2 hf02 Hr hB Hg HV
    go_wp2_with fail
    go_ret
    exact ⟨A2, n + 1, c2, rfl, HR.out⟩
set_option maxHeartbeats 2000000 in
set_option maxRecDepth 8000 in
theorem num27_any (W w : World) (l : List Fd) (A : Option Addr) (n c : Nat) (hF : FL W w l A n c) (t : Int) (N : Nat) (hN : N < U64) (hl : l.length ≤ 100) :
    Calls Try.prog 75 #[.slice A n c, .int .i64 t, .int .u64 (N : Int)] w fun e w' => ∃ A' n' c', e = .returned (.slice A' n' c') ∧ FL W w' (l ++ [(t, Nv N)]) A' n' c' := by
  by_cases h0 : N = 0
  · have HR : Hid (FL W w (l ++ [(t, Nv N)]) A n c) := by
      obtain ⟨rs, g, h⟩ := hF
      refine ⟨rs, g, ?_, h.ow, h.new, h.sl, h.ne, h.fr⟩
      rw [h.eq, live_app, Nv, if_pos h0]
      show _ = live l ++ []
      rw [List.append_nil]
    subst h0
    clear hF
    go_enter Try.func75, Try.ntmps75
    go_wp2_with fail
    go_ret
    exact ⟨A, n, c, rfl, HR.out⟩
  · have HF := hide hF
    have hv : Nv N = short N := by rw [Nv, if_neg h0]
    have Hv := hide hv
    have hm0 : ¬ (N : Int) = 0 := by omega
    have hb0 : ((N : Int) == 0) = false := beq_eq_false_iff_ne.2 hm0
    have hd0 : decide (N = 0) = false := decide_eq_false h0
    have he0 : (N == 0) = false := beq_eq_false_iff_ne.2 h0
    clear hF hv
    go_enter Try.func75, Try.ntmps75
    go_wp2_with fail
    refine (rshort_any _ N hN).mono ?_
    rintro e w2 ⟨A2, c2, g2, rfl, hO, hg, hf⟩
    have c1 := with_any W w w2 l A n c HF.out hf t A2 _ c2 (short N) hO.sl (fun b o e hm => by subst e; exact hg b hO.blk) hl
    clear hO hg hf
    go_wp2_with fail
    refine c1.mono ?_
    rintro e w3 ⟨A3, n3, c3, rfl, h3⟩
    have H3 := hide h3
    clear c1 h3
    go_wp2_with fail
    go_ret
    exact ⟨A3, n3, c3, rfl, by rw [Hv.out]; exact H3.out⟩
end Go.Proofs.Ytlcjhbemgagchaa
