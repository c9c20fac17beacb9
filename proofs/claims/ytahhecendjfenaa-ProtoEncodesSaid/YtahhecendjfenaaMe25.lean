/-
  Texts merged into one, to keep the claim small: PrE.
-/
import Derived.Test.YtahhecendjfenaaMe24
/-
  proto's law: lentContract. (printed by pr_lent.py)
-/
namespace Go.Proofs.Ytahhecendjfenaa
open Go.RowKit
set_option linter.unusedVariables false
set_option linter.unusedSimpArgs false
def mk2 : List Value := [.int .i64 (-77), .int .i64 0, .int .u64 0, .int .u64 0, .slice none 0 0, .int .i64 (-78), .int .i64 0, .int .u64 0, .int .u64 0, .slice none 0 0]
/-- Entries lent: in memory of their own, each one's wishes too. -/
structure LEr (W w : World) (es : List ER) (L : Option Addr) (N cl : Nat) (rs : List ER) (g : Option Nat) (more : List Value) : Prop where
  le : rs.length ≤ es.length
  like : ∀ i (h : i < rs.length) (h' : i < es.length), (rs[i]).like es[i]
  ow : Ow w tEnt 5 L N cl (rs.flatMap ER.cells ++ more) g
  li : ∀ r ∈ rs, ∃ gi, LI W w r.A r.n r.c r.ws gi
  small : ∀ r ∈ rs, r.n ≤ 17592186043904
  new : ∀ b, g = some b → W.heap.size ≤ b
  fr : Fr (fun _ => False) W w
theorem LEr.begin {W w : World} (es : List ER) (hf : Fr (fun _ => False) W w) : LEr W w es none 0 0 [] none [] :=
  ⟨Nat.zero_le _, (fun i h => absurd h (by simp)), Ow.nil_ _ _ _, (fun r h => by cases h), (fun r h => by cases h), (fun b h => by cases h), hf⟩
theorem LI.ne {W w : World} {A : Option Addr} {n c : Nat} {xs : List Int} {gi : Nat} (h : LI W w A n c xs gi) {L : Option Addr} {N cl s : Nat} {ys : List Value} {g : Option Nat} (hO : Ow w tEnt s L N cl ys g) : ¬ some gi = g := fun e => by
  rw [← e] at hO
  exact Ow.ne hO h.ow (by decide) rfl
theorem LEr.quiet {W w w' : World} {es : List ER} {L : Option Addr} {N cl : Nat} {rs : List ER} {g : Option Nat} {more : List Value} (h : LEr W w es L N cl rs g more) (hf : Fr (fun _ => False) w w') : LEr W w' es L N cl rs g more :=
  ⟨h.le, h.like, h.ow.fr hf (fun _ _ => id), (fun r hr => by obtain ⟨gi, hi⟩ := h.li r hr; exact ⟨gi, hi.fr hf id⟩), h.small, h.new, h.fr.trans hf⟩
/-- One more. -/
theorem LEr.app {W w w2 w3 : World} {es : List ER} {L L3 : Option Addr} {j cl cl3 : Nat} {rs : List ER} {g g3 : Option Nat} (h : LEr W w es L j cl rs g []) (hj : j = rs.length) {r : ER} (hl : j < es.length) (hlike : r.like es[j]) (hf2 : Fr (fun _ => False) w w2) {gi : Nat} (hi : LI w w2 r.A r.n r.c r.ws gi) (hs : r.n ≤ 17592186043904)
    (hO : Ow w3 tEnt 5 L3 (j + 1) cl3 (rs.flatMap ER.cells ++ r.cells) g3) (hf23 : Fr (fun x => some x = g) w2 w3) (hg3 : g3 = g ∨ ∃ b, g3 = some b ∧ w2.heap.size ≤ b) : LEr W w3 es L3 (j + 1) cl3 (rs ++ [r]) g3 [] := by
  have s0 := h.fr.size
  have s2 := hf2.size
  have hO2 := h.ow.fr hf2 (fun _ _ => id)
  refine ⟨by rw [List.length_append]; show rs.length + 1 ≤ _; omega, fun i hi' h' => ?_, ?_, fun q hq => ?_, fun q hq => ?_, fun b e => ?_, ?_⟩
  · by_cases hij : i < rs.length
    · have e : (rs ++ [r])[i] = rs[i] := List.getElem_append_left hij
      rw [e]; exact h.like i hij h'
    · have hi2 : i = j := by have := hi'; rw [List.length_append] at this; have h1 : ([r] : List ER).length = 1 := rfl; omega
      subst hi2
      have e : (rs ++ [r])[i] = r := by rw [List.getElem_append_right (by omega)]; simp
      rw [e]; exact hlike
  · rw [List.flatMap_append, List.append_nil]
    have e : [r].flatMap ER.cells = r.cells := by simp
    rw [e]; exact hO
  · rcases List.mem_append.1 hq with hq | hq
    · obtain ⟨gq, hgq⟩ := h.li q hq
      exact ⟨gq, (hgq.fr hf2 id).fr hf23 ((hgq.fr hf2 id).ne hO2)⟩
    · have : q = r := by simpa using hq
      subst this
      have := hi.fr hf23 (hi.ne hO2)
      exact ⟨gi, this.ow, this.len, Nat.le_trans s0 this.new⟩
  · rcases List.mem_append.1 hq with hq | hq
    · exact h.small q hq
    · have : q = r := by simpa using hq
      subst this; exact hs
  · rcases hg3 with e3 | ⟨x, e3, hx⟩
    · exact h.new b (by rw [← e3]; exact e)
    · rw [e3] at e; cases e; omega
  · exact (h.fr.trans hf2).comp hf23 fun x hx e => by have := h.new x e.symm; omega
/-- Two blocks turn that stand ahead of all of these. -/
theorem LEr.turn {W W0 w w' : World} {es : List ER} {L : Option Addr} {N cl : Nat} {rs : List ER} {g : Option Nat} {more : List Value} {a : Nat} (hE : LEr W0 w es L N cl rs g more) (hf : Fr (fun x => x = a ∨ x = a + 1) w w') (ha : a + 1 < W0.heap.size) (hW : W.heap.size ≤ a) (hF : Fr (fun _ => False) W W0) : LEr W w' es L N cl rs g more :=
  ⟨hE.le, hE.like, hE.ow.fr hf (fun b e hb => by have := hE.new b e; omega), fun q hq => by
    obtain ⟨gq, hgq⟩ := hE.li q hq
    have hn := hgq.new
    have h1 := hgq.fr hf (by omega)
    exact ⟨gq, h1.ow, h1.len, by omega⟩, hE.small, fun b e => by have := hE.new b e; omega, (hF.trans hE.fr).comp hf fun x hx e => by omega⟩
theorem infoEnt : (Try.prog.info? tEnt).map (fun i => (i.zero, i.size, i.bytes)) = some (some (.agg #[.int .i64 0, .int .i64 0, .int .u64 0, .int .u64 0, .slice none 0 0]), 5, 56) := by kernel_rfl
set_option maxHeartbeats 4000000 in
set_option maxRecDepth 8000 in
theorem lentContract_any (w : World) (r : CR) (h : r.at_ w) :
    Calls Try.prog 10 #[.agg #[.int .i64 r.num, .int .i64 r.kind, .int .i64 r.by_, .int .i64 r.dl, .int .i64 r.to_, .int .i64 r.want, .int .u64 (r.pr : Int), .int .u64 (r.rs : Int), .int .u64 (r.st : Int), .int .i64 r.of_, .slice r.A r.n r.c]] w fun e w' => ∃ L cl rs g, e = .returned (.agg #[.int .i64 r.num, .int .i64 r.kind, .int .i64 r.by_, .int .i64 r.dl, .int .i64 r.to_, .int .i64 r.want, .int .u64 (r.pr : Int), .int .u64 (r.rs : Int), .int .u64 (r.st : Int), .int .i64 r.of_, .slice L r.n cl]) ∧ rs.length = r.n ∧ LEr w w' r.es L (r.n + 2) cl rs g mk2 := by
  obtain ⟨j0, hj, hj0, hj1, hj2⟩ := info_parts infoEnt
  have HAt := hide h
  have Hlen : Hid (r.n = r.es.length) := h.len
  have hle := h.le
  clear h
  obtain ⟨num, kind, by_, dl, to_, want, pr, rs, st, of_, A, n, c, es⟩ := r
  simp only at HAt Hlen hle ⊢
  have HB0 : Hid (Bl ((w.alloc (.cells #[.int .i64 num, .int .i64 kind, .int .i64 by_, .int .i64 dl, .int .i64 to_, .int .i64 want, .int .u64 (pr : Int), .int .u64 (rs : Int), .int .u64 (st : Int), .int .i64 of_, .slice A n c] 28)).alloc (.cells #[.int .i64 0, .int .i64 0, .int .i64 0, .int .i64 0, .int .i64 0, .int .i64 0, .int .u64 0, .int .u64 0, .int .u64 0, .int .i64 0, .slice none 0 0] 28)) w.heap.size 28 #[.int .i64 num, .int .i64 kind, .int .i64 by_, .int .i64 dl, .int .i64 to_, .int .i64 want, .int .u64 (pr : Int), .int .u64 (rs : Int), .int .u64 (st : Int), .int .i64 of_, .slice A n c]) := (Bl.new _ _ _).alloc _
  have HB1 : Hid (Bl ((w.alloc (.cells #[.int .i64 num, .int .i64 kind, .int .i64 by_, .int .i64 dl, .int .i64 to_, .int .i64 want, .int .u64 (pr : Int), .int .u64 (rs : Int), .int .u64 (st : Int), .int .i64 of_, .slice A n c] 28)).alloc (.cells #[.int .i64 0, .int .i64 0, .int .i64 0, .int .i64 0, .int .i64 0, .int .i64 0, .int .u64 0, .int .u64 0, .int .u64 0, .int .i64 0, .slice none 0 0] 28)) (w.heap.size + 1) 28 #[.int .i64 0, .int .i64 0, .int .i64 0, .int .i64 0, .int .i64 0, .int .i64 0, .int .u64 0, .int .u64 0, .int .u64 0, .int .i64 0, .slice none 0 0]) := Bl.newAt (by simp)
  have HF0 : Hid (Fr (fun _ => False) w ((w.alloc (.cells #[.int .i64 num, .int .i64 kind, .int .i64 by_, .int .i64 dl, .int .i64 to_, .int .i64 want, .int .u64 (pr : Int), .int .u64 (rs : Int), .int .u64 (st : Int), .int .i64 of_, .slice A n c] 28)).alloc (.cells #[.int .i64 0, .int .i64 0, .int .i64 0, .int .i64 0, .int .i64 0, .int .i64 0, .int .u64 0, .int .u64 0, .int .u64 0, .int .i64 0, .slice none 0 0] 28))) := ((Fr.refl _ _).alloc _).alloc _
  go_enter Try.func10, Try.ntmps10
  go_wp2_with fail
  go_loopw [3, 4] (fun u i wr => ∃ (j : Nat) (L : Option Addr) (cl : Nat), j ≤ n ∧ i = .int .i64 (j : Int) ∧ u = .slice L j cl ∧ Hid (∃ qs g, qs.length = j ∧ LEr ((w.alloc (.cells #[.int .i64 num, .int .i64 kind, .int .i64 by_, .int .i64 dl, .int .i64 to_, .int .i64 want, .int .u64 (pr : Int), .int .u64 (rs : Int), .int .u64 (st : Int), .int .i64 of_, .slice A n c] 28)).alloc (.cells #[.int .i64 0, .int .i64 0, .int .i64 0, .int .i64 0, .int .i64 0, .int .i64 0, .int .u64 0, .int .u64 0, .int .u64 0, .int .i64 0, .slice none 0 0] 28)) wr es L j cl qs g [])) (fun _ i _ => n - (intOf i).toNat)
  case atStart => exact ⟨0, none, 0, Nat.zero_le _, rfl, rfl, [], none, rfl, LEr.begin es (Fr.refl _ _)⟩
  case round =>
    obtain ⟨wo, rfl⟩ : ∃ wo, wo = wr := ⟨_, rfl⟩
    obtain ⟨j, L, cl, hjn, rfl, rfl, HL⟩ := hrel
    obtain ⟨w0, hw0⟩ : ∃ w0, w0 = ((w.alloc (.cells #[.int .i64 num, .int .i64 kind, .int .i64 by_, .int .i64 dl, .int .i64 to_, .int .i64 want, .int .u64 (pr : Int), .int .u64 (rs : Int), .int .u64 (st : Int), .int .i64 of_, .slice A n c] 28)).alloc (.cells #[.int .i64 0, .int .i64 0, .int .i64 0, .int .i64 0, .int .i64 0, .int .i64 0, .int .u64 0, .int .u64 0, .int .u64 0, .int .i64 0, .slice none 0 0] 28)) := ⟨_, rfl⟩
    rw [← hw0] at HB0 HB1 HF0 HL
    have Hw0 := hide hw0
    clear hw0
    obtain ⟨rs', g, hrl, hLE⟩ := HL.out
    have HLE := hide hLE
    have Hrl := hide hrl
    have cx := (HB0.out.fr hLE.fr id).cell' (i := 10) rfl
    have hB := hLE.ow
    clear hLE hrl HL
    by_cases hlt : j < n
    · have hjl : j < es.length := by rw [← (Hlen.out : n = es.length)]; exact hlt
      have hfo := HF0.out.trans HLE.out.fr
      obtain ⟨b, o, hA, hc⟩ := (HAt.out.quiet hfo).row hjl
      simp only at hA
      have HE : Hid ((es[j]).at_ wo) := (HAt.out.quiet hfo).es _ (List.getElem_mem hjl)
      obtain ⟨e, he⟩ : ∃ e, es[j] = e := ⟨_, rfl⟩
      simp only at hc
      rw [he] at hc HE
      have Hjl := hide hjl
      have He : Hid (∀ h : j < es.length, es[j] = e) := fun _ => he
      obtain ⟨acc, item, co, pr2, A2, n2, c2, ws⟩ := e
      have d0 := hc 0 _ rfl
      rw [Nat.add_zero] at d0
      have d1 := hc 1 _ rfl
      have d2 := hc 2 _ rfl
      have d3 := hc 3 _ rfl
      have d4 := hc 4 _ rfl
      subst hA
      have i0 : (0 : Int) ≤ (j : Int) := by omega
      have i1 : (j : Int) < (n : Int) := by omega
      have q1 : IntKind.i64.wrap ((j : Int) + 1) = ((j + 1 : Nat) : Int) := by rw [IntWalk.i64_in _ (by omega)]; omega
      have Hlt := hide hlt
      have HC := hide (lentEntry_any wo ⟨acc, item, co, pr2, A2, n2, c2, ws⟩ HE.out)
      clear hc he hjl hlt hjn hfo
      go_wp2_with fail
      refine HC.out.mono ?_
      rintro e w2 ⟨B, d, gi, rfl, hI, hf2⟩
      have hB2 := hB.fr hf2 (fun _ _ => id)
      clear d0 d1 d2 d3 d4 cx hB HC
      go_wp2_with (first | (at_builtin; go_loud (refine wpList_append_ow _ rfl _ _ 26 rfl tEnt j0 (.agg #[.int .i64 0, .int .i64 0, .int .u64 0, .int .u64 0, .slice none 0 0]) 5 56 Try.underlying26 hj hj0 hj1 hj2 rfl (by decide) _ _ _ _ _ rfl (hB2.fr (S := fun _ => False) ((Fr.refl _ _).alloc _) (fun _ _ => id)) _ _ _ [.int .i64 acc, .int .i64 item, .int .u64 (co : Int), .int .u64 (pr2 : Int), .slice B n2 d] rfl (Sl.row w2 #[.int .i64 acc, .int .i64 item, .int .u64 (co : Int), .int .u64 (pr2 : Int), .slice B n2 d] tEnt 5 1 rfl) (by intro u hu; simp at hu; rcases hu with rfl | rfl | rfl | rfl | rfl <;> rfl) (by unfold maxLen; omega) (by omega) ?_)) | go_in)
      intro L3 cl3 w3 g3 hO3 hf3 hg3
      have hf23 : Fr (fun x => some x = g) w2 w3 := ((Fr.refl _ _).alloc _).comp hf3 (fun _ _ e => e)
      have HL3 : Hid (∃ qs g, qs.length = j + 1 ∧ LEr w0 w3 es L3 (j + 1) cl3 qs g []) := by
        refine ⟨rs' ++ [⟨acc, item, co, pr2, B, n2, d, ws⟩], g3, by rw [List.length_append, Hrl.out]; rfl, ?_⟩
        exact HLE.out.app Hrl.out.symm (r := ⟨acc, item, co, pr2, B, n2, d, ws⟩) Hjl.out (by rw [He.out Hjl.out]; exact ⟨rfl, rfl, rfl, rfl, rfl⟩) hf2 hI HE.out.le hO3 hf23 (hg3.imp id fun ⟨b, e, h⟩ => ⟨b, e, by first | omega | (simp at h; omega)⟩)
      clear hO3 hf3 hg3 hf23 hI hf2 hB2 HLE
      go_wp2_with fail
      have := Hlt.out
      exact ⟨⟨j + 1, L3, cl3, by omega, by first | rfl | go_num, rfl, by rw [← Hw0.out]; exact HL3⟩, by simp [intOf]; try omega⟩
    · obtain rfl : j = n := by omega
      clear hlt hjn
      go_wp2_with (first | (at_builtin; go_loud (refine wpList_append_ow _ rfl _ _ 26 rfl tEnt j0 (.agg #[.int .i64 0, .int .i64 0, .int .u64 0, .int .u64 0, .slice none 0 0]) 5 56 Try.underlying26 hj hj0 hj1 hj2 rfl (by decide) _ _ _ _ _ rfl (hB.fr (S := fun _ => False) ((Fr.refl _ _).alloc _) (fun _ _ => id)) _ _ _ mk2 rfl (Sl.row wo #[.int .i64 (-77), .int .i64 0, .int .u64 0, .int .u64 0, .slice none 0 0, .int .i64 (-78), .int .i64 0, .int .u64 0, .int .u64 0, .slice none 0 0] tEnt 5 2 rfl) (by intro u hu; simp [mk2] at hu; rcases hu with rfl | rfl | rfl | rfl | rfl | rfl | rfl | rfl <;> rfl) (by unfold maxLen; omega) (by omega) ?_)) | go_in)
      intro L4 cl4 w4 g4 hO4 hf4 hg4
      have hf04 : Fr (fun x => some x = g) wo w4 := ((Fr.refl _ _).alloc _).comp hf4 (fun _ _ e => e)
      have hcap := hO4.cap
      have k1 : j + 2 ≤ cl4 := hcap.1
      have k2 : cl4 ≤ 9223372036854775807 := by have := hcap.2; unfold maxLen at this; exact this
      have i1 : (j : Int) ≤ (cl4 : Int) := by omega
      have s1 := HLE.out.fr.size
      have HL4 : Hid (LEr w0 w4 es L4 (j + 2) cl4 rs' g4 mk2) := by
        refine ⟨HLE.out.le, HLE.out.like, ?_, fun q hq => ?_, HLE.out.small, fun b e => ?_, ?_⟩
        · simpa using hO4
        · obtain ⟨gq, hgq⟩ := HLE.out.li q hq
          exact ⟨gq, hgq.fr hf04 (hgq.ne HLE.out.ow)⟩
        · rcases hg4 with e3 | ⟨x, e3, hx⟩
          · exact HLE.out.new b (by rw [← e3]; exact e)
          · rw [e3] at e; cases e; (try simp at hx); omega
        · exact HLE.out.fr.comp hf04 fun x hx e => by have := HLE.out.new x e.symm; omega
      have hb0 := HB0.out.fr HL4.out.fr id
      have hb1 := HB1.out.fr HL4.out.fr id
      have c0 := hb0.cell' (i := 0) rfl
      have c1 := hb0.cell' (i := 1) rfl
      have c2 := hb0.cell' (i := 2) rfl
      have c3 := hb0.cell' (i := 3) rfl
      have c4 := hb0.cell' (i := 4) rfl
      have c5 := hb0.cell' (i := 5) rfl
      have c6 := hb0.cell' (i := 6) rfl
      have c7 := hb0.cell' (i := 7) rfl
      have c8 := hb0.cell' (i := 8) rfl
      have c9 := hb0.cell' (i := 9) rfl
      have c10 := hb0.cell' (i := 10) rfl
      have z10 := hb0.free 10
      have d0 := hb1.cell' (i := 0) rfl
      have y0 := hb1.free 0
      have d1 := hb1.cell' (i := 1) rfl
      have y1 := hb1.free 1
      have d2 := hb1.cell' (i := 2) rfl
      have y2 := hb1.free 2
      have d3 := hb1.cell' (i := 3) rfl
      have y3 := hb1.free 3
      have d4 := hb1.cell' (i := 4) rfl
      have y4 := hb1.free 4
      have d5 := hb1.cell' (i := 5) rfl
      have y5 := hb1.free 5
      have d6 := hb1.cell' (i := 6) rfl
      have y6 := hb1.free 6
      have d7 := hb1.cell' (i := 7) rfl
      have y7 := hb1.free 7
      have d8 := hb1.cell' (i := 8) rfl
      have y8 := hb1.free 8
      have d9 := hb1.cell' (i := 9) rfl
      have y9 := hb1.free 9
      have d10 := hb1.cell' (i := 10) rfl
      have y10 := hb1.free 10
      have Hb1 := hide hb1
      have HFw := HF0
      have Hs : Hid (w.heap.size + 1 < w0.heap.size) := HB1.out.lt
      clear hO4 hf4 hg4 hf04 hcap hB hb0 hb1 cx s1 HLE HB0 HB1 HF0 HAt
      go_wp2_with fail
      have hB3 := (Hb1.out.far (p := ⟨w.heap.size, 10, none⟩) (by simp) (.slice L4 j cl4))
      have hB3 := hB3.set 0 (.int .i64 num)
      simp only [List.setIfInBounds_toArray, List.set_cons_zero, List.set_cons_succ] at hB3
      have hB3 := hB3.set 1 (.int .i64 kind)
      simp only [List.setIfInBounds_toArray, List.set_cons_zero, List.set_cons_succ] at hB3
      have hB3 := hB3.set 2 (.int .i64 by_)
      simp only [List.setIfInBounds_toArray, List.set_cons_zero, List.set_cons_succ] at hB3
      have hB3 := hB3.set 3 (.int .i64 dl)
      simp only [List.setIfInBounds_toArray, List.set_cons_zero, List.set_cons_succ] at hB3
      have hB3 := hB3.set 4 (.int .i64 to_)
      simp only [List.setIfInBounds_toArray, List.set_cons_zero, List.set_cons_succ] at hB3
      have hB3 := hB3.set 5 (.int .i64 want)
      simp only [List.setIfInBounds_toArray, List.set_cons_zero, List.set_cons_succ] at hB3
      have hB3 := hB3.set 6 (.int .u64 (pr : Int))
      simp only [List.setIfInBounds_toArray, List.set_cons_zero, List.set_cons_succ] at hB3
      have hB3 := hB3.set 7 (.int .u64 (rs : Int))
      simp only [List.setIfInBounds_toArray, List.set_cons_zero, List.set_cons_succ] at hB3
      have hB3 := hB3.set 8 (.int .u64 (st : Int))
      simp only [List.setIfInBounds_toArray, List.set_cons_zero, List.set_cons_succ] at hB3
      have hB3 := hB3.set 9 (.int .i64 of_)
      simp only [List.setIfInBounds_toArray, List.set_cons_zero, List.set_cons_succ] at hB3
      have hB3 := hB3.set 10 (.slice L4 j cl4)
      simp only [List.setIfInBounds_toArray, List.set_cons_zero, List.set_cons_succ] at hB3
      try simp only [Exit.inBlock, Exit.then]
      refine bodyPost_ret (results_cell_row rfl _ _ (w.heap.size + 1) 28 #[.int .i64 num, .int .i64 kind, .int .i64 by_, .int .i64 dl, .int .i64 to_, .int .i64 want, .int .u64 (pr : Int), .int .u64 (rs : Int), .int .u64 (st : Int), .int .i64 of_, .slice L4 j cl4] (0, 0) _ rfl hB3 Try.underlying28 rfl (by kernel_rfl)) rfl ?_
      have hfs := Fr.setIn (Fr.refl (fun x => x = w.heap.size ∨ x = w.heap.size + 1) w4) (p := w.heap.size) (i := 10) (.inl (.inl rfl)) (.slice L4 j cl4)
      have hfs := Fr.setIn hfs (p := w.heap.size + 1) (i := 0) (.inl (.inr rfl)) (.int .i64 num)
      have hfs := Fr.setIn hfs (p := w.heap.size + 1) (i := 1) (.inl (.inr rfl)) (.int .i64 kind)
      have hfs := Fr.setIn hfs (p := w.heap.size + 1) (i := 2) (.inl (.inr rfl)) (.int .i64 by_)
      have hfs := Fr.setIn hfs (p := w.heap.size + 1) (i := 3) (.inl (.inr rfl)) (.int .i64 dl)
      have hfs := Fr.setIn hfs (p := w.heap.size + 1) (i := 4) (.inl (.inr rfl)) (.int .i64 to_)
      have hfs := Fr.setIn hfs (p := w.heap.size + 1) (i := 5) (.inl (.inr rfl)) (.int .i64 want)
      have hfs := Fr.setIn hfs (p := w.heap.size + 1) (i := 6) (.inl (.inr rfl)) (.int .u64 (pr : Int))
      have hfs := Fr.setIn hfs (p := w.heap.size + 1) (i := 7) (.inl (.inr rfl)) (.int .u64 (rs : Int))
      have hfs := Fr.setIn hfs (p := w.heap.size + 1) (i := 8) (.inl (.inr rfl)) (.int .u64 (st : Int))
      have hfs := Fr.setIn hfs (p := w.heap.size + 1) (i := 9) (.inl (.inr rfl)) (.int .i64 of_)
      have hfs := Fr.setIn hfs (p := w.heap.size + 1) (i := 10) (.inl (.inr rfl)) (.slice L4 j cl4)
      exact ⟨L4, cl4, rs', g4, rfl, Hrl.out, HL4.out.turn hfs Hs.out (Nat.le_refl _) HFw.out⟩
end Go.Proofs.Ytahhecendjfenaa
