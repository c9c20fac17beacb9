/-
  bazaar/drr.Drr[int]: Drop.
-/
import Derived.Test.YtanfhmebjgmdpaaDr1i
import Derived.Test.YtanfhmebjgmdpaaRq7i
namespace Go.Proofs.Ytanfhmebjgmdpaa.Qi
open Go.RowKit Go.Shelf
set_option linter.unusedVariables false
attribute [local go_sem ↓] storeJ_
attribute [local go_sem] Oper.semAt_some

theorem wpListIn_append_ow {F : Fence} {n₀ : Nat} {P : Program} {w : World} {ops : Array Oper} {rest : List Oper} {o : Oper} {a : Act} {Q : Exit → Act → World → Prop} (hgd : o.guard = none) (s x : Operand) (t : TypeId)
    (ho : o.op = .call { callee := .builtin .append, args := #[s, x], argTypes := #[t, t] })
    (e : TypeId) (i : TypeInfo) (z : Value) (size bytes : Nat) (ht : P.underlying t = some (.slice e)) (hi : P.info? e = some i) (hz : i.zero = some z)
    (hsize : i.size = size) (hby : i.bytes = bytes) (hzs : z.cells.size = size) (hsz : 0 < size)
    (A : Option Addr) (n c : Nat) (xs : List Value) (g : Option Nat) (hs : a.eval s = .slice A n c) (hown : Ow w e size A n c xs g)
    (A' : Option Addr) (m c' : Nat) (news : List Value) (hx : a.eval x = .slice A' m c') (hsrc : Sl w size A' m news) (h1 : ∀ u ∈ news, u.oneCell' = true)
    (h63 : n + m ≤ maxLen) (hbytes : (n + m) * bytes ≤ 140737488355328)
    (h : ∀ A2 c2 w2 g2, Ow w2 e size A2 (n + m) c2 (xs ++ news) g2 → Fr (fun k => some k = g) w w2 → (g2 = g ∨ ∃ b, g2 = some b ∧ w.heap.size ≤ b) → wpListIn F n₀ P ops Q rest (a.put o.dst (.slice A2 (n + m) c2)) w2) : wpListIn F n₀ P ops Q (o :: rest) a w := by
  refine wpListIn_plain hgd fun K hK => ?_
  obtain ⟨A2, c2, w2, g2, hrun, h2, h3, h4⟩ := run_append_ow (P := P) w t o.type e i z size bytes ht hi hz hsize hby hzs hsz A n c xs g hown A' m c' news hsrc h1 h63 hbytes
  unfold Oper.wpIn
  refine ⟨?_, ?_⟩
  · simp [Oper.about, ho, resolve, Target.leads, Sem.run_pure]
  · rw [Oper.semAt_plain F _ _ (by rw [ho]; intro c hc'; cases hc')]
    simp [execOp, ho, resolve, invoke, builtin, hs, hx, hrun, Result.andThen]
    exact hK _ _ (h A2 c2 w2 g2 h2 h3 h4)

theorem sl_one (w : World) (v : Value) (e : TypeId) : Sl (w.alloc (.cells #[v] e)) 1 (some ⟨w.heap.size, 0, none⟩) 1 [v] := by
  refine ⟨rfl, fun _ => ⟨w.heap.size, 0, rfl, fun j u hu => ?_⟩⟩
  have hb := Bl.new w e #[v]
  rcases j with _ | j
  · simp at hu; subst hu; exact hb.cell' rfl
  · simp at hu
/-- The things of a list, as cells. -/
def tcells (xs : List X) : List Value := xs.map fun x => .int .i64 x.1
/-- What Drop's loop holds. -/
structure DJ (w0 : World) (bo bx p room : Nat) (g : Option Nat) (xs : List X) (r : AS) (W : World) : Prop where
  ah : AH bx p room r W
  st : r.g = g ∧ r.xs = xs ∧ r.k ≤ xs.length
  out : ∃ A c g', Bl W bo 30 #[.slice A r.k c] ∧ Ow W 3 1 A r.k c (tcells (xs.take r.k)) g' ∧ ∀ b, g' = some b → w0.heap.size ≤ b
  fr : Fr (fun x => w0.heap.size ≤ x) w0 W
section
variable {w0 : World} {bo bx p room : Nat} {g : Option Nat} {xs : List X} {r : AS} {W W' : World}
theorem DJ.turn (h : DJ w0 bo bx p room g xs r W) {r' : AS} (ht : TnA r W r' W') (B : Nat) : DJ w0 bo bx p room g xs r' W' ∧ KeepsFrom B W W' := by
  obtain ⟨rfl, j, rfl⟩ := ht
  have hF : Fr (fun _ => False) W (W.drewN j) := (Fr.refl _ _).drewN j
  obtain ⟨A, c, g', h1, h2, h3⟩ := h.out
  exact ⟨⟨⟨h.ah.ring.fr hF (fun _ _ => id), h.ah.box.fr hF id⟩, h.st, ⟨A, c, g', h1.fr hF id, h2.fr hF (fun _ _ => id), h3⟩, h.fr.trans (hF.weak _)⟩, hF.keepsFrom fun k hk => hk.elim⟩
theorem row_ne' {W W' : World} {row : Option Nat} {b : Nat} {t : TypeId} {cs : Array Value} (hb : Bl W b t cs) (hr : ∀ r, row = some r → ∃ o : Obj, W.heap[r]? = some o ∧ o.isCells = false) : ¬ some b = row := fun e => by
  obtain ⟨o, ho, hc⟩ := hr b e.symm
  unfold Bl at hb
  rw [hb] at ho; cases ho; cases hc
theorem DJ.own {B : Nat} (hB : w0.heap.size ≤ B) : OwnFrom B (DJ w0 bo bx p room g xs) := by
  rintro r W W' row h hg hr
  have hr' : ∀ r, row = some r → ∃ o : Obj, W.heap[r]? = some o ∧ o.isCells = false := fun r e => (hr r e).2
  have hF := Fr.ofGrown hg
  obtain ⟨A, c, g', h1, h2, h3⟩ := h.out
  refine ⟨⟨h.ah.ring.fr hF fun b hb => ?_, h.ah.box.fr hF (row_ne' (W' := W') h.ah.box hr')⟩, h.st, ⟨A, c, g', h1.fr hF (row_ne' (W' := W') h1 hr'), h2.fr hF fun b hb => ?_, h3⟩, h.fr.trans (hF.mono fun k _ e => by have := (hr k e.symm).1; omega)⟩
  · rcases hb with rfl | hb
    · obtain ⟨cs, hc⟩ := h.ah.ring.ty.1
      exact row_ne' (W' := W') hc hr'
    · obtain ⟨cs, hc⟩ := h.ah.ring.ty.2 b hb.symm
      exact row_ne' (W' := W') hc hr'
  · rw [hb] at h2
    obtain ⟨cs, hc⟩ := h2.tyOf
    exact row_ne' (W' := W') hc hr'
end
def DropPost (w : World) (d L : Nat) (D : Int) (s : DS X) (i : Nat) (l : LN X) (e : Ending) (w' : World) : Prop :=
  ∃ A c g', e = .returned (.tuple #[.slice A l.things.length c, .int .i64 0]) ∧ Ow w' 3 1 A l.things.length c (tcells l.things) g' ∧ (∀ b, g' = some b → w.heap.size ≤ b) ∧ DrrAt w' d L D (s.put i { l with things := [], df := 0 }) ∧ Fr (drfoot d L s) w w'
theorem infoInt_ : (Try.prog.info? 3).map (fun i => (i.zero, i.size, i.bytes)) = some (some (.int .i64 0), 1, 8) := by kernel_rfl
theorem take_succ_of {α : Type} {xs : List α} {k : Nat} {x : α} (h : xs[k]? = some x) : xs.take (k + 1) = xs.take k ++ [x] := by
  rw [List.take_add_one, h]; rfl
section
variable {d L : Nat} {D : Int} {s : DS X}
set_option maxHeartbeats 4000000 in
set_option maxRecDepth 100000 in
theorem Drop_ok (w : World) (h : DrrAt w d L D s) (hb : s.busy = false) (i : Nat) (l : LN X) (hl : s.lines[i]? = some l) :
    Calls Try.prog 17 #[.pointer (some ⟨d, 0, none⟩), .int .i64 (i : Int)] w (DropPost w d L D s i l) := by
  obtain ⟨i0, hi, hz0, hz1, hz2⟩ := info_parts infoInt_
  have hi' : i < s.lines.length := (List.getElem?_eq_some_iff.1 hl).1
  have hm := List.mem_of_getElem? hl
  have hop := open_ok w h i hi' hb
  obtain ⟨w1, hw1⟩ : ∃ w1, w.alloc (.cells #[.slice none 0 0] 30) = w1 := ⟨_, rfl⟩
  have hF1 : Fr (fun _ => False) w w1 := by rw [← hw1]; exact (Fr.refl _ _).alloc _
  have hO1 : Bl w1 w.heap.size 30 #[.slice none 0 0] := by rw [← hw1]; exact Bl.new _ _ _
  obtain ⟨w2, hw2⟩ : ∃ w2, w1.alloc (.cells #[.pointer (some ⟨l.p, 0, none⟩)] tPR) = w2 := ⟨_, rfl⟩
  have hF2 : Fr (fun _ => False) w1 w2 := by rw [← hw2]; exact (Fr.refl _ _).alloc _
  have hX2 : Bl w2 w1.heap.size tPR #[.pointer (some ⟨l.p, 0, none⟩)] := by rw [← hw2]; exact Bl.new _ _ _
  have hO2 := hO1.fr hF2 id
  have h2 := h.quiet (hF1.trans hF2)
  have hsz1 : w1.heap.size = w.heap.size + 1 := by rw [← hw1]; simp
  have hsz2 : w2.heap.size = w.heap.size + 2 := by rw [← hw2]; simp [hsz1]
  have c0 := ((h.quiet hF1).cellp hl).1
  have hI2 := h2.ring l hm
  have hbd := hI2.bounds
  have hJ0 : DJ w w.heap.size w1.heap.size l.p s.room l.g l.things ⟨0, l.g, l.things⟩ w2 := ⟨⟨hI2, hX2⟩, ⟨rfl, rfl, Nat.zero_le _⟩, ⟨none, 0, none, hO2, Ow.nil_ _ _ _, fun b e => by cases e⟩, (hF1.trans hF2).weak _⟩
  have HJ0 := hide hJ0
  have H := hide h
  obtain ⟨n, hn⟩ : ∃ n, l.things.length = n := ⟨_, rfl⟩
  have hn6 : n ≤ 65536 := by omega
  have Hn := hide hn
  have Hb := hide hb
  have Hl := hide hl
  obtain ⟨bo, hbo⟩ : ∃ bo, w.heap.size = bo := ⟨_, rfl⟩
  rw [hbo] at hsz1 hsz2
  rw [hsz1, hbo] at HJ0
  clear h h2 hO1 hX2 hO2 hI2 hbd hJ0 hn hb hm hi' hl hF1 hF2
  refine (callsIn_wide (n := 5)).1 ?_
  refine callsIn_of_wp_marks Try.func17 rfl trivial ?_ rfl
  simp only [Try.ntmps17, List.size_toArray, List.length_cons, List.length_nil, Nat.reduceAdd, Nat.reduceSub, Array.replicate_succ, Array.replicate_zero, List.push_toArray, List.append_toArray, List.nil_append, List.cons_append]
  refine wpIn_wide.2 ?_
  go_wp2_with fail
  refine hop.mono ?_
  rintro e w' ⟨rfl, rfl⟩
  go_wp2_with fail
  (try rw [hw1])
  refine (all_any w1 _ ⟨_, rfl⟩).mono ?_
  rintro e w' ⟨rfl, rfl⟩
  (try rw [hw2])
  go_wp2_with fail
  refine (wpIn_wide (n := 5)).1 ?_
  refine wpIn_rangeFunc_K (fun a (x : Nat × X) a' W => ∃ B, a' = { tmps := ((a.tmps.setIfInBounds 25 (.int .i64 (x.1 : Int))).setIfInBounds 26 (.agg (enc x.2).toArray)).setIfInBounds 10 (.pointer (some ⟨B, 0, none⟩)), defers := [] } ∧ Bl W B tJob (enc x.2).toArray)
    rfl (by omega) (gf := 65) (lb := #[.pointer (some ⟨bo + 1, 0, none⟩)]) rfl trivial (enters_of Try.func65 (by kernel_rfl) rfl)
    (all1_seq 4 (by omega) (bo + 1) l.p s.room l.g l.things) (fun x => rfl) (fun _ _ => trivial) (fun _ _ _ _ _ _ => trivial)
    (DJ w bo (bo + 1) l.p s.room l.g l.things) (fun _ _ _ => False) (fun _ _ h => h.ah) (fun _ _ _ h => h.elim) (fun s W s' W' hj ht => hj.turn ht _) (fun _ _ _ _ _ h => h.elim) (DJ.own (by omega)) (fun _ _ _ _ _ h => h.elim) HJ0.out
    (fun x a' _ W W' row ⟨B, e, hb⟩ hg hr => ⟨B, e, hb.fr (Fr.ofGrown hg) (row_ne' (W' := W') hb (fun r e => (hr r e).2))⟩) ?assign ?body ?done (fun _ _ _ _ _ _ h => h.elim)
  case assign =>
    intro l' r x W K hJ hR hK
    simp only [encA, enc]
    gi_wp2
    obtain ⟨B, hB⟩ : ∃ B, W.heap.size = B := ⟨_, rfl⟩
    (try simp only [hB])
    refine hK _ _ ((KeepsOthers.alloc W _).from _) trivial ?_ ⟨B, rfl, by rw [← hB]; exact Bl.new _ _ _⟩
    exact (DJ.own (B := w2.heap.size) (by omega)).alloc _ hJ
  case body =>
    rintro l' r ⟨kk, y⟩ a' W' hl' - hJ ⟨B, rfl, hB⟩ ⟨hR1, hR2⟩
    obtain ⟨hah, ⟨hg, hxs, hk⟩, ⟨A, c, g', hO, hA, hgn⟩, hfr⟩ := hJ
    obtain ⟨k, rg, rx⟩ := r
    simp only at hg hxs hk hO hA hR1 hR2
    subst hg hxs
    have hkl : k < l.things.length := (List.getElem?_eq_some_iff.1 hR2).1
    have c0 := hO.cell' (i := 0) rfl
    have z0 := hO.free 0
    have d0 : W'.cell? ⟨B, 0, none⟩ = some (.int .i64 y.1) := hB.cell' (i := 0) rfl
    have hn5 := Hn.out
    have hkb : k ≤ 65535 := by omega
    have hA' := hA
    have hHa := hide (And.intro hah (And.intro hO (And.intro hfr hkl)))
    have Hgn := hide hgn
    have HR2 := hide hR2
    have hsw := hfr.size
    clear hah hfr hO hgn hR2 hR1 hk hB hn5 hkl
    simp only [enc, List.setIfInBounds_toArray, List.set_cons_succ, List.set_cons_zero]
    gi_wp2_with (gi_at_builtin; refine wpListIn_append_ow rfl _ _ 30 rfl 3 i0 (.int .i64 0) 1 8 Try.underlying30 hi hz0 hz1 hz2 rfl (by decide) _ _ _ _ _ rfl (hA'.fr (S := fun _ => False) ((Fr.refl _ _).alloc _) (fun _ _ => id)) _ _ _ [.int .i64 y.1] rfl (sl_one _ _ _) (by intro u hu; simp at hu; subst hu; rfl) (by unfold maxLen; omega) (by omega) ?_; intro A2 c2 w4 g2 hO2 hf2 hg2; obtain ⟨hah, hO, hfr, hkl⟩ := hHa.out; have hfa : Fr (fun x => some x = g') W' w4 := Fr.comp ((Fr.refl (fun x => some x = g') W').alloc _) hf2 (fun _ _ e => e); have hgO : ¬ some bo = g' := (fun e => by rw [← e] at hA; obtain ⟨cs, hc⟩ := hA.tyOf; exact hO.apart hc (by decide) rfl); have hO4 := hO.fr hfa hgO; have c1 := hO4.cell' (i := 0) rfl; have z1 := hO4.free 0)
    have HX := hide (And.intro hO4 (And.intro hO2 (And.intro hf2 (And.intro hg2 (And.intro hfa (And.intro hah (And.intro hO hfr)))))))
    have hF2 : Fr (fun x => x = bo) w4 (w4.setCell ⟨bo, 0, none⟩ (.slice A2 (k + 1) c2)) := (Fr.refl _ _).setAt _
    have hrt : ∀ b, qfoot l.p l.g b → ¬ some b = g' ∧ ¬ b = bo := fun b hb => by
      constructor
      · intro e
        rw [← e] at hA
        obtain ⟨cs, hc⟩ := hA.tyOf
        rcases hb with rfl | hb
        · obtain ⟨cs', hc'⟩ := hah.ring.ty.1
          exact hc.apart hc' (by decide) rfl
        · obtain ⟨cs', hc'⟩ := hah.ring.ty.2 b hb.symm
          exact hc.apart hc' (by decide) rfl
      · intro e
        subst e
        rcases hb with rfl | hb
        · obtain ⟨cs', hc'⟩ := hah.ring.ty.1
          exact hO.apart hc' (by decide) rfl
        · obtain ⟨cs', hc'⟩ := hah.ring.ty.2 b hb.symm
          exact hO.apart hc' (by decide) rfl
    have hbxt : ¬ some (bo + 1) = g' ∧ ¬ bo + 1 = bo := ⟨fun e => by
      rw [← e] at hA
      obtain ⟨cs, hc⟩ := hA.tyOf
      exact hc.apart hah.box (by decide) rfl, by omega⟩
    have hg2o : ¬ g2 = some bo := fun e => by
      rw [e] at hO2
      obtain ⟨cs, hc⟩ := hO2.tyOf
      exact hc.apart hO4 (by decide) rfl
    have hkp : KeepsFrom w2.heap.size W' (w4.setCell ⟨bo, 0, none⟩ (.slice A2 (k + 1) c2)) := (hfa.keepsFrom fun b hb => by
      rw [← hb] at hA
      obtain ⟨cs, hc⟩ := hA.tyOf
      exact .inr ⟨cs, _, (0, 0), hc⟩).trans (hF2.keepsFrom fun b hb => .inl (by omega))
    refine ⟨hkp, trivial, ⟨k + 1, l.g, l.things⟩, rfl, ⟨(hah.ring.fr hfa fun b hb => (hrt b hb).1).fr hF2 fun b hb => (hrt b hb).2, (hah.box.fr hfa hbxt.1).fr hF2 hbxt.2⟩, ⟨rfl, rfl, hkl⟩, ⟨A2, c2, g2, hO4.set 0 _, ?_, fun b hb => ?_⟩, (hfr.trans (hfa.mono fun b _ e => Hgn.out b e.symm)).trans (hF2.mono fun b _ e => by omega)⟩
    · have h9 := hO2.fr hF2 (fun b e e' => hg2o (by rw [e, e']))
      have ht : tcells (List.take (k + 1) l.things) = tcells (List.take k l.things) ++ [.int .i64 y.1] := by
        rw [take_succ_of HR2.out]; simp [tcells]
      show Ow _ _ 1 A2 (k + 1) c2 (tcells (List.take (k + 1) l.things)) g2
      rw [ht]; exact h9
    · rcases hg2 with rfl | ⟨b', rfl, h9⟩
      · exact Hgn.out b hb
      · cases hb
        simp at h9; omega
  case done =>
    rintro E r W' hE hdone hJ hHW
    obtain ⟨hah, ⟨hg, hxs, hk⟩, ⟨A, c, g', hO, hA, hgn⟩, hfr⟩ := hJ
    obtain ⟨k, rg, rx⟩ := r
    simp only at hg hxs hk hO hA hdone
    subst hg hxs
    have hkn : k = n := by rw [← Hn.out]; omega
    subst hkn
    rw [← Hn.out, List.take_length] at hA
    have hat : DrrAt W' d L D s := H.out.fr hfr fun x hx e => by have := H.out.lt hx; omega
    obtain ⟨e0, -, -⟩ := hat.cellp Hl.out
    have z1 := hat.ls.free (i * 3 + 1)
    have z2 := hat.ls.free (i * 3 + 2)
    have hm := List.mem_of_getElem? Hl.out
    have hR := hat.ring l hm
    have hlr : ∀ b, qfoot l.p l.g b → ¬ b = L := fun b hb e => hat.Lring TT_ok hm (e ▸ hb)
    have HX := hide (And.intro hat (And.intro hR (And.intro hA (And.intro hO (And.intro hfr (And.intro hHW hlr))))))
    have kc : ∀ w', Fr (qfoot l.p l.g) W' w' → w'.cell? ⟨L, i * 3, none⟩ = some (.pointer (some ⟨l.p, 0, none⟩)) := fun w' hf => (hf.cell (World.block_lt_of_cell? W' _ e0) (hat.Lring TT_ok hm)).trans e0
    have hF0 : Fr (qfoot l.p l.g) W' W' := Fr.refl _ _
    clear hat hR hA hO hfr hHW hlr z1 z2 hah hm
    have hdr : ∀ w', RI w' l.p l.g s.room l.things → Calls Try.prog 39 #[.pointer (some ⟨l.p, 0, none⟩), .int .i64 (l.things.length : Int)] w' fun e w'' => e = .returned (.int .i64 (l.things.length : Int)) ∧ RKeep w' l.p l.g s.room [] w'' := fun w' h => (dropR_any w' (l.things.length : Int) h).mono fun e w'' ⟨he, hk⟩ => by
      have h1 : (if (l.things.length : Int) < 1 then 0 else min (l.things.length : Int).toNat l.things.length) = l.things.length := by split <;> omega
      rw [h1] at he hk
      rw [List.drop_length] at hk
      exact ⟨he, hk⟩
    have Hdr := hide hdr
    clear hdr
    go_wp2_with fail
    go_region_held3 (fun w' => Fr (qfoot l.p l.g) W' w') (first | assumption | exact Fr.drew (by assumption))
      (first
        | (go_at_call 40; refine (lenR_any _ (HX.out.2.1.fr (S := fun _ => False) (by first | exact Fr.refl _ _ | exact (Fr.refl _ _).drew) (fun _ _ => id))).mono ?_; rintro e w4 ⟨rfl, rfl⟩)
        | (go_at_call 39; refine (Hdr.out _ (HX.out.2.1.fr (S := fun _ => False) (by first | exact Fr.refl _ _ | exact (Fr.refl _ _).drew) (fun _ _ => id))).mono ?_; rintro e w5 ⟨rfl, hk5⟩; have hf5 : Fr (qfoot l.p l.g) W' w5 := Fr.trans ((Fr.refl _ _).drew) hk5.2))
    obtain ⟨hat, hR, hA, hO, hfr, hHW, hlr⟩ := HX.out
    have hL5 := hat.ls.fr hf5 (fun e => hlr L e rfl)
    have hbo5 : ∀ {x t cs}, Bl W' x t cs → t ≠ tRing → t ≠ tJob → ¬ qfoot l.p l.g x := fun {x t cs} hb h1 h2 hx => by
      rcases hx with rfl | hx
      · obtain ⟨cs', hc'⟩ := hR.ty.1
        exact h1 (hb.same hc').2
      · obtain ⟨cs', hc'⟩ := hR.ty.2 x hx.symm
        exact h2 (hb.same hc').2
    have hO5 := hO.fr hf5 (hbo5 hO (by decide) (by decide))
    have hA5 := hA.fr hf5 (fun b e => by
      rw [e] at hA
      obtain ⟨cs, hc⟩ := hA.tyOf
      exact hbo5 hc (by decide) (by decide))
    have u1 : w5.cell? ⟨L, i * 3 + 1, none⟩ = some (.int .i64 l.df) := (hf5.cell (World.block_lt_of_cell? W' _ (hat.cellp Hl.out).2.1) (fun e => hlr L e rfl)).trans (hat.cellp Hl.out).2.1
    have u2 : w5.cell? ⟨L, i * 3 + 2, none⟩ = some (.int .i64 (csum xc l.things)) := (hf5.cell (World.block_lt_of_cell? W' _ (hat.cellp Hl.out).2.2) (fun e => hlr L e rfl)).trans (hat.cellp Hl.out).2.2
    have v1 := hL5.free (i * 3 + 1)
    have v2 := hL5.free (i * 3 + 2)
    have o0 : w5.cell? ⟨bo, 0, none⟩ = some (.slice A l.things.length c) := by rw [Hn.out]; exact hO5.cell' rfl
    have hLbo : bo ≠ L := hO.apart hat.ls (by decide)
    have HY := hide (And.intro hL5 (And.intro hO5 (And.intro hA5 (And.intro hk5 hf5))))
    clear hL5 hO5 hA5 hk5 hf5 hat hR hA hO hfr hHW hlr hbo5
    go_wp2_with fail
    obtain ⟨hL5, hO5, hA5, hk5, hf5⟩ := HY.out
    obtain ⟨hat, hR, hA, hO, hfr, hHW, hlr⟩ := HX.out
    obtain ⟨W6, hW6⟩ : ∃ W6, (w5.setCell ⟨L, i * 3 + 1, none⟩ (.int .i64 0)).setCell ⟨L, i * 3 + 2, none⟩ (.int .i64 0) = W6 := ⟨_, rfl⟩
    have hF56 : Fr (fun x => x = L) w5 W6 := by rw [← hW6]; exact ((Fr.refl _ _).setAt _).setAt _
    have hF6 : Fr (fun x => qfoot l.p l.g x ∨ x = L) W' W6 := (hf5.mono fun x _ e => .inl e).trans (hF56.mono fun x _ e => .inr e)
    have hEt : ∀ {x t cs}, Bl W' x t cs → ¬ x = E := fun {x t cs} hb e => by
      subst e; unfold Bl at hb; rw [hHW] at hb; cases hb
    have hm := List.mem_of_getElem? Hl.out
    have hE6 : W6.heap[E]? = some (.deferred (some [])) := (hF6.block E (Array.getElem?_eq_some_iff.1 hHW).1 (fun e => by
      rcases e with e | e
      · obtain ⟨t, cs, hb, -⟩ := hat.ring_ty hm e
        exact hEt hb rfl
      · exact hEt hat.ls e.symm)).trans hHW
    have hF7 : Fr (fun x => x = E) W6 (W6.putObj E (.deferred none)) := (Fr.ofGrown (grownBy_putObj' _ E _)).mono fun x _ e => by cases e; rfl
    have hls : Bl W6 L tLine (cellsOf (lcells xc) (s.lines.set i { l with things := [], df := 0 })).toArray := by
      have hi : i < s.lines.length := (List.getElem?_eq_some_iff.1 Hl.out).1
      have h1 := (hL5.set (i * 3 + 1) (.int .i64 0)).set (i * 3 + 2) (.int .i64 0)
      rw [hW6] at h1
      have g1 := List.getElem?_set_self (l := s.lines) (i := i) (a := ({ l with df := 0 } : LN X)) hi
      have e2 := lset2 (cost := xc) (s.lines.set i { l with df := 0 }) i { l with df := 0 } { l with things := [], df := 0 } g1 rfl rfl
      rw [List.set_set] at e2
      rw [lset1 s.lines i l Hl.out 0] at h1
      rw [← e2]; exact h1
    have hf50 : Fr (fun x => x = L) w5 W6 := hF56
    have hdd := hat.ok.d1
    have hI6 : RI W6 l.p l.g s.room [] := hk5.1.fr hF56 fun b hb e => hlr b hb e
    have hat6 : DrrAt W6 d L D (s.put i { l with things := [], df := 0 }) := hat.turn TT_ok Hl.out { l with things := [], df := 0 } hF6 rfl (fun x hx => .inl hx) hI6 hls (fun x hx => by cases hx) ⟨by show (0 : Int) ≤ 0; omega, hdd⟩
    have hg0 : ∀ b, g' = some b → b < W'.heap.size := hA.lt
    rw [hW6]
    refine ⟨by simp, .inl ⟨_, _, rfl, run_takeDeferred hE6, ?_⟩⟩
    refine ⟨_, results_tmp2 rfl _ _ _, A, c, g', rfl, ?_, hgn, hat6.fr hF7 (fun x hx e => ?_), (((hfr.mono fun k hk e => by omega : Fr (drfoot d L s) w W')).comp hF6 fun x _ e => ?_).comp hF7 fun x hx e => ?_⟩
    · have h8 := (hA5.fr hF56 fun b e e' => ?_).fr hF7 fun b e e' => ?_
      · exact h8
      · subst e'
        rw [e] at hA
        obtain ⟨cs, hc⟩ := hA.tyOf
        exact hc.apart hat.ls (by decide) rfl
      · subst e'
        rw [e] at hA
        obtain ⟨cs, hc⟩ := hA.tyOf
        exact hEt hc rfl
    · obtain ⟨t, cs, hb, -⟩ := hat6.ty hx
      subst e
      unfold Bl at hb; rw [hE6] at hb; cases hb
    · rcases e with e | rfl
      · exact .inr (.inr ⟨l, hm, e⟩)
      · exact .inr (.inl rfl)
    · omega
end
end Go.Proofs.Ytanfhmebjgmdpaa.Qi
