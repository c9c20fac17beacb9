/-
  DrrTime: a book in memory: added.
-/
import Derived.Test.YtanfhmebjgmdpaaDt4
import Derived.Deep.RegionLaw
namespace Go.Proofs.Ytanfhmebjgmdpaa.Qj
open Go.RowKit
set_option linter.unusedVariables false
set_option linter.unusedSimpArgs false
/-- A row that was appended to. -/
def BL.row (p : BL) (q : Nat) (r : BRow) : BL := { p with rows := p.rows.set q r }
theorem zipWith_set {α β γ : Type} (f : α → β → γ) : ∀ (l : List α) (m : List β) (i : Nat) (a : α) (b : β), List.zipWith f (l.set i a) (m.set i b) = (List.zipWith f l m).set i (f a b)
  | [], m, i, a, b => by cases m <;> simp
  | x :: l, [], i, a, b => by cases i <;> simp
  | x :: l, y :: m, 0, a, b => by simp
  | x :: l, y :: m, i + 1, a, b => by simp [zipWith_set f l m i a b]
/-- A thing is booked as added. -/
theorem BkAt.added {W W1 : World} {p : BL} {b : BK} (h : BkAt W p b) {q ad : Nat} {un : List Int} {r : BRow} (ha : b.added[q]? = some ad) (hu : b.until_[q]? = some un) (hr : p.rows[q]? = some r) (v : Int) {xa oa xu ou : Nat} (hA : p.A = some ⟨xa, oa, none⟩) (hgA : p.gA = some xa) (hU : p.U = some ⟨xu, ou, none⟩) (hgU : p.gU = some xu)
    (hF1 : Fr (fun y => some y = r.g) (W.setCell ⟨xa, oa + q, none⟩ (.int .i64 ((ad : Int) + 1))) W1) {A2 : Option Addr} {c2 : Nat} {g2 : Option Nat} (hO : Ow W1 tInt 1 A2 (un.length + 1) c2 (un.map iv ++ [iv v]) g2) (hg : g2 = r.g ∨ ∃ y, g2 = some y ∧ W.heap.size ≤ y) :
    BkAt (W1.setCell ⟨xu, ou + q, none⟩ (.slice A2 (un.length + 1) c2)) (p.row q ⟨A2, c2, g2⟩) { b with added := b.added.set q (ad + 1), until_ := b.until_.set q (un ++ [v]) } ∧ Fr (bfoot p) W (W1.setCell ⟨xu, ou + q, none⟩ (.slice A2 (un.length + 1) c2)) ∧ ∀ x, x < W.heap.size → bfoot (p.row q ⟨A2, c2, g2⟩) x → bfoot p x := by
  have hF0 : Fr (fun y => y = xa) W (W.setCell ⟨xa, oa + q, none⟩ (.int .i64 ((ad : Int) + 1))) := (Fr.refl _ _).setAt _
  have hF2 : Fr (fun y => y = xu) W1 (W1.setCell ⟨xu, ou + q, none⟩ (.slice A2 (un.length + 1) c2)) := (Fr.refl _ _).setAt _
  have hqa : q < b.added.length := (List.getElem?_eq_some_iff.1 ha).1
  have hqr : q < p.rows.length := (List.getElem?_eq_some_iff.1 hr).1
  have hrm := List.mem_of_getElem? hr
  have hF01 : Fr (fun y => y = xa ∨ some y = r.g) W W1 := (hF0.mono fun y _ e => .inl e).trans (hF1.mono fun y _ e => .inr e)
  have hF : Fr (fun y => y = xa ∨ some y = r.g ∨ y = xu) W (W1.setCell ⟨xu, ou + q, none⟩ (.slice A2 (un.length + 1) c2)) := (hF01.mono fun y _ e => e.elim .inl (fun e => .inr (.inl e))).trans (hF2.mono fun y _ e => .inr (.inr e))
  obtain ⟨csA, tA⟩ := Ow.tyAt h.oa hgA
  obtain ⟨csU, tU⟩ := Ow.tyAt h.ou hgU
  have hAU : xa ≠ xu := tA.apart tU (by decide)
  have hrt : ∀ y, some y = r.g → ∃ cs, Bl W y tInt cs := fun y e => Ow.tyAt (h.orow q r un hr hu) e.symm
  have hrU : ∀ y, some y = r.g → y ≠ xu := fun y e => by obtain ⟨cs, hc⟩ := hrt y e; exact hc.apart tU (by decide)
  have hpb : ∀ y, y = xa ∨ some y = r.g ∨ y = xu → p.pb ≠ y := fun y e => by
    rcases e with rfl | e | rfl
    · exact h.bl.apart tA (by decide)
    · obtain ⟨cs, hc⟩ := hrt y e; exact h.bl.apart hc (by decide)
    · exact h.bl.apart tU (by decide)
  have hown := h.oa
  rw [hA] at hown
  have hA1 := hown.put (j := q) (by omega) (.int .i64 ((ad : Int) + 1))
  have hU1 := h.ou.fr hF01 (fun y e e' => by
    rw [hgU] at e; cases e
    rcases e' with e' | e'
    · exact hAU e'.symm
    · exact hrU _ e' rfl)
  rw [hU] at hU1
  have hU2 := hU1.put (j := q) (by omega) (.slice A2 (un.length + 1) c2)
  have hgn : ∀ y, g2 = some y → y < W.heap.size → r.g = some y := fun y e hy => by
    rcases hg with e2 | ⟨z, e2, hz⟩
    · rw [← e2]; exact e
    · rw [e2] at e; cases e; omega
  refine ⟨⟨?_, by show b.served.length = (b.added.set _ _).length; rw [List.length_set]; exact h.ls, by show (b.until_.set _ _).length = (b.added.set _ _).length; rw [List.length_set, List.length_set]; exact h.lu, by show (p.rows.set _ _).length = (b.added.set _ _).length; rw [List.length_set, List.length_set]; exact h.lr, ?_, ?_, ?_, fun i r' v' hr' hv' => ?_, h.apAS, fun i r' x hr' hx => ?_, fun i j r1 r2 x hij h1 h2 hx => ?_⟩, hF.mono fun y _ e => ?_, fun x hx hx' => ?_⟩
  · have := h.bl.fr hF (fun e => hpb _ e rfl)
    show Bl _ p.pb tBook #[.slice p.A (b.added.set q (ad + 1)).length p.ca, .slice p.S (b.added.set q (ad + 1)).length p.cs, .slice p.U (b.added.set q (ad + 1)).length p.cu, .int .i64 b.rounds]
    rw [List.length_set]; exact this
  · show Ow _ tInt 1 p.A (b.added.set q (ad + 1)).length p.ca ((b.added.set q (ad + 1)).map nv) p.gA
    rw [List.length_set, hA, List.map_set]
    refine (hA1.fr hF1 (fun y e e' => ?_)).fr hF2 (fun y e e' => ?_)
    · exact (h.apR q r y hr e'.symm).1 e
    · rw [hgA] at e; cases e; exact hAU e'
  · show Ow _ tInt 1 p.S (b.added.set q (ad + 1)).length p.cs (b.served.map nv) p.gS
    rw [List.length_set]
    refine h.os.fr hF (fun y e e' => ?_)
    rcases e' with rfl | e' | rfl
    · exact h.apAS y hgA e
    · exact (h.apR q r y hr e'.symm).2 e
    · obtain ⟨cs, hc⟩ := Ow.tyAt h.os e; exact hc.apart tU (by decide) rfl
  · show Ow _ tInts 1 p.U (b.added.set q (ad + 1)).length p.cu (List.zipWith urow (p.rows.set q ⟨A2, c2, g2⟩) (b.until_.set q (un ++ [v]))) p.gU
    rw [List.length_set, hU, zipWith_set]
    rw [show urow ⟨A2, c2, g2⟩ (un ++ [v]) = .slice A2 (un.length + 1) c2 by simp [urow]]
    exact hU2
  · have hr2 : (p.rows.set q ⟨A2, c2, g2⟩)[i]? = some r' := hr'
    have hv2 : (b.until_.set q (un ++ [v]))[i]? = some v' := hv'
    by_cases hiq : i = q
    · subst hiq
      rw [List.getElem?_set_self hqr] at hr2
      rw [List.getElem?_set_self (by rw [h.lu]; exact hqa)] at hv2
      cases hr2; cases hv2
      refine (show Ow W1 tInt 1 A2 (un ++ [v]).length c2 ((un ++ [v]).map iv) g2 by simpa using hO).fr hF2 (fun y e e' => ?_)
      subst e'
      rcases Nat.lt_or_ge y W.heap.size with hy | hy
      · exact hrU y (hgn y e hy).symm rfl
      · have := tU.lt; omega
    · rw [List.getElem?_set_ne (fun e => hiq e.symm)] at hr2 hv2
      refine (h.orow i r' v' hr2 hv2).fr hF (fun y e e' => ?_)
      rcases e' with rfl | e' | rfl
      · exact (h.apR i r' y hr2 e).1 hgA
      · exact h.apRR i q r' r y hiq hr2 hr e e'.symm
      · obtain ⟨cs, hc⟩ := Ow.tyAt (h.orow i r' v' hr2 hv2) e; exact hc.apart tU (by decide) rfl
  · have hr2 : (p.rows.set q ⟨A2, c2, g2⟩)[i]? = some r' := hr'
    by_cases hiq : i = q
    · subst hiq
      rw [List.getElem?_set_self hqr] at hr2
      cases hr2
      rcases Nat.lt_or_ge x W.heap.size with hy | hy
      · exact h.apR i r x hr (hgn x hx hy)
      · exact ⟨fun e => by have := h.lt (.inr (.inl e.symm)); omega, fun e => by have := h.lt (.inr (.inr (.inl e.symm))); omega⟩
    · rw [List.getElem?_set_ne (fun e => hiq e.symm)] at hr2
      exact h.apR i r' x hr2 hx
  · have h1' : (p.rows.set q ⟨A2, c2, g2⟩)[i]? = some r1 := h1
    have h2' : (p.rows.set q ⟨A2, c2, g2⟩)[j]? = some r2 := h2
    have hlt : ∀ (i : Nat) (r' : BRow) (x : Nat), p.rows[i]? = some r' → r'.g = some x → x < W.heap.size := fun i r' x e1 e2 => h.lt (.inr (.inr (.inr (.inr ⟨r', List.mem_of_getElem? e1, e2.symm⟩))))
    by_cases hiq : i = q
    · subst hiq
      rw [List.getElem?_set_self hqr] at h1'
      cases h1'
      rw [List.getElem?_set_ne hij] at h2'
      intro e
      have hy := hlt j r2 x h2' e
      exact h.apRR i j r r2 x hij hr h2' (hgn x hx hy) e
    · rw [List.getElem?_set_ne (fun e => hiq e.symm)] at h1'
      have hy := hlt i r1 x h1' hx
      by_cases hjq : j = q
      · subst hjq
        rw [List.getElem?_set_self hqr] at h2'
        cases h2'
        intro e
        exact h.apRR i j r1 r x hij h1' hr hx (hgn x e hy)
      · rw [List.getElem?_set_ne (fun e => hjq e.symm)] at h2'
        exact h.apRR i j r1 r2 x hij h1' h2' hx
  · rcases e with rfl | e | rfl
    · exact .inr (.inl hgA.symm)
    · exact .inr (.inr (.inr (.inr ⟨r, hrm, e⟩)))
    · exact .inr (.inr (.inr (.inl hgU.symm)))
  · rcases hx' with e | e | e | e | ⟨r', hr', e⟩
    · exact .inl e
    · exact .inr (.inl e)
    · exact .inr (.inr (.inl e))
    · exact .inr (.inr (.inr (.inl e)))
    · obtain ⟨i, hi⟩ := List.mem_iff_getElem?.1 hr'
      have hi2 : (p.rows.set q ⟨A2, c2, g2⟩)[i]? = some r' := hi
      by_cases hiq : i = q
      · subst hiq
        rw [List.getElem?_set_self hqr] at hi2
        cases hi2
        exact .inr (.inr (.inr (.inr ⟨r, hrm, (hgn x e.symm hx).symm⟩)))
      · rw [List.getElem?_set_ne (fun e => hiq e.symm)] at hi2
        exact .inr (.inr (.inr (.inr ⟨r', List.mem_of_getElem? hi2, e⟩)))
/-- Behind added. -/
def AddedOut (W : World) (p : BL) (b : BK) (q ad : Nat) (un : List Int) (v : Int) (W' : World) : Prop :=
  ∃ p', p'.pb = p.pb ∧ BkAt W' p' { b with added := b.added.set q (ad + 1), until_ := b.until_.set q (un ++ [v]) } ∧ Fr (bfoot p) W W' ∧ ∀ x, x < W.heap.size → bfoot p' x → bfoot p x
set_option maxHeartbeats 4000000 in
set_option maxRecDepth 20000 in
theorem added_any (W : World) (p : BL) (b : BK) (h : BkAt W p b) (q ahead : Nat) {ad : Nat} {un : List Int} (ha : b.added[q]? = some ad) (hu : b.until_[q]? = some un) (hbd : b.added.length ≤ 4611686018427387904 ∧ ad ≤ 4611686018427387904 ∧ un.length ≤ 8796093022208 ∧ 0 ≤ b.rounds ∧ b.rounds ≤ 4611686018427387904 ∧ ahead ≤ 4611686018427387) :
    Calls Try.prog 12 #[.pointer (some ⟨p.pb, 0, none⟩), .int .i64 (q : Int), .int .i64 (ahead : Int)] W fun e W' => e = .returned (.tuple #[]) ∧ AddedOut W p b q ad un (b.rounds + ahead + 1) W' := by
  obtain ⟨j0, hj, hj0, hj1, hj2⟩ := info_parts infoInt
  obtain ⟨v, hv⟩ : ∃ v, b.rounds + (ahead : Int) + 1 = v := ⟨_, rfl⟩
  have hq : q < b.added.length := (List.getElem?_eq_some_iff.1 ha).1
  obtain ⟨r, hr⟩ : ∃ x, p.rows[q]? = some x := ⟨_, List.getElem?_eq_getElem (by rw [h.lr]; exact hq)⟩
  obtain ⟨xa, oa, hA, hgA, cA, zA⟩ := h.lookA ha
  obtain ⟨xu, ou, hU, hgU, cU, zU⟩ := h.lookU hr hu
  obtain ⟨csA, tA⟩ := Ow.tyAt h.oa hgA
  obtain ⟨csU, tU⟩ := Ow.tyAt h.ou hgU
  have hO := h.orow q r un hr hu
  have hrA : ¬ some xa = r.g := fun e => (h.apR q r xa hr e.symm).1 hgA
  have hrU : ¬ some xu = r.g := fun e => by obtain ⟨cs, hc⟩ := Ow.tyAt hO e.symm; exact hc.apart tU (by decide) rfl
  have hrp : ¬ some p.pb = r.g := fun e => by obtain ⟨cs, hc⟩ := Ow.tyAt hO e.symm; exact h.bl.apart hc (by decide) rfl
  have hpa : p.pb ≠ xa := h.bl.apart tA (by decide)
  have hua : xu ≠ xa := tU.apart tA (by decide)
  have d0 : W.cell? ⟨p.pb, 0, none⟩ = some (.slice (some ⟨xa, oa, none⟩) b.added.length p.ca) := by rw [← hA]; exact h.bl.cell' rfl
  obtain ⟨W1, hW1⟩ : ∃ W1, W.setCell ⟨xa, oa + q, none⟩ (.int .i64 ((ad : Int) + 1)) = W1 := ⟨_, rfl⟩
  have hF0 : Fr (fun y => y = xa) W W1 := by rw [← hW1]; exact (Fr.refl _ _).setAt _
  have hbl1 := h.bl.fr hF0 hpa
  have d2 : W1.cell? ⟨p.pb, 2, none⟩ = some (.slice (some ⟨xu, ou, none⟩) b.added.length p.cu) := by rw [← hU]; exact hbl1.cell' rfl
  have d3 : W1.cell? ⟨p.pb, 3, none⟩ = some (.int .i64 b.rounds) := hbl1.cell' rfl
  have cU1 : W1.cell? ⟨xu, ou + q, none⟩ = some (.slice r.A un.length r.c) := (hF0.cell (p := ⟨xu, ou + q, none⟩) tU.lt hua).trans cU
  have zU1 : W1.frozen? ⟨xu, ou + q, none⟩ = false := (hF0.frozen (p := ⟨xu, ou + q, none⟩) tU.lt hua).trans zU
  have hO1 : Ow W1 tInt 1 r.A un.length r.c (un.map iv) r.g := hO.fr hF0 (fun y e e' => hrA (by rw [← e', e]))
  have iw : IntKind.i64.wrap ((ad : Int) + 1) = (ad : Int) + 1 := IntWalk.i64_in _ (by omega)
  have iw2 : IntKind.i64.wrap (b.rounds + (ahead : Int)) = b.rounds + (ahead : Int) := IntWalk.i64_in _ (by omega)
  have iw3 : IntKind.i64.wrap (b.rounds + (ahead : Int) + 1) = v := by rw [hv]; exact IntWalk.i64_in _ (by omega)
  have i1 : (0 : Int) ≤ (q : Int) := by omega
  have i2 : (q : Int) < (b.added.length : Int) := by omega
  have hunb := hbd.2.2.1
  have H := hide h
  have HX := hide (And.intro ha (And.intro hu (And.intro hr (And.intro hA (And.intro hgA (And.intro hU hgU))))))
  have HW1 := hide hW1
  have hsz1 : W.heap.size = W1.heap.size := by rw [← hW1]; simp [World.setCell]
  have HSZ := hide hsz1
  have hmx : un.length + 1 ≤ maxLen := by unfold maxLen; omega
  have hp1 : p.pb < W1.heap.size := hbl1.lt
  have hu1 : xu < W1.heap.size := by rw [← hsz1]; exact tU.lt
  have Hv := hide hv
  rw [hv]
  clear h ha hu hr hA hgA hU hgU tA tU hF0 hbl1 hO hv cU zU hsz1 hq hbd
  have Fin : Hid (∀ A2 c2 w2 g2, Ow w2 tInt 1 A2 (un.length + 1) c2 (un.map iv ++ [iv v]) g2 → Fr (fun k => some k = r.g) W1 w2 → (g2 = r.g ∨ ∃ y, g2 = some y ∧ (W1.alloc (.cells #[.int .i64 v] tInt)).drew.heap.size ≤ y) → AddedOut W p b q ad un v (w2.setCell ⟨xu, ou + q, none⟩ (.slice A2 (un.length + 1) c2))) := fun A2 c2 w2 g2 hO2 hf12 hg2 => by
    obtain ⟨ha, hu, hr, hA, hgA, hU, hgU⟩ := HX.out
    obtain ⟨h1, h2, h3⟩ := H.out.added ha hu hr v hA hgA hU hgU (by rw [HW1.out]; exact hf12) hO2 (hg2.imp id fun ⟨y, e, hy⟩ => ⟨y, e, by simp at hy; have := HSZ.out; omega⟩)
    exact ⟨p.row q ⟨A2, c2, g2⟩, rfl, h1, h2, h3⟩
  go_enter Try.func12, Try.ntmps12
  go_wp2_with fail
  (try rw [hW1])
  clear hW1 iw d0 cA zA
  go_region_law
    ((refine step_append_ow _ (by rfl) _ _ tInts (by rfl) tInt j0 (.int .i64 0) 1 8 Try.underlying30 hj hj0 hj1 hj2 rfl (by decide) r.A un.length r.c (un.map iv) r.g (by rfl) (hO1.fr (S := fun _ => False) (Fr.drew (Fr.alloc (Fr.refl _ _) _)) (fun _ _ => id)) _ 1 1 [iv v] (by rfl) (Sl_int1 W1.drew (iv v) tInt) (by intro u hu; simp at hu; subst hu; rfl) hmx (by omega) ?_; intro A2 c2 w2 g2 hO2 hf2 hg2; have hf12 : Fr (fun k => some k = r.g) W1 w2 := Fr.comp (Fr.drew (Fr.alloc (Fr.refl _ _) _)) hf2 (fun _ _ e => e); have t0 := (hf12.cell (World.block_lt_of_cell? W1 _ d2) hrp).trans d2; have t1 := (hf12.cell (World.block_lt_of_cell? W1 _ d3) hrp).trans d3; have t2 := (hf12.cell (World.block_lt_of_cell? W1 _ cU1) hrU).trans cU1; have t3 := (hf12.frozen (World.block_lt_of_cell? W1 _ cU1) hrU).trans zU1; have FN := hide (Fin.out A2 c2 w2 g2 hO2 hf12 hg2); clear hO2 hf2 hg2 hf12))
  all_goals (
    (try simp only [Exit.inBlock, Exit.then])
    refine bodyPost_end (results_none rfl _ _ _) rfl ?_
    exact ⟨rfl, FN.out⟩)
end Go.Proofs.Ytanfhmebjgmdpaa.Qj
