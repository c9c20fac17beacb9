/-
  Texts merged into one, to keep the claim small: Dx7.
-/
import Derived.Test.YtanfhmebjgmdpaaMe12
import Derived.Deep.CutBlock
/-
  bazaarref16.Drr: Next.
-/
namespace Go.Proofs.Ytanfhmebjgmdpaa
open Go.RowKit
set_option linter.unusedVariables false
def atOf (w : World) (q : Nat) : Nat := match w.cell? ⟨q, 6, none⟩ with
  | some (.int _ v) => v.toNat
  | _ => 0
structure DR.Fine (s : DR) : Prop where
  q1 : 8 ≤ s.quantum
  q2 : s.quantum ≤ 1024
  n2 : s.lines.length ≤ 1024
  r2 : s.room ≤ 65536
  co : ∀ l ∈ s.lines, ∀ x ∈ l.things, 1 ≤ x.2 ∧ x.2 ≤ 8
  le : ∀ l ∈ s.lines, l.things.length ≤ 65536
  df : ∀ l ∈ s.lines, 0 ≤ l.df ∧ l.df ≤ 4611686018427387904
/-- Behind the visit of line j. -/
structure Nx (q : Nat) (b : DB) (s : DR) (j : Nat) (l : DQ) (G : RSt (Int × Int)) (s2 : DR) (l2 : DQ) (v2 : Bool) (W : World) : Prop where
  at_ : DAt W q b s2
  len : s2.lines.length = s.lines.length
  qu : s2.quantum = s.quantum
  rm : s2.room = s.room
  a : s2.at_ = (j : Int)
  v : s2.vis = v2
  hl : s2.lines[j]? = some l2
  th : l2.things = l.things
  d1 : 0 ≤ l2.df
  d2 : l2.df ≤ 4611686018427388928
  ft : ∀ x, dfoot q b s2 x → dfoot q b s x
  bf : ∀ x, dfoot q b s x → dfoot q b s2 x
  srv : ∀ x t, v2 = true → l2.things = x :: t → x.2 ≤ l2.df → G = ⟨(toDS s2).put j ⟨0, none, t, if t = [] then 0 else l2.df - x.2⟩, j, true, some (j, x), false⟩
  non : (v2 = false ∨ ∀ x t, l2.things = x :: t → l2.df < x.2) → G = Gs (toDS s) (j + 1) false ∧ s2.lines = s.lines
  v2f : v2 = false → l.things = []
def NextOut (w : World) (q : Nat) (b : DB) (s : DR) (k : Nat) (e : Ending) (w' : World) : Prop :=
  ∃ s' : DR, DAt w' q b s' ∧ s'.quantum = s.quantum ∧ s'.room = s.room ∧ (Gs (toDS s) k s.vis).s.lines = s'.lines.map toLN ∧ Fr (dfoot q b s) w w' ∧ (∀ x, dfoot q b s' x → dfoot q b s x) ∧
    ((∃ x, (Gs (toDS s) k s.vis).pend = some ((Gs (toDS s) k s.vis).k, x) ∧ (Gs (toDS s) k s.vis).fin = false ∧ (Gs (toDS s) k s.vis).vis = true ∧ e = .returned (.tuple #[.int .i64 ((Gs (toDS s) k s.vis).k : Int), .int .i64 x.1, .bool true]) ∧ s'.at_ = ((Gs (toDS s) k s.vis).k : Int) ∧ s'.vis = true ∧ (Gs (toDS s) k s.vis).k < s.lines.length) ∨
     ((Gs (toDS s) k s.vis).pend = none ∧ (Gs (toDS s) k s.vis).fin = true ∧ e = .returned (.tuple #[.int .i64 0, .int .i64 0, .bool false]) ∧ s'.at_ = (s.lines.length : Int) ∧ s'.vis = false))
section
variable {q : Nat} {b : DB} {s : DR}
theorem DAt.same (w : World) (h : DAt w q b s) {k : Int} {v : Bool} (h1 : s.at_ = k) (h2 : s.vis = v) : DAt w q b { s with at_ := k, vis := v } := by
  subst h1; subst h2; exact h
/-- Behind a visit. -/
theorem Nx.visited {W W' : World} (h : DAt W q b s) (hs : s.Fine) {j : Nat} {l : DQ} (hl : s.lines[j]? = some l) (ha : s.at_ = (j : Int)) (hv : s.vis = false) {x0 : Int × Int} {t0 : List (Int × Int)} (hx : l.things = x0 :: t0)
    (h' : DAt W' q b { s.put j { l with df := l.df + s.quantum } with at_ := (j : Int), vis := true }) :
    Nx q b s j l (Gs (toDS s) j false) { s.put j { l with df := l.df + s.quantum } with at_ := (j : Int), vis := true } { l with df := l.df + s.quantum } true W' := by
  have hm : l ∈ s.lines := List.mem_of_getElem? hl
  have hi : j < s.lines.length := (List.getElem?_eq_some_iff.1 hl).1
  have hd := hs.df l hm
  have hc := hs.co l hm
  have hq1 := hs.q1
  have hq2 := hs.q2
  refine ⟨h', by show (s.put j _).lines.length = _; rw [DR.put_len], rfl, rfl, rfl, rfl, List.getElem?_set_self hi, rfl, by show 0 ≤ l.df + s.quantum; omega, by show l.df + s.quantum ≤ _; omega, ?_, ?_, ?_, ?_, fun e => by cases e⟩
  · intro x hx
    refine dfoot_put (n := x + 1) hl (l' := { l with df := l.df + s.quantum }) (fun y hy => .inl hy) (by omega) ?_
    rcases hx with e | e | e | e | e
    · exact .inl e
    · exact .inr (.inl e)
    · exact .inr (.inr (.inl e))
    · exact .inr (.inr (.inr (.inl e)))
    · exact .inr (.inr (.inr (.inr e)))
  · rintro x (e | e | e | e | ⟨m, hm, e⟩)
    · exact .inl e
    · exact .inr (.inl e)
    · exact .inr (.inr (.inl e))
    · exact .inr (.inr (.inr (.inl e)))
    · obtain ⟨i, hi'⟩ := List.mem_iff_getElem?.1 hm
      by_cases hij : j = i
      · subst hij
        rw [hl] at hi'
        cases hi'
        exact .inr (.inr (.inr (.inr ⟨{ l with df := l.df + s.quantum }, List.mem_of_getElem? (i := j) (show (s.lines.set j _)[j]? = _ from List.getElem?_set_self hi), e⟩)))
      · exact .inr (.inr (.inr (.inr ⟨m, List.mem_of_getElem? (i := i) (show (s.lines.set j _)[i]? = some m by rw [List.getElem?_set_ne hij]; exact hi'), e⟩)))
  · intro x t _ hxt hle
    rw [Gs_visit hl hxt hle]
    show (⟨(toDS s).put j _, j, true, some (j, x), false⟩ : RSt (Int × Int)) = _
    congr 1
    show (⟨_, _, (s.lines.map toLN).set j _, _⟩ : DS (Int × Int)) = ⟨_, _, ((s.lines.set j _).map toLN).set j _, _⟩
    rw [List.map_set, List.set_set]; rfl
  · rintro (e | e)
    · cases e
    · have h1 := hc x0 (by rw [hx]; simp)
      have := e x0 t0 hx
      have h2 : l.df + s.quantum < x0.2 := this
      omega
theorem Nx.stay {W : World} (h : DAt W q b s) (hs : s.Fine) {j : Nat} {l : DQ} (hl : s.lines[j]? = some l) (ha : s.at_ = (j : Int)) (v : Bool) (hv : s.vis = v) (hf : v = false → l.things = []) : Nx q b s j l (Gs (toDS s) j v) s l v W := by
  have hd := hs.df l (List.mem_of_getElem? hl)
  refine ⟨h, rfl, rfl, rfl, ha, hv, hl, rfl, hd.1, by omega, fun _ h => h, fun _ h => h, ?_, ?_, hf⟩
  · intro x t hv hx hc
    subst hv
    rw [Gs_some hl hx hc]
  · intro hh
    refine ⟨?_, rfl⟩
    cases v with
    | false => exact Gs_skip hl (hf rfl)
    | true => exact Gs_none hl (hh.resolve_left (by simp))
/-- A round of Next's loop is over: on to the next line. -/
theorem round_end {wA wB : World} {j : Nat} {v : Bool} (h : DAt wA q b { s with at_ := (j : Int), vis := v }) (hf : Fr (fun _ => False) wA wB) :
    DAt ((wB.setCell ⟨q, 6, none⟩ (.int .i64 ((j : Int) + 1))).setCell ⟨q, 7, none⟩ (.bool false)) q b { s with at_ := ((j + 1 : Nat) : Int), vis := false } ∧ Fr (fun x => x = q) wB ((wB.setCell ⟨q, 6, none⟩ (.int .i64 ((j : Int) + 1))).setCell ⟨q, 7, none⟩ (.bool false)) ∧
      atOf ((wB.setCell ⟨q, 6, none⟩ (.int .i64 ((j : Int) + 1))).setCell ⟨q, 7, none⟩ (.bool false)) q = j + 1 := by
  have hB := h.quiet hf
  have hF : Fr (fun x => x = q) wB ((wB.setCell ⟨q, 6, none⟩ (.int .i64 ((j : Int) + 1))).setCell ⟨q, 7, none⟩ (.bool false)) := ((Fr.refl _ _).setAt _).setAt _
  have hD := hB.mark ((j + 1 : Nat) : Int) false (by
    have h2 := hB.bl
    unfold dcells at h2
    have h3 := (h2.set 6 (.int .i64 ((j : Int) + 1))).set 7 (.bool false)
    simpa [dcells] using h3) hF
  refine ⟨hD, hF, ?_⟩
  have h2 := hD.bl
  unfold dcells at h2
  have f6 := h2.cell' (i := 6) (v := .int .i64 ((j + 1 : Nat) : Int)) rfl
  unfold atOf
  rw [f6]; simp
/-- A visit in memory. -/
theorem visit_mem {wA wb : World} (h : DAt wA q b s) (hf : Fr (fun _ => False) wA wb) {j : Nat} {l : DQ} (hl : s.lines[j]? = some l) (ha : s.at_ = (j : Int)) {x3 o3 : Nat} (e3 : b.dA = some ⟨x3, o3, none⟩) (g3 : b.dg = some x3) (v : Int) :
    DAt ((wb.setCell ⟨x3, o3 + j, none⟩ (.int .i64 v)).setCell ⟨q, 7, none⟩ (.bool true)) q b { s.put j { l with df := v } with at_ := (j : Int), vis := true } ∧ Fr (dfoot q b s) wA ((wb.setCell ⟨x3, o3 + j, none⟩ (.int .i64 v)).setCell ⟨q, 7, none⟩ (.bool true)) := by
  have hB := h.quiet hf
  have hm : l ∈ s.lines := List.mem_of_getElem? hl
  have hi : j < s.lines.length := (List.getElem?_eq_some_iff.1 hl).1
  have h1 := (Stg.start hB hl).setD hB hi e3 g3 v
  have F3 : Fr (fun y => y = x3) wb (wb.setCell ⟨x3, o3 + j, none⟩ (.int .i64 v)) := (Fr.refl _ _).setAt _
  have h2 := h1.done hB hl (t := l.things) ((hB.lt l hm).fr F3 fun y hy e => hB.dl l hm x3 g3 (e ▸ .inl hy)) ((hB.lc l hm).fr F3 fun y hy e => hB.dl l hm x3 g3 (e ▸ .inr hy))
  have hF : Fr (fun x => x = q) (wb.setCell ⟨x3, o3 + j, none⟩ (.int .i64 v)) ((wb.setCell ⟨x3, o3 + j, none⟩ (.int .i64 v)).setCell ⟨q, 7, none⟩ (.bool true)) := (Fr.refl _ _).setAt _
  have h3 := h2.mark (j : Int) true (by
    have h4 := h2.bl
    unfold dcells at h4 ⊢
    have h5 := h4.set 7 (.bool true)
    simpa [DR.put, ha] using h5) hF
  exact ⟨h3, ((hf.weak _).trans (F3.mono fun y _ e => by subst e; exact .inr (.inr (.inr (.inl g3))))).trans (hF.mono fun y _ e => .inl e)⟩
/-- Behind a service. -/
theorem next_served {w W' : World} {s1 s2 : DR} {l l2 : DQ} {W : World} {G : RSt (Int × Int)} {k j : Nat} (HN : Nx q b s1 j l G s2 l2 true W) (h1 : s1.lines = s.lines) (hq : s1.quantum = s.quantum) (hr : s1.room = s.room) {x : Int × Int} {t : List (Int × Int)} (hx : l2.things = x :: t) (hc : x.2 ≤ l2.df)
    (hG : Gs (toDS s) k s.vis = G) {A2 A5 : Option Addr} {c2 c5 : Nat} {dv : Int} (hdv : dv = if t = [] then 0 else l2.df - x.2) (hD : DAt W' q b (s2.put j ⟨A2, c2, l2.tg, A5, c5, l2.cg, t, dv⟩)) (hf : Fr (dfoot q b s) w W') :
    NextOut w q b s k (.returned (.tuple #[.int .i64 (j : Int), .int .i64 x.1, .bool true])) W' := by
  have hG2 := hG.trans (HN.srv x t rfl hx hc)
  have hj : j < s.lines.length := by
    have := (List.getElem?_eq_some_iff.1 HN.hl).1
    rw [HN.len, h1] at this; exact this
  refine ⟨_, hD, HN.qu.trans hq, HN.rm.trans hr, ?_, hf, fun y hy => ?_, .inl ⟨x, ?_⟩⟩
  · rw [hG2]
    show (s2.lines.map toLN).set j _ = (s2.lines.set j _).map toLN
    rw [List.map_set, hdv]; rfl
  · have h2 := dfoot_put (n := y + 1) HN.hl (l' := ⟨A2, c2, l2.tg, A5, c5, l2.cg, t, dv⟩) (fun z hz => .inl hz) (by omega) hy
    have h3 := HN.ft y h2
    rcases h3 with e | e | e | e | ⟨m, hm, e⟩
    · exact .inl e
    · exact .inr (.inl e)
    · exact .inr (.inr (.inl e))
    · exact .inr (.inr (.inr (.inl e)))
    · exact .inr (.inr (.inr (.inr ⟨m, h1 ▸ hm, e⟩)))
  · rw [hG2]
    exact ⟨rfl, rfl, rfl, rfl, HN.a, HN.v, hj⟩
theorem next_over {w W : World} {k : Nat} {G : RSt (Int × Int)} (hD : DAt W q b { s with at_ := (s.lines.length : Int), vis := false }) (hG : Gs (toDS s) k s.vis = G) (hGn : Gs (toDS s) s.lines.length false = G) (hf : Fr (dfoot q b s) w W) :
    NextOut w q b s k (.returned (.tuple #[.int .i64 0, .int .i64 0, .bool false])) W := by
  have hG2 := hG.trans (hGn.symm.trans (Gs_end (Nat.le_refl _)))
  refine ⟨_, hD, rfl, rfl, by rw [hG2]; rfl, hf, fun _ h => h, .inr ?_⟩
  rw [hG2]
  exact ⟨rfl, rfl, rfl, rfl, rfl⟩
theorem foot_rows {w : World} (h : DAt w q b s) {l : DQ} (hm : l ∈ s.lines) {y : Nat} (hy : l.foot y) (e : b.tg = some y ∨ b.cg = some y ∨ b.dg = some y) : False := by
  rcases e with e | e | e
  · exact h.tl hm e hy
  · exact h.cl hm e hy
  · exact h.dl l hm y e hy
end
end Go.Proofs.Ytanfhmebjgmdpaa
