/-
  Texts merged into one, to keep the claim small: DxG.
-/
import Derived.Test.YtanfhmebjgmdpaaMe36
/-
  DrrScripts: a round of no server; what Add answers, both ways.
-/
namespace Go.Proofs.Ytanfhmebjgmdpaa.Qi
open Go.RowKit Go.Shelf
set_option linter.unusedVariables false
set_option linter.unusedSimpArgs false
attribute [local go_sem] Oper.semAt_some
set_option maxHeartbeats 2000000 in
theorem goes_nil (w : World) (kd wh qu co x mo : Int) :
    Calls Try.prog 49 #[.pointer none, .pointer none, .agg #[.int .i64 kd, .int .i64 wh, .int .i64 qu, .int .i64 co, .int .i64 x, .int .i64 mo]] w fun e w' => e = .returned (.bool true) ∧ Fr (fun _ => False) w w' := by
  refine (callsIn_wide (n := 5)).1 ?_
  refine callsIn_of_wp_marks Try.func49 rfl trivial ?_ rfl
  simp only [Try.ntmps49, List.size_toArray, List.length_cons, List.length_nil, Nat.reduceAdd, Nat.reduceSub, Array.replicate_succ, Array.replicate_zero, List.push_toArray, List.append_toArray, List.nil_append, List.cons_append]
  refine wpIn_wide.2 ?_
  obtain ⟨z, hz⟩ : ∃ z, w.heap.size = z := ⟨_, rfl⟩
  have Hz := hide hz
  clear hz
  go_wp2_with fail
  obtain ⟨w4, hw4⟩ : ∃ w4, (((w.alloc (.cells #[.pointer none] tPD)).alloc (.cells #[.pointer none] tPM)).alloc (.cells #[.int .i64 kd, .int .i64 wh, .int .i64 qu, .int .i64 co, .int .i64 x, .int .i64 mo] tOp)).alloc (.cells #[.bool false] 4) = w4 := ⟨_, rfl⟩
  rw [hw4]
  have hf4 : Fr (fun _ => False) w w4 := by rw [← hw4]; (repeat (first | with_reducible exact Fr.refl _ _ | with_reducible assumption | with_reducible refine Fr.drew ?_ | with_reducible refine Fr.drewN ?_ _ | with_reducible refine Fr.alloc ?_ _ | with_reducible refine Fr.setIn ?_ (by first | exact Or.inl rfl | exact Or.inr (by simp; done) | exact Or.inr (by simp; omega) | exact Or.inr (by omega)) _))
  have k3 : Bl w4 z tPD #[.pointer none] := by rw [← hw4, ← Hz.out]; (repeat (first | with_reducible assumption | with_reducible refine Bl.drew ?_ | with_reducible refine Bl.drewN ?_ _ | with_reducible refine Bl.far ?_ (by first | (simp; done) | (simp; omega)) _ | with_reducible exact Bl.newAt (by simp) | with_reducible refine Bl.alloc ?_ _))
  have k6 : Bl w4 (z + 3) 4 #[.bool false] := by rw [← hw4, ← Hz.out]; (repeat (first | with_reducible assumption | with_reducible refine Bl.drew ?_ | with_reducible refine Bl.drewN ?_ _ | with_reducible refine Bl.far ?_ (by first | (simp; done) | (simp; omega)) _ | with_reducible exact Bl.newAt (by simp) | with_reducible refine Bl.alloc ?_ _))
  rw [Hz.out]
  clear hw4
  refine (Begin_nil w4).mono ?_
  rintro e w1 ⟨rfl, rfl⟩
  have c3 : w4.cell? ⟨z, 0, none⟩ = some (.pointer none) := k3.cell' rfl
  go_wp2_with fail
  refine (inner_nil w4).mono ?_
  rintro e w2 ⟨rfl, hf2⟩
  have k62 := k6.fr hf2 id
  have c6 : w2.cell? ⟨z + 3, 0, none⟩ = some (.bool false) := k62.cell' rfl
  have z6 := k62.free 0
  have hf6 : Fr (fun y => z ≤ y) w2 (w2.setCell ⟨z + 3, 0, none⟩ (.bool true)) := ((Fr.refl (fun y => y = z + 3) w2).setAt _).mono fun y _ e => by omega
  have k7 := k62.set 0 (.bool true)
  have hall : Fr (fun _ => False) w (w2.setCell ⟨z + 3, 0, none⟩ (.bool true)) := (((hf4.trans hf2).weak _).trans hf6).mono fun y hy e => by have := Hz.out; omega
  go_wp2_with fail
  exact ⟨_, results_cell1 rfl _ _ (z + 3) (.bool true) _ rfl (k7.cell' rfl) Try.underlying4 rfl, rfl, hall⟩
/-- The server holds M now; the document's too. -/
def DUp (w : World) (d L : Nat) (D : Int) (s : DS (Int × Int)) (M : List (List (Int × Int) × Int)) (w' : World) : Prop :=
  ∃ s', DrrAt w' d L D s' ∧ s'.busy = false ∧ s'.quantum = s.quantum ∧ s'.room = s.room ∧ s'.lines.map con = M ∧ (∀ x, drfoot d L s' x → drfoot d L s x ∨ w.heap.size ≤ x) ∧ Fr (drfoot d L s) w w'
def MUp (w : World) (q : Nat) (b : DB) (r : DR) (M : List (List (Int × Int) × Int)) (w' : World) : Prop :=
  ∃ r', DAt w' q b r' ∧ r'.at_ = -1 ∧ r'.quantum = r.quantum ∧ r'.room = r.room ∧ r'.lines.map conD = M ∧ (∀ x, dfoot q b r' x → dfoot q b r x ∨ w.heap.size ≤ x) ∧ Fr (dfoot q b r) w w'
section
variable {w w' : World} {d L : Nat} {D : Int} {s : DS (Int × Int)} {q : Nat} {b : DB} {r : DR}
theorem DUp.still (h : DrrAt w d L D s) (hb : s.busy = false) (hf : Fr (fun _ => False) w w') : DUp w d L D s (s.lines.map con) w' :=
  ⟨s, h.quiet hf, hb, rfl, rfl, rfl, fun _ h => .inl h, hf.weak _⟩
theorem MUp.still (h : DAt w q b r) (ha : r.at_ = -1) (hk : Like s r) (hf : Fr (fun _ => False) w w') : MUp w q b r (s.lines.map con) w' :=
  ⟨r, h.quiet hf, ha, rfl, rfl, hk.lines.symm, fun _ h => .inl h, hf.weak _⟩
theorem drfoot_put {i n : Nat} {l l' : LN (Int × Int)} (hl : s.lines[i]? = some l) (hp : l'.p = l.p) (hg : l'.g = l.g ∨ l'.g = none ∨ ∃ b, l'.g = some b ∧ n ≤ b) {x : Nat} (h : drfoot d L (s.put i l') x) : drfoot d L s x ∨ n ≤ x := by
  rcases h with e | e | ⟨m, hm, e⟩
  · exact .inl (.inl e)
  · exact .inl (.inr (.inl e))
  · rcases List.mem_or_eq_of_mem_set hm with hm | rfl
    · exact .inl (.inr (.inr ⟨m, hm, e⟩))
    · rcases e with e | e
      · exact .inl (.inr (.inr ⟨l, List.mem_of_getElem? hl, .inl (by rw [e, hp])⟩))
      · rcases hg with hg | hg | ⟨y, hg, hy⟩
        · exact .inl (.inr (.inr ⟨l, List.mem_of_getElem? hl, .inr (by rw [← hg]; exact e)⟩))
        · rw [hg] at e; cases e
        · rw [hg] at e; cases e; exact .inr hy
set_option maxHeartbeats 1000000 in
theorem adds_any (w0 : World) (h0 : DrrAt w0 d L D s) (hb : s.busy = false) (ha : r.at_ = -1) (hk : Like s r) (qu co x : Int) :
    ∃ (e : Int) (M : List (List (Int × Int) × Int)),
      (∀ w, DrrAt w d L D s → Calls Try.prog 16 #[.pointer (some ⟨d, 0, none⟩), .int .i64 qu, .int .i64 co, .int .i64 x] w fun e' w' => e' = .returned (.int .i64 e) ∧ DUp w d L D s M w') ∧
      (∀ w, DAt w q b r → Calls Try.prog 41 #[.pointer (some ⟨q, 0, none⟩), .int .i64 qu, .int .i64 co, .int .i64 x] w fun e' w' => e' = .returned (.int .i64 e) ∧ MUp w q b r M w') := by
  have hlen := hk.len
  have hoe : openN s qu = openD r qu := by
    unfold openN openD
    rw [hb, if_neg (show ¬ (0 ≤ r.at_) by omega), hlen]; rfl
  by_cases ho : openN s qu = 0
  · have hi : 0 ≤ qu ∧ qu < (s.lines.length : Int) := by
      unfold openN at ho
      rw [hb] at ho
      by_cases c : qu < 0 ∨ (s.lines.length : Int) ≤ qu
      · rw [if_pos c] at ho; simp at ho
      · omega
    obtain ⟨j, l, rfl, hl, -⟩ := line_of hi
    obtain ⟨m, hm, hmt, hmd⟩ := hk.get hl
    have hj : j < s.lines.length := (List.getElem?_eq_some_iff.1 hl).1
    by_cases hc : co < 1 ∨ 8 < co
    · refine ⟨160, s.lines.map con, fun w h => (Add_cost w h j co (x, 0) hj hb hc).mono ?_, fun w h => (rAdd_cost w h j co x (by rw [← hoe]; exact ho) hc).mono ?_⟩
      · rintro e' w' ⟨rfl, hf⟩; exact ⟨rfl, DUp.still h hb hf⟩
      · rintro e' w' ⟨rfl, rfl⟩; exact ⟨rfl, MUp.still h ha hk (Fr.refl _ _)⟩
    · by_cases hf : s.room ≤ l.things.length
      · refine ⟨161, s.lines.map con, fun w h => (Add_full w h j l (x, co) hl hb (by show 1 ≤ co ∧ co ≤ 8; omega) hf).mono ?_, fun w h => (rAdd_full w h j m co x hm (by omega) (by omega) (by omega) (by rw [← hk.room, hmt]; exact hf)).mono ?_⟩
        · rintro e' w' ⟨rfl, hf⟩; exact ⟨rfl, DUp.still h hb hf⟩
        · rintro e' w' ⟨rfl, hf⟩; exact ⟨rfl, MUp.still h ha hk hf⟩
      · have hr := room_of (r := ⟨s, 0, false, none, false⟩) h0
        refine ⟨0, (s.lines.map con).set j (l.things ++ [(x, co)], l.df), fun w h => (Add_ok w h j l (x, co) hl hb (by show 1 ≤ co ∧ co ≤ 8; omega) (by omega)).mono ?_, fun w h => (rAdd_ok w h j m co x hm (by omega) (by omega) (by omega) (by rw [← hk.room, hmt]; omega) (by rw [← hk.room]; exact hr)).mono ?_⟩
        · rintro e' w' ⟨rfl, g', h1, h2, h3⟩
          refine ⟨rfl, _, h1, hb, rfl, rfl, ?_, fun y hy => drfoot_put (l' := { l with things := l.things ++ [(x, co)], g := g' }) hl rfl (h3.elim .inl fun e => .inr (.inr e)) hy, h2⟩
          show (s.lines.set j _).map con = _
          rw [List.map_set]; rfl
        · rintro e' w' ⟨rfl, l', t1, t2, h1, h2, h3⟩
          refine ⟨rfl, _, h1, ha, rfl, rfl, ?_, fun y hy => ?_, h2.mono fun y _ e => ?_⟩
          · show (r.lines.set j l').map conD = _
            rw [List.map_set, hk.lines]
            congr 1
            show (l'.things, l'.df) = _
            rw [t1, t2, hmt, hmd]
          · by_cases hy2 : y < w.heap.size
            · exact .inl (dfoot_put hm h3 hy2 hy)
            · exact .inr (by omega)
          · exact e.elim (fun e => .inr (.inr (.inr (.inr ⟨m, List.mem_of_getElem? hm, e⟩)))) fun e => e.elim (fun e => .inr (.inl e)) fun e => .inr (.inr (.inl e))
  · refine ⟨openN s qu, s.lines.map con, fun w h => (Add_no w h qu co (x, 0) ho).mono ?_, fun w h => ?_⟩
    · rintro e' w' ⟨rfl, hf⟩; exact ⟨rfl, DUp.still h hb hf⟩
    · rw [hoe]
      refine (rAdd_no w h qu co x (by rw [← hoe]; exact ho)).mono ?_
      rintro e' w' ⟨rfl, rfl⟩; exact ⟨rfl, MUp.still h ha hk (Fr.refl _ _)⟩
end
end Go.Proofs.Ytanfhmebjgmdpaa.Qi
