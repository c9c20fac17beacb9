/-
  Texts merged into one, to keep the claim small: DxH, DxI, DxJ.
-/
import Derived.Test.YtanfhmebjgmdpaaMe37
section
/-
  DrrScripts: does: Add.
-/
namespace Go.Proofs.Ytanfhmebjgmdpaa.Qi
open Go.RowKit Go.Shelf
set_option linter.unusedVariables false
set_option linter.unusedSimpArgs false
attribute [local go_sem] Oper.semAt_some
/-- Behind does. -/
def DoesOut (w : World) (d L : Nat) (D : Int) (s : DS (Int × Int)) (q : Nat) (b : DB) (rd : DR) (w' : World) : Prop :=
  ∃ s' rd', DrrAt w' d L (D + 1024) s' ∧ s'.busy = false ∧ DAt w' q b rd' ∧ rd'.at_ = -1 ∧ Like s' rd' ∧ (∀ x, drfoot d L s' x → drfoot d L s x ∨ w.heap.size ≤ x) ∧ (∀ x, dfoot q b rd' x → dfoot q b rd x ∨ w.heap.size ≤ x) ∧ (∀ x, drfoot d L s' x → ¬ dfoot q b rd' x) ∧ Fr (fun x => drfoot d L s x ∨ dfoot q b rd x) w w'
section
variable {w w' w0 w1 w2 w3 w4 w5 : World} {d L : Nat} {D : Int} {s : DS (Int × Int)} {q : Nat} {b : DB} {rd : DR} {M : List (List (Int × Int) × Int)}
theorem DUp.fr_ (h : DUp w d L D s M w') : Fr (drfoot d L s) w w' := by obtain ⟨_, _, _, _, _, _, _, h⟩ := h; exact h
theorem MUp.fr_ (h : MUp w q b rd M w') : Fr (dfoot q b rd) w w' := by obtain ⟨_, _, _, _, _, _, _, h⟩ := h; exact h
theorem DoesOut.two (hd : DrrAt w d L D s) (hm : DAt w q b rd) (hk : Like s rd) (hap : ∀ x, drfoot d L s x → ¬ dfoot q b rd x) (hD : 0 ≤ D) (hD2 : D + 4096 ≤ 4611686018427387904)
    (hf0 : Fr (fun _ => False) w w1) (h1 : DUp w1 d L D s M w2) (hf2 : Fr (fun _ => False) w2 w3) (h2 : MUp w3 q b rd M w4) (hf4 : Fr (fun _ => False) w4 w5) : DoesOut w d L D s q b rd w5 := by
  obtain ⟨s', a1, a2, a3, a4, a5, a6, a7⟩ := h1
  obtain ⟨r', b1, b2, b3, b4, b5, b6, b7⟩ := h2
  have z1 := hf0.size
  have z2 := a7.size
  have z3 := hf2.size
  have hap' : ∀ x, drfoot d L s' x → ¬ dfoot q b rd x := fun x hx e => (a6 x hx).elim (fun h => hap x h e) fun h => by have := hm.lt_ e; omega
  refine ⟨s', r', ((((a1.quiet hf2).fr b7 hap').quiet hf4).up (by omega) (by omega)), a2, b1.quiet hf4, b2, ⟨by rw [a3, b3]; exact hk.quantum, by rw [a4, b4]; exact hk.room, by rw [a5, b5]⟩,
    fun x hx => (a6 x hx).imp id fun h => by omega, fun x hx => (b6 x hx).imp id fun h => by omega, fun x hx e => (b6 x e).elim (hap' x hx) fun h => ?_,
    (((hf0.weak _).trans (a7.mono fun x _ e => .inl e)).trans (hf2.weak _)).trans ((b7.mono fun x _ e => .inr e).trans (hf4.weak _))⟩
  have := (a1.quiet hf2).lt hx
  omega
set_option maxHeartbeats 4000000 in
theorem does_add (hd : DrrAt w d L D s) (hb : s.busy = false) (hm : DAt w q b rd) (ha : rd.at_ = -1) (hk : Like s rd) (hap : ∀ x, drfoot d L s x → ¬ dfoot q b rd x) (hD : 0 ≤ D) (hD2 : D + 4096 ≤ 4611686018427387904) (wh qu co x mo : Int) :
    Calls Try.prog 20 #[.pointer (some ⟨d, 0, none⟩), .pointer (some ⟨q, 0, none⟩), .agg #[.int .i64 1, .int .i64 wh, .int .i64 qu, .int .i64 co, .int .i64 x, .int .i64 mo]] w fun e w' => e = .returned (.bool true) ∧ DoesOut w d L D s q b rd w' := by
  obtain ⟨e1, M, hA, hB⟩ := adds_any (q := q) (b := b) w hd hb ha hk qu co x
  have HA := hide hA
  have HB := hide hB
  have Hd := hide hd
  have Hm := hide hm
  have Hk := hide hk
  have Hap := hide hap
  clear hA hB hd hm hk hap hb ha
  go_enter Try.func20, Try.ntmps20
  have hob := Bl.new w 35 #[.int .i64 1, .int .i64 wh, .int .i64 qu, .int .i64 co, .int .i64 x, .int .i64 mo]
  have hfA := (Fr.refl (fun _ => False) w).alloc (.cells #[.int .i64 1, .int .i64 wh, .int .i64 qu, .int .i64 co, .int .i64 x, .int .i64 mo] 35)
  go_wp2_with fail
  generalize hw0 : w.alloc (.cells #[.int .i64 1, .int .i64 wh, .int .i64 qu, .int .i64 co, .int .i64 x, .int .i64 mo] 35) = wA at hob hfA ⊢
  clear hw0
  have c2 : wA.cell? ⟨w.heap.size, 2, none⟩ = some (.int .i64 qu) := hob.cell' rfl
  have c3 : wA.cell? ⟨w.heap.size, 3, none⟩ = some (.int .i64 co) := hob.cell' rfl
  have c4 : wA.cell? ⟨w.heap.size, 4, none⟩ = some (.int .i64 x) := hob.cell' rfl
  have hfB := hfA.drew
  have hobB := hob.drew
  have bb1 : (e1 == e1) = true := by simp
  have hp := HA.out wA.drew (Hd.out.quiet hfB)
  go_region_held3 (fun w' => w'.cell? ⟨w.heap.size, 2, none⟩ = some (.int .i64 qu) ∧ w'.cell? ⟨w.heap.size, 3, none⟩ = some (.int .i64 co) ∧ w'.cell? ⟨w.heap.size, 4, none⟩ = some (.int .i64 x)) (go_keep)
    (first
      | (go_at_call 16; refine hp.mono ?_; rintro r w2 ⟨rfl, hU⟩; have hob2 := hobB.fr hU.fr_ (fun e => absurd (Hd.out.lt e) (Nat.lt_irrefl _)); have q2 : w2.cell? ⟨w.heap.size, 2, none⟩ = some (.int .i64 qu) ∧ w2.cell? ⟨w.heap.size, 3, none⟩ = some (.int .i64 co) ∧ w2.cell? ⟨w.heap.size, 4, none⟩ = some (.int .i64 x) := ⟨hob2.cell' rfl, hob2.cell' rfl, hob2.cell' rfl⟩)
      | (go_at_call 41; have hq := HB.out w2 ((Hm.out.quiet hfB).fr hU.fr_ (fun y hy e => Hap.out y e hy)); refine hq.mono ?_; rintro r w4 ⟨rfl, hV⟩; have hob4 := hob2.fr hV.fr_ (fun e => absurd (Hm.out.lt_ e) (Nat.lt_irrefl _)); have q4 : w4.cell? ⟨w.heap.size, 2, none⟩ = some (.int .i64 qu) ∧ w4.cell? ⟨w.heap.size, 3, none⟩ = some (.int .i64 co) ∧ w4.cell? ⟨w.heap.size, 4, none⟩ = some (.int .i64 x) := ⟨hob4.cell' rfl, hob4.cell' rfl, hob4.cell' rfl⟩))
  all_goals go_wp2_with fail
  all_goals go_ret
  all_goals exact ⟨rfl, DoesOut.two Hd.out Hm.out Hk.out Hap.out hD hD2 hfB hU (Fr.refl _ _) hV (Fr.refl _ _)⟩
end
end Go.Proofs.Ytanfhmebjgmdpaa.Qi
end

section
/-
  DrrScripts: does: a round; what is none of the four.
-/
namespace Go.Proofs.Ytanfhmebjgmdpaa.Qi
open Go.RowKit Go.Shelf
set_option linter.unusedVariables false
set_option linter.unusedSimpArgs false
attribute [local go_sem] Oper.semAt_some
section
variable {w : World} {d L : Nat} {D : Int} {s : DS (Int × Int)} {q : Nat} {b : DB} {rd : DR}
theorem DoesOut.goes {wA w' : World} (hd : DrrAt w d L D s) (hm : DAt w q b rd) (hap : ∀ x, drfoot d L s x → ¬ dfoot q b rd x) (hf : Fr (fun _ => False) w wA) (h : GoesOut wA d L D s q b rd w') : DoesOut w d L D s q b rd w' := by
  obtain ⟨s', r', a1, a2, a3, a4, a5, a6, a7, a8⟩ := h
  exact ⟨s', r', a1, a2, a3, a4, a5, fun x h => .inl (a6 x h), fun x h => .inl (a7 x h), fun x h e => hap x (a6 x h) (a7 x e), (hf.weak _).trans a8⟩
theorem DoesOut.still {w' : World} (hd : DrrAt w d L D s) (hb : s.busy = false) (hm : DAt w q b rd) (ha : rd.at_ = -1) (hk : Like s rd) (hap : ∀ x, drfoot d L s x → ¬ dfoot q b rd x) (hD : 0 ≤ D) (hD2 : D + 4096 ≤ 4611686018427387904) (hf : Fr (fun _ => False) w w') : DoesOut w d L D s q b rd w' :=
  ⟨s, rd, (hd.quiet hf).up (by omega) (by omega), hb, hm.quiet hf, ha, hk, fun x h => .inl h, fun x h => .inl h, hap, hf.weak _⟩
set_option maxHeartbeats 2000000 in
theorem does_round (hd : DrrAt w d L D s) (hb : s.busy = false) (hm : DAt w q b rd) (ha : rd.at_ = -1) (hk : Like s rd) (hap : ∀ x, drfoot d L s x → ¬ dfoot q b rd x) (hD : 0 ≤ D) (hD2 : D + 4096 ≤ 4611686018427387904) (wh qu co x mo : Int) :
    Calls Try.prog 20 #[.pointer (some ⟨d, 0, none⟩), .pointer (some ⟨q, 0, none⟩), .agg #[.int .i64 4, .int .i64 wh, .int .i64 qu, .int .i64 co, .int .i64 x, .int .i64 mo]] w fun e w' => e = .returned (.bool true) ∧ DoesOut w d L D s q b rd w' := by
  have hfA := (Fr.refl (fun _ => False) w).alloc (.cells #[.int .i64 4, .int .i64 wh, .int .i64 qu, .int .i64 co, .int .i64 x, .int .i64 mo] 35)
  have hg := hide (goes_any (w.alloc (.cells #[.int .i64 4, .int .i64 wh, .int .i64 qu, .int .i64 co, .int .i64 x, .int .i64 mo] 35)) d L D s q b rd (hd.quiet hfA) hb (hm.quiet hfA) ha hk hap hD hD2 4 wh qu co x mo)
  have Hd := hide hd
  have Hm := hide hm
  have Hk := hide hk
  have Hap := hide hap
  have Hf := hide hfA
  clear hd hm hk hap hfA hb ha
  go_enter Try.func20, Try.ntmps20
  go_wp2_with fail
  refine hg.out.mono ?_
  rintro e w2 ⟨rfl, hG⟩
  go_wp2_with fail
  go_ret
  exact ⟨rfl, DoesOut.goes Hd.out Hm.out Hap.out Hf.out hG⟩
set_option maxHeartbeats 2000000 in
theorem round_none (w : World) (wh qu co x mo : Int) :
    Calls Try.prog 20 #[.pointer none, .pointer none, .agg #[.int .i64 4, .int .i64 wh, .int .i64 qu, .int .i64 co, .int .i64 x, .int .i64 mo]] w fun e w' => e = .returned (.bool true) ∧ Fr (fun _ => False) w w' := by
  have hfA := (Fr.refl (fun _ => False) w).alloc (.cells #[.int .i64 4, .int .i64 wh, .int .i64 qu, .int .i64 co, .int .i64 x, .int .i64 mo] 35)
  have hg := hide (goes_nil (w.alloc (.cells #[.int .i64 4, .int .i64 wh, .int .i64 qu, .int .i64 co, .int .i64 x, .int .i64 mo] 35)) 4 wh qu co x mo)
  go_enter Try.func20, Try.ntmps20
  go_wp2_with fail
  refine hg.out.mono ?_
  rintro e w2 ⟨rfl, hG⟩
  go_wp2_with fail
  go_ret
  exact ⟨rfl, hfA.trans hG⟩
theorem does_other (w : World) (v u : Value) (kd wh qu co x mo : Int) (h1 : kd ≠ 1) (h2 : kd ≠ 2) (h3 : kd ≠ 3) (h4 : kd ≠ 4) :
    Calls Try.prog 20 #[v, u, .agg #[.int .i64 kd, .int .i64 wh, .int .i64 qu, .int .i64 co, .int .i64 x, .int .i64 mo]] w fun e w' => e = .returned (.bool true) ∧ Fr (fun _ => False) w w' := by
  have hfA := (Fr.refl (fun _ => False) w).alloc (.cells #[.int .i64 kd, .int .i64 wh, .int .i64 qu, .int .i64 co, .int .i64 x, .int .i64 mo] 35)
  have g1 : (kd == 1) = false := by simpa using h1
  have g2 : (kd == 2) = false := by simpa using h2
  have g3 : (kd == 3) = false := by simpa using h3
  have g4 : (kd == 4) = false := by simpa using h4
  clear h1 h2 h3 h4
  go_enter Try.func20, Try.ntmps20
  go_wp2_with fail
  go_ret
  exact ⟨rfl, hfA⟩
end
end Go.Proofs.Ytanfhmebjgmdpaa.Qi
end

section
/-
  DrrScripts: does: Len, Cost, Deficit.
-/
namespace Go.Proofs.Ytanfhmebjgmdpaa.Qi
open Go.RowKit Go.Shelf
set_option linter.unusedVariables false
set_option linter.unusedSimpArgs false
attribute [local go_sem] Oper.semAt_some
section
variable {w : World} {d L : Nat} {D : Int} {s : DS (Int × Int)} {q : Nat} {b : DB} {rd : DR}
set_option maxHeartbeats 4000000 in
set_option maxRecDepth 100000 in
theorem does_tell (hd : DrrAt w d L D s) (hb : s.busy = false) (hm : DAt w q b rd) (ha : rd.at_ = -1) (hk : Like s rd) (hap : ∀ x, drfoot d L s x → ¬ dfoot q b rd x) (hD : 0 ≤ D) (hD2 : D + 4096 ≤ 4611686018427387904) (wh qu co x mo : Int) :
    Calls Try.prog 20 #[.pointer (some ⟨d, 0, none⟩), .pointer (some ⟨q, 0, none⟩), .agg #[.int .i64 3, .int .i64 wh, .int .i64 qu, .int .i64 co, .int .i64 x, .int .i64 mo]] w fun e w' => e = .returned (.bool true) ∧ DoesOut w d L D s q b rd w' := by
  have hfA := (Fr.refl (fun _ => False) w).alloc (.cells #[.int .i64 3, .int .i64 wh, .int .i64 qu, .int .i64 co, .int .i64 x, .int .i64 mo] 35)
  have hob := Bl.new w 35 #[.int .i64 3, .int .i64 wh, .int .i64 qu, .int .i64 co, .int .i64 x, .int .i64 mo]
  obtain ⟨n1, hn1⟩ : ∃ n, lenQ s qu = n := ⟨_, rfl⟩
  obtain ⟨n2, hn2⟩ : ∃ n, costQ s qu = n := ⟨_, rfl⟩
  obtain ⟨n3, hn3⟩ : ∃ n, dfQ s qu = n := ⟨_, rfl⟩
  have k1 : ∀ W, Fr (fun _ => False) w W → Calls Try.prog 43 #[.pointer (some ⟨d, 0, none⟩), .int .i64 qu] W fun e w' => e = .returned (.int .i64 n1) ∧ W = w' := fun W h => by
    have k := dLen_any W (hd.quiet h) qu
    rw [hn1] at k; exact k
  have k2 : ∀ W, Fr (fun _ => False) w W → Calls Try.prog 44 #[.pointer (some ⟨q, 0, none⟩), .int .i64 qu] W fun e w' => e = .returned (.int .i64 n1) ∧ W = w' := fun W h => by
    have k := mLen_any W (hm.quiet h) hk qu
    rw [hn1] at k; exact k
  have k3 : ∀ W, Fr (fun _ => False) w W → Calls Try.prog 45 #[.pointer (some ⟨d, 0, none⟩), .int .i64 qu] W fun e w' => e = .returned (.int .i64 n2) ∧ W = w' := fun W h => by
    have k := dCost_any W (hd.quiet h) qu
    rw [hn2] at k; exact k
  have k4 : ∀ W, Fr (fun _ => False) w W → Calls Try.prog 46 #[.pointer (some ⟨q, 0, none⟩), .int .i64 qu] W fun e w' => e = .returned (.int .i64 n2) ∧ Fr (fun _ => False) W w' := fun W h => by
    have k := mCost_any W (hm.quiet h) (hd.quiet h) hk qu
    rw [hn2] at k; exact k
  have k5 : ∀ W, Fr (fun _ => False) w W → Calls Try.prog 47 #[.pointer (some ⟨d, 0, none⟩), .int .i64 qu] W fun e w' => e = .returned (.int .i64 n3) ∧ W = w' := fun W h => by
    have k := dDef_any W (hd.quiet h) qu
    rw [hn3] at k; exact k
  have k6 : ∀ W, Fr (fun _ => False) w W → Calls Try.prog 48 #[.pointer (some ⟨q, 0, none⟩), .int .i64 qu] W fun e w' => e = .returned (.int .i64 n3) ∧ W = w' := fun W h => by
    have k := mDef_any W (hm.quiet h) hk qu
    rw [hn3] at k; exact k
  have hout : Hid (∀ W, Fr (fun _ => False) w W → DoesOut w d L D s q b rd W) := fun W h => DoesOut.still hd hb hm ha hk hap hD hD2 h
  have K1 := hide k1
  have K2 := hide k2
  have K3 := hide k3
  have K4 := hide k4
  have K5 := hide k5
  have K6 := hide k6
  clear k1 k2 k3 k4 k5 k6 hd hm hk hap hb ha hn1 hn2 hn3
  have bb1 : (n1 == n1) = true := by simp
  have bb2 : (n2 == n2) = true := by simp
  have bb3 : (n3 == n3) = true := by simp
  go_enter Try.func20, Try.ntmps20
  go_wp2_with fail
  generalize hw0 : w.alloc (.cells #[.int .i64 3, .int .i64 wh, .int .i64 qu, .int .i64 co, .int .i64 x, .int .i64 mo] 35) = wA at hob hfA ⊢
  clear hw0
  have hc : ∀ W, Fr (fun _ => False) wA W → W.cell? ⟨w.heap.size, 2, none⟩ = some (.int .i64 qu) := fun W h => (hob.fr h id).cell' rfl
  have hob0 := hob.drew
  have hf0 := hfA.drew
  have q0 : wA.drew.cell? ⟨w.heap.size, 2, none⟩ = some (.int .i64 qu) := hob0.cell' rfl
  go_region_held3 (fun w' => w'.cell? ⟨w.heap.size, 2, none⟩ = some (.int .i64 qu)) (go_keep)
    (first
      | (go_at_call 43; refine (K1.out _ (by assumption)).mono ?_; rintro y wB ⟨rfl, rfl⟩)
      | (go_at_call 44; refine (K2.out _ (by assumption)).mono ?_; rintro y wB ⟨rfl, rfl⟩)
      | (go_at_call 45; refine (K3.out _ (by assumption)).mono ?_; rintro y wB ⟨rfl, rfl⟩)
      | (go_at_call 46; refine (K4.out _ (by assumption)).mono ?_; rintro y wB ⟨rfl, hfB⟩; have hf1 := hf0.trans hfB; have hob1 := hob0.fr hfB id; have q1 : wB.cell? ⟨w.heap.size, 2, none⟩ = some (.int .i64 qu) := hob1.cell' rfl)
      | (go_at_call 47; refine (K5.out _ (by assumption)).mono ?_; rintro y wC ⟨rfl, rfl⟩)
      | (go_at_call 48; refine (K6.out _ (by assumption)).mono ?_; rintro y wC ⟨rfl, rfl⟩))
  all_goals go_wp2_with fail
  all_goals go_ret
  all_goals exact ⟨rfl, hout.out _ hf1⟩
end
end Go.Proofs.Ytanfhmebjgmdpaa.Qi
end
