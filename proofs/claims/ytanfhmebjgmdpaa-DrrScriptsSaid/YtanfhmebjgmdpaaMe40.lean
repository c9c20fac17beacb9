/-
  Texts merged into one, to keep the claim small: DxM, DxN, DxO.
-/
import Derived.Test.YtanfhmebjgmdpaaMe39
section
/-
  DrrScripts: does, of two servers and of none.
-/
namespace Go.Proofs.Ytanfhmebjgmdpaa.Qi
open Go.RowKit Go.Shelf
set_option linter.unusedVariables false
set_option linter.unusedSimpArgs false
attribute [local go_sem] Oper.semAt_some
set_option maxHeartbeats 4000000 in
set_option maxRecDepth 100000 in
theorem tell_none (w : World) (wh qu co x mo : Int) :
    Calls Try.prog 20 #[.pointer none, .pointer none, .agg #[.int .i64 3, .int .i64 wh, .int .i64 qu, .int .i64 co, .int .i64 x, .int .i64 mo]] w fun e w' => e = .returned (.bool true) ∧ Fr (fun _ => False) w w' := by
  have hfA := (Fr.refl (fun _ => False) w).alloc (.cells #[.int .i64 3, .int .i64 wh, .int .i64 qu, .int .i64 co, .int .i64 x, .int .i64 mo] 35)
  have hob := Bl.new w 35 #[.int .i64 3, .int .i64 wh, .int .i64 qu, .int .i64 co, .int .i64 x, .int .i64 mo]
  go_enter Try.func20, Try.ntmps20
  go_wp2_with fail
  generalize hw0 : w.alloc (.cells #[.int .i64 3, .int .i64 wh, .int .i64 qu, .int .i64 co, .int .i64 x, .int .i64 mo] 35) = wA at hob hfA ⊢
  clear hw0
  have c2 : wA.cell? ⟨w.heap.size, 2, none⟩ = some (.int .i64 qu) := hob.cell' rfl
  go_quiet (first
    | (go_at_call 43; exact quiet_left (Len_nil _ _))
    | (go_at_call 44; exact quiet_left (rLen_nil _ _))
    | (go_at_call 45; exact quiet_left (Cost_nil _ _))
    | (go_at_call 46; exact quiet_left (rCost_nil _ _))
    | (go_at_call 47; exact quiet_left (Deficit_nil _ _))
    | (go_at_call 48; exact quiet_left (rDeficit_nil _ _)))
  go_wp2_with fail
  go_ret
  exact ⟨rfl, hfA.drewN nq⟩
set_option maxHeartbeats 4000000 in
set_option maxRecDepth 100000 in
theorem drop_none (w : World) (wh qu co x mo : Int) :
    Calls Try.prog 20 #[.pointer none, .pointer none, .agg #[.int .i64 2, .int .i64 wh, .int .i64 qu, .int .i64 co, .int .i64 x, .int .i64 mo]] w fun e w' => e = .returned (.bool true) ∧ Fr (fun _ => False) w w' := by
  have hfA := (Fr.refl (fun _ => False) w).alloc (.cells #[.int .i64 2, .int .i64 wh, .int .i64 qu, .int .i64 co, .int .i64 x, .int .i64 mo] 35)
  have hob := Bl.new w 35 #[.int .i64 2, .int .i64 wh, .int .i64 qu, .int .i64 co, .int .i64 x, .int .i64 mo]
  go_enter Try.func20, Try.ntmps20
  go_wp2_with fail
  generalize hw0 : w.alloc (.cells #[.int .i64 2, .int .i64 wh, .int .i64 qu, .int .i64 co, .int .i64 x, .int .i64 mo] 35) = wA at hob hfA ⊢
  clear hw0
  refine (Drop_nil wA qu).mono ?_
  rintro e w2 ⟨rfl, hf2⟩
  have c2 : w2.cell? ⟨w.heap.size, 2, none⟩ = some (.int .i64 qu) := (hob.fr hf2 id).cell' rfl
  go_wp2_with fail
  refine (rDrop_nil w2 qu).mono ?_
  rintro e w3 ⟨rfl, rfl⟩
  go_wp2_with fail
  refine (same_none w2).mono ?_
  rintro e w4 ⟨rfl, rfl⟩
  go_wp2_with fail
  go_loopw [12] (fun i wr => i = .int .i64 0 ∧ wr = w2) (fun _ _ => 0)
  case atStart => exact ⟨rfl, rfl⟩
  case round =>
    obtain ⟨rfl, rfl⟩ := hrel
    go_wp2_with fail
    go_ret
    exact ⟨rfl, hfA.trans hf2⟩
section
variable {d L : Nat} {D : Int} {s : DS (Int × Int)} {q : Nat} {b : DB} {rd : DR}
theorem does_any (w : World) (hd : DrrAt w d L D s) (hb : s.busy = false) (hm : DAt w q b rd) (ha : rd.at_ = -1) (hk : Like s rd) (hap : ∀ x, drfoot d L s x → ¬ dfoot q b rd x) (hD : 0 ≤ D) (hD2 : D + 4096 ≤ 4611686018427387904) (kd wh qu co x mo : Int) :
    Calls Try.prog 20 #[.pointer (some ⟨d, 0, none⟩), .pointer (some ⟨q, 0, none⟩), .agg #[.int .i64 kd, .int .i64 wh, .int .i64 qu, .int .i64 co, .int .i64 x, .int .i64 mo]] w fun e w' => e = .returned (.bool true) ∧ DoesOut w d L D s q b rd w' := by
  by_cases h1 : kd = 1
  · subst h1; exact does_add hd hb hm ha hk hap hD hD2 wh qu co x mo
  by_cases h2 : kd = 2
  · subst h2; exact does_drop hd hb hm ha hk hap hD hD2 wh qu co x mo
  by_cases h3 : kd = 3
  · subst h3; exact does_tell hd hb hm ha hk hap hD hD2 wh qu co x mo
  by_cases h4 : kd = 4
  · subst h4; exact does_round hd hb hm ha hk hap hD hD2 wh qu co x mo
  refine (does_other w _ _ kd wh qu co x mo h1 h2 h3 h4).mono ?_
  rintro e w' ⟨rfl, hf⟩
  exact ⟨rfl, DoesOut.still hd hb hm ha hk hap hD hD2 hf⟩
end
end Go.Proofs.Ytanfhmebjgmdpaa.Qi
end

section
/-
  DrrScripts: does, of none.
-/
namespace Go.Proofs.Ytanfhmebjgmdpaa.Qi
open Go.RowKit Go.Shelf
set_option linter.unusedVariables false
set_option linter.unusedSimpArgs false
attribute [local go_sem] Oper.semAt_some
set_option maxHeartbeats 1000000 in
theorem Add_none (w : World) (q c x : Int) : Calls Try.prog 16 #[.pointer none, .int .i64 q, .int .i64 c, .int .i64 x] w fun e w' => e = .returned (.int .i64 1) ∧ w = w' := by
  go_enter Try.func16, Try.ntmps16
  go_wp2_with fail
  refine (open_nil w q).mono ?_
  rintro e w' ⟨rfl, rfl⟩
  go_wp2_with fail
  go_ret
  exact ⟨rfl, rfl⟩
set_option maxHeartbeats 4000000 in
set_option maxRecDepth 100000 in
theorem add_none (w : World) (wh qu co x mo : Int) :
    Calls Try.prog 20 #[.pointer none, .pointer none, .agg #[.int .i64 1, .int .i64 wh, .int .i64 qu, .int .i64 co, .int .i64 x, .int .i64 mo]] w fun e w' => e = .returned (.bool true) ∧ Fr (fun _ => False) w w' := by
  have hfA := (Fr.refl (fun _ => False) w).alloc (.cells #[.int .i64 1, .int .i64 wh, .int .i64 qu, .int .i64 co, .int .i64 x, .int .i64 mo] 35)
  have hob := Bl.new w 35 #[.int .i64 1, .int .i64 wh, .int .i64 qu, .int .i64 co, .int .i64 x, .int .i64 mo]
  go_enter Try.func20, Try.ntmps20
  go_wp2_with fail
  generalize hw0 : w.alloc (.cells #[.int .i64 1, .int .i64 wh, .int .i64 qu, .int .i64 co, .int .i64 x, .int .i64 mo] 35) = wA at hob hfA ⊢
  clear hw0
  have c2 : wA.cell? ⟨w.heap.size, 2, none⟩ = some (.int .i64 qu) := hob.cell' rfl
  have c3 : wA.cell? ⟨w.heap.size, 3, none⟩ = some (.int .i64 co) := hob.cell' rfl
  have c4 : wA.cell? ⟨w.heap.size, 4, none⟩ = some (.int .i64 x) := hob.cell' rfl
  go_quiet (first
    | (go_at_call 16; exact quiet_left (Add_none _ _ _ _))
    | (go_at_call 41; exact quiet_left (rAdd_nil _ _ _ _)))
  go_wp2_with fail
  go_ret
  exact ⟨rfl, hfA.drewN nq⟩
theorem does_none (w : World) (kd wh qu co x mo : Int) :
    Calls Try.prog 20 #[.pointer none, .pointer none, .agg #[.int .i64 kd, .int .i64 wh, .int .i64 qu, .int .i64 co, .int .i64 x, .int .i64 mo]] w fun e w' => e = .returned (.bool true) ∧ Fr (fun _ => False) w w' := by
  by_cases h1 : kd = 1
  · subst h1; exact add_none w wh qu co x mo
  by_cases h2 : kd = 2
  · subst h2; exact drop_none w wh qu co x mo
  by_cases h3 : kd = 3
  · subst h3; exact tell_none w wh qu co x mo
  by_cases h4 : kd = 4
  · subst h4; exact round_none w wh qu co x mo
  exact does_other w _ _ kd wh qu co x mo h1 h2 h3 h4
end Go.Proofs.Ytanfhmebjgmdpaa.Qi
end

section
/-
  DrrScripts: rows of servers beside the document's.
-/
namespace Go.Proofs.Ytanfhmebjgmdpaa.Qi
open Go.RowKit Go.Shelf
set_option linter.unusedVariables false
/-- A server and the document's: where they lie, what they hold. -/
structure EE where
  d : Nat
  L : Nat
  s : DS (Int × Int)
  q : Nat
  b : DB
  rd : DR
def EE.foot (a : EE) : Nat → Prop := fun x => drfoot a.d a.L a.s x ∨ dfoot a.q a.b a.rd x
structure EOk (w : World) (D : Int) (a : EE) : Prop where
  dr : DrrAt w a.d a.L D a.s
  bz : a.s.busy = false
  dm : DAt w a.q a.b a.rd
  at_ : a.rd.at_ = -1
  like : Like a.s a.rd
  ap : ∀ x, drfoot a.d a.L a.s x → ¬ dfoot a.q a.b a.rd x
def ptrD : Option EE → Value
  | none => .pointer none
  | some a => .pointer (some ⟨a.d, 0, none⟩)
def ptrM : Option EE → Value
  | none => .pointer none
  | some a => .pointer (some ⟨a.q, 0, none⟩)
structure EW (B0 : Nat) (w : World) (D : Int) (Ls : List (Option EE)) : Prop where
  ok : ∀ a, some a ∈ Ls → EOk w D a
  sep : ∀ (i j : Nat) (a c : EE), Ls[i]? = some (some a) → Ls[j]? = some (some c) → i ≠ j → ∀ x, a.foot x → ¬ c.foot x
  lo : ∀ a, some a ∈ Ls → ∀ x, a.foot x → B0 ≤ x
section
variable {B0 : Nat} {w w' : World} {D : Int} {Ls : List (Option EE)} {S : Nat → Prop} {a : EE}
theorem EOk.fr (h : EOk w D a) (hf : Fr S w w') (hS : ∀ x, a.foot x → ¬ S x) : EOk w' D a :=
  ⟨h.dr.fr hf fun x hx => hS x (.inl hx), h.bz, h.dm.fr hf fun x hx => hS x (.inr hx), h.at_, h.like, h.ap⟩
theorem EOk.up (h : EOk w D a) (hD : D + 1024 ≤ 4611686018427387904) : EOk w (D + 1024) a := ⟨h.dr.up (by omega) (by omega), h.bz, h.dm, h.at_, h.like, h.ap⟩
theorem EOk.lt (h : EOk w D a) {x : Nat} (hx : a.foot x) : x < w.heap.size := hx.elim (fun e => h.dr.lt e) fun e => h.dm.lt_ e
theorem EW.fr (h : EW B0 w D Ls) (hf : Fr S w w') (hS : ∀ a, some a ∈ Ls → ∀ x, a.foot x → ¬ S x) : EW B0 w' D Ls :=
  ⟨fun a ha => (h.ok a ha).fr hf (hS a ha), h.sep, h.lo⟩
theorem EW.quiet (h : EW B0 w D Ls) (hf : Fr (fun _ => False) w w') : EW B0 w' D Ls := h.fr hf fun _ _ _ _ => id
theorem EW.up (h : EW B0 w D Ls) (hD : D + 1024 ≤ 4611686018427387904) : EW B0 w (D + 1024) Ls := ⟨fun a ha => (h.ok a ha).up hD, h.sep, h.lo⟩
theorem EW.step {i : Nat} (h : EW B0 w D Ls) (hB : B0 ≤ w.heap.size) (hD2 : D + 4096 ≤ 4611686018427387904) (hi : Ls[i]? = some (some a)) (ho : DoesOut w a.d a.L D a.s a.q a.b a.rd w') :
    Fr a.foot w w' ∧ ∃ a' : EE, a'.d = a.d ∧ a'.q = a.q ∧ (∀ x, a'.foot x → a.foot x ∨ w.heap.size ≤ x) ∧ EW B0 w' (D + 1024) (Ls.set i (some a')) := by
  obtain ⟨s', r', a1, a2, a3, a4, a5, a6, a7, a8, a9⟩ := ho
  have hlt : i < Ls.length := (List.getElem?_eq_some_iff.1 hi).1
  have hai := List.mem_of_getElem? hi
  have hgr : ∀ x, (⟨a.d, a.L, s', a.q, a.b, r'⟩ : EE).foot x → a.foot x ∨ w.heap.size ≤ x := fun x hx => hx.elim (fun e => (a6 x e).imp .inl id) fun e => (a7 x e).imp .inr id
  have hget : ∀ (j : Nat) (c : EE), (Ls.set i (some (⟨a.d, a.L, s', a.q, a.b, r'⟩ : EE)))[j]? = some (some c) → (j = i ∧ c = ⟨a.d, a.L, s', a.q, a.b, r'⟩) ∨ (j ≠ i ∧ Ls[j]? = some (some c)) := fun j c hc => by
    by_cases e : i = j
    · subst e
      rw [List.getElem?_set_self hlt] at hc
      exact .inl ⟨rfl, (Option.some.inj (Option.some.inj hc)).symm⟩
    · rw [List.getElem?_set_ne e] at hc
      exact .inr ⟨fun k => e k.symm, hc⟩
  have hap : ∀ (j : Nat) (c : EE), j ≠ i → Ls[j]? = some (some c) → ∀ x, c.foot x → ¬ (⟨a.d, a.L, s', a.q, a.b, r'⟩ : EE).foot x := fun j c hj hc x hx e => (hgr x e).elim (fun e => h.sep j i c a hc hi hj x hx e) fun e => by
    have := (h.ok c (List.mem_of_getElem? hc)).lt hx; omega
  refine ⟨a9, ⟨a.d, a.L, s', a.q, a.b, r'⟩, rfl, rfl, hgr, fun c hc => ?_, fun j k c e hj hk hjk x hx hy => ?_, fun c hc x hx => ?_⟩
  · obtain ⟨j, hj⟩ := List.mem_iff_getElem?.1 hc
    rcases hget j c hj with ⟨-, rfl⟩ | ⟨hj1, hj2⟩
    · exact ⟨a1, a2, a3, a4, a5, a8⟩
    · exact ((h.ok c (List.mem_of_getElem? hj2)).fr a9 fun x hx e => h.sep j i c a hj2 hi hj1 x hx e).up (by omega)
  · rcases hget j c hj with ⟨j1, rfl⟩ | ⟨hj1, hj2⟩
    · rcases hget k e hk with ⟨k1, rfl⟩ | ⟨hk1, hk2⟩
      · omega
      · exact hap k e hk1 hk2 x hy hx
    · rcases hget k e hk with ⟨k1, rfl⟩ | ⟨hk1, hk2⟩
      · exact hap j c hj1 hj2 x hx hy
      · exact h.sep j k c e hj2 hk2 hjk x hx hy
  · obtain ⟨j, hj⟩ := List.mem_iff_getElem?.1 hc
    rcases hget j c hj with ⟨-, rfl⟩ | ⟨hj1, hj2⟩
    · exact (hgr x hx).elim (fun e => h.lo a hai x e) fun e => by omega
    · exact h.lo c (List.mem_of_getElem? hj2) x hx
theorem app_get {α : Type} {l : List α} {y z : α} {j : Nat} (h : (l ++ [y])[j]? = some z) : (j < l.length ∧ l[j]? = some z) ∨ (j = l.length ∧ z = y) := by
  by_cases hj : j < l.length
  · rw [List.getElem?_append_left hj] at h; exact .inl ⟨hj, h⟩
  · have hlt := (List.getElem?_eq_some_iff.1 h).1
    rw [List.length_append, List.length_singleton] at hlt
    obtain rfl : j = l.length := by omega
    rw [List.getElem?_concat_length] at h
    exact .inr ⟨rfl, (Option.some.inj h).symm⟩
theorem EW.pushN (h : EW B0 w D Ls) : EW B0 w D (Ls ++ [none]) := by
  refine ⟨fun a ha => ?_, fun i j a c hi hj hij => ?_, fun a ha => ?_⟩
  · rcases List.mem_append.1 ha with ha | ha
    · exact h.ok a ha
    · simp at ha
  · rcases app_get hi with ⟨-, hi⟩ | ⟨-, hi⟩
    · rcases app_get hj with ⟨-, hj⟩ | ⟨-, hj⟩
      · exact h.sep i j a c hi hj hij
      · cases hj
    · cases hi
  · rcases List.mem_append.1 ha with ha | ha
    · exact h.lo a ha
    · simp at ha
theorem EW.push (h : EW B0 w D Ls) (hB : B0 ≤ w.heap.size) (hf : Fr (fun _ => False) w w') (hk : EOk w' D a) (hn : ∀ x, a.foot x → w.heap.size ≤ x) : EW B0 w' D (Ls ++ [some a]) := by
  have h2 := h.quiet hf
  refine ⟨fun c hc => ?_, fun i j c e hi hj hij x hx hy => ?_, fun c hc x hx => ?_⟩
  · rcases List.mem_append.1 hc with hc | hc
    · exact h2.ok c hc
    · simp at hc; subst hc; exact hk
  · rcases app_get hi with ⟨i1, hi⟩ | ⟨i1, hi⟩
    · rcases app_get hj with ⟨-, hj⟩ | ⟨-, hj⟩
      · exact h.sep i j c e hi hj hij x hx hy
      · cases hj
        have := (h.ok c (List.mem_of_getElem? hi)).lt hx
        have := hn x hy
        omega
    · cases hi
      rcases app_get hj with ⟨-, hj⟩ | ⟨j1, hj⟩
      · have := (h.ok e (List.mem_of_getElem? hj)).lt hy
        have := hn x hx
        omega
      · omega
  · rcases List.mem_append.1 hc with hc | hc
    · exact h.lo c hc x hx
    · simp at hc; subst hc; have := hn x hx; omega
end
end Go.Proofs.Ytanfhmebjgmdpaa.Qi
end
