/-
  Each call by one of several rings, or by one of the document's, made or none at all.
-/
import Derived.Test.YteleakbbppbnnaaRra
namespace Go.Proofs.Yteleakbbppbnnaa
open Go.RowKit
set_option linter.unusedVariables false
def keep_ : Nat → List Int → List Int := fun _ xs => xs
/-- What a call by the entry k leaves. -/
def StepE (B0 : Nat) (w : World) (L : List (Option RE)) (k : Nat) (e : Option RE) (f g : Nat → List Int → List Int) (w' : World) : Prop :=
  ∃ e', Turns f g e e' ∧ RW B0 w' (L.set k e') ∧ Fr (efoot e) w w' ∧ ∀ b, b < w.heap.size → efoot e' b → efoot e b
section
variable {B0 : Nat} {w w' : World} {L : List (Option RE)} {k : Nat} {e : Option RE} {a : RE} {f g : Nat → List Int → List Int}
theorem set_self (hk : L[k]? = some e) : L.set k e = L := by
  apply List.ext_getElem?
  intro i
  by_cases hi : k = i
  · subst hi
    rw [List.getElem?_set_self (List.getElem?_eq_some_iff.1 hk).1, hk]
  · rw [List.getElem?_set_ne hi]
theorem StepE.same (h : RW B0 w L) (hk : L[k]? = some e) (hf : Fr (fun _ => False) w w') (h1 : ∀ a, e = some a → f a.room a.xs = a.xs ∧ g a.room a.ys = a.ys) : StepE B0 w L k e f g w' := by
  refine ⟨e, ?_, by rw [set_self hk]; exact h.quiet hf, hf.weak _, fun _ _ h => h⟩
  cases e with
  | none => trivial
  | some a => exact ⟨rfl, rfl, rfl, (h1 a rfl).1.symm, (h1 a rfl).2.symm⟩
theorem StepE.of (h : RW B0 w L) (hB : B0 ≤ w.heap.size) (hk : L[k]? = some (some a)) (ho : MixOut w a.p a.g a.q a.lg a.room (f a.room a.xs) (g a.room a.ys) w') : StepE B0 w L k (some a) f g w' := by
  obtain ⟨a', h1, h2, h3, h4, h5, hR, hf, hn⟩ := h.turn hB hk ho
  exact ⟨some a', ⟨h1, h2, h3, h4, h5⟩, hR, hf, hn⟩
theorem StepE.left (h : RW B0 w L) (hB : B0 ≤ w.heap.size) (hk : L[k]? = some (some a)) (ho : ROut w a.p a.g a.room (f a.room a.xs) w') : StepE B0 w L k (some a) f keep_ w' :=
  .of h hB hk (Mix.left (h.look hk) ho)
theorem StepE.right (h : RW B0 w L) (hB : B0 ≤ w.heap.size) (hk : L[k]? = some (some a)) (ho : RefOut w a.q a.lg a.room (g a.room a.ys) w') : StepE B0 w L k (some a) keep_ g w' :=
  .of h hB hk (Mix.right (h.look hk) ho)
end
def few (e : Option RE) : Prop := ∀ a, e = some a → a.ys.length ≤ 65536
def popV : Option (List Int) → Value
  | none => .tuple #[.int .i64 0, .bool false]
  | some xs => .tuple #[.int .i64 (xs.headD 0), .bool (decide (0 < xs.length))]
def popF : Nat → List Int → List Int := fun _ xs => xs.drop 1
def atV (i : Int) : Option (List Int) → Value
  | none => .tuple #[.int .i64 0, .bool false]
  | some xs => if 0 ≤ i ∧ i < (xs.length : Int) then .tuple #[.int .i64 (xs.getD i.toNat 0), .bool true] else .tuple #[.int .i64 0, .bool false]
def putV (i : Int) : Option (List Int) → Int
  | none => 1
  | some xs => if 0 ≤ i ∧ i < (xs.length : Int) then 0 else 2
def putF (i x : Int) : Nat → List Int → List Int := fun _ xs => if 0 ≤ i ∧ i < (xs.length : Int) then xs.set i.toNat x else xs
def dropV (n : Int) : Option (List Int) → Int
  | none => 0
  | some xs => (dropN n xs.length : Int)
def dropF (n : Int) : Nat → List Int → List Int := fun _ xs => xs.drop (dropN n xs.length)
def pushV (m : Nat) : Option (Nat × List Int) → Int
  | none => 1
  | some (room, xs) => if xs.length + m ≤ room then 0 else 100
def pushF (l : List Int) : Nat → List Int → List Int := fun room xs => if xs.length + l.length ≤ room then xs ++ l else xs
def lenV : Option (List Int) → Int
  | none => 0
  | some xs => (xs.length : Int)
def roomV : Option Nat → Int
  | none => 0
  | some r => (r : Int)
section
variable {B0 : Nat} {L : List (Option RE)} {k : Nat} {e : Option RE}
theorem pop_ent (w : World) (h : RW B0 w L) (hB : B0 ≤ w.heap.size) (hk : L[k]? = some e) :
    Calls Try.prog 15 #[ptrP e] w fun r w' => r = .returned (popV (e.map RE.xs)) ∧ StepE B0 w L k e popF keep_ w' := by
  cases e with
  | none =>
    refine (pop_nil w).mono ?_
    rintro r w' ⟨rfl, rfl⟩
    exact ⟨rfl, .same h hk (Fr.refl _ _) (fun a e => by cases e)⟩
  | some a =>
    refine (pop_any w (h.look hk).a).mono ?_
    rintro r w' ⟨rfl, hr⟩
    exact ⟨rfl, .left h hB hk hr.out⟩
theorem rpop_ent (w : World) (h : RW B0 w L) (hB : B0 ≤ w.heap.size) (hk : L[k]? = some e) (hb : few e) :
    Calls Try.prog 29 #[ptrQ e] w fun r w' => r = .returned (popV (e.map RE.ys)) ∧ StepE B0 w L k e keep_ popF w' := by
  cases e with
  | none =>
    refine (rpop_nil w).mono ?_
    rintro r w' ⟨rfl, rfl⟩
    exact ⟨rfl, .same h hk (Fr.refl _ _) (fun a e => by cases e)⟩
  | some a =>
    refine (rpop_any w (h.look hk).b (hb a rfl)).mono ?_
    rintro r w' ⟨rfl, hr⟩
    exact ⟨rfl, .right h hB hk (RefKeep.out hr)⟩
theorem at_ent (w : World) (h : RW B0 w L) (hk : L[k]? = some e) (i : Int) :
    Calls Try.prog 25 #[ptrP e, .int .i64 i] w fun r w' => r = .returned (atV i (e.map RE.xs)) ∧ Fr (fun _ => False) w w' := by
  cases e with
  | none =>
    refine (at_nil w i).mono ?_
    rintro r w' ⟨rfl, rfl⟩
    exact ⟨rfl, Fr.refl _ _⟩
  | some a =>
    obtain ⟨C, cc, s, e1, e2, hr⟩ := (h.look hk).a
    by_cases hi : 0 ≤ i ∧ i < (a.xs.length : Int)
    · obtain ⟨j, rfl⟩ := Int.eq_ofNat_of_zero_le hi.1
      have hj : j < s.xs.length := by rw [e2]; omega
      refine (at_in w hr j hj).mono ?_
      rintro r w' ⟨rfl, m, rfl⟩
      refine ⟨?_, (Fr.refl _ _).drewN m⟩
      show _ = Ending.returned (atV _ (some a.xs))
      have hj' : j < a.xs.length := by omega
      have : s.xs[j] = a.xs.getD j 0 := by simp [List.getD, ← e2, List.getElem?_eq_getElem hj]
      rw [atV, if_pos hi, this]; rfl
    · refine (at_out w i hr.bl (by rw [e2]; omega)).mono ?_
      rintro r w' ⟨rfl, rfl⟩
      refine ⟨?_, Fr.refl _ _⟩
      show _ = Ending.returned (atV _ (some a.xs))
      rw [atV, if_neg hi]
theorem rat_ent (w : World) (h : RW B0 w L) (hk : L[k]? = some e) (hb : few e) (i : Int) :
    Calls Try.prog 30 #[ptrQ e, .int .i64 i] w fun r w' => r = .returned (atV i (e.map RE.ys)) ∧ Fr (fun _ => False) w w' := by
  cases e with
  | none =>
    refine (rat_nil w i).mono ?_
    rintro r w' ⟨rfl, rfl⟩
    exact ⟨rfl, Fr.refl _ _⟩
  | some a =>
    by_cases hi : 0 ≤ i ∧ i < (a.ys.length : Int)
    · obtain ⟨j, rfl⟩ := Int.eq_ofNat_of_zero_le hi.1
      have hj : j < a.ys.length := by omega
      refine (rat_in w (h.look hk).b j hj (hb a rfl)).mono ?_
      rintro r w' ⟨rfl, hf⟩
      refine ⟨?_, hf⟩
      show _ = Ending.returned (atV _ (some a.ys))
      have : a.ys[j] = a.ys.getD j 0 := by simp [List.getD, List.getElem?_eq_getElem hj]
      rw [atV, if_pos hi, this]; rfl
    · refine (rat_out w (h.look hk).b i (by omega)).mono ?_
      rintro r w' ⟨rfl, rfl⟩
      refine ⟨?_, Fr.refl _ _⟩
      show _ = Ending.returned (atV _ (some a.ys))
      rw [atV, if_neg hi]
theorem put_ent (w : World) (h : RW B0 w L) (hB : B0 ≤ w.heap.size) (hk : L[k]? = some e) (i x : Int) :
    Calls Try.prog 31 #[ptrP e, .int .i64 i, .int .i64 x] w fun r w' => r = .returned (.int .i64 (putV i (e.map RE.xs))) ∧ StepE B0 w L k e (putF i x) keep_ w' := by
  cases e with
  | none =>
    refine (put_nil w i x).mono ?_
    rintro r w' ⟨rfl, rfl⟩
    exact ⟨rfl, .same h hk (Fr.refl _ _) (fun a e => by cases e)⟩
  | some a =>
    by_cases hi : 0 ≤ i ∧ i < (a.xs.length : Int)
    · have e1 : putF i x a.room a.xs = a.xs.set i.toNat x := if_pos hi
      have e2 : putV i (some a.xs) = 0 := if_pos hi
      obtain ⟨j, rfl⟩ := Int.eq_ofNat_of_zero_le hi.1
      refine (put_in w (h.look hk).a j x (by omega)).mono ?_
      rintro r w' ⟨rfl, hr⟩
      refine ⟨?_, .left h hB hk (by rw [e1]; exact hr.out)⟩
      show _ = Ending.returned (.int .i64 (putV _ (some a.xs)))
      rw [e2]
    · refine (put_out w (h.look hk).a i x (by omega)).mono ?_
      rintro r w' ⟨rfl, rfl⟩
      refine ⟨?_, .same h hk (Fr.refl _ _) (fun b e => by cases e; exact ⟨if_neg hi, rfl⟩)⟩
      show _ = Ending.returned (.int .i64 (putV _ (some a.xs)))
      rw [putV, if_neg hi]
theorem rput_ent (w : World) (h : RW B0 w L) (hB : B0 ≤ w.heap.size) (hk : L[k]? = some e) (hb : few e) (i x : Int) :
    Calls Try.prog 32 #[ptrQ e, .int .i64 i, .int .i64 x] w fun r w' => r = .returned (.int .i64 (putV i (e.map RE.ys))) ∧ StepE B0 w L k e keep_ (putF i x) w' := by
  cases e with
  | none =>
    refine (rput_nil w i x).mono ?_
    rintro r w' ⟨rfl, rfl⟩
    exact ⟨rfl, .same h hk (Fr.refl _ _) (fun a e => by cases e)⟩
  | some a =>
    by_cases hi : 0 ≤ i ∧ i < (a.ys.length : Int)
    · have e1 : putF i x a.room a.ys = a.ys.set i.toNat x := if_pos hi
      have e2 : putV i (some a.ys) = 0 := if_pos hi
      obtain ⟨j, rfl⟩ := Int.eq_ofNat_of_zero_le hi.1
      refine (rput_in w (h.look hk).b j x (by omega) (hb a rfl)).mono ?_
      rintro r w' ⟨rfl, hr⟩
      refine ⟨?_, .right h hB hk (by rw [e1]; exact RefKeep.out hr)⟩
      show _ = Ending.returned (.int .i64 (putV _ (some a.ys)))
      rw [e2]
    · refine (rput_out w (h.look hk).b i x (by omega)).mono ?_
      rintro r w' ⟨rfl, rfl⟩
      refine ⟨?_, .same h hk (Fr.refl _ _) (fun b e => by cases e; exact ⟨rfl, if_neg hi⟩)⟩
      show _ = Ending.returned (.int .i64 (putV _ (some a.ys)))
      rw [putV, if_neg hi]
theorem drop_ent (w : World) (h : RW B0 w L) (hB : B0 ≤ w.heap.size) (hk : L[k]? = some e) (n : Int) :
    Calls Try.prog 16 #[ptrP e, .int .i64 n] w fun r w' => r = .returned (.int .i64 (dropV n (e.map RE.xs))) ∧ StepE B0 w L k e (dropF n) keep_ w' := by
  cases e with
  | none =>
    refine (drop_nil w n).mono ?_
    rintro r w' ⟨rfl, rfl⟩
    exact ⟨rfl, .same h hk (Fr.refl _ _) (fun a e => by cases e)⟩
  | some a =>
    refine (dropR_any w n (h.look hk).a).mono ?_
    rintro r w' ⟨rfl, hr⟩
    exact ⟨rfl, .left h hB hk hr.out⟩
theorem rdrop_ent (w : World) (h : RW B0 w L) (hB : B0 ≤ w.heap.size) (hk : L[k]? = some e) (hb : few e) (n : Int) :
    Calls Try.prog 33 #[ptrQ e, .int .i64 n] w fun r w' => r = .returned (.int .i64 (dropV n (e.map RE.ys))) ∧ StepE B0 w L k e keep_ (dropF n) w' := by
  cases e with
  | none =>
    refine (rdrop_nil w n).mono ?_
    rintro r w' ⟨rfl, hf⟩
    exact ⟨rfl, .same h hk hf (fun a e => by cases e)⟩
  | some a =>
    refine (rdrop_any w (h.look hk).b (hb a rfl) n).mono ?_
    rintro r w' ⟨rfl, hr⟩
    exact ⟨rfl, .right h hB hk (RefKeep.out hr)⟩
def pairOf (f : RE → List Int) (e : Option RE) : Option (Nat × List Int) := e.map fun a => (a.room, f a)
theorem push_ent (w : World) (h : RW B0 w L) (hB : B0 ≤ w.heap.size) (hk : L[k]? = some e) (A : Option Addr) (m c : Nat) (l : List Int) (hl : Sl w 1 A m (l.map iv))
    (hap : 0 < m → ∀ b, (∃ o, A = some ⟨b, o, none⟩) → b < w.heap.size → ¬ efoot e b) :
    Calls Try.prog 9 #[ptrP e, .slice A m c] w fun r w' => r = .returned (.int .i64 (pushV m (pairOf RE.xs e))) ∧ StepE B0 w L k e (pushF l) keep_ w' := by
  have hm : l.length = m := by have := hl.1; simpa using this
  cases e with
  | none =>
    refine (push_nil w A m c).mono ?_
    rintro r w' ⟨rfl, rfl⟩
    exact ⟨rfl, .same h hk (Fr.refl _ _) (fun a e => by cases e)⟩
  | some a =>
    by_cases hfit : a.xs.length + m ≤ a.room
    · have e1 : pushF l a.room a.xs = a.xs ++ l := if_pos (by rw [hm]; exact hfit)
      refine (push_ok w (h.look hk).a A m c l hl (fun h0 b hA hb hf => hap h0 b hA hb ⟨a, rfl, .inl hf⟩) hfit).mono ?_
      rintro r w' ⟨rfl, hr⟩
      refine ⟨?_, .left h hB hk (by rw [e1]; exact hr)⟩
      show _ = Ending.returned (.int .i64 (pushV m (some (a.room, a.xs))))
      rw [pushV, if_pos hfit]
    · refine (push_full w (h.look hk).a A m c hfit).mono ?_
      rintro r w' ⟨rfl, hf⟩
      refine ⟨?_, .same h hk hf (fun b e => by cases e; exact ⟨if_neg (by rw [hm]; exact hfit), rfl⟩)⟩
      show _ = Ending.returned (.int .i64 (pushV m (some (a.room, a.xs))))
      rw [pushV, if_neg hfit]
theorem rpush_ent (w : World) (h : RW B0 w L) (hB : B0 ≤ w.heap.size) (hk : L[k]? = some e) (hb : few e) (A : Option Addr) (m c : Nat) (hm0 : m ≤ 4611686018427387904) (l : List Int) (hl : Sl w 1 A m (l.map iv)) :
    Calls Try.prog 27 #[ptrQ e, .slice A m c] w fun r w' => r = .returned (.int .i64 (pushV m (pairOf RE.ys e))) ∧ StepE B0 w L k e keep_ (pushF l) w' := by
  have hm : l.length = m := by have := hl.1; simpa using this
  cases e with
  | none =>
    refine (rpush_nil w A m c).mono ?_
    rintro r w' ⟨rfl, rfl⟩
    exact ⟨rfl, .same h hk (Fr.refl _ _) (fun a e => by cases e)⟩
  | some a =>
    have hbd := (h.look hk).a.bounds
    by_cases hfit : a.ys.length + m ≤ a.room
    · have e1 : pushF l a.room a.ys = a.ys ++ l := if_pos (by rw [hm]; exact hfit)
      refine (rpush_ok w (h.look hk).b A m c l hl hfit hbd.2.1).mono ?_
      rintro r w' ⟨rfl, hr⟩
      refine ⟨?_, .right h hB hk (by rw [e1]; exact hr)⟩
      show _ = Ending.returned (.int .i64 (pushV m (some (a.room, a.ys))))
      rw [pushV, if_pos hfit]
    · refine (rpush_full w (h.look hk).b A m c hfit (hb a rfl) hm0 hbd.2.1).mono ?_
      rintro r w' ⟨rfl, hf⟩
      refine ⟨?_, .same h hk hf (fun b e => by cases e; exact ⟨rfl, if_neg (by rw [hm]; exact hfit)⟩)⟩
      show _ = Ending.returned (.int .i64 (pushV m (some (a.room, a.ys))))
      rw [pushV, if_neg hfit]
theorem len_ent (w : World) (h : RW B0 w L) (hk : L[k]? = some e) :
    Calls Try.prog 13 #[ptrP e] w fun r w' => r = .returned (.int .i64 (lenV (e.map RE.xs))) ∧ w = w' := by
  cases e with
  | none => exact len_nil w
  | some a => exact lenR_any w (h.look hk).a
theorem rlen_ent (w : World) (h : RW B0 w L) (hk : L[k]? = some e) :
    Calls Try.prog 34 #[ptrQ e] w fun r w' => r = .returned (.int .i64 (lenV (e.map RE.ys))) ∧ w = w' := by
  cases e with
  | none => exact rlen_nil w
  | some a => exact rlen_any w (h.look hk).b
theorem room_ent (w : World) (h : RW B0 w L) (hk : L[k]? = some e) :
    Calls Try.prog 12 #[ptrP e] w fun r w' => r = .returned (.int .i64 (roomV (e.map RE.room))) ∧ w = w' := by
  cases e with
  | none => exact room_nil w
  | some a => exact roomR_any w (h.look hk).a
theorem rroom_ent (w : World) (h : RW B0 w L) (hk : L[k]? = some e) :
    Calls Try.prog 35 #[ptrQ e] w fun r w' => r = .returned (.int .i64 (roomV (e.map RE.room))) ∧ w = w' := by
  cases e with
  | none => exact rroom_nil w
  | some a => exact rroom_any w (h.look hk).b
end
end Go.Proofs.Yteleakbbppbnnaa
