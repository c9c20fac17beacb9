/-
  Move between two of several rings, and between two of the document's.
-/
import Derived.Test.YteleakbbppbnnaaRrc
namespace Go.Proofs.Yteleakbbppbnnaa
open Go.RowKit
set_option linter.unusedVariables false
def xsOf (L : List (Option RE)) : List (Option (List Int)) := L.map (Option.map RE.xs)
def ysOf (L : List (Option RE)) : List (Option (List Int)) := L.map (Option.map RE.ys)
def placesOf (L : List (Option RE)) : List (Option (Nat × Nat × Nat)) := L.map (Option.map fun a => (a.p, a.q, a.room))
/-- How many are moved. -/
def mvN (n : Int) (nx rq ny : Nat) : Nat := min n.toNat (min nx (rq - ny))
/-- What Move answers: of the rooms of the second, and of what the two hold. -/
def mvV (same : Bool) (n : Int) (rq : Nat) : Option (List Int) → Option (List Int) → Int × Int
  | some xs, some ys => if same = true ∨ n < 0 then (0, 2) else ((mvN n xs.length rq ys.length : Nat), 0)
  | _, _ => (0, 1)
/-- What Move leaves in the list of what all hold. -/
def mvX (k kt : Nat) (n : Int) (rq : Nat) (X : List (Option (List Int))) : List (Option (List Int)) :=
  match X[k]?, X[kt]? with
  | some (some xs), some (some ys) => if k = kt ∨ n < 0 then X else (X.set k (some (xs.drop (mvN n xs.length rq ys.length)))).set kt (some (ys ++ xs.take (mvN n xs.length rq ys.length)))
  | _, _ => X
def roomOf : Option RE → Nat
  | none => 0
  | some a => a.room
section
variable {B0 wb : Nat} {w w' : World} {L L' : List (Option RE)} {k kt : Nat} {a c a' c' : RE} {e f : Option RE}
theorem RW.step2 (h : RW B0 w L) (hB : B0 ≤ w.heap.size) (hk : L[k]? = some (some a)) (hkt : L[kt]? = some (some c)) (hne : k ≠ kt) (hf : Fr (fun b => a.foot b ∨ c.foot b) w w')
    (hma : MixE w' a') (hmc : MixE w' c') (hdis : ∀ b, a'.foot b → ¬ c'.foot b) (hna : ∀ b, b < w.heap.size → a'.foot b → a.foot b ∨ c.foot b) (hnc : ∀ b, b < w.heap.size → c'.foot b → a.foot b ∨ c.foot b) :
    RW B0 w' ((L.set k (some a')).set kt (some c')) ∧ Fr (feet L fun i => i = k ∨ i = kt) w w' := by
  have hlk : k < L.length := (List.getElem?_eq_some_iff.1 hk).1
  have hlt : kt < L.length := (List.getElem?_eq_some_iff.1 hkt).1
  have g1 : ((L.set k (some a')).set kt (some c'))[k]? = some (some a') := by rw [List.getElem?_set_ne hne.symm, List.getElem?_set_self hlk]
  have g2 : ((L.set k (some a')).set kt (some c'))[kt]? = some (some c') := by rw [List.getElem?_set_self (by simpa using hlt)]
  have hfe : ∀ b, a.foot b ∨ c.foot b → feet L (fun i => i = k ∨ i = kt) b := by
    rintro b (hb | hb)
    · exact ⟨k, _, .inl rfl, hk, a, rfl, hb⟩
    · exact ⟨kt, _, .inr rfl, hkt, c, rfl, hb⟩
  have hfr : Fr (feet L fun i => i = k ∨ i = kt) w w' := hf.mono fun b _ hb => hfe b hb
  refine ⟨h.step (I := fun i => i = k ∨ i = kt) hB hfr (fun i hi => ?_) ?_ ?_, hfr⟩
  · rw [List.getElem?_set_ne (fun e => hi (.inr e.symm)), List.getElem?_set_ne (fun e => hi (.inl e.symm))]
  · rintro i d (rfl | rfl) hd
    · rw [g1] at hd; cases hd
      exact ⟨hma, fun b hb hfo => hfe b (hna b hb hfo)⟩
    · rw [g2] at hd; cases hd
      exact ⟨hmc, fun b hb hfo => hfe b (hnc b hb hfo)⟩
  · rintro i j d d' (rfl | rfl) (rfl | rfl) hij h1 h2
    · exact absurd rfl hij
    · rw [g1] at h1; rw [g2] at h2; cases h1; cases h2
      exact hdis
    · rw [g2] at h1; rw [g1] at h2; cases h1; cases h2
      exact fun b h1 h2 => hdis b h2 h1
    · exact absurd rfl hij
theorem RW.mv1 {xs' ys' : List Int} (h : RW B0 w L) (hB : B0 ≤ w.heap.size) (hk : L[k]? = some (some a)) (hkt : L[kt]? = some (some c)) (hne : k ≠ kt)
    (ho : DuoOut w a.p a.g a.room xs' c.p c.g c.room ys' w') :
    ∃ ga gc, RW B0 w' ((L.set k (some { a with g := ga, xs := xs' })).set kt (some { c with g := gc, xs := ys' })) ∧ Fr (feet L fun i => i = k ∨ i = kt) w w' := by
  obtain ⟨ga, gc, hd, hf, hn⟩ := ho
  have ha := h.look hk
  have hc := h.look hkt
  have hs := h.sep k kt a c hk hkt hne
  have hs' : ∀ b, c.foot b → ¬ a.foot b := fun b h1 h2 => hs b h2 h1
  have hra : RefI w' a.q a.lg a.room a.ys := ha.b.fr hf fun b hb e => e.elim (fun e => ha.ap b e hb) (fun e => hs b (.inr hb) (.inl e))
  have hrc : RefI w' c.q c.lg c.room c.ys := hc.b.fr hf fun b hb e => e.elim (fun e => hs b (.inl e) (.inr hb)) (fun e => hc.ap b e hb)
  have nA : ∀ b, foot a.p ga b → rfoot a.q a.lg b → False := fun b h1 h2 => by
    rcases hn b (ha.b.lt h2) (.inl h1) with e | e
    · exact ha.ap b e h2
    · exact hs b (.inr h2) (.inl e)
  have nA' : ∀ b, foot a.p ga b → rfoot c.q c.lg b → False := fun b h1 h2 => by
    rcases hn b (hc.b.lt h2) (.inl h1) with e | e
    · exact hs b (.inl e) (.inr h2)
    · exact hc.ap b e h2
  have nC : ∀ b, foot c.p gc b → rfoot c.q c.lg b → False := fun b h1 h2 => by
    rcases hn b (hc.b.lt h2) (.inr h1) with e | e
    · exact hs b (.inl e) (.inr h2)
    · exact hc.ap b e h2
  have nC' : ∀ b, foot c.p gc b → rfoot a.q a.lg b → False := fun b h1 h2 => by
    rcases hn b (ha.b.lt h2) (.inr h1) with e | e
    · exact ha.ap b e h2
    · exact hs b (.inr h2) (.inl e)
  refine ⟨ga, gc, h.step2 hB hk hkt hne (hf.mono fun b _ e => e.imp .inl .inl) ⟨hd.a, hra, fun b h1 h2 => nA b h1 h2⟩ ⟨hd.b, hrc, fun b h1 h2 => nC b h1 h2⟩ ?_ ?_ ?_⟩
  · rintro b (h1 | h1) (h2 | h2)
    · exact hd.ap b h1 h2
    · exact nA' b h1 h2
    · exact nC' b h2 h1
    · exact hs b (.inr h1) (.inr h2)
  · rintro b hb (h1 | h1)
    · exact (hn b hb (.inl h1)).imp .inl .inl
    · exact .inl (.inr h1)
  · rintro b hb (h1 | h1)
    · exact (hn b hb (.inr h1)).imp .inl .inl
    · exact .inr (.inr h1)
theorem RW.mv2 {xs' ys' : List Int} (h : RW B0 w L) (hB : B0 ≤ w.heap.size) (hk : L[k]? = some (some a)) (hkt : L[kt]? = some (some c)) (hne : k ≠ kt)
    (ho : RDuoOut w a.q a.lg a.room xs' c.q c.lg c.room ys' w') :
    ∃ ga gc, RW B0 w' ((L.set k (some { a with lg := ga, ys := xs' })).set kt (some { c with lg := gc, ys := ys' })) ∧ Fr (feet L fun i => i = k ∨ i = kt) w w' := by
  obtain ⟨ga, gc, hd, hf, hn⟩ := ho
  have ha := h.look hk
  have hc := h.look hkt
  have hs := h.sep k kt a c hk hkt hne
  have hra : RI w' a.p a.g a.room a.xs := ha.a.fr hf fun b hb e => e.elim (fun e => ha.ap b hb e) (fun e => hs b (.inl hb) (.inr e))
  have hrc : RI w' c.p c.g c.room c.xs := hc.a.fr hf fun b hb e => e.elim (fun e => hs b (.inr e) (.inl hb)) (fun e => hc.ap b hb e)
  have nA : ∀ b, rfoot a.q ga b → foot a.p a.g b → False := fun b h1 h2 => by
    rcases hn b (ha.a.lt h2) (.inl h1) with e | e
    · exact ha.ap b h2 e
    · exact hs b (.inl h2) (.inr e)
  have nA' : ∀ b, rfoot a.q ga b → foot c.p c.g b → False := fun b h1 h2 => by
    rcases hn b (hc.a.lt h2) (.inl h1) with e | e
    · exact hs b (.inr e) (.inl h2)
    · exact hc.ap b h2 e
  have nC : ∀ b, rfoot c.q gc b → foot c.p c.g b → False := fun b h1 h2 => by
    rcases hn b (hc.a.lt h2) (.inr h1) with e | e
    · exact hs b (.inr e) (.inl h2)
    · exact hc.ap b h2 e
  have nC' : ∀ b, rfoot c.q gc b → foot a.p a.g b → False := fun b h1 h2 => by
    rcases hn b (ha.a.lt h2) (.inr h1) with e | e
    · exact ha.ap b h2 e
    · exact hs b (.inl h2) (.inr e)
  refine ⟨ga, gc, h.step2 hB hk hkt hne (hf.mono fun b _ e => e.imp .inr .inr) ⟨hra, hd.a, fun b h1 h2 => nA b h2 h1⟩ ⟨hrc, hd.b, fun b h1 h2 => nC b h2 h1⟩ ?_ ?_ ?_⟩
  · rintro b (h1 | h1) (h2 | h2)
    · exact hs b (.inl h1) (.inl h2)
    · exact nC' b h2 h1
    · exact nA' b h1 h2
    · exact hd.ap b h1 h2
  · rintro b hb (h1 | h1)
    · exact .inl (.inl h1)
    · exact (hn b hb (.inl h1)).imp .inr .inr
  · rintro b hb (h1 | h1)
    · exact .inr (.inl h1)
    · exact (hn b hb (.inr h1)).imp .inr .inr
/-- What a Move of the entries k and kt leaves. -/
def Moves (B0 : Nat) (w : World) (L : List (Option RE)) (k kt : Nat) (w' : World) (L1 : List (Option RE)) : Prop :=
  placesOf L1 = placesOf L ∧ RW B0 w' L1 ∧ Fr (feet L fun i => i = k ∨ i = kt) w w'
theorem Moves.same (h : RW B0 w L) : Moves B0 w L k kt w L := ⟨rfl, h, Fr.refl _ _⟩
theorem xsOf_get {L : List (Option RE)} {k : Nat} (hk : L[k]? = some e) : (xsOf L)[k]? = some (e.map RE.xs) := by unfold xsOf; rw [List.getElem?_map, hk]; rfl
theorem ysOf_get {L : List (Option RE)} {k : Nat} (hk : L[k]? = some e) : (ysOf L)[k]? = some (e.map RE.ys) := by unfold ysOf; rw [List.getElem?_map, hk]; rfl
theorem mvX_no {X : List (Option (List Int))} {n : Int} {rq : Nat} (h : X[k]? = some none ∨ X[kt]? = some none ∨ k = kt ∨ n < 0) : mvX k kt n rq X = X := by
  unfold mvX
  split
  · rename_i xs ys h1 h2
    rcases h with h | h | h
    · rw [h1] at h; cases h
    · rw [h2] at h; cases h
    · exact if_pos h
  · rfl
theorem mvX_yes {X : List (Option (List Int))} {n : Int} {rq : Nat} {xs ys : List Int} (h1 : X[k]? = some (some xs)) (h2 : X[kt]? = some (some ys)) (h : ¬ (k = kt ∨ n < 0)) :
    mvX k kt n rq X = (X.set k (some (xs.drop (mvN n xs.length rq ys.length)))).set kt (some (ys ++ xs.take (mvN n xs.length rq ys.length))) := by
  unfold mvX
  rw [h1, h2]
  exact if_neg h
theorem ptr_ne (h : RW B0 w L) (hk : L[k]? = some (some a)) (hkt : L[kt]? = some (some c)) (hne : k ≠ kt) : ∀ b, a.foot b → ¬ c.foot b := h.sep k kt a c hk hkt hne
theorem move_ent (w : World) (h : RW B0 w L) (hB : B0 ≤ w.heap.size) (hk : L[k]? = some e) (hkt : L[kt]? = some f) (n : Int) :
    Calls Try.prog 14 #[ptrP e, ptrP f, .int .i64 n] w fun r w' => r = .returned (.tuple #[.int .i64 (mvV (decide (k = kt)) n (roomOf f) (e.map RE.xs) (f.map RE.xs)).1, .int .i64 (mvV (decide (k = kt)) n (roomOf f) (e.map RE.xs) (f.map RE.xs)).2]) ∧
      ∃ L1, Moves B0 w L k kt w' L1 ∧ xsOf L1 = mvX k kt n (roomOf f) (xsOf L) ∧ ysOf L1 = ysOf L := by
  cases e with
  | none =>
    refine (move_nil1 w _ n).mono ?_
    rintro r w' ⟨rfl, rfl⟩
    exact ⟨rfl, L, .same h, (mvX_no (.inl (xsOf_get hk))).symm, rfl⟩
  | some a =>
    cases f with
    | none =>
      refine (move_nil2 w a.p n).mono ?_
      rintro r w' ⟨rfl, rfl⟩
      exact ⟨rfl, L, .same h, (mvX_no (.inr (.inl (xsOf_get hkt)))).symm, rfl⟩
    | some c =>
      by_cases hkk : k = kt
      · subst hkk
        rw [hk] at hkt
        cases hkt
        refine (move_same w a.p n).mono ?_
        rintro r w' ⟨rfl, rfl⟩
        refine ⟨?_, L, .same h, (mvX_no (.inr (.inr (.inl rfl)))).symm, rfl⟩
        have : mvV (decide (k = k)) n (roomOf (some a)) (some a.xs) (some a.xs) = (0, 2) := if_pos (.inl (by simp))
        show _ = Ending.returned (.tuple #[.int .i64 (mvV _ _ _ (some a.xs) (some a.xs)).1, .int .i64 (mvV _ _ _ (some a.xs) (some a.xs)).2])
        rw [this]
      · have hD : Duo w a.p a.g a.room a.xs c.p c.g c.room c.xs := ⟨(h.look hk).a, (h.look hkt).a, fun b h1 h2 => h.sep k kt a c hk hkt hkk b (.inl h1) (.inl h2)⟩
        by_cases hn : n < 0
        · refine (move_bad w hD n hn).mono ?_
          rintro r w' ⟨rfl, rfl⟩
          refine ⟨?_, L, .same h, (mvX_no (.inr (.inr (.inr hn)))).symm, rfl⟩
          have : mvV (decide (k = kt)) n (roomOf (some c)) (some a.xs) (some c.xs) = (0, 2) := if_pos (.inr hn)
          show _ = Ending.returned (.tuple #[.int .i64 (mvV _ _ _ (some a.xs) (some c.xs)).1, .int .i64 (mvV _ _ _ (some a.xs) (some c.xs)).2])
          rw [this]
        · refine (move_ok w hD n (by omega) (mvN n a.xs.length c.room c.xs.length) rfl).mono ?_
          rintro r w' ⟨rfl, ho⟩
          obtain ⟨ga, gc, hR, hf⟩ := h.mv1 hB hk hkt hkk ho
          have hno : ¬ ((decide (k = kt)) = true ∨ n < 0) := by simp [hkk]; omega
          refine ⟨?_, _, ⟨?_, hR, hf⟩, ?_, ?_⟩
          · have : mvV (decide (k = kt)) n (roomOf (some c)) (some a.xs) (some c.xs) = ((((mvN n a.xs.length c.room c.xs.length : Nat) : Int)), 0) := if_neg hno
            show _ = Ending.returned (.tuple #[.int .i64 (mvV _ _ _ (some a.xs) (some c.xs)).1, .int .i64 (mvV _ _ _ (some a.xs) (some c.xs)).2])
            rw [this]
          · unfold placesOf
            rw [List.map_set, List.map_set]
            apply List.ext_getElem?
            intro i
            by_cases h2 : kt = i
            · subst h2
              rw [List.getElem?_set_self (by have := (List.getElem?_eq_some_iff.1 hkt).1; simpa using this), List.getElem?_map, hkt]; rfl
            · rw [List.getElem?_set_ne h2]
              by_cases h1 : k = i
              · subst h1
                rw [List.getElem?_set_self (by have := (List.getElem?_eq_some_iff.1 hk).1; simpa using this), List.getElem?_map, hk]; rfl
              · rw [List.getElem?_set_ne h1]
          · rw [mvX_yes (xsOf_get hk) (xsOf_get hkt) (by omega)]
            unfold xsOf
            rw [List.map_set, List.map_set]; rfl
          · unfold ysOf
            rw [List.map_set, List.map_set]
            apply List.ext_getElem?
            intro i
            by_cases h2 : kt = i
            · subst h2
              rw [List.getElem?_set_self (by have := (List.getElem?_eq_some_iff.1 hkt).1; simpa using this), List.getElem?_map, hkt]; rfl
            · rw [List.getElem?_set_ne h2]
              by_cases h1 : k = i
              · subst h1
                rw [List.getElem?_set_self (by have := (List.getElem?_eq_some_iff.1 hk).1; simpa using this), List.getElem?_map, hk]; rfl
              · rw [List.getElem?_set_ne h1]
theorem rmove_ent (w : World) (h : RW B0 w L) (hB : B0 ≤ w.heap.size) (hk : L[k]? = some e) (hkt : L[kt]? = some f) (he : few e) (hf0 : ∀ c, f = some c → c.ys.length ≤ c.room) (n : Int) :
    Calls Try.prog 37 #[ptrQ e, ptrQ f, .int .i64 n] w fun r w' => r = .returned (.tuple #[.int .i64 (mvV (decide (k = kt)) n (roomOf f) (e.map RE.ys) (f.map RE.ys)).1, .int .i64 (mvV (decide (k = kt)) n (roomOf f) (e.map RE.ys) (f.map RE.ys)).2]) ∧
      ∃ L1, Moves B0 w L k kt w' L1 ∧ ysOf L1 = mvX k kt n (roomOf f) (ysOf L) ∧ xsOf L1 = xsOf L := by
  cases e with
  | none =>
    refine (rmove_nil1 w _ n).mono ?_
    rintro r w' ⟨rfl, rfl⟩
    exact ⟨rfl, L, .same h, (mvX_no (.inl (ysOf_get hk))).symm, rfl⟩
  | some a =>
    cases f with
    | none =>
      refine (rmove_nil2 w a.q n).mono ?_
      rintro r w' ⟨rfl, rfl⟩
      exact ⟨rfl, L, .same h, (mvX_no (.inr (.inl (ysOf_get hkt)))).symm, rfl⟩
    | some c =>
      by_cases hkk : k = kt
      · subst hkk
        rw [hk] at hkt
        cases hkt
        refine (rmove_same w a.q n).mono ?_
        rintro r w' ⟨rfl, rfl⟩
        refine ⟨?_, L, .same h, (mvX_no (.inr (.inr (.inl rfl)))).symm, rfl⟩
        have : mvV (decide (k = k)) n (roomOf (some a)) (some a.ys) (some a.ys) = (0, 2) := if_pos (.inl (by simp))
        show _ = Ending.returned (.tuple #[.int .i64 (mvV _ _ _ (some a.ys) (some a.ys)).1, .int .i64 (mvV _ _ _ (some a.ys) (some a.ys)).2])
        rw [this]
      · have hD : RDuo w a.q a.lg a.room a.ys c.q c.lg c.room c.ys := ⟨(h.look hk).b, (h.look hkt).b, fun b h1 h2 => h.sep k kt a c hk hkt hkk b (.inr h1) (.inr h2)⟩
        by_cases hn : n < 0
        · refine (rmove_bad w hD n hn).mono ?_
          rintro r w' ⟨rfl, rfl⟩
          refine ⟨?_, L, .same h, (mvX_no (.inr (.inr (.inr hn)))).symm, rfl⟩
          have : mvV (decide (k = kt)) n (roomOf (some c)) (some a.ys) (some c.ys) = (0, 2) := if_pos (.inr hn)
          show _ = Ending.returned (.tuple #[.int .i64 (mvV _ _ _ (some a.ys) (some c.ys)).1, .int .i64 (mvV _ _ _ (some a.ys) (some c.ys)).2])
          rw [this]
        · refine (rmove_ok w hD n (by omega) (he a rfl) (hf0 c rfl) (h.look hkt).a.bounds.2.1 (mvN n a.ys.length c.room c.ys.length) rfl).mono ?_
          rintro r w' ⟨rfl, ho⟩
          obtain ⟨ga, gc, hR, hf⟩ := h.mv2 hB hk hkt hkk ho
          have hno : ¬ ((decide (k = kt)) = true ∨ n < 0) := by simp [hkk]; omega
          refine ⟨?_, _, ⟨?_, hR, hf⟩, ?_, ?_⟩
          · have : mvV (decide (k = kt)) n (roomOf (some c)) (some a.ys) (some c.ys) = ((((mvN n a.ys.length c.room c.ys.length : Nat) : Int)), 0) := if_neg hno
            show _ = Ending.returned (.tuple #[.int .i64 (mvV _ _ _ (some a.ys) (some c.ys)).1, .int .i64 (mvV _ _ _ (some a.ys) (some c.ys)).2])
            rw [this]
          · unfold placesOf
            rw [List.map_set, List.map_set]
            apply List.ext_getElem?
            intro i
            by_cases h2 : kt = i
            · subst h2
              rw [List.getElem?_set_self (by have := (List.getElem?_eq_some_iff.1 hkt).1; simpa using this), List.getElem?_map, hkt]; rfl
            · rw [List.getElem?_set_ne h2]
              by_cases h1 : k = i
              · subst h1
                rw [List.getElem?_set_self (by have := (List.getElem?_eq_some_iff.1 hk).1; simpa using this), List.getElem?_map, hk]; rfl
              · rw [List.getElem?_set_ne h1]
          · rw [mvX_yes (ysOf_get hk) (ysOf_get hkt) (by omega)]
            unfold ysOf
            rw [List.map_set, List.map_set]; rfl
          · unfold xsOf
            rw [List.map_set, List.map_set]
            apply List.ext_getElem?
            intro i
            by_cases h2 : kt = i
            · subst h2
              rw [List.getElem?_set_self (by have := (List.getElem?_eq_some_iff.1 hkt).1; simpa using this), List.getElem?_map, hkt]; rfl
            · rw [List.getElem?_set_ne h2]
              by_cases h1 : k = i
              · subst h1
                rw [List.getElem?_set_self (by have := (List.getElem?_eq_some_iff.1 hk).1; simpa using this), List.getElem?_map, hk]; rfl
              · rw [List.getElem?_set_ne h1]
theorem places_get {L1 : List (Option RE)} (h : placesOf L1 = placesOf L) (hk : L[k]? = some e) : ∃ e1, L1[k]? = some e1 ∧ ptrP e1 = ptrP e ∧ ptrQ e1 = ptrQ e ∧ roomOf e1 = roomOf e ∧ (e = none ↔ e1 = none) := by
  have h1 := congrArg (fun l => l[k]?) h
  simp only [placesOf, List.getElem?_map, hk, Option.map_some] at h1
  cases h2 : L1[k]? with
  | none => rw [h2] at h1; cases h1
  | some e1 =>
    rw [h2] at h1
    refine ⟨e1, rfl, ?_⟩
    cases e1 <;> cases e <;> simp only [Option.map, Option.some.injEq, reduceCtorEq, Prod.mk.injEq] at h1
    · exact ⟨rfl, rfl, rfl, Iff.rfl⟩
    · simp only [ptrP, ptrQ, roomOf, h1.1, h1.2.1, h1.2.2]
      exact ⟨trivial, trivial, trivial, by simp⟩
theorem places_ptrs {L1 : List (Option RE)} (h : placesOf L1 = placesOf L) : L1.length = L.length ∧ L1.map ptrP = L.map ptrP ∧ L1.map ptrQ = L.map ptrQ := by
  have hl : L1.length = L.length := by have := congrArg List.length h; simpa [placesOf] using this
  refine ⟨hl, ?_, ?_⟩ <;>
  · apply List.ext_getElem?
    intro i
    rw [List.getElem?_map, List.getElem?_map]
    cases h2 : L[i]? with
    | none => rw [List.getElem?_eq_none_iff.2 (by rw [hl]; exact List.getElem?_eq_none_iff.1 h2)]
    | some e =>
      obtain ⟨e1, h3, h4, h5, -⟩ := places_get h h2
      rw [h3]
      show some _ = some _
      first | rw [h4] | rw [h5]
theorem even_iff : Even L ↔ xsOf L = ysOf L := by
  constructor
  · intro h
    apply List.map_congr_left
    intro e he
    cases e with
    | none => rfl
    | some a => show some a.xs = some a.ys; rw [h a he]
  · intro h a ha
    obtain ⟨i, hi⟩ := List.mem_iff_getElem?.1 ha
    have h1 := congrArg (fun l => l[i]?) h
    simp only [xsOf, ysOf, List.getElem?_map, hi, Option.map_some] at h1
    exact Option.some.inj (Option.some.inj h1)
end
end Go.Proofs.Yteleakbbppbnnaa
