/-
  Several buckets beside the document's: what is held of them (WI); each call by one of them, nil or made.
-/
import Derived.Test.YtgogagapapdlgaaBkTold
namespace Go.Proofs.Ytgogagapapdlgaa
open Go.RowKit
set_option linter.unusedVariables false

abbrev tB : TypeId := 60
abbrev tM : TypeId := 63
abbrev tPB : TypeId := 25
abbrev tPM : TypeId := 50
abbrev tW : TypeId := 47

theorem Ow.ty {w : World} {e : TypeId} {size n c : Nat} {A : Option Addr} {xs : List Value} {b : Nat} (h : Ow w e size A n c xs (some b)) : ∃ cs, Bl w b e cs := by
  rcases h.2 with ⟨_, _, _, h⟩ | ⟨b', o, cur, hA, hg, hh, _⟩
  · cases h
  · cases hg; exact ⟨cur, hh⟩

/-- What turns is a bucket of the one kind or of the other. -/
def OnlyT (t : TypeId) (S : Nat → Prop) (w : World) : Prop := ∀ x, S x → x < w.heap.size → ∃ cs, Bl w x t cs
structure WP (B0 wb : Nat) (L : List Ent) (A1 : Option Addr) (c1 : Nat) (g1 : Option Nat) (A2 : Option Addr) (c2 : Nat) (g2 : Option Nat) (w : World) : Prop where
  bl : Bl w wb tW #[.slice A1 L.length c1, .slice A2 L.length c2]
  o1 : Ow w tPB 1 A1 L.length c1 (L.map (ptr Prod.fst)) g1
  o2 : Ow w tPM 1 A2 L.length c2 (L.map (ptr Prod.snd)) g2
  n0 : B0 ≤ wb
  n1 : ∀ b, g1 = some b → B0 ≤ b
  n2 : ∀ b, g2 = some b → B0 ≤ b
/-- Several buckets, the document's beside them. -/
structure BI (B0 : Nat) (L : List Ent) (σ : Nat → St) (w : World) : Prop where
  b : InvS tB Prod.fst L σ w
  m : InvS tM Prod.snd L σ w
  sep : Sep Prod.snd L
  new : ∀ pq, some pq ∈ L → B0 ≤ pq.1 ∧ B0 ≤ pq.2

theorem WP.fr {B0 wb : Nat} {L : List Ent} {A1 : Option Addr} {c1 : Nat} {g1 : Option Nat} {A2 : Option Addr} {c2 : Nat} {g2 : Option Nat} {w w' : World} {S : Nat → Prop} {t : TypeId} (h : WP B0 wb L A1 c1 g1 A2 c2 g2 w) (hf : Fr S w w') (hS : OnlyT t S w) (h1 : t ≠ tW) (h2 : t ≠ tPB) (h3 : t ≠ tPM) : WP B0 wb L A1 c1 g1 A2 c2 g2 w' := by
  refine ⟨h.bl.fr hf fun hs => ?_, h.o1.fr hf fun b hb hs => ?_, h.o2.fr hf fun b hb hs => ?_, h.n0, h.n1, h.n2⟩
  · obtain ⟨cs, hc⟩ := hS _ hs h.bl.lt
    exact h.bl.apart hc (fun e => h1 e.symm) rfl
  · obtain ⟨cs, hc⟩ := hS _ hs (h.o1.lt b hb)
    have hx := h.o1
    rw [hb] at hx
    obtain ⟨cs', hc'⟩ := hx.ty
    exact hc'.apart hc (fun e => h2 e.symm) rfl
  · obtain ⟨cs, hc⟩ := hS _ hs (h.o2.lt b hb)
    have hx := h.o2
    rw [hb] at hx
    obtain ⟨cs', hc'⟩ := hx.ty
    exact hc'.apart hc (fun e => h3 e.symm) rfl
theorem InvS.frT {t t' : TypeId} {sel : Nat × Nat → Nat} {L : List Ent} {σ : Nat → St} {w w' : World} {S : Nat → Prop} (h : InvS t sel L σ w) (hf : Fr S w w') (hS : OnlyT t' S w) (hne : t' ≠ t) : InvS t sel L σ w' :=
  h.fr hf fun pq hp hs => by
    obtain ⟨cs, hc⟩ := hS _ hs (h pq hp).1.lt
    exact Bl.apart (h pq hp).1 hc (fun e => hne e.symm) rfl
/-- The block that a call turns: the entry's own. -/
def Turn (sel : Nat × Nat → Nat) (e : Ent) : Nat → Prop := fun x => ∃ pq, e = some pq ∧ x = sel pq
theorem Turn.only {t : TypeId} {sel : Nat × Nat → Nat} {L : List Ent} {σ : Nat → St} {w : World} {e : Ent} (h : InvS t sel L σ w) (he : e ∈ L) : OnlyT t (Turn sel e) w := by
  rintro x ⟨pq, rfl, rfl⟩ _
  exact ⟨_, (h pq he).1⟩
theorem Of.only {t : TypeId} {sel : Nat × Nat → Nat} {L js : List Ent} {σ : Nat → St} {w : World} (h : InvS t sel L σ w) (he : ∀ e ∈ js, e ∈ L) : OnlyT t (Of sel js) w := by
  rintro x ⟨pq, hp, rfl⟩ _
  exact ⟨_, (h pq (he _ hp)).1⟩
theorem OnlyT.none_ (t : TypeId) (w : World) : OnlyT t (fun _ => False) w := fun x h => h.elim

/-- Of an entry: its state turned. -/
def updE (σ : Nat → St) (e : Ent) (f : St → St) : Nat → St := match e with | none => σ | some pq => upd σ pq.1 (f (σ pq.1))
theorem InvS.stepE {t : TypeId} {sel : Nat × Nat → Nat} {L : List Ent} {σ : Nat → St} {w : World} (h : InvS t sel L σ w) (e : Ent) : InvS t sel L (updE σ e id) w := by
  cases e with
  | none => exact h
  | some pq =>
    intro x hx
    show StAt t w (sel x) (upd σ pq.1 (σ pq.1) x.1) ∧ StOk (upd σ pq.1 (σ pq.1) x.1)
    by_cases he : x.1 = pq.1
    · rw [he, upd_same, ← he]; exact h x hx
    · rw [upd_ne _ _ he]; exact h x hx

/-- What Refill answers, and leaves. -/
def refE (n : Int) : Ent → Int
  | none => 1
  | some _ => if n < 0 ∨ 2147483648 < n then 130 else 0
def refF (n : Int) (s : St) : St := if n < 0 ∨ 2147483648 < n then s else s.at_ (bkL s.rate s.per s.burst s.level s.rest n) (bkR s.rate s.per s.burst s.level s.rest n)
theorem refill_ent (w : World) (n : Int) (L : List Ent) (σ : Nat → St) (e : Ent) (he : e ∈ L) (hI : InvS tB Prod.fst L σ w) :
    Calls Try.prog 9 #[ptr Prod.fst e, .int .i64 n] w fun r w' => r = .returned (.int .i64 (refE n e)) ∧ InvS tB Prod.fst L (updE σ e (refF n)) w' ∧ Fr (Turn Prod.fst e) w w' := by
  cases e with
  | none =>
    refine (refill_un w none n (fun q h => by cases h)).mono ?_
    rintro r w' ⟨rfl, rfl⟩
    exact ⟨rfl, hI, Fr.refl _ _⟩
  | some pq =>
    obtain ⟨hb, ho⟩ := hI pq he
    by_cases h : n < 0 ∨ 2147483648 < n
    · refine (refill_time w n hb ho h).mono ?_
      rintro r w' ⟨rfl, rfl⟩
      have h2 : refF n = id := by funext s; exact if_pos h
      rw [h2, show refE n (some pq) = 130 from if_pos h]
      exact ⟨rfl, hI.stepE _, Fr.refl _ _⟩
    · refine (refill_made w n hb ho (by omega) (by omega)).mono ?_
      rintro r w' ⟨rfl, hb', hf⟩
      have h2 : ∀ s, refF n s = s.at_ (bkL s.rate s.per s.burst s.level s.rest n) (bkR s.rate s.per s.burst s.level s.rest n) := fun s => if_neg h
      rw [show refE n (some pq) = 0 from if_neg h]
      refine ⟨rfl, ?_, hf.mono fun x _ e => ⟨pq, rfl, e⟩⟩
      show InvS _ _ _ (upd σ pq.1 (refF n (σ pq.1))) _
      rw [h2]
      exact hI.step (sep_fst _) he hb' (bk_refilled ho (by omega) (by omega)) hf
theorem rrefill_ent (w : World) (n : Int) (L : List Ent) (σ : Nat → St) (hsep : Sep Prod.snd L) (e : Ent) (he : e ∈ L) (hI : InvS tM Prod.snd L σ w) :
    Calls Try.prog 24 #[ptr Prod.snd e, .int .i64 n] w fun r w' => r = .returned (.int .i64 (refE n e)) ∧ InvS tM Prod.snd L (updE σ e (refF n)) w' ∧ Fr (Turn Prod.snd e) w w' := by
  cases e with
  | none =>
    refine (rrefill_nil w n).mono ?_
    rintro r w' ⟨rfl, rfl⟩
    exact ⟨rfl, hI, Fr.refl _ _⟩
  | some pq =>
    obtain ⟨hb, ho⟩ := hI pq he
    by_cases h : n < 0 ∨ 2147483648 < n
    · refine (rrefill_time w _ n h).mono ?_
      rintro r w' ⟨rfl, rfl⟩
      have h2 : refF n = id := by funext s; exact if_pos h
      rw [h2, show refE n (some pq) = 130 from if_pos h]
      exact ⟨rfl, hI.stepE _, Fr.refl _ _⟩
    · refine (rrefill_made w n hb ho (by omega) (by omega)).mono ?_
      rintro r w' ⟨rfl, hb', hf⟩
      have h2 : ∀ s, refF n s = s.at_ (bkL s.rate s.per s.burst s.level s.rest n) (bkR s.rate s.per s.burst s.level s.rest n) := fun s => if_neg h
      rw [show refE n (some pq) = 0 from if_neg h]
      refine ⟨rfl, ?_, hf.mono fun x _ e => ⟨pq, rfl, e⟩⟩
      show InvS _ _ _ (upd σ pq.1 (refF n (σ pq.1))) _
      rw [h2]
      exact hI.step hsep he hb' (bk_refilled ho (by omega) (by omega)) hf

def takF (n : Int) (s : St) : St := if n < 0 ∨ s.level < n then s else s.at_ (s.level - n) s.rest
theorem takeOut_upd {t : TypeId} {sel : Nat × Nat → Nat} {L : List Ent} {σ : Nat → St} {n : Int} {w w' : World} {e : Ent} (hI : InvS t sel L σ w) (h : TakeOut t sel L σ n w e (takeE n σ e) w') :
    InvS t sel L (updE σ e (takF n)) w' ∧ Fr (Turn sel e) w w' := by
  by_cases h0 : takeE n σ e = 0
  · obtain ⟨hn, pq, rfl, hi, hf⟩ := h.1 h0
    rw [takeE_some] at h0
    have h1 : ¬ (n < 0 ∨ (σ pq.1).level < n) := by
      rintro (h1 | h1)
      · rw [if_pos h1] at h0; omega
      · rw [if_neg (by omega), if_pos h1] at h0; omega
    refine ⟨?_, hf.mono fun x _ e => ⟨pq, rfl, e⟩⟩
    show InvS _ _ _ (upd σ pq.1 (takF n (σ pq.1))) _
    rw [takF, if_neg h1]; exact hi
  · obtain rfl := h.2 h0
    refine ⟨?_, Fr.refl _ _⟩
    cases e with
    | none => exact hI
    | some pq =>
      have h1 : takF n (σ pq.1) = σ pq.1 := by
        rw [takeE_some] at h0
        refine if_pos ?_
        by_cases h1 : n < 0
        · exact .inl h1
        · rw [if_neg h1] at h0
          by_cases h2 : (σ pq.1).level < n
          · exact .inr h2
          · rw [if_neg h2] at h0; exact absurd rfl h0
      have := hI.stepE (some pq)
      show InvS _ _ _ (upd σ pq.1 (takF n (σ pq.1))) _
      rw [h1]; exact this

/-- What When answers. -/
def whenK (n : Int) (σ : Nat → St) : Ent → Int
  | none => 0
  | some pq => if (σ pq.1).burst < n then 0 else if n ≤ (σ pq.1).level then 0 else ((n - (σ pq.1).level) * (σ pq.1).per - (σ pq.1).rest + (σ pq.1).rate - 1) / (σ pq.1).rate
def whenB (n : Int) (σ : Nat → St) : Ent → Bool
  | none => false
  | some pq => if (σ pq.1).burst < n then false else true
theorem when_ent (w : World) (n : Int) (L : List Ent) (σ : Nat → St) (e : Ent) (he : e ∈ L) (hI : InvS tB Prod.fst L σ w) :
    Calls Try.prog 14 #[ptr Prod.fst e, .int .i64 n] w fun r w' => r = .returned (.tuple #[.int .i64 (whenK n σ e), .bool (whenB n σ e)]) ∧ Fr (fun _ => False) w w' := by
  cases e with
  | none =>
    refine (when_un w none n (fun q h => by cases h)).mono ?_
    rintro r w' ⟨rfl, rfl⟩
    exact ⟨rfl, Fr.refl _ _⟩
  | some pq =>
    obtain ⟨hb, ho⟩ := hI pq he
    have h1 := ho.p1
    unfold whenK whenB
    by_cases h : (σ pq.1).burst < n
    · refine (when_far w n hb ho.p1 h).mono ?_
      rintro r w' ⟨rfl, rfl⟩
      simp only [if_pos h]
      exact ⟨trivial, Fr.refl _ _⟩
    · by_cases h2 : n ≤ (σ pq.1).level
      · refine (when_now w n hb ho.p1 (by omega) h2).mono ?_
        rintro r w' ⟨rfl, rfl⟩
        simp only [if_neg h, if_pos h2]
        exact ⟨trivial, Fr.refl _ _⟩
      · refine (when_then w n hb ho (by omega) (by omega)).mono ?_
        rintro r w' ⟨rfl, hf⟩
        simp only [if_neg h, if_neg h2]
        exact ⟨trivial, hf⟩
theorem rwhen_ent (w : World) (n : Int) (L : List Ent) (σ : Nat → St) (e : Ent) (he : e ∈ L) (hI : InvS tM Prod.snd L σ w) :
    Calls Try.prog 26 #[ptr Prod.snd e, .int .i64 n] w fun r w' => r = .returned (.tuple #[.int .i64 (whenK n σ e), .bool (whenB n σ e)]) ∧ Fr (fun _ => False) w w' := by
  cases e with
  | none =>
    refine (rwhen_nil w n).mono ?_
    rintro r w' ⟨rfl, rfl⟩
    exact ⟨rfl, Fr.refl _ _⟩
  | some pq =>
    obtain ⟨hb, ho⟩ := hI pq he
    unfold whenK whenB
    by_cases h : (σ pq.1).burst < n
    · refine (rwhen_far w n hb h).mono ?_
      rintro r w' ⟨rfl, rfl⟩
      simp only [if_pos h]
      exact ⟨trivial, Fr.refl _ _⟩
    · by_cases h2 : n ≤ (σ pq.1).level
      · refine (rwhen_now w n hb (by omega) h2).mono ?_
        rintro r w' ⟨rfl, rfl⟩
        simp only [if_neg h, if_pos h2]
        exact ⟨trivial, Fr.refl _ _⟩
      · refine (rwhen_then w n hb ho (by omega) (by omega)).mono ?_
        rintro r w' ⟨rfl, hf⟩
        simp only [if_neg h, if_neg h2]
        exact ⟨trivial, hf⟩
theorem told_ent (w : World) (L : List Ent) (σ : Nat → St) (e : Ent) (he : e ∈ L) (hI : InvS tB Prod.fst L σ w) (hR : InvS tM Prod.snd L σ w) :
    Calls Try.prog 19 #[ptr Prod.fst e, ptr Prod.snd e] w fun r w' => r = .returned (.bool true) ∧ Fr (fun _ => False) w w' := by
  cases e with
  | none => exact told_nil w
  | some pq => exact told_made w (hI pq he).1 (hR pq he).1 (hI pq he).2
end Go.Proofs.Ytgogagapapdlgaa
