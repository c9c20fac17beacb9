/-
  'for .. := range f' over a function that turns memory of its own between two yields, and whose state the body may look at or turn: the iterator's contract (SeqJ) speaks of every invariant J that knows the iterator's state; the loop's law (wpIn_rangeFunc_J).
-/
import Derived.RangeFuncNested
import Derived.RangeFuncBound
import Derived.RangeFuncCalls
import Derived.RangeFuncLeaves
import Derived.RangeFuncFrom
import Derived.RangeFuncBox
import Derived.Test.YtanfhmebjgmdpaaMem
namespace Go.Proofs.Ytanfhmebjgmdpaa
open Go.RowKit
set_option linter.unusedVariables false

/-- AN ITERATOR's CONTRACT. H: its state s in memory. Kp: what a body keeps besides. Tn: what it does by itself between two yields. Rd s x: in state s it may yield x. Af s x s': the caller's body may leave state s' behind it. Dn: where it ends. LH, LT, LD: the same behind a yield that told it to stop. -/
def SeqJ {σ α : Type} (F : Fence) (m : Nat) (P : Program) (g : Nat) (lb : Array Value) (encs : α → Array Value) (H : σ → World → Prop) (Kp : World → World → Prop) (Tn : σ → World → σ → World → Prop) (Rd : σ → α → Prop) (Af : σ → α → σ → Prop)
    (Ps : σ → α → σ → Prop) (LT : σ → World → σ → World → Prop) (s0 : σ) (Dn Ln : σ → Prop) : Prop :=
  ∀ (l : Nat) (J Jx : σ → World → Prop) (W : World),
    (∀ s W, J s W → H s W) → (∀ s W, Jx s W → H s W) →
    (∀ s W s' W', J s W → Tn s W s' W' → J s' W') → (∀ s W s' W', Jx s W → LT s W s' W' → Jx s' W') →
    (∀ s x W, J s W → Rd s x → YieldAt F (m - 1) P l (encs x) W fun e W' => (e = .returned (.bool true) ∧ Kp W W' ∧ ∃ s', Af s x s' ∧ J s' W') ∨ (e = .returned (.bool false) ∧ ∃ s', Ps s x s' ∧ Jx s' W')) →
    J s0 W → CallsIn F m P g (#[.func (.yield l) #[] #[]] ++ lb) W fun e W' => (∃ v, e = .returned v) ∧ ((∃ s, Dn s ∧ J s W') ∨ (∃ s, Ln s ∧ Jx s W'))

/-- How the body of a round may be left. -/
def postJ {σ : Type} (B : Nat) (Kp : World → World → Prop) (Go_ : σ → World → Prop) (Out : Code → σ → World → Prop) (W : World) : Exit → Act → World → Prop
  | .normal, _, W' => KeepsFrom B W W' ∧ Kp W W' ∧ ∃ s, Go_ s W'
  | .ret, _, W' => KeepsFrom B W W' ∧ ∃ s, Out .ret s W'
  | .exit id, _, W' => KeepsFrom B W W' ∧ ∃ s, Out (.exit id) s W'
  | .goto t, _, W' => KeepsFrom B W W' ∧ ∃ s, Out (.goto t) s W'
  | .panic _, _, _ => False
  | .outgrown, _, _ => False

variable {F : Fence} {n : Nat} {P : Program}

theorem wpIn_rangeFunc_J {σ α : Type} {g : Operand} {ps : Array Tmp} {assign body : Code} {Q : Exit → Act → World → Prop} {a : Act} {w : World}
    (hro : F.round = none) (h1 : 1 ≤ n) {gf : Nat} {lb : Array Value} (hg : a.eval g = .func (.func gf) #[] lb) (hFg : F.fn gf) (eg : ∀ args w, (callFunc gf args).run P w = .ok (.enter gf args) w)
    {encs : α → Array Value} {H : σ → World → Prop} {Kp : World → World → Prop} {Tn LT : σ → World → σ → World → Prop} {Rd : σ → α → Prop} {Af Ps : σ → α → σ → Prop} {s0 : σ} {Dn Ln : σ → Prop}
    (hseq : SeqJ F (n - 1) P gf lb encs H Kp Tn Rd Af Ps LT s0 Dn Ln) (hps : ∀ x, (encs x).size = ps.size)
    (hKt : ∀ {A B C : World}, Kp A B → Kp B C → Kp A C) (hKb : ∀ (W : World) (l : Nat) (o o' : Obj), W.heap[l]? = some o → o.isCells = false → Kp W (W.putObj l o'))
    (J : σ → World → Prop) (Jx : Code → σ → World → Prop) (hJH : ∀ s W, J s W → H s W) (hJxH : ∀ c s W, Jx c s W → H s W)
    (hJT : ∀ s W s' W', J s W → Tn s W s' W' → J s' W' ∧ KeepsFrom w.heap.size W W') (hJxT : ∀ c s W s' W', Jx c s W → LT s W s' W' → Jx c s' W' ∧ KeepsFrom w.heap.size W W')
    (hJ : OwnFrom w.heap.size J) (hJx : ∀ c, OwnFrom w.heap.size (Jx c)) (h0 : J s0 w) (Ax : α → Act → World → Prop) (hAx : ∀ x a', OwnFrom w.heap.size (fun (_ : Unit) W => Ax x a' W))
    (hassign : ∀ (l : Nat) (s : σ) (x : α) (W : World) (K : Act → World → Prop), J s W → Rd s x → (∀ a' W', KeepsFrom w.heap.size W W' → Kp W W' → J s W' → Ax x a' W' → K a' W') →
      assign.wpIn (F.inRound l) (n - 1 - 1) P (Exit.then K (fun _ _ _ => False)) { tmps := (ps.zip (encs x)).foldl (fun t (p, v) => t.setIfInBounds p v) a.tmps, defers := [] } W)
    (hbody : ∀ (l : Nat) (s : σ) (x : α) (a' : Act) (W : World), w.heap.size ≤ l → (∃ r, W.heap[l]? = some (.loop r)) → J s W → Ax x a' W → Rd s x → body.wpIn (F.inRound l) (n - 1 - 1) P (postJ w.heap.size Kp (fun s' W' => Af s x s' ∧ J s' W') (fun c s' W' => Ps s x s' ∧ Jx c s' W') W) a' W)
    (hdone : ∀ (D : Nat) (s : σ) (W : World), w.heap.size ≤ D → Dn s → J s W → W.heap[D]? = some (.deferred (some [])) → Q .normal { a with defers := { target := .collected D, args := #[] } :: a.defers } W)
    (hstop : ∀ (D : Nat) (c : Code) (s : σ) (W : World), w.heap.size ≤ D → Ln s → Jx c s W → W.heap[D]? = some (.deferred (some [])) → c.wpIn F n P Q { a with defers := { target := .collected D, args := #[] } :: a.defers } W) :
    (Code.rangeFunc g ps assign body).wpIn F n P Q a w := by
  refine wpIn_rangeFunc ?_
  intro fn hfn
  rw [hro]
  obtain ⟨rec, hrec⟩ : ∃ rec : LoopState → Option Code → Loop, rec = fun st pe => { state := st, pending := pe, fn, tmps := a.tmps, params := ps, assign, body, defers := w.heap.size } := ⟨_, rfl⟩
  obtain ⟨W1, hW1⟩ : ∃ W1, (w.alloc (.deferred (some []))).alloc (.loop (rec .ready none)) = W1 := ⟨_, rfl⟩
  have hL1 : W1.heap[w.heap.size + 1]? = some (.loop (rec .ready none)) := by
    rw [← hW1]; have := World.alloc_heap_new (w.alloc (.deferred (some []))) (.loop (rec .ready none)); rwa [World.size_alloc] at this
  have hK1 : W1.heap[w.heap.size]? = some (.deferred (some [])) := by
    rw [← hW1]; exact (Below.heap_alloc _ _ _ (by simp)).trans (World.alloc_heap_new w _)
  have hI1 : J s0 W1 := by rw [← hW1]; exact hJ.alloc _ (hJ.alloc _ h0)
  refine ⟨w.heap.size + 1, [{ target := .collected w.heap.size, args := #[] }], W1, { target := .fn (.func gf) lb, args := #[.func (.yield (w.heap.size + 1)) #[] #[]] }, W1, gf,
    #[.func (.yield (w.heap.size + 1)) #[] #[]] ++ lb, W1, ?_, ?_, ?_, ?_, fun _ => h1, ?_⟩
  · rw [← hW1, hrec]; exact run_enterLoop_outer _ _ _ _ _
  · simp only [resolve, hg]
    simp [go_sem]
  · intro f' hf'; simp [Target.leads] at hf'; subst hf'; exact hFg
  · simp [invoke, go_sem, eg]
  · refine (hseq (w.heap.size + 1)
      (fun s W => J s W ∧ W.heap[w.heap.size + 1]? = some (.loop (rec .ready none)) ∧ W.heap[w.heap.size]? = some (.deferred (some [])))
      (fun s W => ∃ c, Jx c s W ∧ W.heap[w.heap.size + 1]? = some (.loop (rec .done (some c))) ∧ W.heap[w.heap.size]? = some (.deferred (some [])))
      W1 (fun s W h => hJH s W h.1) (fun s W ⟨c, h, _⟩ => hJxH c s W h)
      (fun s W s' W' h ht => by
        obtain ⟨hj, hk⟩ := hJT s W s' W' h.1 ht
        exact ⟨hj, hk.same _ _ (by omega) h.2.1 rfl, hk.same _ _ (Nat.le_refl _) h.2.2 rfl⟩)
      (fun s W s' W' ⟨c, h, hl, hd⟩ ht => by
        obtain ⟨hj, hk⟩ := hJxT c s W s' W' h ht
        exact ⟨c, hj, hk.same _ _ (by omega) hl rfl, hk.same _ _ (Nat.le_refl _) hd rfl⟩)
      ?_ ⟨hI1, hL1, hK1⟩).mono ?_
    · -- ONE ROUND
      rintro s x W ⟨hi, hl, hk⟩ hrd
      have hlt : w.heap.size + 1 < W.heap.size := (Array.getElem?_eq_some_iff.1 hl).1
      have hy := run_yield (P := P) (args := encs x) hl (by rw [hrec]; exact hps x)
      rw [hrec] at hy
      refine ⟨fn, _, assign, body, hy, roundIn_of_wpIn hfn (hassign _ s x W _ hi hrd ?_)⟩
      clear hy
      intro a' Wa hkfa hkpa hia hax
      replace hl := hkfa.same _ _ (by omega) hl rfl
      replace hk := hkfa.same _ _ (Nat.le_refl _) hk rfl
      replace hlt : w.heap.size + 1 < Wa.heap.size := (Array.getElem?_eq_some_iff.1 hl).1
      replace hi := hia
      clear hia
      revert hkpa hkfa
      generalize W = Wb
      intro hkfa hkpa
      obtain ⟨W, rfl⟩ : ∃ W, W = Wa := ⟨_, rfl⟩
      refine ⟨_, run_beginRound hl (by rw [hrec]), ?_⟩
      have hl2 : (W.putObj (w.heap.size + 1) (.loop { rec .ready none with state := .busy })).heap[w.heap.size + 1]? = some (.loop { rec .ready none with state := .busy }) := World.putObj_heap_same hlt
      have hk2 : (W.putObj (w.heap.size + 1) (.loop { rec .ready none with state := .busy })).heap[w.heap.size]? = some (.deferred (some [])) := (World.putObj_heap_other (by omega)).trans hk
      refine wpIn_mono (hbody _ s x a' _ (by omega) ⟨_, hl2⟩ (hJ.putObj _ hi (by omega) hl rfl) ((hAx x a').putObj (s := ()) _ hax (by omega) hl rfl) hrd) ?_
      have fin : ∀ (jump : Option Code) (W3 : World), KeepsFrom w.heap.size (W.putObj (w.heap.size + 1) (.loop { rec .ready none with state := .busy })) W3 →
          (Instr.endRound (w.heap.size + 1) jump).run P W3 = .ok (.bool jump.isNone) (W3.putObj (w.heap.size + 1) (.loop (rec (if jump.isNone then .ready else .done) jump))) ∧
          W3.heap[w.heap.size + 1]? = some (.loop { rec .ready none with state := .busy }) ∧
          (W3.putObj (w.heap.size + 1) (.loop (rec (if jump.isNone then .ready else .done) jump))).heap[w.heap.size + 1]? = some (.loop (rec (if jump.isNone then .ready else .done) jump)) ∧
          (W3.putObj (w.heap.size + 1) (.loop (rec (if jump.isNone then .ready else .done) jump))).heap[w.heap.size]? = some (.deferred (some [])) := fun jump W3 hk3 => by
        have hl3 := hk3.same _ _ (by omega) hl2 rfl
        have := run_endRound (P := P) jump hl3
        rw [hrec] at this ⊢
        exact ⟨this, by rw [hrec] at hl3; exact hl3, World.putObj_heap_same (Array.getElem?_eq_some_iff.1 hl3).1, (World.putObj_heap_other (by omega)).trans (hk3.same _ _ (Nat.le_refl _) hk2 rfl)⟩
      rintro e a3 W3 hp
      cases e with
      | normal =>
        obtain ⟨hk3, hp3, s3, hA3, hi3⟩ := hp
        obtain ⟨hr, hl3, hl4, hk4⟩ := fin none W3 hk3
        exact ⟨_, _, hr, .inl ⟨rfl, hKt hkpa (hKt (hKb _ _ _ _ hl rfl) (hKt hp3 (hKb _ _ _ _ hl3 rfl))), s3, hA3, hJ.putObj _ hi3 (by omega) hl3 rfl, hl4, hk4⟩⟩
      | ret =>
        obtain ⟨hk3, s3, hA3, hi3⟩ := hp
        obtain ⟨hr, hl3, hl4, hk4⟩ := fin (some .ret) W3 hk3
        exact ⟨_, _, hr, .inr ⟨rfl, s3, hA3, .ret, (hJx _).putObj _ hi3 (by omega) hl3 rfl, hl4, hk4⟩⟩
      | exit id =>
        obtain ⟨hk3, s3, hA3, hi3⟩ := hp
        obtain ⟨hr, hl3, hl4, hk4⟩ := fin (some (.exit id)) W3 hk3
        exact ⟨_, _, hr, .inr ⟨rfl, s3, hA3, .exit id, (hJx _).putObj _ hi3 (by omega) hl3 rfl, hl4, hk4⟩⟩
      | goto t =>
        obtain ⟨hk3, s3, hA3, hi3⟩ := hp
        obtain ⟨hr, hl3, hl4, hk4⟩ := fin (some (.goto t)) W3 hk3
        exact ⟨_, _, hr, .inr ⟨rfl, s3, hA3, .goto t, (hJx _).putObj _ hi3 (by omega) hl3 rfl, hl4, hk4⟩⟩
      | panic ch => exact hp.elim
      | outgrown => exact hp.elim
    · -- BEHIND THE ITERATOR
      rintro e W2 ⟨⟨v, rfl⟩, (⟨s, hD, hi, hl, hk⟩ | ⟨s, hL, c, hi, hl, hk⟩)⟩
      · exact ⟨none, _, by have := run_endLoop (P := P) hl (by rw [hrec]; simp); rw [hrec] at this; exact this, hdone _ s _ (Nat.le_refl _) hD (hJ.putObj _ hi (by omega) hl rfl) ((World.putObj_heap_other (by omega)).trans hk)⟩
      · exact ⟨some c, _, by have := run_endLoop (P := P) hl (by rw [hrec]; simp); rw [hrec] at this; exact this, hstop _ c s _ (Nat.le_refl _) hL ((hJx c).putObj _ hi (by omega) hl rfl) ((World.putObj_heap_other (by omega)).trans hk)⟩
/-- The same, where the round's locals are told from the loop's own. -/
theorem wpIn_rangeFunc_K {σ α : Type} {g : Operand} {ps : Array Tmp} {assign body : Code} {Q : Exit → Act → World → Prop} {a : Act} {w : World} (Ax : Act → α → Act → World → Prop)
    (hro : F.round = none) (h1 : 1 ≤ n) {gf : Nat} {lb : Array Value} (hg : a.eval g = .func (.func gf) #[] lb) (hFg : F.fn gf) (eg : ∀ args w, (callFunc gf args).run P w = .ok (.enter gf args) w)
    {encs : α → Array Value} {H : σ → World → Prop} {Kp : World → World → Prop} {Tn LT : σ → World → σ → World → Prop} {Rd : σ → α → Prop} {Af Ps : σ → α → σ → Prop} {s0 : σ} {Dn Ln : σ → Prop}
    (hseq : SeqJ F (n - 1) P gf lb encs H Kp Tn Rd Af Ps LT s0 Dn Ln) (hps : ∀ x, (encs x).size = ps.size)
    (hKt : ∀ {A B C : World}, Kp A B → Kp B C → Kp A C) (hKb : ∀ (W : World) (l : Nat) (o o' : Obj), W.heap[l]? = some o → o.isCells = false → Kp W (W.putObj l o'))
    (J : σ → World → Prop) (Jx : Code → σ → World → Prop) (hJH : ∀ s W, J s W → H s W) (hJxH : ∀ c s W, Jx c s W → H s W)
    (hJT : ∀ s W s' W', J s W → Tn s W s' W' → J s' W' ∧ KeepsFrom w.heap.size W W') (hJxT : ∀ c s W s' W', Jx c s W → LT s W s' W' → Jx c s' W' ∧ KeepsFrom w.heap.size W W')
    (hJ : OwnFrom w.heap.size J) (hJx : ∀ c, OwnFrom w.heap.size (Jx c)) (h0 : J s0 w) (hAx : ∀ x a', OwnFrom w.heap.size (fun (_ : Unit) W => Ax a x a' W))
    (hassign : ∀ (l : Nat) (s : σ) (x : α) (W : World) (K : Act → World → Prop), J s W → Rd s x → (∀ a' W', KeepsFrom w.heap.size W W' → Kp W W' → J s W' → Ax a x a' W' → K a' W') →
      assign.wpIn (F.inRound l) (n - 1 - 1) P (Exit.then K (fun _ _ _ => False)) { tmps := (ps.zip (encs x)).foldl (fun t (p, v) => t.setIfInBounds p v) a.tmps, defers := [] } W)
    (hbody : ∀ (l : Nat) (s : σ) (x : α) (a' : Act) (W : World), w.heap.size ≤ l → (∃ r, W.heap[l]? = some (.loop r)) → J s W → Ax a x a' W → Rd s x → body.wpIn (F.inRound l) (n - 1 - 1) P (postJ w.heap.size Kp (fun s' W' => Af s x s' ∧ J s' W') (fun c s' W' => Ps s x s' ∧ Jx c s' W') W) a' W)
    (hdone : ∀ (D : Nat) (s : σ) (W : World), w.heap.size ≤ D → Dn s → J s W → W.heap[D]? = some (.deferred (some [])) → Q .normal { a with defers := { target := .collected D, args := #[] } :: a.defers } W)
    (hstop : ∀ (D : Nat) (c : Code) (s : σ) (W : World), w.heap.size ≤ D → Ln s → Jx c s W → W.heap[D]? = some (.deferred (some [])) → c.wpIn F n P Q { a with defers := { target := .collected D, args := #[] } :: a.defers } W) :
    (Code.rangeFunc g ps assign body).wpIn F n P Q a w :=
  wpIn_rangeFunc_J hro h1 hg hFg eg hseq hps hKt hKb J Jx hJH hJxH hJT hJxT hJ hJx h0 (Ax a) hAx hassign hbody hdone hstop
#print axioms wpIn_rangeFunc_J

/-- A step in known blocks below B keeps what is no cells from B on. -/
theorem Fr.keepsFrom {S : Nat → Prop} {W W' : World} (h : Fr S W W') {B : Nat} (hS : ∀ k, S k → k < B ∨ ∃ cs t z, W.heap[k]? = some (.cells cs t z)) : KeepsFrom B W W' :=
  ⟨h.size, fun k o hB hk ho => (h.block k (Array.getElem?_eq_some_iff.1 hk).1 (fun hs => by
    rcases hS k hs with h1 | ⟨cs, t, z, h1⟩
    · omega
    · rw [h1] at hk; cases hk; cases ho)).trans hk⟩
end Go.Proofs.Ytanfhmebjgmdpaa
