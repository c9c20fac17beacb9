/-
  Texts merged into one, to keep the claim small: St6, TlvGetSpec, TlvPiece, Reg.
-/
import Derived.Test.YtlcjhbemgagchaaMc2
import Derived.Laws.BitsLemmas
import Derived.Test.YtlcjhbemgagchaaMc1
import Derived.Deep.AppendLies
import Derived.Deep.RegionHeld3
import Derived.Deep.DeepCutAuto
import Derived.Deep.DrawnRows
section
/-
  stream: the length that three bytes say, the program's and the reference's.
-/
namespace Go.Proofs.Ytlcjhbemgagchaa
open Go.RowKit
set_option linter.unusedVariables false

/-- The length that the first three bytes say. -/
def longS (bs : List Nat) : Nat := 65536 * bs.getD 0 0 + 256 * bs.getD 1 0 + bs.getD 2 0
theorem Sl.byte {w : World} {n : Nat} {A : Option Addr} {bs : List Nat} (h : Sl w 1 A n (bs.map bn)) {k : Nat} (hk : k < n) : ∃ b o, A = some ⟨b, o, none⟩ ∧ w.cell? ⟨b, o + k, none⟩ = some (.int .u8 ((bs.getD k 0 : Nat) : Int)) := by
  have hl : bs.length = n := by have := h.1; simpa using this
  obtain ⟨b, o, hA, hc⟩ := h.at_ (bn_get (xs := bs) (k := k) (by omega))
  exact ⟨b, o, hA, hc⟩
theorem or3 (x0 x1 x2 : Nat) (h0 : x0 < 256) (h1 : x1 < 256) (h2 : x2 < 256) :
    bits BinOp.or IntKind.i64 (bits BinOp.or IntKind.i64 ((x0 : Int) * 65536) ((x1 : Int) * 256)) (x2 : Int) = ((65536 * x0 + 256 * x1 + x2 : Nat) : Int) := by
  have hk : ∀ n : Int, 0 ≤ n → n < 2 ^ 32 → IntKind.i64.wrap n = n := fun n h0 h1 => IntWalk.i64_in _ (by omega)
  have e1 := (bits_nat .i64 32 (by decide) hk (2 ^ 16 * x0) (2 ^ 8 * x1) (by omega) (by omega)).2
  rw [← Nat.two_pow_add_eq_or_of_lt (by omega)] at e1
  have e2 := (bits_nat .i64 32 (by decide) hk (2 ^ 8 * (256 * x0 + x1)) x2 (by omega) (by omega)).2
  rw [← Nat.two_pow_add_eq_or_of_lt (by omega)] at e2
  have c1 : ((x0 : Int) * 65536) = ((2 ^ 16 * x0 : Nat) : Int) := by omega
  have c2 : ((x1 : Int) * 256) = ((2 ^ 8 * x1 : Nat) : Int) := by omega
  rw [c1, c2, e1, show 2 ^ 16 * x0 + 2 ^ 8 * x1 = 2 ^ 8 * (256 * x0 + x1) by omega, e2]
set_option maxHeartbeats 1000000 in
set_option maxRecDepth 4000 in
theorem long_any (w : World) (bs : List Nat) (A : Option Addr) (n c : Nat) (h3 : 3 ≤ n) (hA : Sl w 1 A n (bs.map bn)) (hb : ∀ x ∈ bs, x < 256) :
    Calls Try.prog 48 #[.slice A n c] w fun e w' => e = .returned (.int .i64 (longS bs : Int)) ∧ ∃ m, w' = w.drewN m := by
  obtain ⟨b, o, rfl, c0⟩ := hA.byte (k := 0) (by omega)
  obtain ⟨b1, o1, e1, c1⟩ := hA.byte (k := 1) (by omega)
  obtain ⟨b2, o2, e2, c2⟩ := hA.byte (k := 2) (by omega)
  cases e1; cases e2
  rw [Nat.add_zero] at c0
  have hg : ∀ k, bs.getD k 0 < 256 := fun k => by
    simp only [List.getD]
    cases h : bs[k]? with
    | none => simp
    | some x => exact hb x (List.mem_of_getElem? h)
  have g0 := hg 0
  have g1 := hg 1
  have g2 := hg 2
  have HL : Hid (longS bs = 65536 * bs.getD 0 0 + 256 * bs.getD 1 0 + bs.getD 2 0) := rfl
  obtain ⟨x0, h0⟩ : ∃ x, bs.getD 0 0 = x := ⟨_, rfl⟩
  obtain ⟨x1, h1⟩ : ∃ x, bs.getD 1 0 = x := ⟨_, rfl⟩
  obtain ⟨x2, h2⟩ : ∃ x, bs.getD 2 0 = x := ⟨_, rfl⟩
  rw [h0] at c0 g0 HL
  rw [h1] at c1 g1 HL
  rw [h2] at c2 g2 HL
  obtain ⟨L, hL⟩ : ∃ L, longS bs = L := ⟨_, rfl⟩
  rw [hL] at HL ⊢
  clear hA hb hg h0 h1 h2 hL
  go_enter Try.func48, Try.ntmps48
  go_wp2_with fail
  go_quiet (fail)
  go_wp2_with fail
  go_ret
  refine ⟨?_, _, rfl⟩
  show Ending.returned (.int .i64 (bits BinOp.or IntKind.i64 (bits BinOp.or IntKind.i64 ((x0 : Int) * 65536) ((x1 : Int) * 256)) (x2 : Int))) = _
  rw [or3 x0 x1 x2 g0 g1 g2, HL.out]
set_option maxHeartbeats 1000000 in
set_option maxRecDepth 4000 in
theorem rlong_any (w : World) (bs : List Nat) (A : Option Addr) (n c : Nat) (h3 : 3 ≤ n) (hA : Sl w 1 A n (bs.map bn)) (hb : ∀ x ∈ bs, x < 256) :
    Calls Try.prog 46 #[.slice A n c] w fun e w' => e = .returned (.int .i64 (longS bs : Int)) ∧ ∃ m, w' = w.drewN m := by
  obtain ⟨b, o, rfl, c0⟩ := hA.byte (k := 0) (by omega)
  obtain ⟨b1, o1, e1, c1⟩ := hA.byte (k := 1) (by omega)
  obtain ⟨b2, o2, e2, c2⟩ := hA.byte (k := 2) (by omega)
  cases e1; cases e2
  rw [Nat.add_zero] at c0
  have hg : ∀ k, bs.getD k 0 < 256 := fun k => by
    simp only [List.getD]
    cases h : bs[k]? with
    | none => simp
    | some x => exact hb x (List.mem_of_getElem? h)
  have g0 := hg 0
  have g1 := hg 1
  have g2 := hg 2
  have HL : Hid (longS bs = 65536 * bs.getD 0 0 + 256 * bs.getD 1 0 + bs.getD 2 0) := rfl
  obtain ⟨x0, h0⟩ : ∃ x, bs.getD 0 0 = x := ⟨_, rfl⟩
  obtain ⟨x1, h1⟩ : ∃ x, bs.getD 1 0 = x := ⟨_, rfl⟩
  obtain ⟨x2, h2⟩ : ∃ x, bs.getD 2 0 = x := ⟨_, rfl⟩
  rw [h0] at c0 g0 HL
  rw [h1] at c1 g1 HL
  rw [h2] at c2 g2 HL
  obtain ⟨L, hL⟩ : ∃ L, longS bs = L := ⟨_, rfl⟩
  rw [hL] at HL ⊢
  clear hA hb hg h0 h1 h2 hL
  go_enter Try.func46, Try.ntmps46
  go_wp2_with fail
  go_quiet (fail)
  go_wp2_with fail
  go_ret
  refine ⟨?_, _, rfl⟩
  show Ending.returned (.int .i64 (65536 * (x0 : Int) + 256 * (x1 : Int) + (x2 : Int))) = _
  rw [HL.out]; congr 2
end Go.Proofs.Ytlcjhbemgagchaa
end

section
/-
  What Get, Items and what stands within them read, in plain lists of numbers.
-/
namespace Go.Proofs.Ytlcjhbemgagchaa
set_option linter.unusedVariables false

theorem readF_ok : ∀ (f k n : Nat) (l : List Nat) (N k' : Nat), readF f k n l = (N, k', 0) → k < k' ∧ k' ≤ k + l.length
  | 0, _, _, _, _, _, h => by simp [readF] at h
  | f + 1, k, n, [], N, k', h => by simp [readF] at h
  | f + 1, k, n, c :: l, N, k', h => by
    rw [readF] at h
    split at h
    · simp at h
    · split at h
      · split at h
        · simp at h
        · simp at h; simp; omega
      · have := readF_ok f (k + 1) _ l N k' h
        simp; omega
theorem readShort_ok {bs : List Nat} {a : Nat} {N : Nat} {t : Int} (h : readShort bs (a : Int) = (N, t, 0)) : (a : Int) < t ∧ t ≤ bs.length := by
  unfold readShort at h
  split at h
  · simp at h
  · rename_i hr
    simp only at h
    split at h
    · rename_i h0
      simp only [Int.toNat_natCast] at h0 h hr
      generalize hg : readF 10 0 0 (bs.drop a) = r at h0 h
      obtain ⟨x, y, z⟩ := r
      simp only at h0 h
      subst h0
      have h1 := readF_ok 10 0 0 (bs.drop a) _ _ hg
      simp only [List.length_drop] at h1
      simp only [Prod.mk.injEq] at h
      omega
    · rename_i h0
      simp at h h0; omega

/-- A length and so many bytes: where they begin and end, or where what is wrong. -/
def pieceS (bs : List Nat) (a : Nat) : (Nat × Nat) ⊕ (Nat × Int) :=
  let r := readShort bs (a : Int)
  if r.2.2 ≠ 0 then .inr (a, r.2.2) else if bs.length - r.2.1.toNat < r.1 then .inr (r.2.1.toNat, 22) else .inl (r.2.1.toNat, r.2.1.toNat + r.1)
theorem pieceS_ok {bs : List Nat} {a f t : Nat} (h : pieceS bs a = .inl (f, t)) : a < f ∧ f ≤ t ∧ t ≤ bs.length := by
  unfold pieceS at h
  simp only at h
  split at h
  · cases h
  · rename_i h0
    split at h
    · cases h
    · simp only [Sum.inl.injEq, Prod.mk.injEq] at h
      have h1 := readShort_ok (bs := bs) (a := a) (N := (readShort bs a).1) (t := (readShort bs a).2.1) (by
        have : (readShort bs (a : Int)).2.2 = 0 := by simpa using h0
        rw [← this])
      omega
theorem pieceS_bad {bs : List Nat} {a p : Nat} {e : Int} (h : pieceS bs a = .inr (p, e)) : e ≠ 0 ∧ (p ≤ a ∨ p ≤ bs.length) := by
  unfold pieceS at h
  simp only at h
  split at h
  · rename_i h0
    simp only [Sum.inr.injEq, Prod.mk.injEq] at h
    exact ⟨by rw [← h.2]; exact h0, by omega⟩
  · rename_i h0
    have h1 := readShort_ok (bs := bs) (a := a) (N := (readShort bs a).1) (t := (readShort bs a).2.1) (by
      have : (readShort bs (a : Int)).2.2 = 0 := by simpa using h0
      rw [← this])
    split at h
    · simp only [Sum.inr.injEq, Prod.mk.injEq] at h; omega
    · cases h

/-- A field that stands in bytes. -/
structure GF where
  tag : Nat
  at_ : Nat
  from_ : Nat
  to_ : Nat
def GF.val (bs : List Nat) (F : GF) : List Nat := (bs.drop F.from_).take (F.to_ - F.from_)
theorem GF.val_len {bs : List Nat} {F : GF} (h : F.to_ ≤ bs.length) : (F.val bs).length = F.to_ - F.from_ := by simp [GF.val]; omega
theorem GF.val_bytes {bs : List Nat} {F : GF} (h : ∀ x ∈ bs, x < 256) : ∀ x ∈ F.val bs, x < 256 := fun x hx => h x (List.mem_of_mem_drop (List.mem_of_mem_take hx))

/-- One field read. -/
def stepG (bs : List Nat) (a last : Nat) : GF ⊕ (Nat × Int) :=
  if bs.getD a 0 ≤ last then .inr (a, 21)
  else match pieceS bs (a + 1) with
    | .inr pe => .inr pe
    | .inl (f, t) => if t - f = 0 then .inr (a + 1, 20) else .inl ⟨bs.getD a 0, a, f, t⟩
/-- All fields from a place on: those that are right, then what is wrong first, and where. -/
def getS (bs : List Nat) (a last : Nat) : List GF × Nat × Int :=
  if h : a < bs.length then
    match stepG bs a last with
    | .inr (p, e) => ([], p, e)
    | .inl F => if h2 : a < F.to_ then
        let r := getS bs F.to_ F.tag
        (F :: r.1, r.2)
      else ([], 0, 0)
  else ([], 0, 0)
termination_by bs.length - a
decreasing_by omega
theorem getS_end {bs : List Nat} {a last : Nat} (h : ¬ a < bs.length) : getS bs a last = ([], 0, 0) := by rw [getS, dif_neg h]
theorem getS_bad {bs : List Nat} {a last p : Nat} {e : Int} (h : a < bs.length) (hs : stepG bs a last = .inr (p, e)) : getS bs a last = ([], p, e) := by rw [getS, dif_pos h, hs]
theorem getS_one {bs : List Nat} {a last : Nat} {F : GF} (h : a < bs.length) (hs : stepG bs a last = .inl F) (h2 : a < F.to_) : getS bs a last = (F :: (getS bs F.to_ F.tag).1, (getS bs F.to_ F.tag).2) := by
  rw [getS, dif_pos h, hs]; simp only [dif_pos h2]
theorem stepG_order {bs : List Nat} {a last : Nat} (h : bs.getD a 0 ≤ last) : stepG bs a last = .inr (a, 21) := by rw [stepG, if_pos h]
theorem stepG_piece {bs : List Nat} {a last p : Nat} {e : Int} (h : ¬ bs.getD a 0 ≤ last) (hp : pieceS bs (a + 1) = .inr (p, e)) : stepG bs a last = .inr (p, e) := by rw [stepG, if_neg h, hp]
theorem stepG_none {bs : List Nat} {a last f : Nat} (h : ¬ bs.getD a 0 ≤ last) (hp : pieceS bs (a + 1) = .inl (f, f)) : stepG bs a last = .inr (a + 1, 20) := by rw [stepG, if_neg h, hp]; simp
theorem stepG_one {bs : List Nat} {a last f t : Nat} (h : ¬ bs.getD a 0 ≤ last) (hp : pieceS bs (a + 1) = .inl (f, t)) (hft : f < t) : stepG bs a last = .inl ⟨bs.getD a 0, a, f, t⟩ := by
  rw [stepG, if_neg h, hp]; simp; omega
theorem stepG_bad {bs : List Nat} {a last p : Nat} {e : Int} (h : stepG bs a last = .inr (p, e)) : e ≠ 0 := by
  unfold stepG at h
  split at h
  · cases h; omega
  · split at h
    · rename_i pe hp
      cases h
      exact (pieceS_bad hp).1
    · split at h
      · cases h; omega
      · cases h
theorem getS_place (bs : List Nat) (a last : Nat) (h : (getS bs a last).2.2 = 0) : (getS bs a last).2.1 = 0 := by
  by_cases ha : a < bs.length
  · rcases hs : stepG bs a last with F | ⟨p, e⟩
    · by_cases h2 : a < F.to_
      · rw [getS_one ha hs h2] at h ⊢
        exact getS_place bs F.to_ F.tag h
      · rw [getS, dif_pos ha, hs]; simp only [dif_neg h2]
    · rw [getS_bad ha hs] at h
      exact absurd h (stepG_bad hs)
  · rw [getS_end ha]
termination_by bs.length - a
/-- What Get answers: the fields (none beside an error), the place, the error. -/
def getAll (bs : List Nat) : List GF × Nat × Int :=
  if 1048576 < bs.length then ([], 0, 3) else if (getS bs 0 0).2.2 = 0 then getS bs 0 0 else ([], (getS bs 0 0).2)
theorem getAll_place {bs : List Nat} (h : (getAll bs).2.2 = 0) : (getAll bs).2.1 = 0 := by
  unfold getAll at h ⊢
  split at h
  · simp at h
  · rename_i hb
    rw [if_neg hb]
    split at h
    · rename_i h0; rw [if_pos h0]; exact getS_place _ _ _ h0
    · rename_i h0; exact absurd h h0
end Go.Proofs.Ytlcjhbemgagchaa
end

section
/-
  piece (tlv), Copied (the reference).
-/
namespace Go.Proofs.Ytlcjhbemgagchaa
open Go.RowKit
set_option linter.unusedVariables false

theorem results_tmp4 {fn : Func} {t u v x : Tmp} (h : fn.results = #[.tmp t, .tmp u, .tmp v, .tmp x]) (tmps : Array Value) (P : Program) (w : World) :
    (results fn tmps).run P w = .ok (.tuple #[tmps.getD t undef, tmps.getD u undef, tmps.getD v undef, tmps.getD x undef]) w := by
  simp [results, h]

/-- A part of a slice. -/
theorem Sl.part {w : World} {n : Nat} {b o : Nat} {xs : List Value} (h : Sl w 1 (some ⟨b, o, none⟩) n xs) {f t : Nat} (h1 : f ≤ t) (h2 : t ≤ n) : Sl w 1 (some ⟨b, o + f, none⟩) (t - f) ((xs.drop f).take (t - f)) := by
  have hl := h.1
  refine ⟨by simp; omega, fun h0 => ⟨b, o + f, rfl, fun j u hu => ?_⟩⟩
  obtain ⟨b', o', e, hc⟩ := h.2 (by omega)
  cases e
  rw [List.getElem?_take] at hu
  split at hu
  · rw [List.getElem?_drop] at hu
    have := hc _ _ hu
    rwa [← Nat.add_assoc] at this
  · cases hu

/-- Behind piece: where the bytes lie, and in which block. -/
def PieceAt (bs : List Nat) (a : Nat) (b o : Nat) (e : Ending) : Prop :=
  (∃ (p : Nat) (er : Int), pieceS bs a = .inr (p, er) ∧ e = .returned (.tuple #[.slice none 0 0, .int .i64 0, .int .i64 (p : Int), .int .i64 er])) ∨
  (∃ f t o' : Nat, pieceS bs a = .inl (f, t) ∧ e = .returned (.tuple #[.slice (some ⟨b, o', none⟩) (t - f) (t - f), .int .i64 (t : Int), .int .i64 0, .int .i64 0]) ∧ (f < t → o' = o + f))

set_option maxHeartbeats 1000000 in
set_option maxRecDepth 4000 in
theorem piece_any (w : World) (xs : List Nat) (b o : Nat) (n c : Nat) (a : Nat) (hn : n ≤ 140737488355328) (hc : n ≤ c) (hc2 : c ≤ 9223372036854775807) (hl : n = xs.length) (ha : a ≤ n) (h256 : ∀ x ∈ xs, x < 256) (hA : Sl w 1 (some ⟨b, o, none⟩) n (xs.map bn)) :
    Calls Try.prog 143 #[.slice (some ⟨b, o, none⟩) n c, .int .i64 (a : Int)] w fun e w' => PieceAt xs a b o e ∧ w = w' := by
  obtain ⟨N, hN⟩ : ∃ N, (readShort xs a).1 = N := ⟨_, rfl⟩
  obtain ⟨T, hT⟩ : ∃ T, (readShort xs a).2.1 = T := ⟨_, rfl⟩
  obtain ⟨E, hE⟩ : ∃ E, (readShort xs a).2.2 = E := ⟨_, rfl⟩
  have hr : readShort xs a = (N, T, E) := by rw [← hN, ← hT, ← hE]
  have hv : Hid (ReadVal xs a = .tuple #[.int .u64 (N : Int), .int .i64 T, .int .i64 E]) := by show _ = _; rw [ReadVal, hr]
  have Hl := hide hl
  have hp0 : Hid (pieceS xs a = if E ≠ 0 then .inr (a, E) else if xs.length - T.toNat < N then .inr (T.toNat, 22) else .inl (T.toNat, T.toNat + N)) := by
    show _ = _; rw [pieceS, hr]
  by_cases h0 : E = 0
  · subst h0
    obtain ⟨h1, h2⟩ := readShort_ok hr
    rw [← Hl.out] at h2
    obtain ⟨t, rfl⟩ : ∃ t : Nat, T = (t : Int) := ⟨T.toNat, by omega⟩
    have hp : Hid (pieceS xs a = if n - t < N then .inr (t, 22) else .inl (t, t + N)) := by
      show _ = _; rw [hp0.out, Hl.out]; rfl
    clear hN hT hE hr hl hp0
    have w1 : IntKind.i64.wrap ((n : Int) - t) = (n : Int) - t := IntWalk.i64_in _ (by omega)
    have w2 : IntKind.u64.wrap ((n : Int) - t) = (n : Int) - t := IntWalk.u64_in _ (by omega)
    by_cases hb : n - t < N
    · have hb' : (n : Int) - t < N := by omega
      have hp' := hide (hp.out.trans (if_pos hb))
      clear hp hb
      go_enter Try.func143, Try.ntmps143
      go_wp2_with fail
      refine (tread_any _ xs _ n c _ hn Hl.out h256 hA).mono ?_
      rintro e w' ⟨rfl, rfl⟩
      rw [hv.out]
      go_wp2_with fail
      ((try simp only [Exit.inBlock, Exit.then]); refine bodyPost_ret (results_tmp4 rfl _ _ _) rfl ?_)
      exact ⟨.inl ⟨t, 22, hp'.out, rfl⟩, rfl⟩
    · have hb' : ¬ (n : Int) - t < N := by omega
      have hp' := hide (hp.out.trans (if_neg hb))
      clear hp
      have w3 : IntKind.i64.wrap (N : Int) = (N : Int) := IntWalk.i64_in _ (by omega)
      have w4 : IntKind.i64.wrap ((t : Int) + N) = (t : Int) + N := IntWalk.i64_in _ (by omega)
      have k0 : (0 : Int) ≤ t := by omega
      have k1 : (t : Int) ≤ (t : Int) + N := by omega
      have k2 : (t : Int) + N ≤ c := by omega
      go_enter Try.func143, Try.ntmps143
      go_wp2_with fail
      refine (tread_any _ xs _ n c _ hn Hl.out h256 hA).mono ?_
      rintro e w' ⟨rfl, rfl⟩
      rw [hv.out]
      go_wp2_with fail
      all_goals
        ((try simp only [Exit.inBlock, Exit.then]); refine bodyPost_ret (results_tmp4 rfl _ _ _) rfl ?_)
        first
          | (have e1 : t + N - t = 0 := by omega
             exact ⟨.inr ⟨t, t + N, o, hp'.out, by rw [e1]; rfl, fun h => by omega⟩, rfl⟩)
          | (have e1 : t + N - t = N := by omega
             exact ⟨.inr ⟨t, t + N, o + t, hp'.out, by rw [e1]; rfl, fun _ => rfl⟩, rfl⟩)
  · have hp := hide (hp0.out.trans (if_pos h0))
    clear hp0 hr hN hT hE hl
    go_enter Try.func143, Try.ntmps143
    go_wp2_with fail
    refine (tread_any _ xs _ n c _ hn Hl.out h256 hA).mono ?_
    rintro e w' ⟨rfl, rfl⟩
    rw [hv.out]
    go_wp2_with fail
    ((try simp only [Exit.inBlock, Exit.then]); refine bodyPost_ret (results_tmp4 rfl _ _ _) rfl ?_)
    exact ⟨.inl ⟨a, E, hp.out, rfl⟩, rfl⟩

theorem piece_at (w : World) (xs : List Nat) (b o : Nat) (n c : Nat) (a : Nat) (z : Int) (hz : z = (a : Int)) (hn : n ≤ 140737488355328) (hc : n ≤ c) (hc2 : c ≤ 9223372036854775807) (hl : n = xs.length) (ha : a ≤ n) (h256 : ∀ x ∈ xs, x < 256) (hA : Sl w 1 (some ⟨b, o, none⟩) n (xs.map bn)) :
    Calls Try.prog 143 #[.slice (some ⟨b, o, none⟩) n c, .int .i64 z] w fun e w' => PieceAt xs a b o e ∧ w = w' := by
  subst hz; exact piece_any w xs b o n c a hn hc hc2 hl ha h256 hA

set_option maxHeartbeats 1000000 in
set_option maxRecDepth 4000 in
theorem copied_any (w : World) (xs : List Nat) (A : Option Addr) (n c : Nat) (hn : n ≤ 140737488355328) (hA : Sl w 1 A n (xs.map bn)) :
    Calls Try.prog 134 #[.slice A n c] w (BP n xs w) := by
  obtain ⟨i0, hi, hz0, hz1, hz2⟩ := info_parts info5
  go_enter Try.func134, Try.ntmps134
  go_wp2_with (at_builtin; refine wpList_append_ow _ rfl _ _ 22 rfl 5 i0 (.int .u8 0) 1 1 Try.underlying22 hi hz0 hz1 hz2 rfl (by decide) _ _ _ _ _ rfl (Ow.nil_ _ _ _) _ _ _ _ rfl hA (bn_one _) (by unfold maxLen; omega) (by omega) ?_)
  intro A2 c2 w2 g2 hO2 hf2 hg2
  go_wp2_with fail
  go_ret
  refine ⟨A2, c2, g2, by simp, by simpa using hO2, ?_, hf2.mono fun k _ e => by cases e⟩
  intro b hb
  rcases hg2 with rfl | ⟨b', rfl, h⟩
  · cases hb
  · cases hb; exact h
end Go.Proofs.Ytlcjhbemgagchaa
end

section
/-
  append by Ow at a step of a region that draws its order.
-/
namespace Go.Proofs.Ytlcjhbemgagchaa
open Go.RowKit
set_option linter.unusedVariables false
section
variable {P : Program} (w : World)
theorem wp_append_ow {o : Oper} {a : Act} {K : Act → World → Prop} {Q : Exit → Act → World → Prop} (s x : Operand) (t : TypeId)
    (ho : o.op = .call { callee := .builtin .append, args := #[s, x], argTypes := #[t, t] })
    (e : TypeId) (i : TypeInfo) (z : Value) (size bytes : Nat) (ht : P.underlying t = some (.slice e)) (hi : P.info? e = some i) (hz : i.zero = some z)
    (hsize : i.size = size) (hby : i.bytes = bytes) (hzs : z.cells.size = size) (hsz : 0 < size)
    (A : Option Addr) (n c : Nat) (xs : List Value) (g : Option Nat) (hs : a.eval s = .slice A n c) (hown : Ow w e size A n c xs g)
    (A' : Option Addr) (m c' : Nat) (news : List Value) (hx : a.eval x = .slice A' m c') (hsrc : Sl w size A' m news) (h1 : ∀ u ∈ news, u.oneCell' = true)
    (h63 : n + m ≤ maxLen) (hbytes : (n + m) * bytes ≤ 140737488355328)
    (h : ∀ A2 c2 w2 g2, Ow w2 e size A2 (n + m) c2 (xs ++ news) g2 → Fr (fun k => some k = g) w w2 → (g2 = g ∨ ∃ b, g2 = some b ∧ w.heap.size ≤ b) → K (a.put o.dst (.slice A2 (n + m) c2)) w2) : o.wp P a w K Q := by
  obtain ⟨A2, c2, w2, g2, hrun, h2, h3, h4⟩ := run_append_ow (P := P) w t o.type e i z size bytes ht hi hz hsize hby hzs hsz A n c xs g hown A' m c' news hsrc h1 h63 hbytes
  unfold Oper.wp execOp
  simp only [ho, resolve, invoke, builtin, Sem.run_bind, Sem.run_pure, Result.andThen_ok, List.map_toArray, List.map_cons, List.map_nil, hs, hx, hrun]
  exact h A2 c2 w2 g2 h2 h3 h4
theorem step_append_ow {ops : Array Oper} {o : Oper} {a : Act} {K : Act → World → Prop} {Q : Exit → Act → World → Prop} {E : Prop} (hgd : o.guard = none) (s x : Operand) (t : TypeId)
    (ho : o.op = .call { callee := .builtin .append, args := #[s, x], argTypes := #[t, t] })
    (e : TypeId) (i : TypeInfo) (z : Value) (size bytes : Nat) (ht : P.underlying t = some (.slice e)) (hi : P.info? e = some i) (hz : i.zero = some z)
    (hsize : i.size = size) (hby : i.bytes = bytes) (hzs : z.cells.size = size) (hsz : 0 < size)
    (A : Option Addr) (n c : Nat) (xs : List Value) (g : Option Nat) (hs : a.eval s = .slice A n c) (hown : Ow w e size A n c xs g)
    (A' : Option Addr) (m c' : Nat) (news : List Value) (hx : a.eval x = .slice A' m c') (hsrc : Sl w size A' m news) (h1 : ∀ u ∈ news, u.oneCell' = true)
    (h63 : n + m ≤ maxLen) (hbytes : (n + m) * bytes ≤ 140737488355328)
    (h : ∀ A2 c2 w2 g2, Ow w2 e size A2 (n + m) c2 (xs ++ news) g2 → Fr (fun k => some k = g) w w2 → (g2 = g ∨ ∃ b, g2 = some b ∧ w.heap.size ≤ b) → K (a.put o.dst (.slice A2 (n + m) c2)) w2) :
    if Region.wanted o (yielded ops a.tmps) = true then Oper.wp P o a w K Q else E := by
  have hw : Region.wanted o (yielded ops a.tmps) = true := by simp [Region.wanted, hgd]
  rw [if_pos hw]
  exact wp_append_ow w s x t ho e i z size bytes ht hi hz hsize hby hzs hsz A n c xs g hs hown A' m c' news hx hsrc h1 h63 hbytes h
end
end Go.Proofs.Ytlcjhbemgagchaa
end
