/-
  piece (tlv), Copied (the reference).
-/
import Derived.Test.YtbglloafbmamoaaTlvField
import Derived.Test.YtbglloafbmamoaaTlvGetSpec
namespace Go.Proofs.Ytbglloafbmamoaa
open Go.RowKit
set_option linter.unusedVariables false

theorem results_tmp4 {fn : Func} {t u v x : Tmp} (h : fn.results = #[.tmp t, .tmp u, .tmp v, .tmp x]) (tmps : Array Value) (P : Program) (w : World) :
    (results fn tmps).run P w = .ok (.tuple #[tmps.getD t undef, tmps.getD u undef, tmps.getD v undef, tmps.getD x undef]) w := by
  simp [results, h]

/-- A part of a slice. -/
theorem Sl.part {w : World} {n : Nat} {b o : Nat} {xs : List Value} (h : Sl w 1 (some ⟨b, o, none⟩) n xs) {f t : Nat} (h1 : f ≤ t) (h2 : t ≤ n) : Sl w 1 (some ⟨b, o + f, none⟩) (t - f) ((xs.drop f).take (t - f)) := by
  have hl := h.1
  refine ⟨by simp; omega, fun h0 => ⟨b, o + f, rfl, fun j u hu => ?_⟩⟩
  obtain ⟨b', o', e, hc⟩ := h.2 (by omega)
  cases e
  rw [List.getElem?_take] at hu
  split at hu
  · rw [List.getElem?_drop] at hu
    have := hc _ _ hu
    rwa [← Nat.add_assoc] at this
  · cases hu

/-- Behind piece: where the bytes lie, and in which block. -/
def PieceAt (bs : List Nat) (a : Nat) (b o : Nat) (e : Ending) : Prop :=
  (∃ (p : Nat) (er : Int), pieceS bs a = .inr (p, er) ∧ e = .returned (.tuple #[.slice none 0 0, .int .i64 0, .int .i64 (p : Int), .int .i64 er])) ∨
  (∃ f t o' : Nat, pieceS bs a = .inl (f, t) ∧ e = .returned (.tuple #[.slice (some ⟨b, o', none⟩) (t - f) (t - f), .int .i64 (t : Int), .int .i64 0, .int .i64 0]) ∧ (f < t → o' = o + f))

set_option maxHeartbeats 1000000 in
set_option maxRecDepth 4000 in
theorem piece_any (w : World) (xs : List Nat) (b o : Nat) (n c : Nat) (a : Nat) (hn : n ≤ 140737488355328) (hc : n ≤ c) (hc2 : c ≤ 9223372036854775807) (hl : n = xs.length) (ha : a ≤ n) (h256 : ∀ x ∈ xs, x < 256) (hA : Sl w 1 (some ⟨b, o, none⟩) n (xs.map bn)) :
    Calls Try.prog 99 #[.slice (some ⟨b, o, none⟩) n c, .int .i64 (a : Int)] w fun e w' => PieceAt xs a b o e ∧ w = w' := by
  obtain ⟨N, hN⟩ : ∃ N, (readShort xs a).1 = N := ⟨_, rfl⟩
  obtain ⟨T, hT⟩ : ∃ T, (readShort xs a).2.1 = T := ⟨_, rfl⟩
  obtain ⟨E, hE⟩ : ∃ E, (readShort xs a).2.2 = E := ⟨_, rfl⟩
  have hr : readShort xs a = (N, T, E) := by rw [← hN, ← hT, ← hE]
  have hv : Hid (ReadVal xs a = .tuple #[.int .u64 (N : Int), .int .i64 T, .int .i64 E]) := by show _ = _; rw [ReadVal, hr]
  have Hl := hide hl
  have hp0 : Hid (pieceS xs a = if E ≠ 0 then .inr (a, E) else if xs.length - T.toNat < N then .inr (T.toNat, 22) else .inl (T.toNat, T.toNat + N)) := by
    show _ = _; rw [pieceS, hr]
  by_cases h0 : E = 0
  · subst h0
    obtain ⟨h1, h2⟩ := readShort_ok hr
    rw [← Hl.out] at h2
    obtain ⟨t, rfl⟩ : ∃ t : Nat, T = (t : Int) := ⟨T.toNat, by omega⟩
    have hp : Hid (pieceS xs a = if n - t < N then .inr (t, 22) else .inl (t, t + N)) := by
      show _ = _; rw [hp0.out, Hl.out]; rfl
    clear hN hT hE hr hl hp0
    have w1 : IntKind.i64.wrap ((n : Int) - t) = (n : Int) - t := IntWalk.i64_in _ (by omega)
    have w2 : IntKind.u64.wrap ((n : Int) - t) = (n : Int) - t := IntWalk.u64_in _ (by omega)
    by_cases hb : n - t < N
    · have hb' : (n : Int) - t < N := by omega
      have hp' := hide (hp.out.trans (if_pos hb))
      clear hp hb
      go_enter Try.func99, Try.ntmps99
      go_wp2_with fail
      refine (tread_any _ xs _ n c _ hn Hl.out h256 hA).mono ?_
      rintro e w' ⟨rfl, rfl⟩
      rw [hv.out]
      go_wp2_with fail
      ((try simp only [Exit.inBlock, Exit.then]); refine bodyPost_ret (results_tmp4 rfl _ _ _) rfl ?_)
      exact ⟨.inl ⟨t, 22, hp'.out, rfl⟩, rfl⟩
    · have hb' : ¬ (n : Int) - t < N := by omega
      have hp' := hide (hp.out.trans (if_neg hb))
      clear hp
      have w3 : IntKind.i64.wrap (N : Int) = (N : Int) := IntWalk.i64_in _ (by omega)
      have w4 : IntKind.i64.wrap ((t : Int) + N) = (t : Int) + N := IntWalk.i64_in _ (by omega)
      have k0 : (0 : Int) ≤ t := by omega
      have k1 : (t : Int) ≤ (t : Int) + N := by omega
      have k2 : (t : Int) + N ≤ c := by omega
      go_enter Try.func99, Try.ntmps99
      go_wp2_with fail
      refine (tread_any _ xs _ n c _ hn Hl.out h256 hA).mono ?_
      rintro e w' ⟨rfl, rfl⟩
      rw [hv.out]
      go_wp2_with fail
      all_goals
        ((try simp only [Exit.inBlock, Exit.then]); refine bodyPost_ret (results_tmp4 rfl _ _ _) rfl ?_)
        first
          | (have e1 : t + N - t = 0 := by omega
             exact ⟨.inr ⟨t, t + N, o, hp'.out, by rw [e1]; rfl, fun h => by omega⟩, rfl⟩)
          | (have e1 : t + N - t = N := by omega
             exact ⟨.inr ⟨t, t + N, o + t, hp'.out, by rw [e1]; rfl, fun _ => rfl⟩, rfl⟩)
  · have hp := hide (hp0.out.trans (if_pos h0))
    clear hp0 hr hN hT hE hl
    go_enter Try.func99, Try.ntmps99
    go_wp2_with fail
    refine (tread_any _ xs _ n c _ hn Hl.out h256 hA).mono ?_
    rintro e w' ⟨rfl, rfl⟩
    rw [hv.out]
    go_wp2_with fail
    ((try simp only [Exit.inBlock, Exit.then]); refine bodyPost_ret (results_tmp4 rfl _ _ _) rfl ?_)
    exact ⟨.inl ⟨a, E, hp.out, rfl⟩, rfl⟩

theorem piece_at (w : World) (xs : List Nat) (b o : Nat) (n c : Nat) (a : Nat) (z : Int) (hz : z = (a : Int)) (hn : n ≤ 140737488355328) (hc : n ≤ c) (hc2 : c ≤ 9223372036854775807) (hl : n = xs.length) (ha : a ≤ n) (h256 : ∀ x ∈ xs, x < 256) (hA : Sl w 1 (some ⟨b, o, none⟩) n (xs.map bn)) :
    Calls Try.prog 99 #[.slice (some ⟨b, o, none⟩) n c, .int .i64 z] w fun e w' => PieceAt xs a b o e ∧ w = w' := by
  subst hz; exact piece_any w xs b o n c a hn hc hc2 hl ha h256 hA

set_option maxHeartbeats 1000000 in
set_option maxRecDepth 4000 in
theorem copied_any (w : World) (xs : List Nat) (A : Option Addr) (n c : Nat) (hn : n ≤ 140737488355328) (hA : Sl w 1 A n (xs.map bn)) :
    Calls Try.prog 74 #[.slice A n c] w (BP n xs w) := by
  obtain ⟨i0, hi, hz0, hz1, hz2⟩ := info_parts info5
  go_enter Try.func74, Try.ntmps74
  go_wp2_with (at_builtin; refine wpList_append_ow _ rfl _ _ 23 rfl 5 i0 (.int .u8 0) 1 1 Try.underlying23 hi hz0 hz1 hz2 rfl (by decide) _ _ _ _ _ rfl (Ow.nil_ _ _ _) _ _ _ _ rfl hA (bn_one _) (by unfold maxLen; omega) (by omega) ?_)
  intro A2 c2 w2 g2 hO2 hf2 hg2
  go_wp2_with fail
  go_ret
  refine ⟨A2, c2, g2, by simp, by simpa using hO2, ?_, hf2.mono fun k _ e => by cases e⟩
  intro b hb
  rcases hg2 with rfl | ⟨b', rfl, h⟩
  · cases hb
  · cases hb; exact h
end Go.Proofs.Ytbglloafbmamoaa
