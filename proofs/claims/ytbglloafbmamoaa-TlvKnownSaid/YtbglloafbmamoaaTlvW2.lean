/-
  Writers of the reference: put.
-/
import Derived.Test.YtbglloafbmamoaaTlvW1
namespace Go.Proofs.Ytbglloafbmamoaa
open Go.RowKit
set_option linter.unusedVariables false

set_option maxHeartbeats 4000000 in
set_option maxRecDepth 4000 in
theorem rput1_any (w : World) (o : Option WO) (s : WS) (t : Int) (V : Option Addr) (m d : Nat) (v : List Nat) (hm : m ≤ 100000000000) (hT : TAt w 55 o s) (hV : Sl w 1 V m (v.map bn)) :
    Calls Try.prog 98 #[wptr o, .int .i64 t, .slice V m d] w fun e w' => e = .returned (.tuple #[]) ∧ OOut 55 o (s.put t v) w w' := by
  obtain ⟨i0, hi, hz0, hz1, hz2⟩ := info_parts info5
  have Hm : Hid (m = v.length) := hV.len
  cases o with
  | none =>
    have hs : s = WS.none_ := hT
    have HT := hide hT
    clear hT
    show Calls _ _ #[.pointer none, _, _] _ _
    go_enter Try.func98, Try.ntmps98
    go_wp2_with fail
    ((try simp only [Exit.inBlock, Exit.then]); first | refine bodyPost_end (results_none rfl _ _ _) rfl ?_ | refine bodyPost_ret (results_none rfl _ _ _) rfl ?_)
    exact ⟨rfl, OOut.refl HT.out (WS.put_e (by rw [hs]; decide)) (Fr.refl _ _)⟩
  | some r =>
    obtain ⟨p, A, n, c, g⟩ := r
    have h : WAt w 55 ⟨p, A, n, c, g⟩ s := hT
    have c0 : w.cell? ⟨p, 0, none⟩ = some (.slice A n c) := h.bl.cell' rfl
    have c1 : w.cell? ⟨p, 1, none⟩ = some (.int .i64 (s.last : Int)) := h.bl.cell' rfl
    have c2 : w.cell? ⟨p, 2, none⟩ = some (.int .i64 s.e) := h.bl.cell' rfl
    have f0 : w.frozen? ⟨p, 0, none⟩ = false := h.bl.free 0
    have f1 : w.frozen? ⟨p, 1, none⟩ = false := h.bl.free 1
    have f2 : w.frozen? ⟨p, 2, none⟩ = false := h.bl.free 2
    have Hn : Hid (n = s.B.length) := h.ow.len
    have hn0 : n ≤ 1048576 := by rw [Hn.out]; exact h.ok.2
    have HT := hide h
    obtain ⟨la, hla⟩ : ∃ la, s.last = la := ⟨_, rfl⟩
    obtain ⟨er, her⟩ : ∃ er, s.e = er := ⟨_, rfl⟩
    rw [hla] at c1
    rw [her] at c2
    have Hla := hide hla
    have Her := hide her
    have hmU : m < U64 := by unfold U64; omega
    have hsl := short_le hmU
    clear hT hla her h
    show Calls _ _ #[.pointer (some ⟨p, 0, none⟩), _, _] _ _
    by_cases he : ¬ er = 0
    · go_enter Try.func98, Try.ntmps98
      go_wp2_with fail
      ((try simp only [Exit.inBlock, Exit.then]); first | refine bodyPost_end (results_none rfl _ _ _) rfl ?_ | refine bodyPost_ret (results_none rfl _ _ _) rfl ?_)
      exact ⟨rfl, OOut.refl (o := some _) HT.out (WS.put_e (by rw [Her.out]; exact he)) (Fr.refl _ _)⟩
    obtain rfl : er = 0 := by omega
    by_cases hm0 : m = 0
    · have hv : Hid (v = []) := List.eq_nil_of_length_eq_zero (by rw [← Hm.out]; exact hm0)
      subst hm0
      go_enter Try.func98, Try.ntmps98
      go_wp2_with fail
      ((try simp only [Exit.inBlock, Exit.then]); first | refine bodyPost_end (results_none rfl _ _ _) rfl ?_ | refine bodyPost_ret (results_none rfl _ _ _) rfl ?_)
      exact ⟨rfl, OOut.refl (o := some _) HT.out (by rw [hv.out]; exact WS.put_nil) (Fr.refl _ _)⟩
    have hvn : Hid (¬ (s.e ≠ 0 ∨ v = [])) := by
      show ¬ _
      rintro (h | h)
      · exact h Her.out
      · rw [h] at Hm; exact hm0 (by simpa using Hm.out)
    by_cases ht : t ≤ (la : Int) ∨ 255 < t
    · have hs : Hid (s.put t v = { s with e := 21 }) := by
        show _ = _; rw [WS.put, if_neg hvn.out, if_pos (by rw [Hla.out]; exact ht)]
      go_enter Try.func98, Try.ntmps98
      rcases ht with ht | ht
      all_goals
        go_wp2_with fail
        all_goals
          ((try simp only [Exit.inBlock, Exit.then]); first | refine bodyPost_end (results_none rfl _ _ _) rfl ?_ | refine bodyPost_ret (results_none rfl _ _ _) rfl ?_)
          rw [hs.out]
          exact ⟨rfl, OOut.fault (r := ⟨p, A, n, c, g⟩) HT.out (Fr.refl _ _) (by decide)⟩
    have ht1 : ¬ t ≤ (la : Int) := fun h => ht (.inl h)
    have ht2 : ¬ 255 < t := fun h => ht (.inr h)
    have ht3 : ¬ t < 1 := by omega
    obtain ⟨tn, rfl⟩ : ∃ tn : Nat, t = (tn : Int) := ⟨t.toNat, by omega⟩
    have hfl : Hid ((formF tn v).length = 1 + (short m).length + m) := by show _ = _; rw [formF_len, ← Hm.out]
    obtain ⟨q, hq⟩ : ∃ q, q = 1 + (short m).length + m := ⟨_, rfl⟩
    have Hq := hide hq
    have hqb : q ≤ 100000000011 := by omega
    clear hq
    have w1 : IntKind.i64.wrap ((n : Int) + (q : Int)) = (n : Int) + q := IntWalk.i64_in _ (by omega)
    go_enter Try.func98, Try.ntmps98
    go_wp2_with fail
    refine (form_any _ v V m d tn (by omega) (by omega) hV).mono ?_
    rintro e w2 ⟨A2, c2', g2, rfl, hO2, hg2, hf02⟩
    rw [← Hq.out] at hO2
    rw [← Hq.out]
    have hW2 : WAt w2 55 ⟨p, A, n, c, g⟩ s := (show TAt w2 55 (some ⟨p, A, n, c, g⟩) s from TAt.quiet (o := some _) HT.out hf02)
    have k0 : w2.cell? ⟨p, 0, none⟩ = some (.slice A n c) := hW2.bl.cell' rfl
    have k1 : w2.cell? ⟨p, 1, none⟩ = some (.int .i64 (la : Int)) := by rw [← Hla.out]; exact hW2.bl.cell' rfl
    have k2 : w2.cell? ⟨p, 2, none⟩ = some (.int .i64 0) := by rw [← Her.out]; exact hW2.bl.cell' rfl
    have kf0 : w2.frozen? ⟨p, 0, none⟩ = false := hW2.bl.free 0
    have kf1 : w2.frozen? ⟨p, 1, none⟩ = false := hW2.bl.free 1
    have kf2 : w2.frozen? ⟨p, 2, none⟩ = false := hW2.bl.free 2
    have HW2 := hide hW2
    clear hW2
    by_cases hbig : 1048576 < n + q
    · have hb' : (1048576 : Int) < (n : Int) + q := by omega
      have hs : Hid (s.put (tn : Int) v = { s with e := 3 }) := by
        show _ = _
        rw [WS.put, if_neg hvn.out, if_neg (by rw [Hla.out]; omega), if_pos (by rw [Int.toNat_natCast, hfl.out, ← Hq.out, ← Hn.out]; omega)]
      clear hbig
      go_wp2_with fail
      ((try simp only [Exit.inBlock, Exit.then]); first | refine bodyPost_end (results_none rfl _ _ _) rfl ?_ | refine bodyPost_ret (results_none rfl _ _ _) rfl ?_)
      rw [hs.out]
      exact ⟨rfl, OOut.fault (r := ⟨p, A, n, c, g⟩) HW2.out hf02 (by decide)⟩
    · have hb' : ¬ (1048576 : Int) < (n : Int) + q := by omega
      have hs : Hid (s.put (tn : Int) v = ⟨s.B ++ formF tn v, tn, 0⟩) := by
        show _ = _
        rw [WS.put, if_neg hvn.out, if_neg (by rw [Hla.out]; omega), if_neg (by rw [Int.toNat_natCast, hfl.out, ← Hq.out, ← Hn.out]; omega), Int.toNat_natCast]
      clear hbig
      go_wp2_with (first | (at_builtin; refine wpList_append_ow _ rfl _ _ 23 rfl 5 i0 (.int .u8 0) 1 1 Try.underlying23 hi hz0 hz1 hz2 rfl (by decide) _ _ _ _ _ rfl HW2.out.ow _ _ _ _ rfl hO2.sl (bn_one _) (by unfold maxLen; omega) (by omega) ?_) | go_in)
      intro A3 c3 w3 g3 hO3 hf3 hg3
      have hpg : ¬ some p = g := fun e => by
        have := HW2.out.ow
        rw [show (WO.mk p A n c g).g = some p from e.symm] at this
        exact this.neBl HW2.out.bl (by decide) rfl
      have hB3 := HW2.out.bl.fr hf3 hpg
      have m0 : w3.cell? ⟨p, 0, none⟩ = some (.slice A n c) := hB3.cell' rfl
      have m1 : w3.cell? ⟨p, 1, none⟩ = some (.int .i64 (la : Int)) := by rw [← Hla.out]; exact hB3.cell' rfl
      have mf0 : w3.frozen? ⟨p, 0, none⟩ = false := hB3.free 0
      have mf1 : w3.frozen? ⟨p, 1, none⟩ = false := hB3.free 1
      have HB3 := hide hB3
      have HO3 := hide hO3
      clear hB3 hO3
      go_wp2_with fail
      ((try simp only [Exit.inBlock, Exit.then]); first | refine bodyPost_end (results_none rfl _ _ _) rfl ?_ | refine bodyPost_ret (results_none rfl _ _ _) rfl ?_)
      rw [hs.out]
      have hO3 := HO3.out
      rw [← List.map_append] at hO3
      have hBB := (HB3.out.set 0 (.slice A3 (n + q) c3)).set 1 (.int .i64 (tn : Int))
      have hpg3 : ∀ b, g3 = some b → b ≠ p := fun b e e2 => by
        subst e2; rw [e] at hO3
        exact hO3.neBl HB3.out (by decide) rfl
      refine ⟨rfl, OOut.some_ (r := ⟨p, A, n, c, g⟩) (r' := ⟨p, A3, n + q, c3, g3⟩) rfl ⟨?_, ?_, ?_⟩ ?_ ?_⟩
      · simpa [Her.out] using hBB
      · exact hO3.fr (Fr.setIn (S := fun x => x = p) (Fr.setIn (S := fun x => x = p) (Fr.refl _ _) (.inl rfl) _) (.inl rfl) _) fun b e1 e2 => hpg3 b e1 e2
      · rw [← hs.out]; exact WS.put_ok HT.out.ok _ _
      · rcases hg3 with h | ⟨b, h, hb⟩
        · exact .inl h
        · exact .inr ⟨b, h, Nat.le_trans hf02.size hb⟩
      · exact Fr.setIn (S := fun x => x = p ∨ some x = g) (Fr.setIn (S := fun x => x = p ∨ some x = g) ((hf02.weak _).comp hf3 fun x _ e => .inr e) (.inl (.inl rfl)) _) (.inl (.inl rfl)) _
end Go.Proofs.Ytbglloafbmamoaa
