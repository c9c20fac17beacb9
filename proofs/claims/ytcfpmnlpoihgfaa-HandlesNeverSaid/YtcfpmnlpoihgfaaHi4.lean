/-
  HandlesNever: the walk. (printed by hn_never.py)
-/
import Derived.Test.YtcfpmnlpoihgfaaHi3
namespace Go.Proofs.Ytcfpmnlpoihgfaa
open Go.RowKit
set_option linter.unusedVariables false
set_option linter.unusedSimpArgs false
abbrev tOp : TypeId := 37
theorem infoN : (Try.prog.info? tNote).map (fun i => (i.zero, i.size, i.bytes)) = some (some (.agg #[.int .i64 0, .int .i64 0, .bool false]), 3, 24) := by kernel_rfl
/-- Between two steps: so many notes, this slice. -/
def NR (w : World) (p R M n : Nat) (vl vi : Value) (wr : World) : Prop := ∃ (i m : Nat) (B : Option Addr) (c2 : Nat), i ≤ n ∧ m ≤ i ∧ vl = .slice B m c2 ∧ vi = .int .i64 (i : Int) ∧ Hid (NI w p R M m B c2 wr)
set_option maxHeartbeats 4000000 in
set_option maxRecDepth 8000 in
theorem never_walk (w : World) (room most : Int) (A : Option Addr) (n c : Nat) (hn : n * 40 ≤ 140737488355328) (f : Nat → Nat → Value) (kd wh hh xx mm : Nat → Int) (hs : Cells w w.heap.size A n 5 f)
    (h0 : ∀ i, i < n → f i 0 = .int .i64 (kd i)) (h1 : ∀ i, i < n → f i 1 = .int .i64 (wh i)) (h2 : ∀ i, i < n → f i 2 = .int .i64 (hh i)) (h3 : ∀ i, i < n → f i 3 = .int .i64 (xx i)) (h4 : ∀ i, i < n → f i 4 = .int .i64 (mm i)) :
    Calls Try.prog 4 #[.int .i64 room, .int .i64 most, .slice A n c] w fun e w' => e = .returned (.bool true) ∧ Below w.heap.size w w' := by
  obtain ⟨jn, jn0, jn1, jn2, jn3⟩ := info_parts infoN
  by_cases hbad : room < 1 ∨ 65536 < room ∨ most < 1 ∨ 4294967296 < most
  · have Hb := hide hbad
    clear hbad hs
    go_enter Try.func4, Try.ntmps4
    go_wp2_with fail
    refine (awake_any w).mono ?_
    rintro e w1 ⟨rfl, hf1⟩
    go_wp2_with fail
    refine (new_bad w1 room most Hb.out).mono ?_
    rintro e w2 ⟨rfl, rfl⟩
    go_wp2_with fail
    go_ret
    exact ⟨rfl, hf1.toBelow (Nat.le_refl _) (fun _ _ => id)⟩
  obtain ⟨R, rfl⟩ : ∃ R : Nat, room = (R : Int) := ⟨room.toNat, by omega⟩
  obtain ⟨M, rfl⟩ : ∃ M : Nat, most = (M : Int) := ⟨most.toNat, by omega⟩
  have Hb : Hid (1 ≤ R ∧ R ≤ 65536 ∧ 1 ≤ M ∧ M ≤ 4294967296) := (by omega : 1 ≤ R ∧ R ≤ 65536 ∧ 1 ≤ M ∧ M ≤ 4294967296)
  clear hbad
  by_cases h600 : 600 < n
  · have i0 : (600 : Int) < (n : Int) := by omega
    clear hs
    go_enter Try.func4, Try.ntmps4
    go_wp2_with fail
    refine (awake_any w).mono ?_
    rintro e w1 ⟨rfl, hf1⟩
    go_wp2_with fail
    refine (new_ok w1 R M Hb.out.1 Hb.out.2.1 Hb.out.2.2.1 Hb.out.2.2.2).mono ?_
    rintro e w2 ⟨p, F, rfl, hT, hF, hf⟩
    go_wp2_with fail
    go_ret
    exact ⟨rfl, (hf1.trans hf).toBelow (Nat.le_refl _) (fun _ _ => id)⟩
  have i0 : decide ((600 : Int) < (n : Int)) = false := decide_eq_false (by omega)
  obtain ⟨N, hN⟩ : ∃ N, R * M = N := ⟨_, rfl⟩
  have HN := hide hN
  have HNb : Hid (N ≤ 65536 * 4294967296) := by rw [← hN]; exact Nat.mul_le_mul Hb.out.2.1 Hb.out.2.2.2
  clear hN
  go_enter Try.func4, Try.ntmps4
  go_wp2_with fail
  refine (awake_any w).mono ?_
  rintro e w1 ⟨rfl, hf1⟩
  have Hf1 := hide hf1
  clear hf1
  go_wp2_with fail
  refine (new_ok w1 R M Hb.out.1 Hb.out.2.1 Hb.out.2.2.1 Hb.out.2.2.2).mono ?_
  rintro e w2 ⟨p, F, rfl, hT, hF, hf⟩
  have HI0 : Hid (NI w p R M 0 none 0 w2) := NI.begin (Hf1.out.trans hf) hT (fun k hk => by have := hF k hk; have := Hf1.out.size; omega)
  clear hT hF hf
  go_wp2_with fail
  refine (nleft HI0.out (lf := N) (by rw [HN.out]; rfl)).mono ?_
  rintro e w3 ⟨rfl, rfl⟩
  go_wp2_with fail
  go_loopw [10, 11] (fun vl vi wr => NR w p R M n vl vi wr) (fun _ vi _ => n - (intOf vi).toNat)
  case atStart => exact ⟨0, 0, none, 0, Nat.zero_le _, Nat.le_refl _, rfl, rfl, HI0⟩
  case round =>
    clear HI0
    obtain ⟨i, m, B, c2, hi, hmi, rfl, rfl, HI⟩ := hrel
    by_cases hlt : i < n
    · obtain ⟨wo, rfl⟩ : ∃ wo, wo = wr := ⟨_, rfl⟩
      obtain ⟨bk, o, rfl, hbB, hcs⟩ := hs (by omega)
      have hc : ∀ j, j < 5 → wo.cell? ⟨bk, o + i * 5 + j, none⟩ = some (f i j) := fun j hj => (HI.out.fr.cell (p := ⟨bk, o + i * 5 + j, none⟩) hbB id).trans (hcs i j hlt hj)
      have d0 := (hc 0 (by omega)).trans (congrArg some (h0 i hlt))
      rw [Nat.add_zero] at d0
      have d1 := (hc 1 (by omega)).trans (congrArg some (h1 i hlt))
      have d2 := (hc 2 (by omega)).trans (congrArg some (h2 i hlt))
      have d3 := (hc 3 (by omega)).trans (congrArg some (h3 i hlt))
      have d4 := (hc 4 (by omega)).trans (congrArg some (h4 i hlt))
      obtain ⟨kk, hkk⟩ : ∃ z, kd i = z := ⟨_, rfl⟩
      obtain ⟨ww, hww⟩ : ∃ z, wh i = z := ⟨_, rfl⟩
      obtain ⟨hz, hhz⟩ : ∃ z, hh i = z := ⟨_, rfl⟩
      obtain ⟨xz, hxz⟩ : ∃ z, xx i = z := ⟨_, rfl⟩
      obtain ⟨mz, hmz⟩ : ∃ z, mm i = z := ⟨_, rfl⟩
      rw [hkk] at d0
      rw [hww] at d1
      rw [hhz] at d2
      rw [hxz] at d3
      rw [hmz] at d4
      have i1 : (0 : Int) ≤ (i : Int) := by omega
      have i2' : (i : Int) < (n : Int) := by omega
      have qi : IntKind.i64.wrap ((i : Int) + 1) = ((i + 1 : Nat) : Int) := by rw [IntWalk.i64_in _ (by omega)]; omega
      have Hlt := hide hlt
      have Hrd0 : Hid True := trivial
      clear hc hcs hs h0 h1 h2 h3 h4 hkk hww hhz hxz hmz hlt hi
      by_cases hm0 : m = 0
      · subst hm0
        clear Hrd0
        by_cases k1 : kk = 1
        · subst k1
          go_wp2_with fail
          have HIb : Hid (NI w p R M 0 B c2 (wo.alloc (.cells #[.int .i64 1, .int .i64 ww, .int .i64 hz, .int .i64 xz, .int .i64 mz] tOp))) := HI.out.step ((Fr.refl (fun _ => False) wo).alloc _)
          have hbb : Bl (wo.alloc (.cells #[.int .i64 1, .int .i64 ww, .int .i64 hz, .int .i64 xz, .int .i64 mz] tOp)) wo.heap.size tOp #[.int .i64 1, .int .i64 ww, .int .i64 hz, .int .i64 xz, .int .i64 mz] := Bl.new _ _ _
          have Hbb := hide hbb
          clear hbb
          refine (nadd HIb.out xz (by omega)).mono ?_
          rintro e w3 (⟨rfl, hw⟩ | ⟨h, rfl, hA, hKp⟩)
          · have HI3 : Hid (NI w p R M 0 B c2 w3) := by rw [← hw]; exact HIb.out
            clear hw
            go_wp2_with fail
            go_loopw [16] (fun vj wq => ∃ j : Nat, j ≤ 0 ∧ vj = .int .i64 (j : Int) ∧ Hid (NI w p R M 0 B c2 wq)) (fun vj _ => 0 - (intOf vj).toNat)
            case atStart => exact ⟨0, Nat.zero_le _, rfl, HI3⟩
            case round =>
              obtain ⟨j, hj, rfl, HJ⟩ := hrel
              obtain rfl : j = 0 := by omega
              clear hj
              have hle := HJ.out.le
              rw [HN.out] at hle
              obtain ⟨lf, hlf⟩ : ∃ lf, lf + 0 = N := ⟨N - (0), by omega⟩
              have qf : IntKind.i64.wrap (N : Int) = (lf : Int) := by have := HNb.out; rw [IntWalk.i64_in _ (by omega)]; omega
              have Hlf := hide hlf
              clear hle hlf
              go_wp2_with fail
              refine (nright HJ.out (by omega)).mono ?_
              rintro e w9 ⟨rfl, rfl⟩
              go_wp2_with fail
              refine (nleft HJ.out (by rw [HN.out]; exact Hlf.out)).mono ?_
              rintro e w9 ⟨rfl, rfl⟩
              go_wp2_with fail
              have hlt := Hlt.out
              exact ⟨⟨i + 1, 0, B, c2, by omega, by omega, rfl, by first | rfl | go_num, HJ⟩, by simp [intOf]; omega⟩
          · have Hob := hide (hKp _ _ _ Hbb.out (by decide) (by decide) (by decide))
            have HA := hide hA
            have Hob3 := Hob.out.cell' (i := 3) (v := .int .i64 xz) rfl
            clear hA hKp
            go_wp2_with fail
            go_loopw [16] (fun vj wq => ∃ j : Nat, j ≤ 0 ∧ vj = .int .i64 (j : Int) ∧ Hid (wq = w3)) (fun vj _ => 0 - (intOf vj).toNat)
            case atStart => exact ⟨0, Nat.zero_le _, rfl, rfl⟩
            case round =>
              obtain ⟨j, hj, rfl, hw⟩ := hrel
              have hw2 := hw.out
              subst hw2
              obtain ⟨s, l, g, F, hN⟩ := HA.out
              obtain rfl : j = 0 := by omega
              · have HN2 := hide hN
                clear hj hN
                go_wp2_with (first | (at_builtin; go_loud (refine wpList_append_ow _ rfl _ _ 35 rfl tNote jn _ 3 24 Try.underlying35 jn0 jn1 jn2 jn3 rfl (by decide) _ _ _ _ _ rfl (Ow.fr (S := fun _ => False) HN2.out.na ((Fr.refl _ _).alloc _) (fun _ _ => id)) _ _ _ [.int .i64 h, .int .i64 xz, .bool false] rfl (Sl.row _ [.int .i64 h, .int .i64 xz, .bool false] tNote 3 1 rfl) (by intro u hu; simp at hu; rcases hu with rfl | rfl | rfl <;> rfl) (by unfold maxLen; omega) (by omega) ?_)) | go_in)
                intro A4 c4 w4 g4 hO4 hf4 hg4
                have HJ : Hid (NI w p R M (0 + 1) A4 c4 w4) := HN2.out.app (((Fr.refl (fun k => some k = g) wr).alloc _).comp hf4 (fun _ _ e => e)) hO4 (hg4.imp id fun ⟨b, e, hb⟩ => ⟨b, e, by first | omega | (simp at hb; omega)⟩)
                clear hO4 hf4 hg4 Hob3
                have hle := HJ.out.le
                rw [HN.out] at hle
                obtain ⟨lf, hlf⟩ : ∃ lf, lf + 0 + 1 = N := ⟨N - (0 + 1), by omega⟩
                have qf : IntKind.i64.wrap ((N : Int) - 1) = (lf : Int) := by have := HNb.out; rw [IntWalk.i64_in _ (by omega)]; omega
                have Hlf := hide hlf
                clear hle hlf
                go_wp2_with fail
                refine (nright HJ.out (by omega)).mono ?_
                rintro e w9 ⟨rfl, rfl⟩
                go_wp2_with fail
                refine (nleft HJ.out (by rw [HN.out]; exact Hlf.out)).mono ?_
                rintro e w9 ⟨rfl, rfl⟩
                go_wp2_with fail
                have hlt := Hlt.out
                exact ⟨⟨i + 1, 0 + 1, A4, c4, by omega, by omega, rfl, by first | rfl | go_num, HJ⟩, by simp [intOf]; omega⟩
        · by_cases k3 : kk = 3
          · subst k3
            clear k1
            have HIb : Hid (NI w p R M 0 B c2 (wo.alloc (.cells #[.int .i64 3, .int .i64 ww, .int .i64 hz, .int .i64 xz, .int .i64 mz] tOp))) := HI.out.step ((Fr.refl (fun _ => False) wo).alloc _)
            have hle := HIb.out.le
            rw [HN.out] at hle
            obtain ⟨lf, hlf⟩ : ∃ lf, lf + 0 = N := ⟨N - (0), by omega⟩
            have qf : IntKind.i64.wrap (N : Int) = (lf : Int) := by have := HNb.out; rw [IntWalk.i64_in _ (by omega)]; omega
            have Hlf := hide hlf
            clear hle hlf
            go_wp2_with fail
            refine (nright HIb.out (by omega)).mono ?_
            rintro e w9 ⟨rfl, rfl⟩
            go_wp2_with fail
            refine (nleft HIb.out (by rw [HN.out]; exact Hlf.out)).mono ?_
            rintro e w9 ⟨rfl, rfl⟩
            go_wp2_with fail
            have hlt := Hlt.out
            exact ⟨⟨i + 1, 0, B, c2, by omega, by omega, rfl, by first | rfl | go_num, HIb⟩, by simp [intOf]; omega⟩
          · by_cases k4 : kk = 4
            · subst k4
              clear k1 k3
              have HIb : Hid (NI w p R M 0 B c2 (wo.alloc (.cells #[.int .i64 4, .int .i64 ww, .int .i64 hz, .int .i64 xz, .int .i64 mz] tOp))) := HI.out.step ((Fr.refl (fun _ => False) wo).alloc _)
              have hle := HIb.out.le
              rw [HN.out] at hle
              obtain ⟨lf, hlf⟩ : ∃ lf, lf + 0 = N := ⟨N - (0), by omega⟩
              have qf : IntKind.i64.wrap (N : Int) = (lf : Int) := by have := HNb.out; rw [IntWalk.i64_in _ (by omega)]; omega
              have Hlf := hide hlf
              clear hle hlf
              go_wp2_with fail
              refine (nright HIb.out (by omega)).mono ?_
              rintro e w9 ⟨rfl, rfl⟩
              go_wp2_with fail
              refine (nleft HIb.out (by rw [HN.out]; exact Hlf.out)).mono ?_
              rintro e w9 ⟨rfl, rfl⟩
              go_wp2_with fail
              have hlt := Hlt.out
              exact ⟨⟨i + 1, 0, B, c2, by omega, by omega, rfl, by first | rfl | go_num, HIb⟩, by simp [intOf]; omega⟩
            · have n1 : ((kk : Int) == 1) = false := beq_eq_false_iff_ne.2 k1
              have n3 : ((kk : Int) == 3) = false := beq_eq_false_iff_ne.2 k3
              have n4 : ((kk : Int) == 4) = false := beq_eq_false_iff_ne.2 k4
              clear k1 k3 k4
              have HIb : Hid (NI w p R M 0 B c2 (wo.alloc (.cells #[.int .i64 kk, .int .i64 ww, .int .i64 hz, .int .i64 xz, .int .i64 mz] tOp))) := HI.out.step ((Fr.refl (fun _ => False) wo).alloc _)
              have hle := HIb.out.le
              rw [HN.out] at hle
              obtain ⟨lf, hlf⟩ : ∃ lf, lf + 0 = N := ⟨N - (0), by omega⟩
              have qf : IntKind.i64.wrap (N : Int) = (lf : Int) := by have := HNb.out; rw [IntWalk.i64_in _ (by omega)]; omega
              have Hlf := hide hlf
              clear hle hlf
              go_wp2_with fail
              refine (nright HIb.out (by omega)).mono ?_
              rintro e w9 ⟨rfl, rfl⟩
              go_wp2_with fail
              refine (nleft HIb.out (by rw [HN.out]; exact Hlf.out)).mono ?_
              rintro e w9 ⟨rfl, rfl⟩
              go_wp2_with fail
              have hlt := Hlt.out
              exact ⟨⟨i + 1, 0, B, c2, by omega, by omega, rfl, by first | rfl | go_num, HIb⟩, by simp [intOf]; omega⟩
      · have hm1 : 0 < m := by omega
        clear hm0
        by_cases k1 : kk = 1
        · subst k1
          go_wp2_with fail
          refine (round_any _ _ _ (by omega) (by omega)).mono ?_
          rintro e w' ⟨rfl, rfl⟩
          go_wp2_with fail
          have HIb : Hid (NI w p R M m B c2 (wo.alloc (.cells #[.int .i64 1, .int .i64 ww, .int .i64 hz, .int .i64 xz, .int .i64 mz] tOp))) := HI.out.step ((Fr.refl (fun _ => False) wo).alloc _)
          have hbb : Bl (wo.alloc (.cells #[.int .i64 1, .int .i64 ww, .int .i64 hz, .int .i64 xz, .int .i64 mz] tOp)) wo.heap.size tOp #[.int .i64 1, .int .i64 ww, .int .i64 hz, .int .i64 xz, .int .i64 mz] := Bl.new _ _ _
          have Hbb := hide hbb
          clear hbb
          refine (nadd HIb.out xz (by omega)).mono ?_
          rintro e w3 (⟨rfl, hw⟩ | ⟨h, rfl, hA, hKp⟩)
          · have HI3 : Hid (NI w p R M m B c2 w3) := by rw [← hw]; exact HIb.out
            clear hw
            go_wp2_with fail
            go_loopw [16] (fun vj wq => ∃ j : Nat, j ≤ m ∧ vj = .int .i64 (j : Int) ∧ Hid (NI w p R M m B c2 wq)) (fun vj _ => m - (intOf vj).toNat)
            case atStart => exact ⟨0, Nat.zero_le _, rfl, HI3⟩
            case round =>
              obtain ⟨j, hj, rfl, HJ⟩ := hrel
              by_cases hjl : j < m
              · have i2 : (j : Int) < (m : Int) := by omega
                have q9 : IntKind.i64.wrap ((j : Int) + 1) = ((j + 1 : Nat) : Int) := by rw [IntWalk.i64_in _ (by omega)]; omega
                go_wp2_with fail
                exact ⟨⟨j + 1, by omega, by first | rfl | go_num, HJ⟩, by simp [intOf]; omega⟩
              · obtain rfl : j = m := by omega
                clear hj hjl
                have hle := HJ.out.le
                rw [HN.out] at hle
                obtain ⟨lf, hlf⟩ : ∃ lf, lf + j = N := ⟨N - (j), by omega⟩
                have qf : IntKind.i64.wrap ((N : Int) - (j : Int)) = (lf : Int) := by have := HNb.out; rw [IntWalk.i64_in _ (by omega)]; omega
                have Hlf := hide hlf
                clear hle hlf
                go_wp2_with fail
                refine (nright HJ.out (by omega)).mono ?_
                rintro e w9 ⟨rfl, rfl⟩
                go_wp2_with fail
                refine (nleft HJ.out (by rw [HN.out]; exact Hlf.out)).mono ?_
                rintro e w9 ⟨rfl, rfl⟩
                go_wp2_with fail
                have hlt := Hlt.out
                exact ⟨⟨i + 1, j, B, c2, by omega, by omega, rfl, by first | rfl | go_num, HJ⟩, by simp [intOf]; omega⟩
          · have Hob := hide (hKp _ _ _ Hbb.out (by decide) (by decide) (by decide))
            have HA := hide hA
            have Hob3 := Hob.out.cell' (i := 3) (v := .int .i64 xz) rfl
            clear hA hKp
            go_wp2_with fail
            go_loopw [16] (fun vj wq => ∃ j : Nat, j ≤ m ∧ vj = .int .i64 (j : Int) ∧ Hid (wq = w3)) (fun vj _ => m - (intOf vj).toNat)
            case atStart => exact ⟨0, Nat.zero_le _, rfl, rfl⟩
            case round =>
              obtain ⟨j, hj, rfl, hw⟩ := hrel
              have hw2 := hw.out
              subst hw2
              obtain ⟨s, l, g, F, hN⟩ := HA.out
              by_cases hjl : j < m
              · obtain ⟨⟨hj1, xj, gj⟩, hm⟩ : ∃ q, l[j]? = some q := ⟨_, List.getElem?_eq_getElem (by rw [hN.len]; exact hjl)⟩
                obtain ⟨b, o, rfl, rfl, k0, -, -, -, -⟩ := NA.at_ hN.na hm
                have hne : ((hj1 : Int) == h) = false := beq_eq_false_iff_ne.2 (hN.ne _ (List.mem_of_getElem? hm))
                simp only at k0
                have i2 : (0 : Int) ≤ (j : Int) := by omega
                have i3 : (j : Int) < (m : Int) := by omega
                have q9 : IntKind.i64.wrap ((j : Int) + 1) = ((j + 1 : Nat) : Int) := by rw [IntWalk.i64_in _ (by omega)]; omega
                clear hN hm Hob3
                go_wp2_with fail
                exact ⟨⟨j + 1, by omega, by first | rfl | go_num, trivial⟩, by simp [intOf]; omega⟩
              · obtain rfl : j = m := by omega
                have HN2 := hide hN
                clear hj hjl hN
                go_wp2_with (first | (at_builtin; go_loud (refine wpList_append_ow _ rfl _ _ 35 rfl tNote jn _ 3 24 Try.underlying35 jn0 jn1 jn2 jn3 rfl (by decide) _ _ _ _ _ rfl (Ow.fr (S := fun _ => False) HN2.out.na ((Fr.refl _ _).alloc _) (fun _ _ => id)) _ _ _ [.int .i64 h, .int .i64 xz, .bool false] rfl (Sl.row _ [.int .i64 h, .int .i64 xz, .bool false] tNote 3 1 rfl) (by intro u hu; simp at hu; rcases hu with rfl | rfl | rfl <;> rfl) (by unfold maxLen; omega) (by omega) ?_)) | go_in)
                intro A4 c4 w4 g4 hO4 hf4 hg4
                have HJ : Hid (NI w p R M (j + 1) A4 c4 w4) := HN2.out.app (((Fr.refl (fun k => some k = g) wr).alloc _).comp hf4 (fun _ _ e => e)) hO4 (hg4.imp id fun ⟨b, e, hb⟩ => ⟨b, e, by first | omega | (simp at hb; omega)⟩)
                clear hO4 hf4 hg4 Hob3
                have hle := HJ.out.le
                rw [HN.out] at hle
                obtain ⟨lf, hlf⟩ : ∃ lf, lf + j + 1 = N := ⟨N - (j + 1), by omega⟩
                have qf : IntKind.i64.wrap ((N : Int) - ((j : Int) + 1)) = (lf : Int) := by have := HNb.out; rw [IntWalk.i64_in _ (by omega)]; omega
                have Hlf := hide hlf
                clear hle hlf
                go_wp2_with fail
                refine (nright HJ.out (by omega)).mono ?_
                rintro e w9 ⟨rfl, rfl⟩
                go_wp2_with fail
                refine (nleft HJ.out (by rw [HN.out]; exact Hlf.out)).mono ?_
                rintro e w9 ⟨rfl, rfl⟩
                go_wp2_with fail
                have hlt := Hlt.out
                exact ⟨⟨i + 1, j + 1, A4, c4, by omega, by omega, rfl, by first | rfl | go_num, HJ⟩, by simp [intOf]; omega⟩
        · obtain ⟨k, hk⟩ : ∃ k : Nat, hz % (m : Int) = (k : Int) := ⟨(hz % (m : Int)).toNat, by have := Int.emod_nonneg hz (show (m : Int) ≠ 0 by omega); omega⟩
          have hkm : k < m := by have := Int.emod_lt_of_pos hz (show (0 : Int) < (m : Int) by omega); omega
          have hrd : ∀ W : World, Calls Try.prog 8 #[.int .i64 hz, .int .i64 (m : Int)] W fun e w' => e = .returned (.int .i64 (k : Int)) ∧ W = w' := fun W => by
            have := round_any W hz (m : Int) (by omega) (by omega); rw [hk] at this; exact this
          have Hrd := hide hrd
          have ik : (0 : Int) ≤ (k : Int) := by omega
          clear hrd hk
          by_cases k3 : kk = 3
          · subst k3
            clear k1
            have HIb : Hid (NI w p R M m B c2 (wo.alloc (.cells #[.int .i64 3, .int .i64 ww, .int .i64 hz, .int .i64 xz, .int .i64 mz] tOp))) := HI.out.step ((Fr.refl (fun _ => False) wo).alloc _)
            have hbb : Bl (wo.alloc (.cells #[.int .i64 3, .int .i64 ww, .int .i64 hz, .int .i64 xz, .int .i64 mz] tOp)) wo.heap.size tOp #[.int .i64 3, .int .i64 ww, .int .i64 hz, .int .i64 xz, .int .i64 mz] := Bl.new _ _ _
            have Hbb := hide hbb
            clear hbb
            obtain ⟨s, l, g, F, hS⟩ := HIb.out
            obtain ⟨⟨h, x, gn⟩, hm⟩ : ∃ q, l[k]? = some q := ⟨_, List.getElem?_eq_getElem (by rw [hS.len]; exact hkm)⟩
            obtain ⟨b, o2, rfl, rfl, t0, t1, t2, z1, z2⟩ := NA.at_ hS.na hm
            have hmem := List.mem_of_getElem? hm
            have hbd := hS.nv.bound hS.ti.ok hmem
            simp only at t0 t1 t2 hbd
            have ik2 : (k : Int) < (m : Int) := by omega
            cases gn
            · obtain ⟨at_, tu, hg⟩ := hS.nv.good hS.ti.ok hmem rfl
              have hcall : ∀ wx, Fr (fun _ => False) (wo.alloc (.cells #[.int .i64 3, .int .i64 ww, .int .i64 hz, .int .i64 xz, .int .i64 mz] tOp)) wx → Calls Try.prog 15 #[.pointer (some ⟨p, 0, none⟩), .int .i64 h, .int .i64 xz] wx fun e w' => e = .returned (.int .i64 0) ∧ Kept wx w' ∧ ∃ F', TI w' p R F' (s.put at_ xz tu) ∧ (∀ k, F' k → w.heap.size ≤ k) ∧ Fr (fun _ => False) w w' ∧ NA w' (some ⟨b, o2, none⟩) m c2 l (some b) := fun wx hf => by
                refine (set_ok (hS.step hf).ti h xz (by omega) hg).mono ?_
                rintro e w' ⟨rfl, hO⟩
                exact ⟨rfl, hO.kept (hS.step hf).ti, (hS.step hf).out hO⟩
              have Hcall := hide hcall
              have Hm := hide hm
              have Hnv := hide (hS.nv.put hS.ti.ok hm hg xz)
              have Hlen := hide hS.len
              have Hng := hide (hS.ng b rfl)
              clear hcall hg hbd hmem hm hS
              go_wp2_with fail
              refine (Hrd.out _).mono ?_
              rintro e w' ⟨rfl, rfl⟩
              go_wp2_with fail
              have e3 := Hbb.out.cell' (i := 3) (v := .int .i64 xz) rfl
              go_region_held3 (fun w' => w'.cell? ⟨b, o2 + k * 3, none⟩ = some (.int .i64 h) ∧ w'.cell? ⟨wo.heap.size, 3, none⟩ = some (.int .i64 xz)) (go_keep) ((go_at_call 15; refine (Hcall.out _ (by exact (Fr.refl (fun _ => False) _).drew)).mono ?_; rintro e w5 ⟨rfl, hKp, F5, hT5, hF5, hf5, hA5⟩; have j3 := (hKp _ _ _ (Hbb.out.drew) (by decide) (by decide) (by decide)).cell' (i := 3) (v := .int .i64 xz) rfl; obtain ⟨b9, o9, e9, -, j0, j1, j2, y1, y2⟩ := NA.at_ hA5 Hm.out; cases e9; simp only at j0 j1 j2))
              have HJ : Hid (NI w p R M m (some ⟨b, o2, none⟩) c2 (w5.setCell ⟨b, o2 + k * 3 + 1, none⟩ (.int .i64 xz))) := by
                have h9 := NS.store (o := o2) hT5 hF5 hf5 hA5 Hng.out (j := k * 3 + 1) (by omega) (nset_x Hm.out xz) (by rw [List.length_set]; exact Hlen.out) Hnv.out
                rw [← Nat.add_assoc] at h9
                exact ⟨_, _, _, _, h9⟩
              clear hT5 hF5 hf5 hA5 hKp
              have hle := HJ.out.le
              rw [HN.out] at hle
              obtain ⟨lf, hlf⟩ : ∃ lf, lf + m = N := ⟨N - (m), by omega⟩
              have qf : IntKind.i64.wrap ((N : Int) - (m : Int)) = (lf : Int) := by have := HNb.out; rw [IntWalk.i64_in _ (by omega)]; omega
              have Hlf := hide hlf
              clear hle hlf
              go_wp2_with fail
              refine (nright HJ.out (by omega)).mono ?_
              rintro e w9 ⟨rfl, rfl⟩
              go_wp2_with fail
              refine (nleft HJ.out (by rw [HN.out]; exact Hlf.out)).mono ?_
              rintro e w9 ⟨rfl, rfl⟩
              go_wp2_with fail
              have hlt := Hlt.out
              exact ⟨⟨i + 1, m, (some ⟨b, o2, none⟩), c2, by omega, by omega, rfl, by first | rfl | go_num, HJ⟩, by simp [intOf]; omega⟩
            · have hg := hS.nv.bad hS.ti.ok hmem rfl
              have hcall : ∀ wx, Fr (fun _ => False) (wo.alloc (.cells #[.int .i64 3, .int .i64 ww, .int .i64 hz, .int .i64 xz, .int .i64 mz] tOp)) wx → Calls Try.prog 15 #[.pointer (some ⟨p, 0, none⟩), .int .i64 h, .int .i64 xz] wx fun e w' => e = .returned (.int .i64 70) ∧ wx = w' := fun wx hf => set_bad (hS.step hf).ti h xz (by omega) hg
              have Hcall := hide hcall
              clear hcall hg hbd hmem hm hS
              go_wp2_with fail
              refine (Hrd.out _).mono ?_
              rintro e w' ⟨rfl, rfl⟩
              go_wp2_with fail
              have e3 := Hbb.out.cell' (i := 3) (v := .int .i64 xz) rfl
              go_region_held3 (fun w' => w'.cell? ⟨b, o2 + k * 3, none⟩ = some (.int .i64 h) ∧ w'.cell? ⟨wo.heap.size, 3, none⟩ = some (.int .i64 xz)) (go_keep) ((go_at_call 15; refine (Hcall.out _ (by exact (Fr.refl (fun _ => False) _).drew)).mono ?_; rintro e w5 ⟨rfl, rfl⟩))
              have HJ : Hid (NI w p R M m (some ⟨b, o2, none⟩) c2 (wo.alloc (.cells #[.int .i64 3, .int .i64 ww, .int .i64 hz, .int .i64 xz, .int .i64 mz] tOp)).drew) := HIb.out.step ((Fr.refl (fun _ => False) _).drew)
              have hle := HJ.out.le
              rw [HN.out] at hle
              obtain ⟨lf, hlf⟩ : ∃ lf, lf + m = N := ⟨N - (m), by omega⟩
              have qf : IntKind.i64.wrap ((N : Int) - (m : Int)) = (lf : Int) := by have := HNb.out; rw [IntWalk.i64_in _ (by omega)]; omega
              have Hlf := hide hlf
              clear hle hlf
              go_wp2_with fail
              refine (nright HJ.out (by omega)).mono ?_
              rintro e w9 ⟨rfl, rfl⟩
              go_wp2_with fail
              refine (nleft HJ.out (by rw [HN.out]; exact Hlf.out)).mono ?_
              rintro e w9 ⟨rfl, rfl⟩
              go_wp2_with fail
              have hlt := Hlt.out
              exact ⟨⟨i + 1, m, (some ⟨b, o2, none⟩), c2, by omega, by omega, rfl, by first | rfl | go_num, HJ⟩, by simp [intOf]; omega⟩
          · by_cases k4 : kk = 4
            · subst k4
              clear k1 k3
              have HIb : Hid (NI w p R M m B c2 (wo.alloc (.cells #[.int .i64 4, .int .i64 ww, .int .i64 hz, .int .i64 xz, .int .i64 mz] tOp))) := HI.out.step ((Fr.refl (fun _ => False) wo).alloc _)
              obtain ⟨s, l, g, F, hS⟩ := HIb.out
              obtain ⟨⟨h, x, gn⟩, hm⟩ : ∃ q, l[k]? = some q := ⟨_, List.getElem?_eq_getElem (by rw [hS.len]; exact hkm)⟩
              obtain ⟨b, o2, rfl, rfl, t0, t1, t2, z1, z2⟩ := NA.at_ hS.na hm
              have hmem := List.mem_of_getElem? hm
              have hbd := hS.nv.bound hS.ti.ok hmem
              simp only at t0 t1 t2 hbd
              have ik2 : (k : Int) < (m : Int) := by omega
              cases gn
              · obtain ⟨at_, tu, hg⟩ := hS.nv.good hS.ti.ok hmem rfl
                have hcall : Calls Try.prog 13 #[.pointer (some ⟨p, 0, none⟩), .int .i64 h] (wo.alloc (.cells #[.int .i64 4, .int .i64 ww, .int .i64 hz, .int .i64 xz, .int .i64 mz] tOp)) fun e w' => e = .returned (.tuple #[.int .i64 x, .int .i64 0]) ∧ ∃ ys F', TI w' p R F' (s.fre at_ tu ys) ∧ (∀ k, F' k → w.heap.size ≤ k) ∧ Fr (fun _ => False) w w' ∧ NA w' (some ⟨b, o2, none⟩) m c2 l (some b) := by
                  refine (free_ok hS.ti h (by omega) (hS.nv.some hm) hg).mono ?_
                  rintro e w' ⟨ys, rfl, -, hO⟩
                  exact ⟨rfl, ys, hS.out hO⟩
                have Hcall := hide hcall
                have Hm := hide hm
                have Hnv := hide (hS.nv.fre hS.ti.ok hm hg)
                have Hlen := hide hS.len
                have Hng := hide (hS.ng b rfl)
                clear hcall hg hbd hmem hm hS
                go_wp2_with fail
                refine (Hrd.out _).mono ?_
                rintro e w' ⟨rfl, rfl⟩
                go_wp2_with fail
                refine Hcall.out.mono ?_
                rintro e w5 ⟨rfl, ys, F5, hT5, hF5, hf5, hA5⟩
                obtain ⟨b9, o9, e9, -, j0, j1, j2, y1, y2⟩ := NA.at_ hA5 Hm.out
                cases e9
                simp only at j0 j1 j2
                have HJ : Hid (NI w p R M m (some ⟨b, o2, none⟩) c2 (w5.setCell ⟨b, o2 + k * 3 + 2, none⟩ (.bool true))) := by
                  have h9 := NS.store (o := o2) hT5 hF5 hf5 hA5 Hng.out (j := k * 3 + 2) (by omega) (nset_g Hm.out true) (by rw [List.length_set]; exact Hlen.out) (Hnv.out ys)
                  rw [← Nat.add_assoc] at h9
                  exact ⟨_, _, _, _, h9⟩
                clear hT5 hF5 hf5 hA5
                have hle := HJ.out.le
                rw [HN.out] at hle
                obtain ⟨lf, hlf⟩ : ∃ lf, lf + m = N := ⟨N - (m), by omega⟩
                have qf : IntKind.i64.wrap ((N : Int) - (m : Int)) = (lf : Int) := by have := HNb.out; rw [IntWalk.i64_in _ (by omega)]; omega
                have Hlf := hide hlf
                clear hle hlf
                go_wp2_with fail
                refine (nright HJ.out (by omega)).mono ?_
                rintro e w9 ⟨rfl, rfl⟩
                go_wp2_with fail
                refine (nleft HJ.out (by rw [HN.out]; exact Hlf.out)).mono ?_
                rintro e w9 ⟨rfl, rfl⟩
                go_wp2_with fail
                have hlt := Hlt.out
                exact ⟨⟨i + 1, m, (some ⟨b, o2, none⟩), c2, by omega, by omega, rfl, by first | rfl | go_num, HJ⟩, by simp [intOf]; omega⟩
              · have hg := hS.nv.bad hS.ti.ok hmem rfl
                have hcall : Calls Try.prog 13 #[.pointer (some ⟨p, 0, none⟩), .int .i64 h] (wo.alloc (.cells #[.int .i64 4, .int .i64 ww, .int .i64 hz, .int .i64 xz, .int .i64 mz] tOp)) fun e w' => e = .returned (.tuple #[.int .i64 0, .int .i64 70]) ∧ (wo.alloc (.cells #[.int .i64 4, .int .i64 ww, .int .i64 hz, .int .i64 xz, .int .i64 mz] tOp)) = w' := free_bad hS.ti h (by omega) hg
                have Hcall := hide hcall
                have HJ : Hid (NI w p R M m (some ⟨b, o2, none⟩) c2 ((wo.alloc (.cells #[.int .i64 4, .int .i64 ww, .int .i64 hz, .int .i64 xz, .int .i64 mz] tOp)).setCell ⟨b, o2 + k * 3 + 2, none⟩ (.bool true))) := by
                  have h9 := NS.store (o := o2) hS.ti hS.new hS.fr hS.na (hS.ng b rfl) (j := k * 3 + 2) (by omega) (nset_g hm true) (by rw [List.length_set]; exact hS.len) (by rw [set_same hm]; exact hS.nv)
                  rw [← Nat.add_assoc] at h9
                  exact ⟨_, _, _, _, h9⟩
                clear hcall hg hbd hmem hm hS
                go_wp2_with fail
                refine (Hrd.out _).mono ?_
                rintro e w' ⟨rfl, rfl⟩
                go_wp2_with fail
                refine Hcall.out.mono ?_
                rintro e w5 ⟨rfl, rfl⟩
                have hle := HJ.out.le
                rw [HN.out] at hle
                obtain ⟨lf, hlf⟩ : ∃ lf, lf + m = N := ⟨N - (m), by omega⟩
                have qf : IntKind.i64.wrap ((N : Int) - (m : Int)) = (lf : Int) := by have := HNb.out; rw [IntWalk.i64_in _ (by omega)]; omega
                have Hlf := hide hlf
                clear hle hlf
                go_wp2_with fail
                refine (nright HJ.out (by omega)).mono ?_
                rintro e w9 ⟨rfl, rfl⟩
                go_wp2_with fail
                refine (nleft HJ.out (by rw [HN.out]; exact Hlf.out)).mono ?_
                rintro e w9 ⟨rfl, rfl⟩
                go_wp2_with fail
                have hlt := Hlt.out
                exact ⟨⟨i + 1, m, (some ⟨b, o2, none⟩), c2, by omega, by omega, rfl, by first | rfl | go_num, HJ⟩, by simp [intOf]; omega⟩
            · have n1 : ((kk : Int) == 1) = false := beq_eq_false_iff_ne.2 k1
              have n3 : ((kk : Int) == 3) = false := beq_eq_false_iff_ne.2 k3
              have n4 : ((kk : Int) == 4) = false := beq_eq_false_iff_ne.2 k4
              clear k1 k3 k4
              have HIb : Hid (NI w p R M m B c2 (wo.alloc (.cells #[.int .i64 kk, .int .i64 ww, .int .i64 hz, .int .i64 xz, .int .i64 mz] tOp))) := HI.out.step ((Fr.refl (fun _ => False) wo).alloc _)
              go_wp2_with fail
              refine (Hrd.out _).mono ?_
              rintro e w' ⟨rfl, rfl⟩
              have hle := HIb.out.le
              rw [HN.out] at hle
              obtain ⟨lf, hlf⟩ : ∃ lf, lf + m = N := ⟨N - (m), by omega⟩
              have qf : IntKind.i64.wrap ((N : Int) - (m : Int)) = (lf : Int) := by have := HNb.out; rw [IntWalk.i64_in _ (by omega)]; omega
              have Hlf := hide hlf
              clear hle hlf
              go_wp2_with fail
              refine (nright HIb.out (by omega)).mono ?_
              rintro e w9 ⟨rfl, rfl⟩
              go_wp2_with fail
              refine (nleft HIb.out (by rw [HN.out]; exact Hlf.out)).mono ?_
              rintro e w9 ⟨rfl, rfl⟩
              go_wp2_with fail
              have hlt := Hlt.out
              exact ⟨⟨i + 1, m, B, c2, by omega, by omega, rfl, by first | rfl | go_num, HIb⟩, by simp [intOf]; omega⟩
    · obtain rfl : i = n := by omega
      have Hx := hide HI.out.fr
      clear hs h0 h1 h2 h3 h4 hlt hi
      go_wp2_with fail
      go_ret
      exact ⟨rfl, Hx.out.toBelow (Nat.le_refl _) (fun _ _ => id)⟩
end Go.Proofs.Ytcfpmnlpoihgfaa
