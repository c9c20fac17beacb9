/-
  became of chapter 08: what a crash makes of one sector.
-/
import Derived.Test.YthcklgelbckffaaDkQ
namespace Go.Proofs.Ythcklgelbckffaa
open Go.RowKit
set_option linter.unusedVariables false
set_option linter.unusedSimpArgs false
/-- The row of laid writes, as it reads. -/
def LaidAt (w : World) (RA : Option Addr) (rl : Nat) (rows : List (Nat × List Nat)) : Prop :=
  rl = rows.length ∧ (0 < rl → ∃ b o, RA = some ⟨b, o, none⟩ ∧ ∀ i r, rows[i]? = some r → w.cell? ⟨b, o + i * 2, none⟩ = some (.int .i64 (r.1 : Int)) ∧
    ∃ bi oi ci, w.cell? ⟨b, o + i * 2 + 1, none⟩ = some (.slice (some ⟨bi, oi, none⟩) 64 ci) ∧ Sl w 1 (some ⟨bi, oi, none⟩) 64 (r.2.map bn))
theorem LaidAt.fr {w w' : World} {RA : Option Addr} {rl : Nat} {rows : List (Nat × List Nat)} (h : LaidAt w RA rl rows) (hf : Fr (fun _ => False) w w') : LaidAt w' RA rl rows := by
  refine ⟨h.1, fun h0 => ?_⟩
  obtain ⟨b, o, hA, hc⟩ := h.2 h0
  refine ⟨b, o, hA, fun i r hr => ?_⟩
  obtain ⟨c0, bi, oi, ci, c1, hS⟩ := hc i r hr
  exact ⟨(hf.cell (World.block_lt_of_cell? w _ c0) id).trans c0, bi, oi, ci, (hf.cell (World.block_lt_of_cell? w _ c1) id).trans c1, hS.below hf (fun _ _ => id)⟩
/-- The bytes that a write lays. -/
def layN (keep : List Bool) (tn cut : Int) (i : Nat) : Int := if (i : Int) = tn then cut else if keep.getD i false = true then 64 else 0
def mix (p d : List Nat) (k : Nat) : List Nat := d.take k ++ p.drop k
theorem mix_len {p d : List Nat} {k : Nat} (hp : p.length = 64) (hd : d.length = 64) (hk : k ≤ 64) : (mix p d k).length = 64 := by
  unfold mix; rw [List.length_append, List.length_take, List.length_drop]; omega
theorem mix_succ {p d : List Nat} {k : Nat} (hp : p.length = 64) (hd : d.length = 64) (hk : k < 64) : (mix p d k).set k (d.getD k 0) = mix p d (k + 1) := by
  unfold mix
  apply List.ext_getElem?
  intro j
  have e : d.getD k 0 = d[k]'(by omega) := by rw [List.getD_eq_getElem?_getD, List.getElem?_eq_getElem (by omega)]; rfl
  by_cases h1 : j = k
  · subst h1
    rw [List.getElem?_set_self (by rw [List.length_append, List.length_take, List.length_drop]; omega), List.getElem?_append_left (by rw [List.length_take]; omega), List.getElem?_take_of_lt (by omega), e, List.getElem?_eq_getElem (by omega)]
  · rw [List.getElem?_set_ne (by omega)]
    by_cases h2 : j < k
    · rw [List.getElem?_append_left (by rw [List.length_take]; omega), List.getElem?_append_left (by rw [List.length_take]; omega), List.getElem?_take_of_lt h2, List.getElem?_take_of_lt (by omega)]
    · rw [List.getElem?_append_right (by rw [List.length_take]; omega), List.getElem?_append_right (by rw [List.length_take]; omega), List.length_take, List.length_take, List.getElem?_drop, List.getElem?_drop]
      congr 1; omega
theorem beat_mix {keep : List Bool} {tn cut : Int} {p : List Nat} {k i : Nat} {r : Nat × List Nat} (hp : p.length = 64) (hr : r.2.length = 64) (h : r.1 = k) : beat keep tn cut p k i r = mix p r.2 (clampN (layN keep tn cut i)) := by
  unfold beat mix layN
  rw [if_pos h]
  by_cases h1 : (i : Int) = tn
  · rw [if_pos h1, if_pos h1]
  · rw [if_neg h1, if_neg h1]
    by_cases h2 : keep.getD i false = true
    · have e : clampN 64 = 64 := by decide
      rw [if_pos h2, if_pos h2, e, List.take_of_length_le (by omega), List.drop_eq_nil_of_le (by omega), List.append_nil]
    · have e : clampN 0 = 0 := by decide
      rw [if_neg h2, if_neg h2, e]; rfl
theorem beats_len {keep : List Bool} {tn cut : Int} {p : List Nat} {k : Nat} {row : List (Nat × List Nat)} (hp : p.length = 64) (hr : ∀ r ∈ row, r.2.length = 64) : ∀ j, j ≤ row.length → (beats keep tn cut p k row j).length = 64
  | 0, _ => hp
  | j + 1, hj => by
    have ih := beats_len (keep := keep) (tn := tn) (cut := cut) (k := k) hp hr j (by omega)
    have h1 := hr (row.getD j (0, [])) (by rw [List.getD_eq_getElem?_getD, List.getElem?_eq_getElem (by omega)]; exact List.getElem_mem ..)
    show (beat keep tn cut (beats keep tn cut p k row j) k j (row.getD j (0, []))).length = 64
    by_cases h2 : (row.getD j (0, [])).1 = k
    · rw [beat_mix ih h1 h2]; exact mix_len ih h1 (clamp_eq _).2
    · unfold beat; rw [if_neg h2]; exact ih
set_option maxHeartbeats 4000000 in
set_option maxRecDepth 8000 in
theorem became_any (w : World) (P : Option Addr) (pc : Nat) (p : List Nat) (hp : p.length = 64) (hP : Sl w 1 P 64 (p.map bn)) (RA : Option Addr) (rl rc : Nat) (rows : List (Nat × List Nat)) (hrl : rl ≤ 9223372036854775806) (hR : LaidAt w RA rl rows) (hr : ∀ r ∈ rows, r.2.length = 64) (k : Nat)
    (KA : Option Addr) (kn kc : Nat) (keep : List Bool) (hkn : kn = keep.length) (hK : Sl w 1 KA kn (keep.map .bool)) (tn cut : Int) :
    Calls Try.prog 22 #[.slice P 64 pc, .slice RA rl rc, .int .i64 (k : Int), .slice KA kn kc, .int .i64 tn, .int .i64 cut] w fun e w' => ∃ A c g, e = .returned (.slice A 64 c) ∧ Ow w' 5 1 A 64 c ((beats keep tn cut p k rows rl).map bn) (some g) ∧ Fr (fun _ => False) w w' := by
  obtain ⟨i0, hi, hz0, hz1, hz2⟩ := info_parts infoU8
  have HP := hide hP
  have HR := hide hR
  have HK := hide hK
  have Hkn := hide hkn
  have Hr := hide hr
  have Hp := hide hp
  clear hP hR hK hkn hr hp
  go_enter Try.func22, Try.ntmps22
  go_wp2_with (at_builtin; refine wpList_append_ow _ rfl _ _ 34 rfl 5 i0 (.int .u8 0) 1 1 Try.underlying34 hi hz0 hz1 hz2 rfl (by decide) _ _ _ _ _ rfl (Ow.nil_ _ _ _) _ _ _ _ rfl HP.out (bn_one _) (by unfold maxLen; omega) (by omega) ?_)
  intro A1 c1 w1 g1 hO1 hf1 hg1
  obtain ⟨hl1, h0 | ⟨b1, o1, cur1, rfl, rfl, hrest1⟩⟩ := id hO1
  · exact absurd h0.2.1 (by omega)
  have hb1 : w.heap.size ≤ b1 := by rcases hg1 with e | ⟨b, e, h⟩
                                    · cases e
                                    · cases e; exact h
  have HO1 : Hid (Ow w1 5 1 (some ⟨b1, o1, none⟩) 64 c1 (p.map bn) (some b1)) := by first | exact hO1 | (have := hO1; simp at this; exact this)
  have Hf1 : Hid (Fr (fun _ => False) w w1) := hf1.mono fun x _ e => by cases e
  clear hO1 hf1 hg1 hl1 hrest1
  go_wp2_with fail
  go_loopw [14] (fun v wr => ∃ i : Nat, i ≤ rl ∧ v = .int .i64 i ∧ Hid (Ow wr 5 1 (some ⟨b1, o1, none⟩) 64 c1 ((beats keep tn cut p k rows i).map bn) (some b1)) ∧ Hid (Fr (fun _ => False) w wr)) (fun v _ => rl - (intOf v).toNat)
  case atStart => exact ⟨0, Nat.zero_le _, rfl, HO1, Hf1⟩
  case round =>
    clear HO1 Hf1
    obtain ⟨w2, rfl⟩ : ∃ w2, w2 = wr := ⟨_, rfl⟩
    obtain ⟨i, hil, rfl, HO, Hf⟩ := hrel
    by_cases hlt : i < rl
    · have hrll := HR.out.1
      obtain ⟨r, hri⟩ : ∃ r, rows[i]? = some r := ⟨_, List.getElem?_eq_getElem (by omega)⟩
      have hq := beats_len (keep := keep) (tn := tn) (cut := cut) (k := k) Hp.out Hr.out i (by omega)
      have hd := Hr.out r (List.mem_of_getElem? hri)
      obtain ⟨q, hqe⟩ : ∃ q, beats keep tn cut p k rows i = q := ⟨_, rfl⟩
      have hnext : beats keep tn cut p k rows (i + 1) = beat keep tn cut q k i r := by
        show beat keep tn cut (beats keep tn cut p k rows i) k i (rows.getD i (0, [])) = _
        rw [hqe, List.getD_eq_getElem?_getD, hri]; rfl
      rw [hqe] at HO hq
      obtain ⟨rb, ro, rfl, hc⟩ := HR.out.2 (by omega)
      obtain ⟨c0w, bi, oi, ci, c2, hS⟩ := hc i r hri
      have c0 := (Hf.out.cell (World.block_lt_of_cell? w _ c0w) id).trans c0w
      obtain ⟨rk, d⟩ := r
      simp only at c0 hd hS
      have i1 : (0 : Int) ≤ (i : Int) := by omega
      have i2 : (i : Int) < (rl : Int) := by omega
      have HS := hide hS
      have Hd := hide hd
      have Hq := hide hq
      have Hnext := hide hnext
      have Hc2 := hide c2
      clear c0w hrll hri hqe hc hS hd hq hnext c2
      by_cases hk : rk = k
      · subst hk
        obtain ⟨kb, hkb⟩ : ∃ kb, keep.getD i false = kb := ⟨_, rfl⟩
        go_upto_region 8 with fail
        go_cut [42] (fun v wx => v = .bool kb ∧ wx = w2)
        case first =>
          by_cases hkn : i < kn
          · have hkl : i < keep.length := by rw [← Hkn.out]; exact hkn
            have hbn : (keep.map Value.bool)[i]? = some (.bool kb) := by
              rw [← hkb, List.getElem?_map, List.getElem?_eq_getElem hkl, List.getD_eq_getElem?_getD, List.getElem?_eq_getElem hkl]; rfl
            obtain ⟨ab, ko, rfl, hkc⟩ := HK.out.at_ hbn
            have hkc2 := (Hf.out.cell (World.block_lt_of_cell? w _ hkc) id).trans hkc
            have i5 : (i : Int) < (kn : Int) := by omega
            clear hkc hbn hkb
            go_wp2_with fail
            go_meet
            case rel => exact ⟨rfl, rfl⟩
          · have i5 : ¬ (i : Int) < (kn : Int) := by omega
            have e : kb = false := by rw [← hkb, List.getD_eq_getElem?_getD, List.getElem?_eq_none (by rw [← Hkn.out]; omega)]; rfl
            clear hkb
            subst e
            go_wp2_with fail
            go_meet
            case rel => exact ⟨rfl, rfl⟩
        case rest =>
          obtain ⟨rfl, hwc⟩ := hcut
          obtain rfl := hwc.symm
          have Hkb := hide hkb
          clear hkb
          go_upto_if 42 with fail
          go_cut [15] (fun v wx => v = .int .i64 (if kb = true then 64 else 0) ∧ wx = w2)
          case first =>
            cases kb
            · go_wp2_with fail
              go_meet
              case rel => exact ⟨rfl, rfl⟩
            · go_wp2_with fail
              go_meet
              case rel => exact ⟨rfl, rfl⟩
          case rest =>
            obtain ⟨rfl, hwc⟩ := hcut
            obtain rfl := hwc.symm
            obtain ⟨nn, hnn⟩ : ∃ nn : Int, (if kb = true then (64 : Int) else 0) = nn := ⟨_, rfl⟩
            rw [hnn]
            have Hnn := hide hnn
            clear hnn
            go_upto_if 45 with fail
            go_cut [15] (fun v wx => v = .int .i64 (layN keep tn cut i) ∧ wx = w2)
            case first =>
              by_cases htn : (i : Int) = tn
              · have hb : ((i : Int) == tn) = true := by simpa using htn
                have e : layN keep tn cut i = cut := by unfold layN; rw [if_pos htn]
                have E := hide e
                clear htn e
                go_wp2_with fail
                go_meet
                case rel => exact ⟨by rw [E.out], rfl⟩
              · have hb : ((i : Int) == tn) = false := by simpa using htn
                have e : layN keep tn cut i = nn := by unfold layN; rw [if_neg htn, Hkb.out]; exact Hnn.out
                have E := hide e
                clear htn e
                go_wp2_with fail
                go_meet
                case rel => exact ⟨by rw [E.out], rfl⟩
            case rest =>
              obtain ⟨rfl, hwc⟩ := hcut
              obtain rfl := hwc.symm
              obtain ⟨N, hN⟩ : ∃ N, layN keep tn cut i = N := ⟨_, rfl⟩
              rw [hN]
              have hbm := beat_mix (keep := keep) (tn := tn) (cut := cut) (i := i) (k := rk) (r := (rk, d)) Hq.out Hd.out rfl
              rw [hN] at hbm
              have Hbm := hide hbm
              have hcl : ∀ j : Nat, j < clampN N ↔ ((j : Int) < N ∧ j < 64) := fun j => by
                have h := clamp_eq N
                unfold highI lowI at h
                split at h <;> split at h <;> omega
              clear hN hbm
              go_wp2_with fail
              go_loopw [16] (fun v wr => ∃ j : Nat, j ≤ clampN N ∧ v = .int .i64 j ∧ Hid (Ow wr 5 1 (some ⟨b1, o1, none⟩) 64 c1 ((mix q d j).map bn) (some b1)) ∧ Hid (Fr (fun _ => False) w wr)) (fun v _ => clampN N - (intOf v).toNat)
              case atStart => exact ⟨0, Nat.zero_le _, rfl, HO, Hf⟩
              case round =>
                clear HO Hf
                obtain ⟨j, hj, rfl, HO, Hf⟩ := hrel
                have hj64 := (clamp_eq N).2
                by_cases hjl : j < clampN N
                · obtain ⟨j1, j2⟩ := (hcl j).1 hjl
                  have j3 : (j : Int) < 64 := by omega
                  have j0 : (0 : Int) ≤ (j : Int) := by omega
                  have hmx := mix_succ Hq.out Hd.out j2
                  obtain ⟨b', o', e1, cdw⟩ := HS.out.at_ (bn_get (xs := d) (k := j) (by rw [Hd.out]; exact j2))
                  cases e1
                  obtain ⟨b', o', e1, e2, cp, zp⟩ := HO.out.look (bn_get (xs := mix q d j) (k := j) (by rw [mix_len Hq.out Hd.out (by omega)]; exact j2))
                  cases e1
                  have cd2 := (Hf.out.cell (World.block_lt_of_cell? w _ cdw) id).trans cdw
                  have cr2 := (Hf.out.cell (World.block_lt_of_cell? w _ Hc2.out) id).trans Hc2.out
                  have Hmx := hide hmx
                  have hb1r := Hf.out.size
                  clear e2 cdw hmx
                  go_wp2_with fail
                  refine ⟨⟨j + 1, by omega, by go_num, ?_, ?_⟩, by simp [intOf]; omega⟩
                  · have := HO.out.put (j := j) (by omega) (bn (d.getD j 0))
                    rw [← List.map_set, Hmx.out] at this
                    exact this
                  · exact Hf.out.setIn (.inr hb1) _
                · obtain rfl : j = clampN N := by omega
                  have hend := (hcl (clampN N))
                  by_cases hjN : ((clampN N : Nat) : Int) < N
                  · have j64 : ¬ ((clampN N : Nat) : Int) < 64 := by omega
                    clear hend hcl hjl hj hj64
                    go_wp2_with fail
                    refine ⟨⟨i + 1, by omega, by go_num, ?_, Hf⟩, by simp [intOf]; omega⟩
                    rw [Hnext.out, Hbm.out]; exact HO
                  · clear hend hcl hjl hj hj64
                    go_wp2_with fail
                    refine ⟨⟨i + 1, by omega, by go_num, ?_, Hf⟩, by simp [intOf]; omega⟩
                    rw [Hnext.out, Hbm.out]; exact HO
      · have j1 : ¬ (rk : Int) = (k : Int) := by omega
        go_wp2_with fail
        refine ⟨⟨i + 1, by omega, by go_num, ?_, Hf⟩, by simp [intOf]; omega⟩
        have e : beat keep tn cut q k i (rk, d) = q := by unfold beat; rw [if_neg hk]
        rw [Hnext.out, e]
        exact HO
    · obtain rfl : rl = i := by omega
      go_wp2_with fail
      go_ret
      exact ⟨_, _, _, rfl, HO.out, Hf.out⟩
end Go.Proofs.Ythcklgelbckffaa
