/-
  DiskPlays: the walk.
-/
import Derived.Test.YthcklgelbckffaaDs5
import Derived.Deep.CutBlock
namespace Go.Proofs.Ythcklgelbckffaa
open Go.RowKit
set_option linter.unusedVariables false
set_option linter.unusedSimpArgs false
def pick3 (a b : Option Addr) : Nat → Option Addr | 0 => a | 1 => b | _ => none
def pickF (a b : Nat → Prop) : Nat → Nat → Prop | 0 => a | 1 => b | _ => fun _ => False
def pickS (a b : DS) : Nat → DS | 0 => a | 1 => b | _ => newS 1
def pickN (a b : Nat) : Nat → Nat | 0 => a | 1 => b | _ => 1
theorem nil_pair {W w : World} (h : Fr (fun _ => False) W w) : Pair W w none none (fun _ => False) (fun _ => False) (newS 1) 1 := .inr ⟨rfl, rfl, h.size, h, fun _ => id, fun _ => id⟩
set_option maxHeartbeats 16000000 in
set_option maxRecDepth 100000 in
theorem dplays_walk (W : World) (sectors : Int) (xs : List Nat) (A : Option Addr) (ll lc : Nat) (hll : ll = xs.length) (hl63 : ll ≤ 140737488351232) (hA : Sl W 1 A ll (xs.map bn))
    (SA : Option Addr) (sl sc : Nat) (O : Nat → OpD) (hsl : sl ≤ 1600000000000) (hS : ScriptIs W SA sl O) :
    Calls Try.prog 5 #[.int .i64 sectors, .slice A ll lc, .slice SA sl sc] W fun e w' => e = .returned (.bool true) ∧ Fr (fun _ => False) W w' := by
  have HA := hide hA
  have HS := hide hS
  have Hll := hide hll
  clear hA hS hll
  go_enter Try.func5, Try.ntmps5
  go_wp2_with fail
  refine (lent_any W xs A ll lc (by omega) HA.out).mono ?_
  rintro e w1 ⟨LA, Lc, gL, rfl, hL, hgL, hf1⟩
  obtain ⟨oL, rfl⟩ := Ow.addr hL
  have HL := hide hL
  have Hf1 := hide hf1
  have HgL := hide hgL
  have hlc := (hL.own Hll.out).cap.1
  clear hL hf1 hgL
  go_wp2_with fail
  refine (new_gen w1 sectors).mono ?_
  rintro e w2 ⟨dp0, e0, F0, rfl, hN0⟩
  have HN0 := hide hN0
  clear hN0
  go_wp2_with fail
  refine (load_gen w2 (some ⟨gL, oL, none⟩) ll Lc xs Hll.out hlc (by omega) (((HL.out.own Hll.out).fr HN0.out.fr (fun _ _ => id)).sl)).mono ?_
  rintro e w3 ⟨dp1, e1, F1, rfl, hN1⟩
  have HN1 := hide hN1
  clear hN1
  go_wp2_with fail
  refine (rnew_gen w3 sectors).mono ?_
  rintro e w4 ⟨rp0, g0, G0, rfl, hM0⟩
  have HM0 := hide hM0
  clear hM0
  go_wp2_with fail
  refine (rload_gen w4 A ll lc xs Hll.out (by omega) (HA.out.below (((Hf1.out.trans HN0.out.fr).trans HN1.out.fr).trans HM0.out.fr) (fun _ _ => id))).mono ?_
  rintro e w5 ⟨rp1, g1, G1, rfl, hM1⟩
  have f15 : Fr (fun _ => False) w1 w5 := ((HN0.out.fr.trans HN1.out.fr).trans HM0.out.fr).trans hM1.fr
  have f25 := (HN1.out.fr.trans HM0.out.fr).trans hM1.fr
  have f35 := HM0.out.fr.trans hM1.fr
  have f45 := hM1.fr
  have hsz1 := Hf1.out.size
  have hsz2 := HN0.out.fr.size
  have hsz3 := HN1.out.fr.size
  have hsz4 := HM0.out.fr.size
  have hsz5 := hM1.fr.size
  obtain ⟨hP0, hq0, hi0⟩ := Pair.of (W := W) (wz := w5) HN0.out HM0.out Hf1.out (by omega) (Hf1.out.trans f15) (fun p h => (h.base Hf1.out).step f25) (fun q h => h.fr f45 (fun _ _ => id)) (by omega)
  obtain ⟨hP1, hq1, hi1⟩ := Pair.of (W := W) (wz := w5) HN1.out hM1 (Hf1.out.trans HN0.out.fr) (by omega) (Hf1.out.trans f15) (fun p h => (h.base (Hf1.out.trans HN0.out.fr)).step f35) (fun q h => h) (by omega)
  subst hq0 hq1
  have nF0 := HN0.out.new
  have nF1 := HN1.out.new
  have nG0 := HM0.out.new
  have nG1 := hM1.new
  have hgL1 : gL < w1.heap.size := Ow.lt HL.out gL rfl
  have HP0 := hide hP0
  have HP1 := hide hP1
  have Hi0 := hide hi0
  have Hi1 := hide hi1
  have Hn : Hid ((∀ k, F0 k → w1.heap.size ≤ k ∧ k < w2.heap.size) ∧ (∀ k, F1 k → w2.heap.size ≤ k ∧ k < w3.heap.size) ∧ (∀ k, G0 k → w3.heap.size ≤ k ∧ k < w4.heap.size) ∧ (∀ k, G1 k → w4.heap.size ≤ k ∧ k < w5.heap.size)) := ⟨nF0, nF1, nG0, nG1⟩
  have HL5 := hide (Ow.fr HL.out f15 (fun _ _ => id))
  have Hf5 := hide (Hf1.out.trans f15)
  clear hP0 hP1 hi0 hi1 nF0 nF1 nG0 nG1 hM1 HN0 HN1 HM0 f15 f25 f35 f45 HL Hf1
  go_upto_region 6 with fail
  go_cut [72] (fun v wx => v = .bool false ∧ Fr (fun _ => False) w5 wx)
  case first =>
    have h0 : (dp0 = none ∧ rp0 = none) ∨ (∃ a b, dp0 = some a ∧ rp0 = some b) := by
      cases dp0 with
      | none => exact .inl ⟨rfl, Hi0.out.1 rfl⟩
      | some a => cases rp0 with
        | none => exact absurd (Hi0.out.2 rfl) (by simp)
        | some b => exact .inr ⟨a, b, rfl, rfl⟩
    have h1 : (dp1 = none ∧ rp1 = none) ∨ (∃ a b, dp1 = some a ∧ rp1 = some b) := by
      cases dp1 with
      | none => exact .inl ⟨rfl, Hi1.out.1 rfl⟩
      | some a => cases rp1 with
        | none => exact absurd (Hi1.out.2 rfl) (by simp)
        | some b => exact .inr ⟨a, b, rfl, rfl⟩
    rcases h0 with ⟨rfl, rfl⟩ | ⟨a0, b0, rfl, rfl⟩
    all_goals rcases h1 with ⟨rfl, rfl⟩ | ⟨a1, b1, rfl, rfl⟩
    all_goals (
      go_wp2_with fail
      refine (num_any _ _).mono ?_
      rintro e w' ⟨rfl, rfl⟩
      go_wp2_with fail
      refine (num_any _ _).mono ?_
      rintro e w' ⟨rfl, rfl⟩
      go_wp2_with fail
      refine (kept_q w5 xs _ _ ll _ _ gL (by omega) Hll.out HL5.out (HA.out.below Hf5.out (fun _ _ => id))).mono ?_
      rintro e w6 ⟨rfl, hq⟩
      have Hq := hide (fr_of_drewN hq)
      clear hq
      go_wp2_with fail
      go_meet
      case rel => exact ⟨rfl, Hq.out⟩)
  case rest =>
    obtain ⟨rfl, hfx⟩ := hcut
    obtain ⟨w6, rfl⟩ : ∃ w6, w6 = wc := ⟨_, rfl⟩
    have HL6 := hide (Ow.fr HL5.out hfx (fun _ _ => id))
    have HP0' := hide (Twos.step HP0.out hfx)
    have HP1' := hide (Twos.step HP1.out hfx)
    have Hf6 := hide (Hf5.out.trans hfx)
    have hsz6 := hfx.size
    clear hfx HP0 HP1 HL5 Hf5
    go_wp2_with fail
    refine (over_any w6 xs _ ll _ (some gL) (Lent.own HL6.out Hll.out) (by omega)).mono ?_
    rintro e w7 ⟨rfl, hf⟩
    have hgn : ∀ k, some k = some gL → (¬ F0 k ∧ ¬ G0 k) ∧ ¬ F1 k ∧ ¬ G1 k := fun k hk => by
      cases hk
      obtain ⟨n1, n2, n3, n4⟩ := Hn.out
      exact ⟨⟨fun e => by have := n1 _ e; omega, fun e => by have := n3 _ e; omega⟩, fun e => by have := n2 _ e; omega, fun e => by have := n4 _ e; omega⟩
    have HQ0 := hide (Twos.turn HP0'.out hf (fun k hk => (hgn k hk).1) (fun k hk => by cases hk; exact HgL.out))
    have HQ1 := hide (Twos.turn HP1'.out hf (fun k hk => (hgn k hk).2) (fun k hk => by cases hk; exact HgL.out))
    have Hf7 := hide (Hf6.out.comp hf (fun i hi e => by cases e; have := HgL.out; omega))
    have hsz7 := hf.size
    clear hf hgn HP0' HP1' HL6 Hf6
    go_wp2_with fail
    obtain ⟨w8, Hw8⟩ : ∃ w8, Hid (w8 = (w7.alloc (.cells #[.pointer dp0, .pointer dp1, .pointer none] 26)).alloc (.cells #[.pointer rp0, .pointer rp1, .pointer none] 54)) := ⟨_, rfl⟩
    obtain ⟨db, hdb⟩ : ∃ db, w7.heap.size = db := ⟨_, rfl⟩
    have hf78 : Fr (fun _ => False) w7 w8 := by rw [Hw8.out]; exact ((Fr.refl _ _).alloc _).alloc _
    have hbd : Bl w8 db 26 #[.pointer dp0, .pointer dp1, .pointer none] := by rw [Hw8.out, ← hdb]; exact (Bl.new _ _ _).alloc _
    have hbr : Bl w8 (db + 1) 54 #[.pointer rp0, .pointer rp1, .pointer none] := by
      rw [Hw8.out]
      refine Bl.newAt ?_
      rw [← hdb]; simp
    have hT : Three W w8 db (db + 1) (pick3 dp0 dp1) (pick3 rp0 rp1) (pickF F0 F1) (pickF G0 G1) (pickS (newS sectors.toNat) (loadS xs)) (pickN sectors.toNat (ll / 64)) 0 := by
      obtain ⟨n1, n2, n3, n4⟩ := Hn.out
      have nd : ∀ i, i < 3 → ∀ k, (pickF F0 F1 i k ∨ pickF G0 G1 i k) → k < db := fun i hi k hk => by
        match i, hi with
        | 0, _ => rcases hk with hk | hk
                  · have := n1 k hk; omega
                  · have := n3 k hk; omega
        | 1, _ => rcases hk with hk | hk
                  · have := n2 k hk; omega
                  · have := n4 k hk; omega
        | 2, _ => rcases hk with hk | hk
                  · cases hk
                  · cases hk
      refine ⟨fun i hi => ?_, fun i j hi hj hne k hk hk2 => ?_, fun i hi k hk => ?_, fun i hi => ?_, fun i hi => ?_, fun i hi => ?_, Hf7.out.trans hf78⟩
      · match i, hi with
        | 0, _ => exact Twos.step HQ0.out hf78
        | 1, _ => exact Twos.step HQ1.out hf78
        | 2, _ => exact nil_pair (Hf7.out.trans hf78)
      · have key : ∀ k, (F0 k ∨ G0 k) → ¬ (F1 k ∨ G1 k) := fun k h h' => by
          rcases h with h | h <;> rcases h' with h' | h'
          · have a := n1 k h; have b := n2 k h'; omega
          · have a := n1 k h; have b := n4 k h'; omega
          · have a := n3 k h; have b := n2 k h'; omega
          · have a := n3 k h; have b := n4 k h'; omega
        match i, hi, j, hj with
        | 0, _, 0, _ => exact hne rfl
        | 0, _, 1, _ => exact key k hk hk2
        | 0, _, 2, _ => rcases hk2 with h | h <;> cases h
        | 1, _, 0, _ => exact key k hk2 hk
        | 1, _, 1, _ => exact hne rfl
        | 1, _, 2, _ => rcases hk2 with h | h <;> cases h
        | 2, _, _, _ => rcases hk with h | h <;> cases h
      · have := nd i hi k hk; omega
      · match i, hi with
        | 0, _ => exact hbd.cell' rfl
        | 1, _ => exact hbd.cell' rfl
        | 2, _ => exact hbd.cell' rfl
      · match i, hi with
        | 0, _ => exact hbr.cell' rfl
        | 1, _ => exact hbr.cell' rfl
        | 2, _ => exact hbr.cell' rfl
      · match i, hi with
        | 0, _ => exact Nat.le_refl _
        | 1, _ => exact Nat.le_refl _
        | 2, _ => exact Nat.le_refl _
    have HT := hide hT
    have hszs : (w7.alloc (.cells #[.pointer dp0, .pointer dp1, .pointer none] 26)).heap.size = db + 1 := by rw [← hdb]; simp
    first | rw [← Hw8.out] | skip
    obtain ⟨rb, hrb⟩ : ∃ rb, db + 1 = rb := ⟨_, rfl⟩
    rw [hrb] at HT
    try rw [hdb]
    try simp only [hdb, hrb]
    generalize pick3 dp0 dp1 = dp at HT
    generalize pick3 rp0 rp1 = rp at HT
    generalize pickN sectors.toNat (ll / 64) = nN at HT
    clear hT hbd hbr hf78 hszs HQ0 HQ1 Hn Hf7 hdb hrb Hi0 Hi1 Hw8 HgL
    go_loopw [18] (fun v wr => ∃ (i : Nat) (F G : Nat → Nat → Prop) (s : Nat → DS), i ≤ sl ∧ v = .int .i64 i ∧ Hid (Three W wr db rb dp rp F G s nN i)) (fun v _ => sl - (intOf v).toNat)
    case atStart => exact ⟨0, _, _, _, Nat.zero_le _, rfl, HT.out⟩
    case round =>
      clear HT
      obtain ⟨x0, rfl⟩ : ∃ x0, x0 = wr := ⟨_, rfl⟩
      obtain ⟨i, F, G, s, hi, rfl, HT⟩ := hrel
      by_cases hlt : i < sl
      · obtain ⟨bk, o, rfl, hbB, hc0⟩ := HS.out.at_ (by omega)
        have hO := HS.out.is i hlt
        obtain ⟨op, hop⟩ : ∃ op, O i = op := ⟨_, rfl⟩
        have hc : ∀ j u, op.cells[j]? = some u → x0.cell? ⟨bk, o + i * 7 + j, none⟩ = some u := fun j u hu => (HT.out.fr.cell (p := ⟨bk, o + i * 7 + j, none⟩) hbB id).trans (hc0 i j hlt u (by rw [hop]; exact hu))
        rw [hop] at hO
        have hpl := fun (wx : World) (hf : Fr (fun _ => False) x0 wx) (j : Nat) (hj : j < 3) => plays_pair ((HT.out.step hf).pair j hj) op hO (t := i) (by omega) (HT.out.ct j hj)
        obtain ⟨who, kd, nn, DA, dn, dc, dd, OKA, okn, okc, okk, otn, oct⟩ := op
        have d0 := hc 0 _ rfl
        have d1 := hc 1 _ rfl
        have d2 := hc 2 _ rfl
        have d3 := hc 3 _ rfl
        have d4 := hc 4 _ rfl
        have d5 := hc 5 _ rfl
        have d6 := hc 6 _ rfl
        rw [Nat.add_zero] at d0
        simp only at d0 d1 d2 d3 d4 d5 d6
        have Hpl := hide hpl
        clear hc hc0 hop hO hbB hpl
        by_cases hw0 : who < 0
        · go_wp2_with fail
          exact ⟨⟨i + 1, F, G, s, by omega, by go_num, (HT.out.step ((Fr.refl _ _).alloc _)).more (Nat.le_succ _)⟩, by simp [intOf]; omega⟩
        · by_cases hw2 : 2 < who
          · go_wp2_with fail
            exact ⟨⟨i + 1, F, G, s, by omega, by go_num, (HT.out.step ((Fr.refl _ _).alloc _)).more (Nat.le_succ _)⟩, by simp [intOf]; omega⟩
          · obtain ⟨j, rfl⟩ : ∃ j : Nat, who = (j : Int) := ⟨who.toNat, by omega⟩
            have hj3 : j < 3 := by omega
            go_wp2_with fail
            obtain ⟨x1, Hx1⟩ : ∃ x1, Hid (x1 = x0.alloc (.cells #[.int .i64 (j : Int), .int .i64 kd, .int .i64 nn, .slice DA dn dc, .slice OKA okn okc, .int .i64 otn, .int .i64 oct] 61)) := ⟨_, rfl⟩
            obtain ⟨ob, hob⟩ : ∃ ob, x0.heap.size = ob := ⟨_, rfl⟩
            have hB : Bl x1 ob 61 #[.int .i64 (j : Int), .int .i64 kd, .int .i64 nn, .slice DA dn dc, .slice OKA okn okc, .int .i64 otn, .int .i64 oct] := by rw [Hx1.out, ← hob]; exact Bl.new _ _ _
            have hf1 : Fr (fun _ => False) x0 x1 := by rw [Hx1.out]; exact (Fr.refl _ _).alloc _
            have hT1 := HT.out.step hf1
            have hdF : ¬ (F j db ∨ G j db) := fun e => (HT.out.off j hj3 db e).1 rfl
            have hrF : ¬ (F j rb ∨ G j rb) := fun e => (HT.out.off j hj3 rb e).2 rfl
            have HdF := hide hdF
            have HrF := hide hrF
            have hoF : ¬ (F j ob ∨ G j ob) := fun e => by have := Twos.lt (HT.out.pair j hj3) e; omega
            rw [← Hx1.out, hob]
            have v0 : x1.cell? ⟨ob, 0, none⟩ = some (.int .i64 (j : Int)) := hB.cell' rfl
            have v1 : x1.cell? ⟨ob, 1, none⟩ = some (.int .i64 kd) := hB.cell' rfl
            have v2 : x1.cell? ⟨ob, 2, none⟩ = some (.int .i64 nn) := hB.cell' rfl
            have v3 : x1.cell? ⟨ob, 3, none⟩ = some (.slice DA dn dc) := hB.cell' rfl
            have v4 : x1.cell? ⟨ob, 4, none⟩ = some (.slice OKA okn okc) := hB.cell' rfl
            have v5 : x1.cell? ⟨ob, 5, none⟩ = some (.int .i64 otn) := hB.cell' rfl
            have v6 : x1.cell? ⟨ob, 6, none⟩ = some (.int .i64 oct) := hB.cell' rfl
            have cd := hT1.dc j hj3
            have cr := hT1.rc j hj3
            obtain ⟨da, hda⟩ : ∃ da, dp j = da := ⟨_, rfl⟩
            obtain ⟨ra, hra⟩ : ∃ ra, rp j = ra := ⟨_, rfl⟩
            have hcall : ∀ wx, Fr (fun _ => False) x1 wx → Calls Try.prog 29 #[.pointer da, .pointer ra, .agg #[.int .i64 (j : Int), .int .i64 kd, .int .i64 nn, .slice DA dn dc, .slice OKA okn okc, .int .i64 otn, .int .i64 oct]] wx fun e w' => e = .returned (.bool true) ∧ ∃ F' G' s', Three W w' db rb dp rp F' G' s' nN (i + 1) ∧ Fr (fun k => F j k ∨ G j k) wx w' := fun wx hf => by
              rw [← hda, ← hra]
              exact (Hpl.out wx (hf1.trans hf) j hj3).mono fun e w' ⟨h1, h2⟩ => ⟨h1, (hT1.step hf).put hj3 h2⟩
            rw [hda] at cd
            rw [hra] at cr
            have i0 : (0 : Int) ≤ (j : Int) := by omega
            have i1 : (j : Int) < 3 := by omega
            have HoF := hide hoF
            clear hB hf1 hT1 hoF hdF hrF d0 d1 d2 d3 d4 d5 d6 hda hra hob Hpl HT
            go_region_held3 (fun w' => w'.cell? ⟨ob, 0, none⟩ = some (.int .i64 (j : Int)) ∧ w'.cell? ⟨ob, 1, none⟩ = some (.int .i64 kd) ∧ w'.cell? ⟨ob, 2, none⟩ = some (.int .i64 nn) ∧ w'.cell? ⟨ob, 3, none⟩ = some (.slice DA dn dc) ∧ w'.cell? ⟨ob, 4, none⟩ = some (.slice OKA okn okc) ∧ w'.cell? ⟨ob, 5, none⟩ = some (.int .i64 otn) ∧ w'.cell? ⟨ob, 6, none⟩ = some (.int .i64 oct) ∧ w'.cell? ⟨db, j, none⟩ = some (.pointer da) ∧ w'.cell? ⟨rb, j, none⟩ = some (.pointer ra)) (go_keep)
              ((go_at_call 29; refine (hcall _ (by exact (Fr.refl (fun _ => False) _).drew)).mono ?_; rintro e x2 ⟨rfl, F2, G2, s2, hT2, hf2⟩; have t0 := (hf2.cell (World.block_lt_of_cell? x1 _ v0) HoF.out).trans v0; have t1 := (hf2.cell (World.block_lt_of_cell? x1 _ v1) HoF.out).trans v1; have t2 := (hf2.cell (World.block_lt_of_cell? x1 _ v2) HoF.out).trans v2; have t3 := (hf2.cell (World.block_lt_of_cell? x1 _ v3) HoF.out).trans v3; have t4 := (hf2.cell (World.block_lt_of_cell? x1 _ v4) HoF.out).trans v4; have t5 := (hf2.cell (World.block_lt_of_cell? x1 _ v5) HoF.out).trans v5; have t6 := (hf2.cell (World.block_lt_of_cell? x1 _ v6) HoF.out).trans v6; have td := (hf2.cell (World.block_lt_of_cell? x1 _ cd) HdF.out).trans cd; have tr := (hf2.cell (World.block_lt_of_cell? x1 _ cr) HrF.out).trans cr))
            have HT2 := hide hT2
            clear hT2 hf2
            go_wp2_with fail
            exact ⟨⟨i + 1, F2, G2, s2, by omega, by go_num, HT2.out⟩, by simp [intOf]; omega⟩
      · obtain rfl : sl = i := by omega
        clear hlt hi
        go_wp2_with fail
        go_loopw [20] (fun v wr => ∃ (j : Nat) (F G : Nat → Nat → Prop) (s : Nat → DS), j ≤ 3 ∧ v = .int .i64 j ∧ Hid (Three W wr db rb dp rp F G s nN (sl + 2 * j))) (fun v _ => 3 - (intOf v).toNat)
        case atStart => exact ⟨0, _, _, _, Nat.zero_le _, rfl, HT.out⟩
        case round =>
          clear HT F G s
          obtain ⟨y0, rfl⟩ : ∃ y0, y0 = wr := ⟨_, rfl⟩
          obtain ⟨j, F, G, s, hj, rfl, HT⟩ := hrel
          by_cases hj3 : j < 3
          · have cd := HT.out.dc j hj3
            have cr := HT.out.rc j hj3
            obtain ⟨da, hda⟩ : ∃ da, dp j = da := ⟨_, rfl⟩
            obtain ⟨ra, hra⟩ : ∃ ra, rp j = ra := ⟨_, rfl⟩
            have hcnt : ∀ wx, Fr (fun _ => False) y0 wx → Calls Try.prog 30 #[.pointer da, .pointer ra] wx fun e w' => e = .returned (.bool true) ∧ Fr (fun _ => False) wx w' := fun wx hf => by
              rw [← hda, ← hra]
              exact counts_pair ((HT.out.step hf).pair j hj3)
            have hpl : ∀ (F G : Nat → Nat → Prop) (s : Nat → DS) (t : Nat) (wx : World), t ≤ 1700000000000 → Three W wx db rb dp rp F G s nN t → Calls Try.prog 29 #[.pointer da, .pointer ra, .agg #[.int .i64 0, .int .i64 7, .int .i64 0, .slice none 0 0, .slice none 0 0, .int .i64 0, .int .i64 0]] wx fun e w' => e = .returned (.bool true) ∧ ∃ F' G' s', Three W w' db rb dp rp F' G' s' nN (t + 1) ∧ w'.cell? ⟨db, j, none⟩ = some (.pointer da) ∧ w'.cell? ⟨rb, j, none⟩ = some (.pointer ra) := fun F G s t wx ht hT => by
              rw [← hda, ← hra]
              have hop : OpIs W ⟨0, 7, 0, none, 0, 0, [], none, 0, 0, [], 0, 0⟩ := ⟨by show (-9223372036854775808 : Int) ≤ 0; omega, by show (0 : Int) ≤ _; omega, rfl, Nat.le_refl _, Nat.zero_le _, Sl.nil_ _ _ _, rfl, Nat.le_refl _, Nat.zero_le _, Sl.nil_ _ _ _, Nat.zero_le _, Nat.zero_le _⟩
              refine (plays_pair (hT.pair j hj3) _ hop ht (hT.ct j hj3)).mono ?_
              rintro e w' ⟨h1, h2⟩
              obtain ⟨F', G', s', h3, -⟩ := hT.put hj3 h2
              exact ⟨h1, F', G', s', h3, h3.dc j hj3, h3.rc j hj3⟩
            rw [hda] at cd
            rw [hra] at cr
            have i0 : (0 : Int) ≤ (j : Int) := by omega
            have i1 : (j : Int) < 3 := by omega
            clear hda hra
            go_wp2_with fail
            go_region_held3 (fun w' => w'.cell? ⟨db, j, none⟩ = some (.pointer da) ∧ w'.cell? ⟨rb, j, none⟩ = some (.pointer ra)) (go_keep)
              (first
                | (go_at_call 30; refine (hcnt _ (by exact (Fr.refl (fun _ => False) _).drew)).mono ?_; rintro e x1 ⟨rfl, hf1⟩; have td := (hf1.cell (World.block_lt_of_cell? y0 _ cd) id).trans cd; have tr := (hf1.cell (World.block_lt_of_cell? y0 _ cr) id).trans cr)
                | (go_at_call 29; refine (hpl F G s _ x1 (by omega) (HT.out.step (Fr.trans (by exact (Fr.refl (fun _ => False) y0).drew) hf1))).mono ?_; rintro e x2 ⟨rfl, F2, G2, s2, hT2, td2, tr2⟩)
                | (go_at_call 29; refine (hpl F2 G2 s2 _ x2 (by omega) hT2).mono ?_; rintro e x3 ⟨rfl, F3, G3, s3, hT3, td3, tr3⟩))
            have HT3 := hide hT3
            clear hT3 hT2 hcnt hpl HT hf1
            go_wp2_with fail
            exact ⟨⟨j + 1, F3, G3, s3, by omega, by go_num, by have := HT3.out; rwa [show sl + 2 * j + 1 + 1 = sl + 2 * (j + 1) by omega] at this⟩, by simp [intOf]; omega⟩
          · obtain rfl : j = 3 := by omega
            have hfin := HT.out.fr
            clear HT
            go_wp2_with fail
            go_ret
            exact ⟨rfl, hfin⟩
end Go.Proofs.Ythcklgelbckffaa
