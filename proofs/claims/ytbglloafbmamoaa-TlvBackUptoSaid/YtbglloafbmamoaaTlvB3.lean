/-
  TlvBehind: the walk.
-/
import Derived.Test.YtbglloafbmamoaaTlvOne0
import Derived.Test.YtbglloafbmamoaaTlvB2
import Derived.Deep.DeepCutAuto
namespace Go.Proofs.Ytbglloafbmamoaa
open Go.RowKit
set_option linter.unusedVariables false
attribute [local go_sem ↓] Go.wp_at_zero Go.wp_at_succ

set_option maxHeartbeats 400000 in
theorem rnd_any (w : World) (k n : Int) (n1 : 1 ≤ n) (n2 : n ≤ 4611686018427387904) :
    Calls Try.prog 40 #[.int .i64 k, .int .i64 n] w fun e w' => e = .returned (.int .i64 (k % n)) ∧ w = w' := by
  have h0 := Int.emod_nonneg k (show n ≠ 0 by omega)
  have h1 := Int.emod_lt_of_pos k (show 0 < n by omega)
  have tb : k.tmod n = k % n ∨ (k.tmod n = k % n - n) := by
    rw [Int.tmod_eq_emod]; split
    · exact .inl (by omega)
    · exact .inr (by omega)
  by_cases hk : 0 ≤ k.tmod n
  · have e1 : k.tmod n = k % n := by omega
    clear tb
    go_enter Try.func40, Try.ntmps40
    go_wp2
    go_ret
    exact ⟨rfl, rfl⟩
  · have e2 : -n ≤ k.tmod n := by omega
    have e1 : Hid (k % n = k.tmod n + n) := show k % n = k.tmod n + n by omega
    clear tb
    go_enter Try.func40, Try.ntmps40
    go_wp2
    go_ret
    exact ⟨by rw [e1.out]; rfl, rfl⟩

theorem short_s (w : World) (N s : Nat) (h : (short N).length = s) (hN : N < U64) :
    Calls Try.prog 15 #[.int .u64 (N : Int)] w fun e w' => ∃ P cp, e = .returned (.slice P s cp) ∧ Fr (fun _ => False) w w' := by
  refine (short_any w N hN).mono ?_
  rintro e w' ⟨P, cp, gp, rfl, hP, -, hf⟩
  rw [h]
  exact ⟨P, cp, rfl, hf⟩
/-- Does one of so many fields end there, or is it the beginning? -/
def EndsAt (kk : Nat) (Fs : List GF) (j : Nat) : Prop := kk = 0 ∨ ∃ x, x < j ∧ pos 0 Fs (x + 1) = kk
theorem EndsAt.succ {kk : Nat} {Fs : List GF} {j : Nat} : EndsAt kk Fs (j + 1) ↔ EndsAt kk Fs j ∨ pos 0 Fs (j + 1) = kk := by
  constructor
  · rintro (h | ⟨x, hx, h⟩)
    · exact .inl (.inl h)
    · by_cases hj : x = j
      · subst hj; exact .inr h
      · exact .inl (.inr ⟨x, by omega, h⟩)
  · rintro ((h | ⟨x, hx, h⟩) | h)
    · exact .inl h
    · exact .inr ⟨x, by omega, h⟩
    · exact .inr ⟨j, by omega, h⟩
/-- 'so many fields were looked at'. -/
def Ends (kk : Nat) (Fs : List GF) (w0 : World) (e p i : Value) (w : World) : Prop :=
  ∃ (j q : Nat) (eb : Bool), i = .int .i64 (j : Int) ∧ p = .int .i64 (q : Int) ∧ e = .bool eb ∧ j ≤ Fs.length ∧ Hid (eb = true ↔ EndsAt kk Fs j) ∧ Hid (q = pos 0 Fs j) ∧ Fr (fun _ => False) w0 w

set_option maxHeartbeats 8000000 in
set_option maxRecDepth 100000 in
theorem behind_walk (w : World) (xs ys : List Nat) (A B : Option Addr) (n c m d : Nat) (cut : Int) (hn : n + m ≤ 1048576) (hc : n ≤ c) (hc2 : c ≤ 9223372036854775807) (hl : n = xs.length) (h256 : ∀ x ∈ xs, x < 256) (hA : Sl w 1 A n (xs.map bn))
    (hl' : m = ys.length) (h256' : ∀ x ∈ ys, x < 256) (hB : Sl w 1 B m (ys.map bn)) :
    Calls Try.prog 8 #[.slice A n c, .slice B m d, .int .i64 cut] w fun e w' => e = .returned (.bool true) ∧ Below w.heap.size w w' := by
  obtain ⟨i0, hi, hz0, hz1, hz2⟩ := info_parts info5
  have Hl := hide hl
  have H256 := hide h256
  have HA := hide hA
  have Hl' := hide hl'
  have H256' := hide h256'
  have HB := hide hB
  clear hl h256 hA hl' h256' hB
  go_enter Try.func8, Try.ntmps8
  go_wp2_with fail
  refine (awake_any w).mono ?_
  rintro e w1 ⟨rfl, hf1⟩
  go_wp2_with fail
  refine (tget_any _ xs A n c (by omega) hc hc2 Hl.out H256.out (HA.out.below hf1 (fun _ _ => id))).mono ?_
  rintro e wc ⟨rs, L, k, cl, gl, rfl, hk, hrs, hO, hgl, hF, hf2⟩
  obtain ⟨pl, hpl⟩ : ∃ pl, (getAll xs).2.1 = pl := ⟨_, rfl⟩
  obtain ⟨er, her⟩ : ∃ er, (getAll xs).2.2 = er := ⟨_, rfl⟩
  rw [hpl, her]
  have Her := hide her
  have Hpl := hide hpl
  have Hf := hide (hf1.trans hf2)
  have Hk := hide hk
  have Hrs := hide hrs
  have HO := hide hO
  have HF := hide hF
  clear hpl her hk hrs hO hgl hF hf1 hf2
  by_cases h0 : er = 0
  · subst h0
    have hn1 : (n : Int) + 1 = ((n + 1 : Nat) : Int) := by omega
    obtain ⟨kk, hkk⟩ : ∃ kk : Nat, cut % ((n + 1 : Nat) : Int) = (kk : Int) := ⟨(cut % ((n + 1 : Nat) : Int)).toNat, by have := Int.emod_nonneg cut (show ((n + 1 : Nat) : Int) ≠ 0 by omega); omega⟩
    have hkn : kk ≤ n := by have := Int.emod_lt_of_pos cut (show (0 : Int) < ((n + 1 : Nat) : Int) by omega); omega
    have Hkk := hide hkk
    clear hkk
    have hrnd : ∀ W : World, Calls Try.prog 40 #[.int .i64 cut, .int .i64 ((n : Int) + 1)] W fun e w' => e = .returned (.int .i64 (kk : Int)) ∧ W = w' := fun W => by
      have := rnd_any W cut ((n : Int) + 1) (by omega) (by omega)
      rw [show cut % ((n : Int) + 1) = kk by rw [hn1]; exact Hkk.out] at this
      exact this
    go_wp2_with fail
    refine (num_any _ _).mono ?_
    rintro e w' ⟨rfl, rfl⟩
    clear hn1
    go_wp2_with fail
    refine (hrnd _).mono ?_
    rintro e w' ⟨rfl, rfl⟩
    clear hrnd
    have hkl : k = (getAll xs).1.length := by rw [← Hrs.out, List.length_map, ← Hk.out]
    have Hkl := hide hkl
    obtain ⟨Fs, hFs⟩ : ∃ Fs, (getAll xs).1 = Fs := ⟨_, rfl⟩
    have HFs := hide hFs
    have hpos := getAll_pos H256.out Her.out
    rw [hFs] at hpos hkl
    have Hpos := hide hpos
    have Hkl := hide hkl
    have hkb : k ≤ 1048576 := by
      have h1 := getAll_len xs
      rw [← Hrs.out, List.length_map, ← Hk.out] at h1; exact h1
    clear hkl hFs hpos
    go_wp2_with fail
    go_loopw [15, 16, 17] (fun e p i wr => Ends kk Fs wc e p i wr) (fun _ _ i _ => k - (intOf i).toNat)
    case atStart =>
      refine ⟨0, 0, ((kk : Int) == 0), rfl, rfl, rfl, Nat.zero_le _, ?_, rfl, Fr.refl _ _⟩
      show _ ↔ _
      rw [beq_iff_eq]
      constructor
      · intro h; exact .inl (by omega)
      · rintro (h | ⟨x, hx, _⟩)
        · omega
        · omega
    case round =>
      obtain ⟨j, q, eb, rfl, rfl, rfl, hj, heb, hq, hfr⟩ := hrel
      rw [← Hkl.out] at hj
      by_cases hlt : j < k
      · obtain ⟨r, hr⟩ : ∃ r, rs[j]? = some r := ⟨_, List.getElem?_eq_getElem (by rw [← Hk.out]; exact hlt)⟩
        have hFj : Fs[j]? = some r.F := by rw [← HFs.out, ← Hrs.out, List.getElem?_map, hr]; rfl
        obtain ⟨p1, p2, p3⟩ := Hpos.out.1 j _ hFj
        have hjr : j < rs.length := by rw [← Hk.out]; exact hlt
        have hrj : rs[j] = r := Option.some.inj ((List.getElem?_eq_getElem hjr).symm.trans hr)
        obtain ⟨b, o, hLb, -, hcc⟩ := HO.out.rowAt FO.tCells_len hjr (by omega)
        have hn0 := HF.out.own r (List.mem_of_getElem? hr)
        rw [hrj] at hcc
        have hln : r.n = r.F.to_ - r.F.from_ := by
          have h1 := hn0.1
          rw [List.length_map, GF.val_len p3] at h1
          omega
        subst hLb
        have c1 := (hcc 1 _ rfl).1
        obtain ⟨Fj, RA, rn, rc, rg⟩ := r
        simp only at p1 p2 p3 hln c1 hFj
        have c1' : wr.cell? ⟨b, o + j * 2 + 1, none⟩ = some (.slice RA rn rc) := (hfr.cell (World.block_lt_of_cell? wc _ c1) id).trans c1
        obtain ⟨s, hs⟩ : ∃ s, (short rn).length = s := ⟨_, rfl⟩
        have hrnU : rn < U64 := by have := Hl.out; unfold U64; omega
        have hsl := (short_le hrnU).2
        rw [hs] at hsl
        rw [← hln, hs, ← hq.out] at p2
        have hqn : q + 1 + s + rn ≤ n := by rw [← p2, Hl.out]; exact p3
        have Hq2 : Hid (q + 1 + s + rn = pos 0 Fs (j + 1)) := by show _ = _; rw [← p1, p2]
        have Hs := hide hs
        clear p1 p2 p3 hln hFj hr hjr hrj hcc hn0 c1 hs
        have v0 : IntKind.u64.wrap (rn : Int) = (rn : Int) := IntWalk.u64_in _ (by omega)
        have v1 : IntKind.i64.wrap ((q : Int) + 1) = (q : Int) + 1 := IntWalk.i64_in _ (by omega)
        have v2 : IntKind.i64.wrap ((q : Int) + 1 + (s : Int)) = (q : Int) + 1 + (s : Int) := IntWalk.i64_in _ (by omega)
        have v3 : IntKind.i64.wrap ((q : Int) + 1 + (s : Int) + (rn : Int)) = (q : Int) + 1 + (s : Int) + (rn : Int) := IntWalk.i64_in _ (by omega)
        have v4 : (0 : Int) ≤ (j : Int) := by omega
        have v5 : (j : Int) < (k : Int) := by omega
        go_wp2_with fail
        go_region_held3 (fun w' => w'.cell? ⟨b, o + j * 2 + 1, none⟩ = some (.slice RA rn rc)) (go_keep)
          ((go_at_call 15; refine (short_s _ rn s Hs.out hrnU).mono ?_; rintro e w2 ⟨P, cp, rfl, hf2⟩; have kc := (hf2.cell (World.block_lt_of_cell? wr _ c1') id).trans c1'))
        obtain ⟨Q, hQ⟩ : ∃ Q : Nat, (q : Int) + 1 + (s : Int) + (rn : Int) = (Q : Int) := ⟨q + 1 + s + rn, by omega⟩
        have HQ : Hid (Q = pos 0 Fs (j + 1)) := by show _ = _; rw [← Hq2.out]; omega
        rw [hQ]
        have hf3 := hfr.trans ((Fr.refl (fun _ => False) _).drew.trans hf2)
        clear v0 v1 v2 v3 hQ Hq2 kc c1'
        cases eb with
        | true =>
          have hE1 : Hid (true = true ↔ EndsAt kk Fs (j + 1)) := ⟨fun _ => EndsAt.succ.2 (.inl (heb.out.1 rfl)), fun _ => rfl⟩
          go_wp2_with fail
          exact ⟨⟨j + 1, Q, true, by go_num, rfl, rfl, by rw [← Hkl.out]; exact hlt, hE1, HQ, hf3⟩, by simp [intOf]; omega⟩
        | false =>
          by_cases hQk : Q = kk
          · have hE1 : Hid (true = true ↔ EndsAt kk Fs (j + 1)) := ⟨fun _ => EndsAt.succ.2 (.inr (by rw [← HQ.out]; exact hQk)), fun _ => rfl⟩
            have q1 : ((Q : Int) == (kk : Int)) = true := beq_iff_eq.2 (by omega)
            have q2 : (Q == kk) = true := beq_iff_eq.2 hQk
            go_wp2_with fail
            exact ⟨⟨j + 1, Q, true, by go_num, rfl, rfl, by rw [← Hkl.out]; exact hlt, hE1, HQ, hf3⟩, by simp [intOf]; omega⟩
          · have hE1 : Hid (false = true ↔ EndsAt kk Fs (j + 1)) := ⟨fun h => absurd h (by decide), fun h => (EndsAt.succ.1 h).elim (fun h => heb.out.2 h) (fun h => absurd (HQ.out.trans h) hQk)⟩
            have q1 : ((Q : Int) == (kk : Int)) = false := beq_eq_false_iff_ne.2 (by omega)
            have q2 : (Q == kk) = false := beq_eq_false_iff_ne.2 hQk
            go_wp2_with fail
            exact ⟨⟨j + 1, Q, false, by go_num, rfl, rfl, by rw [← Hkl.out]; exact hlt, hE1, HQ, hf3⟩, by simp [intOf]; omega⟩
      · obtain rfl : j = k := by omega
        have hqn : q = n := by rw [hq.out, Hkl.out, Hpos.out.2, ← Hl.out]
        subst hqn
        have hE : eb = true ↔ (kk = 0 ∨ ∃ F ∈ (getAll xs).1, F.to_ = kk) := by
          rw [heb.out, HFs.out]
          constructor
          · rintro (h | ⟨x, hx, h⟩)
            · exact .inl h
            · rw [Hkl.out] at hx
              obtain ⟨p1, -, -⟩ := Hpos.out.1 x _ (List.getElem?_eq_getElem hx)
              exact .inr ⟨Fs[x], List.getElem_mem hx, by rw [p1]; exact h⟩
          · rintro (h | ⟨F, hF, h⟩)
            · exact .inl h
            · obtain ⟨x, hx, hxF⟩ := List.mem_iff_getElem.1 hF
              obtain ⟨p1, -, -⟩ := Hpos.out.1 x F (by rw [List.getElem?_eq_getElem hx, hxF])
              exact .inr ⟨x, by rw [Hkl.out]; exact hx, by rw [← p1]; exact h⟩
        obtain ⟨g1, g2⟩ := getAll_cut (bs := xs) (k := kk) Her.out (by rw [← Hl.out]; exact hkn)
        rw [← hE] at g1 g2
        have Hg1 := hide g1
        have Hg2 := hide g2
        have hkc : kk ≤ c := by omega
        have u1 : (0 : Int) ≤ (kk : Int) := by omega
        have u2 : (kk : Int) ≤ (c : Int) := by omega
        have hpre : Hid (Sl wr 1 A kk ((xs.take kk).map bn)) := by show Sl _ _ _ _ _; rw [List.map_take]; exact (HA.out.below (Hf.out.trans hfr) (fun _ _ => id)).pre hkn
        clear hE g1 g2 hlt
        go_wp2_with fail
        refine (tget_any _ (xs.take kk) A kk c (by omega) hkc hc2 (by rw [List.length_take, ← Hl.out]; omega) (fun x hx => H256.out x (List.mem_of_mem_take hx)) hpre.out).mono ?_
        rintro e w5 ⟨rs2, L2, k2, cl2, gl2, rfl, -, -, -, -, -, hf5⟩
        obtain ⟨pl2, hpl2⟩ : ∃ pl, (getAll (xs.take kk)).2.1 = pl := ⟨_, rfl⟩
        obtain ⟨er2, her2⟩ : ∃ er, (getAll (xs.take kk)).2.2 = er := ⟨_, rfl⟩
        rw [hpl2, her2]
        have Hf5 := hide ((Hf.out.trans hfr).trans hf5)
        cases eb with
        | true =>
          have h1 := Hg1.out rfl
          rw [her2] at h1
          subst h1
          clear hpl2 her2 hf5
          go_wp2_with fail
          refine (num_any _ _).mono ?_
          rintro e w' ⟨rfl, rfl⟩
          go_wp2_with fail
          go_ret
          exact ⟨rfl, Hf5.out.toBelow (Nat.le_refl _) (fun _ _ => id)⟩
        | false =>
          obtain ⟨h1, h2⟩ := Hg2.out (by decide)
          rw [her2] at h1
          rw [hpl2] at h2
          subst h1
          have u3 : (pl2 : Int) ≤ (kk : Int) := by omega
          clear hpl2 her2 hf5
          go_wp2_with fail
          refine (num_any _ _).mono ?_
          rintro e w' ⟨rfl, rfl⟩
          go_wp2_with fail
          refine (num_any _ _).mono ?_
          rintro e w' ⟨rfl, rfl⟩
          go_wp2_with fail
          go_ret
          exact ⟨rfl, Hf5.out.toBelow (Nat.le_refl _) (fun _ _ => id)⟩
  · have hw := getAll_wrong (bs := xs) (by rw [Her.out]; exact h0)
    have hk0 : k = 0 := by
      have h1 := congrArg List.length Hrs.out
      rw [hw.1, List.length_map, ← Hk.out] at h1
      simpa using h1
    subst hk0
    have hple : pl ≤ n := by rw [← Hpl.out, Hl.out]; exact hw.2
    have hb : (er != 0) = true := bne_iff_ne.2 h0
    clear hw
    go_wp2_with fail
    refine (num_any _ _).mono ?_
    rintro e w' ⟨rfl, rfl⟩
    go_wp2_with (first | (at_builtin; go_loud (refine wpList_append_ow _ rfl _ _ 23 rfl 5 i0 (.int .u8 0) 1 1 Try.underlying23 hi hz0 hz1 hz2 rfl (by decide) _ _ _ _ _ rfl (Ow.nil_ _ _ _) _ _ _ _ rfl (HA.out.below Hf.out (fun _ _ => id)) (bn_one _) (by unfold maxLen; omega) (by omega) ?_)) | go_in)
    intro A1 c1 w3 g1 hA1 hf3 hg1
    have Hf3 := hide (Hf.out.trans hf3)
    have hg1' : Hid (∀ b, g1 = some b → w.heap.size ≤ b) := by
      show ∀ b, _
      intro b e
      have := Hf.out.size
      rcases hg1 with h | ⟨b', h, h2⟩
      · rw [e] at h; cases h
      · rw [e] at h; cases h; omega
    have HA1 := hide hA1
    clear hA1 hf3 hg1
    have hc1 := HA1.out.cap
    unfold maxLen at hc1
    go_wp2_with (first | (at_builtin; go_loud (refine wpList_append_ow _ rfl _ _ 23 rfl 5 i0 (.int .u8 0) 1 1 Try.underlying23 hi hz0 hz1 hz2 rfl (by decide) _ _ _ _ _ rfl HA1.out _ _ _ _ rfl (HB.out.below Hf3.out (fun _ _ => id)) (bn_one _) (by unfold maxLen; omega) (by omega) ?_)) | go_in)
    intro A4 c4 w4 g4 hA4 hf4 hg4
    have Hf4 := hide (Hf3.out.comp hf4 (fun i hi e => by have := hg1'.out i e.symm; omega))
    have hA4' : Ow w4 5 1 A4 (n + m) c4 ((xs ++ ys).map bn) g4 := by rw [List.map_append]; exact hA4
    have HA4 := hide hA4'
    have hc4 := hA4.cap
    unfold maxLen at hc4
    clear hA4 hf4 hg4 hA4'
    go_wp2_with fail
    refine (tget_any _ (xs ++ ys) A4 (n + m) c4 (by omega) hc4.1 hc4.2 (by rw [List.length_append, Hl.out, Hl'.out]) (fun x hx => by rcases List.mem_append.1 hx with h | h; exact H256.out x h; exact H256'.out x h) HA4.out.sl).mono ?_
    rintro e w5 ⟨rs2, L2, k2, cl2, gl2, rfl, -, -, -, -, -, hf5⟩
    obtain ⟨pl2, hpl2⟩ : ∃ pl, (getAll (xs ++ ys)).2.1 = pl := ⟨_, rfl⟩
    obtain ⟨er2, her2⟩ : ∃ er, (getAll (xs ++ ys)).2.2 = er := ⟨_, rfl⟩
    rw [hpl2, her2]
    have Hpe := hide (And.intro hpl2 her2)
    have Hf5 := hide (Hf4.out.trans hf5)
    clear hpl2 her2 hf5
    by_cases h22 : er = 22
    · have hb22 : (er != 22) = false := by rw [h22]; rfl
      go_wp2_with fail
      refine (num_any _ _).mono ?_
      rintro e w' ⟨rfl, rfl⟩
      go_wp2_with fail
      go_ret
      exact ⟨rfl, Hf5.out.toBelow (Nat.le_refl _) (fun _ _ => id)⟩
    · have hb22 : (er != 22) = true := bne_iff_ne.2 h22
      have hm := getAll_more (bs := xs) (ys := ys) (by rw [Her.out]; exact h0) (by rw [Her.out]; exact h22) (by rw [List.length_append, ← Hl.out, ← Hl'.out]; exact hn)
      have e1 : pl2 = pl := by rw [← Hpe.out.1, ← Hpl.out, hm]
      have e2 : er2 = er := by rw [← Hpe.out.2, ← Her.out, hm]
      clear hm
      subst e1 e2
      go_wp2_with fail
      refine (num_any _ _).mono ?_
      rintro e w' ⟨rfl, rfl⟩
      go_wp2_with fail
      go_ret
      exact ⟨rfl, Hf5.out.toBelow (Nat.le_refl _) (fun _ _ => id)⟩
end Go.Proofs.Ytbglloafbmamoaa
