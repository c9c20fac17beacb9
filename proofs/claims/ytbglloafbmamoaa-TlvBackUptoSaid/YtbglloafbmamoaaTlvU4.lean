/-
  TlvBack: the walk.
-/
import Derived.Test.YtbglloafbmamoaaTlvU3
import Derived.Test.YtbglloafbmamoaaTlvW5
namespace Go.Proofs.Ytbglloafbmamoaa
open Go.RowKit
set_option linter.unusedVariables false
set_option linter.unusedSimpArgs false
theorem strOf_of (t : ByteArray) : ∃ xs : List Nat, strOf xs = t ∧ xs.length = t.data.toList.length ∧ ∀ x ∈ xs, x < 256 := by
  refine ⟨t.data.toList.map UInt8.toNat, ?_, by simp, fun x hx => ?_⟩
  · unfold strOf
    rw [List.map_map]
    have : (UInt8.ofNat ∘ UInt8.toNat) = id := by funext b; simp
    rw [this, List.map_id, Array.toArray_toList]
  · obtain ⟨b, -, rfl⟩ := List.mem_map.1 hx
    exact b.toNat_lt
def szs (l : List (List Nat)) : Nat := (l.map fun x => x.length + 10).sum
theorem szs_take {l : List (List Nat)} {i : Nat} (h : i < l.length) : szs (l.take (i + 1)) = szs (l.take i) + (l[i].length + 10) := by
  unfold szs
  rw [List.take_add_one, List.getElem?_eq_getElem h, List.map_append, List.sum_append]
  simp only [Option.toList, List.map_cons, List.map_nil, List.sum_cons, List.sum_nil, Nat.add_zero]
theorem szs_le {l : List (List Nat)} (i : Nat) : szs (l.take i) ≤ szs l := by
  unfold szs
  conv => rhs; rw [← List.take_append_drop i l]
  rw [List.map_append, List.sum_append]
  omega
theorem szs_len : ∀ (l : List (List Nat)), l.length ≤ szs l ∧ (∀ x ∈ l, x.length ≤ szs l) ∧ ((∀ x ∈ l, x.length ≤ 10000) → (listAll l).length ≤ szs l)
  | [] => by simp [szs, listAll]
  | v :: r => by
    obtain ⟨h1, h2, h3⟩ := szs_len r
    have e : szs (v :: r) = v.length + 10 + szs r := by simp [szs]
    refine ⟨by simp; omega, fun x hx => ?_, fun hx => ?_⟩
    · rcases List.mem_cons.1 hx with rfl | hx
      · omega
      · have := h2 x hx; omega
    · have h4 := h3 fun x hx' => hx x (List.mem_cons_of_mem _ hx')
      have h5 := (short_le (n := v.length) (by have := hx v (List.mem_cons_self ..); unfold U64; omega)).2
      have e2 : listAll (v :: r) = short v.length ++ (v ++ listAll r) := by simp [listAll]
      rw [e2]; simp only [List.length_append]; omega
theorem rec_lk {n : Nat} {s raw : List Nat} {xss : List (List Nat)} (h : Small n s raw xss) {i : Nat} (hi : i ≤ 4) : ((WS.fresh.number 1 (Ni n i)).record 9 (WS.fresh.puts (lst n s raw xss i))).put 255 s = WS.fresh.puts (lst n s raw xss (i + 1)) := by
  obtain ⟨p1, p2⟩ := chain_puts h hi
  have h1 : WS.fresh.number 1 (Ni n i) = WS.fresh.puts [(1, Nv (Ni n i))] := number_nv _ _ _
  have h2 : (WS.fresh.puts [(1, Nv (Ni n i))]).e = 0 := by
    refine (puts_fresh (l := [(1, Nv (Ni n i))]) (by simp [Asc]) ?_).2
    have := putAll_live_le [(1, Nv (Ni n i))] (fun f hf => by
      have := Nv_le (Ni_lt n i)
      have e : f = (1, Nv (Ni n i)) := by simpa using hf
      subst e; unfold U64; simp only; omega)
    have := Nv_le (Ni_lt n i)
    have h3 : (List.map (fun f : Fd => f.2.length + 11) [(1, Nv (Ni n i))]).sum = (Nv (Ni n i)).length + 11 + 0 := rfl
    omega
  rw [h1]
  unfold WS.record
  rw [if_neg (by rw [h2]; simp), if_neg (by rw [p2]; simp), p1]
  rfl
/-- The writer between two rounds. -/
structure WrI (W wr : World) (n : Nat) (s raw : List Nat) (xss : List (List Nat)) (o : Option WO) (i : Nat) : Prop where
  at_ : TAt wr tWr o (WS.fresh.puts (lst n s raw xss i))
  new : ∀ b, foot o b → W.heap.size ≤ b
  fr : Fr (fun _ => False) W wr
/-- The row of readers, between two rounds. -/
def BK (W wr : World) (pf pr : Nat) (l : List Fd) (q rb ro : Nat) (r1 r2 : TRd) (j : Nat) (n : Nat) (s : List Nat) : Prop := ∃ T r, RRd W wr pf l T r ∧ r.p = q ∧ (∀ f ∈ l, f.1 ∈ T) ∧ TopAt wr pr pf ∧ (j ≤ 0 → RRd W wr pf (inL n s) [] r1) ∧ (j ≤ 1 → RRd W wr pf (inL n s) [] r2) ∧
  wr.cell? ⟨rb, ro + 0, none⟩ = some (.pointer (some ⟨r1.p, 0, none⟩)) ∧ wr.cell? ⟨rb, ro + 1, none⟩ = some (.pointer (some ⟨r2.p, 0, none⟩)) ∧ Typed wr rb 84 ∧ (∀ y, r.foot y → ¬ r1.foot y) ∧ (∀ y, r.foot y → ¬ r2.foot y) ∧ (∀ y, r1.foot y → ¬ r2.foot y)
theorem BK.pick {W wr : World} {pf pr : Nat} {l : List Fd} {q rb ro : Nat} {r1 r2 : TRd} {j n : Nat} {s : List Nat} (h : BK W wr pf pr l q rb ro r1 r2 j n s) (hj : j < 2) :
    ∃ rj, RRd W wr pf (inL n s) [] rj ∧ (∀ w', RTurn pf rj wr w' → w'.cell? ⟨rb, ro + j, none⟩ = some (.pointer (some ⟨rj.p, 0, none⟩))) ∧ ∀ w' T', RRd W w' pf (inL n s) T' rj → RTurn pf rj wr w' → BK W w' pf pr l q rb ro r1 r2 (j + 1) n s := by
  obtain ⟨T, r, hR, hq, hT, hTop, h1, h2, e1, e2, hty, ha1, ha2, ha3⟩ := h
  have hx1 : ∀ {rj : TRd} {w' : World} {k : Nat} {v : Value}, RRd W wr pf (inL n s) [] rj → RTurn pf rj wr w' → wr.cell? ⟨rb, k, none⟩ = some v → w'.cell? ⟨rb, k, none⟩ = some v := fun hj ht hc => (ht.cell (p := ⟨rb, _, none⟩) (World.block_lt_of_cell? wr _ hc) (RTurn.not hj hty (by unfold Turns; decide))).trans hc
  have hx2 : ∀ {rj : TRd} {w' : World}, RRd W wr pf (inL n s) [] rj → RTurn pf rj wr w' → Typed w' rb 84 := fun hj ht => hty.fr ht (RTurn.not hj hty (by unfold Turns; decide))
  match j, hj with
  | 0, _ =>
    have g1 := h1 (Nat.le_refl _)
    have g2 := h2 (by omega)
    exact ⟨r1, g1, fun w' ht => hx1 g1 ht e1, fun w' T' hw ht => ⟨T, r, hR.other g1 hw ha1 ht, hq, hT, hTop.turn g1 ht, fun h => absurd h (by omega), fun _ => g2.other g1 hw (fun y hy hy' => ha3 y hy' hy) ht, hx1 g1 ht e1, hx1 g1 ht e2, hx2 g1 ht, ha1, ha2, ha3⟩⟩
  | 1, _ =>
    have g2 := h2 (Nat.le_refl _)
    exact ⟨r2, g2, fun w' ht => hx1 g2 ht e2, fun w' T' hw ht => ⟨T, r, hR.other g2 hw ha2 ht, hq, hT, hTop.turn g2 ht, fun h => absurd h (by omega), fun h => absurd h (by omega), hx1 g2 ht e1, hx1 g2 ht e2, hx2 g2 ht, ha1, ha2, ha3⟩⟩
theorem szs_sum : ∀ (l : List (List Nat)), szs l ≤ 10 * (l.map fun x => x.length + 1).sum
  | [] => by simp [szs]
  | v :: r => by
    have ih := szs_sum r
    have e : szs (v :: r) = v.length + 10 + szs r := by simp [szs]
    rw [e, List.map_cons, List.sum_cons]; omega
set_option maxHeartbeats 1000000 in
set_option maxRecDepth 100000 in
theorem back_walk (W : World) (n : Nat) (hn : n < U64) (s raw : List Nat) (xss : List (List Nat)) (V A : Option Addr) (m d k c : Nat) (deep : Int) (hs : s.length ≤ 1048576) (s256 : ∀ x ∈ s, x < 256) (hm : m ≤ 1048576) (r256 : ∀ x ∈ raw, x < 256) (x256 : ∀ x ∈ xss, ∀ y ∈ x, y < 256) (hV : Sl W 1 V m (raw.map bn))
    (hz : szs xss ≤ 100000000) (hA : LAt W W.heap.size A k xss) :
    Calls Try.prog 12 #[.int .u64 (n : Int), .string (strOf s), .slice V m d, .slice A k c, .int .i64 deep] W fun e w' => e = .returned (.bool true) ∧ Below W.heap.size W w' := by
  obtain ⟨str, hstr⟩ : ∃ str, strOf s = str := ⟨_, rfl⟩
  have hsz : str.size = s.length := by rw [← hstr]; exact strOf_size s
  obtain ⟨sl, hsl⟩ : ∃ sl, s.length = sl := ⟨_, rfl⟩
  rw [hsl] at hsz hs
  have Hm := hide (hV.len : m = raw.length)
  have Hk := hide hA.1
  obtain ⟨kk, hkk⟩ : ∃ kk : Nat, deep % 4 = (kk : Int) := ⟨(deep % 4).toNat, by omega⟩
  have hk4 : kk ≤ 3 := by omega
  have HR := hide (fun w => round4 w deep kk hkk)
  have Hstr := hide hstr
  have Hsl := hide hsl
  have HA := hide hA
  have HV := hide hV
  have Hz := hide hz
  have Hx := hide x256
  have Hs2 := hide s256
  have Hr2 := hide r256
  have Hn := hide hn
  have hkb : k ≤ 100000000 := by rw [hA.1]; exact Nat.le_trans (szs_len xss).1 hz
  rw [hstr]
  have q0 : IntKind.i64.wrap ((sl : Int) + (m : Int)) = ((sl + m : Nat) : Int) := by rw [IntWalk.i64_in _ (by omega)]; omega
  clear hstr hsl hA hV hz x256 s256 r256 hkk hn
  go_enter Try.func12, Try.ntmps12
  go_wp2_with fail
  refine (awake_any W).mono ?_
  rintro e w1 ⟨rfl, hf1⟩
  have Hf1 := hide hf1
  clear hf1
  go_wp2_with fail
  go_loopw [11, 12] (fun vs vi wr => ∃ j t : Nat, j ≤ k ∧ vs = .int .i64 (t : Int) ∧ vi = .int .i64 (j : Int) ∧ t ≤ 200000000 ∧ Hid (t = sl + m + szs (xss.take j)) ∧ Hid (wr = w1)) (fun _ vi _ => k - (intOf vi).toNat)
  case atStart => exact ⟨0, sl + m, Nat.zero_le _, by first | rfl | go_num, rfl, by omega, by show _ = _; simp [szs], rfl⟩
  case round =>
    obtain ⟨j, t, hj, rfl, rfl, htb, ht, hw⟩ := hrel
    have hw2 := hw.out
    subst hw2
    by_cases hlt : j < k
    · have hjl : j < xss.length := by rw [← Hk.out]; exact hlt
      obtain ⟨b, o, rfl, hb, hc⟩ := HA.out.2 (by omega)
      obtain ⟨V2, m2, d2, c0, -, -, hS2, -⟩ := hc j hjl
      have c1 := (Hf1.out.cell (p := ⟨b, o + j, none⟩) hb id).trans c0
      have hm2 : m2 = xss[j].length := hS2.len
      have htk := szs_take hjl
      have hle := szs_le (l := xss) (j + 1)
      have hzz := Hz.out
      have i0 : (0 : Int) ≤ (j : Int) := by omega
      have i1 : (j : Int) < (k : Int) := by omega
      have hto := ht.out
      have q1 : IntKind.i64.wrap ((t : Int) + (m2 : Int)) = ((t + m2 : Nat) : Int) := by rw [IntWalk.i64_in _ (by omega)]; omega
      obtain ⟨t2, ht2⟩ : ∃ t2, t + m2 + 10 = t2 := ⟨_, rfl⟩
      have q2 : IntKind.i64.wrap ((t : Int) + (m2 : Int) + 10) = (t2 : Int) := by rw [IntWalk.i64_in _ (by omega)]; omega
      have Ht2 : Hid (t2 ≤ 200000000 ∧ t2 = sl + m + szs (xss.take (j + 1))) := ⟨by omega, by omega⟩
      have q3 : IntKind.i64.wrap ((j : Int) + 1) = ((j + 1 : Nat) : Int) := by rw [IntWalk.i64_in _ (by omega)]; omega
      have Hlt := hide hlt
      clear c0 hc hb hS2 hm2 htk hle hzz hjl hlt q0 hto ht2
      go_wp2_with fail
      have := Hlt.out
      exact ⟨⟨j + 1, t2, by omega, by first | rfl | go_num, by first | rfl | go_num, Ht2.out.1, Ht2.out.2, trivial⟩, by simp [intOf]; omega⟩
    · have hjk : j = k := by omega
      have hzk : szs (xss.take j) = szs xss := by rw [List.take_of_length_le (by rw [← Hk.out]; omega)]
      obtain ⟨z, hz⟩ : ∃ z, szs xss = z := ⟨_, rfl⟩
      have hto := ht.out
      rw [hzk, hz] at hto
      by_cases hbig : 10000 < t
      · have i1 : (10000 : Int) < (t : Int) := by omega
        clear hzk hz q0 hj hto
        subst hjk
        go_wp2_with fail
        go_ret
        exact ⟨rfl, Hf1.out.toBelow (Nat.le_refl _) (fun _ _ => id)⟩
      · have i1 : decide ((10000 : Int) < (t : Int)) = false := decide_eq_false (by omega)
        have HS : Hid (Small n s raw xss) := by
          obtain ⟨z1, z2, z3⟩ := szs_len xss
          rw [hz] at z1 z2 z3
          have z4 : ∀ x ∈ xss, x.length ≤ 10000 := fun x hx => by have := z2 x hx; omega
          exact ⟨Hn.out, by have := Hsl.out; omega, by have := Hm.out; omega, by omega, z4, by have := z3 z4; omega, Hs2.out, Hr2.out, Hx.out⟩
        have hm4 : m ≤ 10000 := by omega
        have hk4' : k ≤ 10000 := by have := (szs_len xss).1; have := Hk.out; omega
        clear hzk hz q0 hj hbig hlt hto htb
        subst hjk
        obtain ⟨K, rfl⟩ : ∃ K, K = j := ⟨_, rfl⟩
        have hW0 := wat_at (Bl.new wr tWr wcell)
        have hfa : Fr (fun _ => False) wr (wr.alloc (.cells wcell tWr)) := (Fr.refl _ _).alloc _
        have hs1 := Hf1.out.size
        have c1 := put5_any _ (wat wr.heap.size) n HS.out.nU s raw xss V A m d K c W.heap.size HS.out.sL HS.out.s256 hm4 (Sl.fr' hfa (Sl.fr' Hf1.out HV.out fun _ _ _ _ => id) fun _ _ _ _ => id) HV.out.lt (by simp; omega) HS.out.xL hk4' (by have := HS.out.lL; omega) ((HA.out.quiet Hf1.out).quiet hfa) (fun b hb => by rw [wat_foot hb]; exact hs1) hW0
        rw [Hstr.out] at c1
        unfold wcell at c1 hfa
        have C1 := hide c1
        have Hfa := hide hfa
        clear c1 hW0 hfa hs1 hm4 hk4'
        go_wp2_with fail
        refine (HR.out _).mono ?_
        rintro e w' ⟨rfl, rfl⟩
        go_wp2_with fail
        refine C1.out.mono ?_
        rintro e w2 ⟨rfl, o2, hp2, hT2, hft2, hf2⟩
        have HW : Hid (WrI W w2 n s raw xss o2 0) := by
          have hs1 := Hf1.out.size
          refine ⟨hT2, fun b hb => ?_, (Hf1.out.trans Hfa.out).comp hf2 fun x hx e => by have := wat_foot e; omega⟩
          rcases hft2 b hb with h | h
          · rw [wat_foot h]; exact hs1
          · have := Hfa.out.size; omega
        have Hp2 : Hid (wptr o2 = .pointer (some ⟨wr.heap.size, 0, none⟩)) := hp2
        clear hT2 hft2 hf2 hp2 C1 Hfa
        go_wp2_with fail
        go_loopw [13, 14] (fun vo vi wq => ∃ (i : Nat) (o : Option WO), i ≤ kk ∧ vo = wptr o ∧ vi = .int .i64 (i : Int) ∧ Hid (WrI W wq n s raw xss o i)) (fun _ vi _ => kk - (intOf vi).toNat)
        case atStart => exact ⟨0, o2, Nat.zero_le _, Hp2.out.symm, rfl, HW⟩
        case round =>
          clear HW Hp2
          obtain ⟨wq, rfl⟩ : ∃ wq, wq = wr := ⟨_, rfl⟩
          obtain ⟨i, o, hi, rfl, rfl, HW⟩ := hrel
          obtain ⟨p, hp⟩ : ∃ p, wptr o = p := ⟨_, rfl⟩
          have Hp := hide hp
          rw [hp]
          clear hp
          by_cases hlt : i < kk
          · obtain ⟨wo, rfl⟩ : ∃ wo, wo = wq := ⟨_, rfl⟩
            obtain ⟨y, hy⟩ : ∃ y, Ni n i = y := ⟨_, rfl⟩
            have hyU : y < U64 := by rw [← hy]; exact Ni_lt n i
            have i2 : (i : Int) < (kk : Int) := by omega
            have qa : IntKind.u64.wrap (i : Int) = (i : Int) := IntWalk.u64_in _ (by omega)
            have qb : IntKind.u64.wrap ((n : Int) + (i : Int)) = (y : Int) := by rw [← hy]; unfold Ni; show ((n : Int) + (i : Int)) % 18446744073709551616 = _; omega
            have qc : IntKind.i64.wrap ((i : Int) + 1) = ((i + 1 : Nat) : Int) := by rw [IntWalk.i64_in _ (by omega)]; omega
            have hN := Bl.new wo tWr wcell
            have hW0 : OOut tWr (wat wo.heap.size) WS.fresh (wo.alloc (.cells wcell tWr)) (wo.alloc (.cells wcell tWr)) := OOut.refl (wat_at hN) rfl (Fr.refl _ _)
            have hfa : Fr (fun _ => False) wo (wo.alloc (.cells wcell tWr)) := (Fr.refl _ _).alloc _
            have c1 := OOut.go (args := fun v => #[v, .int .i64 1, .int .u64 (y : Int)]) hW0 (fun o1 _ hT1 _ => tnumber_any _ o1 _ 1 y hyU hT1)
            unfold wcell at c1 hfa
            have C1 := hide c1
            have Hfa := hide hfa
            have Hlt := hide hlt
            have Hy := hide hy
            clear hN hW0 hfa c1 hlt hy hyU
            go_wp2_with fail
            refine C1.out.mono ?_
            rintro e w5 ⟨rfl, h5⟩
            have hf5 : Fr (fun _ => False) wo w5 := by
              obtain ⟨_, _, _, _, hf⟩ := h5
              exact Hfa.out.comp hf fun x hx e => by have := wat_foot e; omega
            have c2 := OOut.go (args := fun v => #[v, .int .i64 9, wptr o]) h5 (fun o1 _ hT1 _ => trecord_any _ o1 o _ _ 9 hT1 (HW.out.at_.quiet hf5))
            rw [Hp.out] at c2
            clear h5 hf5 C1
            go_wp2_with fail
            refine c2.mono ?_
            clear c2
            rintro e w6 ⟨rfl, h6⟩
            have c3 := OOut.go (args := fun v => #[v, .int .i64 255, .string (strOf s)]) h6 (fun o1 _ hT1 _ => ttext_any _ o1 _ 255 s (by have := HS.out.sL; omega) HS.out.s256 hT1)
            rw [Hstr.out] at c3
            clear h6
            go_wp2_with fail
            refine c3.mono ?_
            clear c3
            rintro e w7 ⟨rfl, o7, hp7, hT7, hft7, hf7⟩
            have hp7 := hide hp7
            have HW7 : Hid (WrI W w7 n s raw xss o7 (i + 1)) := by
              have e1 := rec_lk HS.out (i := i) (by have := Hlt.out; omega)
              have z1 := HW.out.fr.size
              refine ⟨by rw [← e1, Hy.out]; exact hT7, fun b hb => ?_, HW.out.fr.trans (Hfa.out.comp hf7 fun x hx e => by have := wat_foot e; omega)⟩
              rcases hft7 b hb with h | h
              · rw [wat_foot h]; exact z1
              · have := Hfa.out.size; omega
            clear hT7 hft7 hf7 Hfa
            go_wp2_with fail
            have := Hlt.out
            exact ⟨⟨i + 1, o7, by omega, hp7.out.symm, by first | rfl | go_num, HW7⟩, by simp [intOf]; omega⟩
          · obtain rfl : i = kk := by omega
            clear hlt hi
            obtain ⟨B, hB⟩ : ∃ B, chain n s raw xss i = B := ⟨_, rfl⟩
            have c1 := tform_any' wq o _ HW.out.at_
            obtain ⟨p1, p2⟩ := chain_puts HS.out (i := i) (by omega)
            have hform : (WS.fresh.puts (lst n s raw xss i)).form = chain n s raw xss i := by unfold WS.form; rw [if_pos p2, p1]
            unfold FormPost at c1
            rw [Hp.out, hform, p2] at c1
            have C1 := hide c1
            clear c1 hform p1 p2
            go_wp2_with fail
            refine C1.out.mono ?_
            rintro e w3 ⟨X, nx, cx, gx, rfl, hO, hg, hf3⟩
            have hlen : nx = (chain n s raw xss i).length := hO.sl.len
            have HX := hide hO.sl
            have Hf3 := hide (HW.out.fr.trans hf3)
            have hnx : nx ≤ 1048576 := by rw [hlen]; have := chain_len HS.out i (by omega); omega
            clear C1 hO hg hf3 hlen
            go_wp2_with fail
            refine (num_any _ _).mono ?_
            rintro e w' ⟨rfl, rfl⟩
            go_wp2_with fail
            refine (tnew_any _ (chain n s raw xss i) X nx cx (by omega) (chain_bytes HS.out i) HX.out).mono ?_
            rintro e w4 ⟨r, pf, b, rfl, hT, hF, hpf, hft, -, hf4⟩
            have HR4 : Hid (RRd W w4 pf (lst n s raw xss i) [] r ∧ TopAt w4 r.p pf) := by
              obtain ⟨k1, k2⟩ := chain_shows HS.out (i := i) (by omega) 0
              have z1 := Hf3.out.size
              have hF' := hF
              have e2 : (readS ⟨0, 0⟩ 0 (chain n s raw xss i)).2 = F0 := k2
              rw [e2] at hF'
              exact ⟨⟨b, _, hT, k1, readS_tk _ _ _, Taken.nil_ _, hF', by omega, fun y hy => by have := hft y hy; omega, Hf3.out.trans hf4⟩, hT.bl.cell' rfl, hT.bl.lt, hT.bl.typed⟩
            clear hT hF hpf hft hf4 HX
            obtain ⟨pr, hpr⟩ : ∃ pr, r.p = pr := ⟨_, rfl⟩
            have HT4 : Hid (TopAt w4 pr pf) := by rw [← hpr]; exact HR4.out.2
            have Hpr := hide hpr
            simp only [rp]
            rw [hpr]
            have qk : IntKind.i64.wrap ((i : Int) - 1) = (i : Int) - 1 := IntWalk.i64_in _ (by omega)
            clear hpr
            go_wp2_with fail
            go_loopw [18, 20] (fun vr vi wx => ∃ (j : Nat) (r : TRd), j ≤ i ∧ vr = .pointer (some ⟨r.p, 0, none⟩) ∧ vi = .int .i64 ((j : Int) - 1) ∧ Hid (RRd W wx pf (lst n s raw xss j) [] r ∧ TopAt wx pr pf)) (fun _ vi _ => (intOf vi + 1).toNat)
            case atStart => exact ⟨i, r, Nat.le_refl _, by rw [Hpr.out], rfl, HR4.out.1, HT4.out⟩
            case round =>
              clear HR4 HT4 Hpr qk
              obtain ⟨wx, rfl⟩ : ∃ wx, wx = wr := ⟨_, rfl⟩
              obtain ⟨j, r, hj, rfl, rfl, HQ⟩ := hrel
              obtain ⟨q, hq⟩ : ∃ q, r.p = q := ⟨_, rfl⟩
              by_cases h0 : j = 0
              · subst h0
                rw [show ((0 : Nat) : Int) - 1 = -1 from rfl]
                rw [hq]
                have Hq := hide hq
                clear hq hj
                have hraw : (m : Int) ≤ max (m : Int) 0 := by omega
                have c1 := rd_num HQ.out.1 (t := 2) (n := n) (above := n) rfl HS.out.nU (Nat.le_refl _) HS.out.nU
                rw [Hq.out] at c1
                have C1 := hide c1
                clear c1
                go_wp2_with fail
                refine C1.out.mono ?_
                rintro e w5 ⟨rfl, h5, t5⟩
                have T5 := hide (HQ.out.2.turn HQ.out.1 t5)
                have c2 := rd_text h5 (t := 3) (most := (sl : Int)) (v := s) rfl (by rw [Hsl.out]; omega)
                rw [Hq.out, Hstr.out] at c2
                clear C1 t5
                go_wp2_with fail
                refine c2.mono ?_
                rintro e w6 ⟨rfl, h6, t6⟩
                have T6 := hide (T5.out.turn h5 t6)
                have c3 := rd_raw h6 (t := 4) (most := (m : Int)) (v := raw) rfl (by rw [← Hm.out]; omega)
                rw [Hq.out] at c3
                clear c2 T5 h5 t6
                go_wp2_with fail
                refine c3.mono ?_
                rintro e w7 ⟨RA, rn, rc, rfl, hS7, h7, t7⟩
                have T7 := hide (T6.out.turn h6 t7)
                obtain rfl : rn = m := (hS7.len : rn = raw.length).trans Hm.out.symm
                have c4 := same_q w7 raw RA V rc d rn Hm.out (by omega) hS7 (Sl.fr' h7.fr HV.out fun _ _ _ _ => id)
                clear c3 T6 h6 t7
                go_wp2_with fail
                refine c4.mono ?_
                rintro e w8 ⟨rfl, hd8⟩
                have h8 := h7.quiet (fr_of_drewN hd8)
                have T8 := hide (T7.out.quiet (fr_of_drewN hd8))
                have c5 := rd_list h8 (t := 5) (most := (K : Int)) (xss := xss) rfl (fun x hx => by have := HS.out.xL x hx; unfold U64; omega) (by rw [← Hk.out]; omega)
                rw [Hq.out] at c5
                clear c4 T7 h7 hd8 hS7
                go_wp2_with fail
                refine c5.mono ?_
                rintro e w9 ⟨D, dk, rfl, hL9, h9, t9⟩
                have T9 := hide (T8.out.turn h8 t9)
                obtain rfl : dk = K := hL9.1.trans Hk.out.symm
                have c6 := alike_q w9 xss D A dk dk c w9.heap.size W.heap.size (fun x hx => by have := HS.out.xL x hx; omega) (by omega) hL9 (HA.out.quiet h9.fr)
                clear c5 T8 h8 t9 hL9
                go_wp2_with fail
                refine c6.mono ?_
                rintro e w10 ⟨rfl, hd10⟩
                have h10 := h9.quiet (fr_of_drewN hd10)
                have T10 := hide (T9.out.quiet (fr_of_drewN hd10))
                have c7 := rd_recs h10 (t := 6) (k := inL n s) (inL_asc n s) (by have := rb_len HS.out.nU HS.out.sL; unfold rbOf at this; omega) (inL_U HS.out.nU HS.out.sL) rfl
                rw [Hq.out] at c7
                clear c6 T9 h9 hd10
                go_wp2_with fail
                refine c7.mono ?_
                rintro e w11 ⟨r1, r2, O, rfl, hS11, hO11, h11, k1, k2, hap, hap2, t11⟩
                have T11 := hide (T10.out.turn h10 t11)
                clear c7 T10 h10 t11
                obtain ⟨rb, ro, rfl, e1⟩ := hS11.at_ (j := 0) (u := .pointer (some ⟨r1.p, 0, none⟩)) rfl
                obtain ⟨rb', ro', eo, e2⟩ := hS11.at_ (j := 1) (u := .pointer (some ⟨r2.p, 0, none⟩)) rfl
                cases eo
                obtain ⟨-, hty⟩ := hO11 _ _ rfl
                have HB : Hid (BK W w11 pf pr (lst n s raw xss 0) q rb ro r1 r2 0 n s) := ⟨_, r, h11, Hq.out, fun f hf => by
                  have hf' : f ∈ l0 n s raw xss := hf
                  simp only [l0, List.mem_cons, List.mem_nil_iff, or_false] at hf'
                  rcases hf' with rfl | rfl | rfl | rfl | rfl <;> simp, T11.out, fun _ => k1, fun _ => k2, e1, e2, hty, fun y hy => (hap y hy).1, fun y hy => (hap y hy).2, hap2⟩
                clear hS11 hO11 h11 k1 k2 hap hap2 T11 e1 e2 hty
                go_wp2_with fail
                go_loopw [25] (fun vi wx => ∃ j : Nat, j ≤ 2 ∧ vi = .int .i64 (j : Int) ∧ Hid (BK W wx pf pr (lst n s raw xss 0) q rb ro r1 r2 j n s)) (fun vi _ => 2 - (intOf vi).toNat)
                case atStart => exact ⟨0, Nat.zero_le _, rfl, HB⟩
                case round =>
                  clear HB HQ
                  obtain ⟨wz, rfl⟩ : ∃ wz, wz = wr := ⟨_, rfl⟩
                  obtain ⟨j, hj, rfl, HB⟩ := hrel
                  by_cases hlt : j < 2
                  · obtain ⟨rj, hR, hcell, hnext⟩ := HB.out.pick hlt
                    obtain ⟨pj, hpj⟩ : ∃ pj, rj.p = pj := ⟨_, rfl⟩
                    rw [hpj] at hcell
                    have e0 := hcell wz (Fr.refl _ _)
                    have Hcell := hide hcell
                    have Hnext := hide hnext
                    have i0 : (0 : Int) ≤ (j : Int) := by omega
                    have i1 : (j : Int) < 2 := by omega
                    have qc : IntKind.i64.wrap ((j : Int) + 1) = ((j + 1 : Nat) : Int) := by rw [IntWalk.i64_in _ (by omega)]; omega
                    have Hnum : Hid (∀ wx, Fr (fun _ => False) wz wx → Calls Try.prog 49 #[.pointer (some ⟨pj, 0, none⟩), .int .i64 1, .int .u64 (n : Int)] wx fun e w' => e = .returned (.int .u64 (n : Int)) ∧ RRd W w' pf (inL n s) [1] rj ∧ RTurn pf rj wz w') := fun wx hf => by
                      have c := rd_num (hR.quiet hf) (t := 1) (n := n) (above := n) rfl HS.out.nU (Nat.le_refl _) HS.out.nU
                      rw [hpj] at c
                      exact c.mono fun e w' ⟨h1, h2, h3⟩ => ⟨h1, h2, (hf.weak _).trans h3⟩
                    have Htext : Hid (∀ wx, RRd W wx pf (inL n s) [1] rj → RTurn pf rj wz wx → Calls Try.prog 50 #[.pointer (some ⟨pj, 0, none⟩), .int .i64 2, .int .i64 (sl : Int)] wx fun e w' => e = .returned (.string str) ∧ RRd W w' pf (inL n s) [2, 1] rj ∧ RTurn pf rj wz w') := fun wx hx ht => by
                      have c := rd_text hx (t := 2) (most := (sl : Int)) (v := s) rfl (by rw [Hsl.out]; omega)
                      rw [hpj, Hstr.out] at c
                      exact c.mono fun e w' ⟨h1, h2, h3⟩ => ⟨h1, h2, ht.trans h3⟩
                    have Hpj := hide hpj
                    have Hlt := hide hlt
                    clear hR hcell hnext hpj hj hlt
                    go_wp2_with fail
                    refine (Hnum.out _ (Fr.refl _ _)).mono ?_
                    rintro e w12 ⟨rfl, h12, t12⟩
                    have u12 := Hcell.out _ t12
                    go_wp2_with fail
                    refine (Htext.out _ h12 t12).mono ?_
                    rintro e w13 ⟨rfl, h13, t13⟩
                    have u13 := Hcell.out _ t13
                    go_wp2_with fail
                    clear e0
                    have Ht13 := hide t13
                    have c8 := rd_end h13 (fun f hf => by
                      simp only [inL, List.mem_cons, List.mem_nil_iff, or_false] at hf
                      rcases hf with rfl | rfl <;> simp)
                    rw [Hpj.out] at c8
                    clear h12 t12 t13 u12 Hnum Htext
                    go_wp2_with fail
                    refine c8.mono ?_
                    rintro e w14 ⟨rfl, h14, t14⟩
                    have HB14 := hide (Hnext.out _ _ h14 (Ht13.out.trans t14))
                    clear c8 h13 h14 t14 u13
                    go_wp2_with fail
                    refine (num_any _ _).mono ?_
                    rintro e w' ⟨rfl, rfl⟩
                    go_wp2_with fail
                    have := Hlt.out
                    exact ⟨⟨j + 1, by omega, by first | rfl | go_num, HB14⟩, by simp [intOf]; try omega⟩
                  · obtain rfl : j = 2 := by omega
                    obtain ⟨T, r, hR, hrq, hT, hTop, -⟩ := HB.out
                    have c8 := rd_end hR hT
                    rw [hrq] at c8
                    have HR12 := hide hR
                    have HT12 := hide hTop
                    clear hj hlt hR hrq hT hTop HB
                    go_wp2_with fail
                    refine c8.mono ?_
                    rintro e w12 ⟨rfl, h12, t12⟩
                    have c9 := rd_fault h12 (HT12.out.turn HR12.out t12).1
                    have Hfr := hide h12.fr
                    clear c8 h12 t12
                    go_wp2_with fail
                    refine c9.mono ?_
                    rintro e w13 ⟨rfl, hf13⟩
                    have Hf13 := hide hf13
                    clear c9 hf13
                    go_wp2_with fail
                    refine (num_any _ _).mono ?_
                    rintro e w' ⟨rfl, rfl⟩
                    go_wp2_with fail
                    refine (num_any _ _).mono ?_
                    rintro e w' ⟨rfl, rfl⟩
                    go_wp2_with fail
                    go_ret
                    exact ⟨rfl, (Hfr.out.trans Hf13.out).toBelow (Nat.le_refl _) (fun _ _ => id)⟩
              · obtain ⟨j, rfl⟩ : ∃ j', j = j' + 1 := ⟨j - 1, by omega⟩
                obtain ⟨y, hy⟩ : ∃ y, Ni n j = y := ⟨_, rfl⟩
                have hyU : y < U64 := by rw [← hy]; exact Ni_lt n j
                have i0 : (0 : Int) ≤ (j : Int) := by omega
                have e0 : (((j + 1 : Nat) : Int) - 1) = (j : Int) := by omega
                have qa : IntKind.u64.wrap (j : Int) = (j : Int) := IntWalk.u64_in _ (by omega)
                have qb : IntKind.u64.wrap ((n : Int) + (j : Int)) = (y : Int) := by rw [← hy]; unfold Ni; show ((n : Int) + (j : Int)) % 18446744073709551616 = _; omega
                have qc : IntKind.i64.wrap ((j : Int) - 1) = (j : Int) - 1 := IntWalk.i64_in _ (by omega)
                have c1 := rd_num HQ.out.1 (t := 1) (n := y) (above := y) (by rw [← hy]; rfl) hyU (Nat.le_refl _) hyU
                rw [hq] at c1 ⊢
                rw [e0]
                have C1 := hide c1
                have Hq := hide hq
                have Hj := hide hj
                clear c1 hq hy hyU hj h0 e0
                go_wp2_with fail
                refine C1.out.mono ?_
                rintro e w5 ⟨rfl, h5, t5⟩
                have T5 := hide (HQ.out.2.turn HQ.out.1 t5)
                have c2 := rd_text h5 (t := 255) (most := (sl : Int)) (v := s) rfl (by rw [Hsl.out]; omega)
                rw [Hq.out, Hstr.out] at c2
                clear C1 t5
                go_wp2_with fail
                refine c2.mono ?_
                rintro e w6 ⟨rfl, h6, t6⟩
                have T6 := hide (T5.out.turn h5 t6)
                have c3 := rd_rec h6 (t := 9) (v := chain n s raw xss j) (k := lst n s raw xss j) rfl (chain_ne j) (fun base => chain_shows HS.out (by have := Hj.out; omega) base)
                rw [Hq.out] at c3
                clear c2 T5 h5 t6
                go_wp2_with fail
                refine c3.mono ?_
                rintro e w7 ⟨r', rfl, h7, k7, hap, t7⟩
                have T7 := hide (T6.out.turn h6 t7)
                have c4 := rd_end h7 (fun f hf => by
                  have hf' : f ∈ lk n j (chain n s raw xss j) s := hf
                  simp only [lk, List.mem_cons, List.mem_nil_iff, or_false] at hf'
                  rcases hf' with rfl | rfl | rfl <;> simp)
                rw [Hq.out] at c4
                clear c3 T6 h6 t7
                go_wp2_with fail
                refine c4.mono ?_
                rintro e w8 ⟨rfl, h8, t8⟩
                have T8 := hide (T7.out.turn h7 t8)
                have K8 := hide (k7.other h7 h8 hap t8)
                clear c4 T7 h7 t8 k7 hap h8
                go_wp2_with fail
                refine (num_any _ _).mono ?_
                rintro e w' ⟨rfl, rfl⟩
                go_wp2_with fail
                have := Hj.out
                exact ⟨⟨j, r', by omega, rfl, by first | rfl | go_num, K8.out, T8.out⟩, by simp [intOf]; try omega⟩
end Go.Proofs.Ytbglloafbmamoaa
