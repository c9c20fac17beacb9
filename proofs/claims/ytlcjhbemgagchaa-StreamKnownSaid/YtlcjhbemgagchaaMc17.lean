/-
  Texts merged into one, to keep the claim small: Pd5, Row, Row2.
-/
import Derived.Test.YtlcjhbemgagchaaMc16
import Derived.Test.YtlcjhbemgagchaaMc14
import Derived.Laws.Rows
import Derived.Laws.Tables
import Derived.Deep.WholeRow
import Derived.Laws.CopyRow
import Derived.Test.YtlcjhbemgagchaaMc0
section
/-
  proto: a record's list of numbers (ints).
-/
namespace Go.Proofs.Ytlcjhbemgagchaa
open Go.RowKit
set_option linter.unusedVariables false
set_option linter.unusedSimpArgs false
theorem intsL_step {xs : List (List Nat)} {j : Nat} (h : j < xs.length) (ns : List Nat) (hns : intsL xs = (intsL (xs.drop j)).map (ns ++ ·)) :
    ((readShort xs[j] 0).2.2 ≠ 0 ∨ (readShort xs[j] 0).2.1 ≠ xs[j].length ∨ M50 < (readShort xs[j] 0).1 → intsL xs = none) ∧
    (¬ ((readShort xs[j] 0).2.2 ≠ 0 ∨ (readShort xs[j] 0).2.1 ≠ xs[j].length ∨ M50 < (readShort xs[j] 0).1) → intsL xs = (intsL (xs.drop (j + 1))).map ((ns ++ [(readShort xs[j] 0).1]) ++ ·)) := by
  have hd : xs.drop j = xs[j] :: xs.drop (j + 1) := List.drop_eq_getElem_cons h
  rw [hd, intsL] at hns
  constructor
  · intro hc
    rw [hns, if_pos hc]; rfl
  · intro hc
    rw [hns, if_neg hc, Option.map_map]
    congr 1
    funext l
    simp
section
variable {pf pb b : Nat} {r : TRd} {d : RD} {f : RF} {bad : Bool}
set_option maxHeartbeats 4000000 in
set_option maxRecDepth 8000 in
theorem rints_any (w : World) (h : RC w pf pb b r d f bad) (t most : Int) :
    Calls Try.prog 94 #[rdv r pb, .int .i64 t, .int .i64 most] w fun e w' => ∃ (ws : List Int) (b1 : Bool) (f' : RF) (A : Option Addr) (n c : Nat) (g : Option Nat), e = .returned (.slice A n c) ∧ Hid ((itS d f t most).2.2 = f' ∧ IntsR (itVals d (itS d f t most)) bad ws b1) ∧
      n ≤ 1048576 ∧ Ow w' 3 1 A n c (ws.map iv) g ∧ (∀ x, g = some x → w.heap.size ≤ x) ∧ RC w' pf pb b r (d.took f t) f' b1 ∧ Fr (rturn pf pb r) w w' := by
  obtain ⟨j0, hj, hj0, hj1, hj2⟩ := info_parts infoInt
  have HC : Hid (∀ w1, Fr (fun _ => False) w w1 → Calls Try.prog 124 #[.pointer (some ⟨r.p, 0, none⟩), .int .i64 t, .int .i64 most] w1 fun e w' => ∃ rs D k, e = .returned (.slice D k k) ∧ Hid (rs.map (·.xs) = itVals d (itS d f t most)) ∧ k ≤ 1048576 ∧ Hid (∃ g, Ow w' 22 1 D k k (rs.map BS.cell) g) ∧ Hid (BSs w' 0 w1.heap.size rs) ∧ Hid (RC w' pf pb b r (d.took f t) (itS d f t most).2.2 bad ∧ Fr (rturn pf pb r) w1 w')) := fun w1 hf => by
    have h1 := h.quiet hf
    refine (trlist_any w1 pf b r d f t most h1.tr h1.flt).mono ?_
    rintro e w' ⟨rs, D, k, g, rfl, hx, hk, hO, -, hB, hP⟩
    exact ⟨rs, D, k, rfl, hx, hk, ⟨g, hO⟩, hB, h1.post hP⟩
  have Hbyte := hide h.tr.ok.byte
  have HW := hide h.within
  have Hh := hide h
  have HX : Hid (Bl (w.alloc (.cells #[.pointer (some ⟨r.p, 0, none⟩), .pointer (some ⟨pb, 0, none⟩)] tRdr)) w.heap.size tRdr #[.pointer (some ⟨r.p, 0, none⟩), .pointer (some ⟨pb, 0, none⟩)]) := Bl.new _ _ _
  have HXn : Hid (¬ rturn pf pb r w.heap.size) := (h.quiet ((Fr.refl _ _).alloc (.cells #[.pointer (some ⟨r.p, 0, none⟩), .pointer (some ⟨pb, 0, none⟩)] tRdr))).not (Bl.new w tRdr #[.pointer (some ⟨r.p, 0, none⟩), .pointer (some ⟨pb, 0, none⟩)]).typed (by unfold Turns2 Turns; decide)
  clear h
  go_enter Try.func94, Try.ntmps94
  go_wp2_with fail
  refine (HC.out _ (by (repeat (first | with_reducible exact Fr.refl _ _ | with_reducible assumption | with_reducible refine Fr.drew ?_ | with_reducible refine Fr.drewN ?_ _ | with_reducible refine Fr.alloc ?_ _ | with_reducible refine Fr.setIn ?_ (by first | exact Or.inl rfl | exact Or.inr (by simp; done) | exact Or.inr (by simp; omega) | exact Or.inr (by omega)) _)))).mono ?_
  rintro e w1 ⟨rs, D, k, rfl, hxs, hk, hO, hBS, hP⟩
  obtain ⟨W1, rfl⟩ : ∃ W1, W1 = w1 := ⟨_, rfl⟩
  have HB1 := hide (HX.out.fr hP.out.2 HXn.out)
  have HF1 : Hid (Fr (rturn pf pb r) w W1) := Fr.trans (by (repeat (first | with_reducible exact Fr.refl _ _ | with_reducible assumption | with_reducible refine Fr.drew ?_ | with_reducible refine Fr.drewN ?_ _ | with_reducible refine Fr.alloc ?_ _ | with_reducible refine Fr.setIn ?_ (by first | exact Or.inl rfl | exact Or.inr (by simp; done) | exact Or.inr (by simp; omega) | exact Or.inr (by omega)) _))) hP.out.2
  have HP := hide hP.out.1
  have Hk : Hid (k = rs.length) := by
    obtain ⟨g, h1⟩ := hO.out
    have := h1.1; simp at this; exact this.symm
  clear hP HX HC
  go_wp2_with fail
  go_loopw [7, 19] (fun u i wr => ∃ (j : Nat) (ns : List Nat) (A : Option Addr) (ca : Nat) (ga : Option Nat), j ≤ k ∧ i = .int .i64 (j : Int) ∧ u = .slice A j ca ∧ Hid (intsL (rs.map (·.xs)) = (intsL ((rs.map (·.xs)).drop j)).map (ns ++ ·)) ∧ Ow wr 3 1 A j ca ((ns.map Int.ofNat).map iv) ga ∧ Hid ((∀ x, ga = some x → W1.heap.size ≤ x) ∧ Fr (fun _ => False) W1 wr)) (fun _ i _ => k - (intOf i).toNat)
  case atStart => exact ⟨0, [], none, 0, none, Nat.zero_le _, rfl, rfl, (by show _ = _; simp), Ow.nil_ _ _ _, (fun x e => by cases e), Fr.refl _ _⟩
  case round =>
    obtain ⟨j, ns, A, ca, ga, hjk, rfl, rfl, hin, hA, hfr⟩ := hrel
    obtain ⟨w2, rfl⟩ : ∃ w2, w2 = wr := ⟨_, rfl⟩
    have q0 := (HB1.out.fr hfr.out.2 id).cell' (i := 0) rfl
    have q1 := (HB1.out.fr hfr.out.2 id).cell' (i := 1) rfl
    by_cases hlt : j < k
    · have hjl : j < rs.length := by rw [← Hk.out]; exact hlt
      obtain ⟨g0, hO0⟩ := hO.out
      obtain ⟨y, hy⟩ : ∃ y, rs[j] = y := ⟨_, rfl⟩
      obtain ⟨b0, o0, rfl, c0⟩ := (hO0.sl.quiet hfr.out.2).at_ (j := j) (u := y.cell) (by rw [List.getElem?_map, List.getElem?_eq_getElem hjl, hy]; rfl)
      have hyo := hBS.out.own y (by rw [← hy]; exact List.getElem_mem _)
      simp only [marks, List.range_zero, List.map_nil, List.append_nil, Nat.add_zero] at hyo
      obtain ⟨ys, B, m, c', gy⟩ := y
      simp only [BS.cell] at c0 hyo
      have hlen : m = ys.length := by have := hyo.1; simpa using this.symm
      have hxj : (rs.map (·.xs))[j]'(by rw [List.length_map]; exact hjl) = ys := by rw [List.getElem_map, hy]
      obtain ⟨s1, s2⟩ := intsL_step (xs := rs.map (·.xs)) (by rw [List.length_map]; exact hjl) ns hin.out
      rw [hxj] at s1 s2
      have hmem : ys ∈ rs.map (·.xs) := by rw [← hxj]; exact List.getElem_mem _
      have hb256 : ∀ x ∈ ys, x < 256 := by
        have h1 := hmem
        rw [hxs.out] at h1
        unfold itVals at h1
        split at h1
        · cases h1
        · obtain ⟨G, -, rfl⟩ := List.mem_map.1 h1
          exact GF.val_bytes (GF.val_bytes Hbyte.out)
      have hm := hyo.cap
      have hmle : m ≤ 140737488355328 := by
        have h1 := hmem
        rw [hxs.out] at h1
        unfold itVals at h1
        split at h1
        · cases h1
        · obtain ⟨G, -, h2⟩ := List.mem_map.1 h1
          have h3 : ys.length ≤ d.bs.length := by
            rw [← h2]; unfold GF.val; simp only [List.length_take, List.length_drop]; omega
          have := HP.out.tr.ok.le
          have e : (d.took f t).bs = d.bs := rfl
          rw [e] at this
          omega
      have HS := hide (tread_any w2 ys B m c' 0 hmle hlen hb256 (hyo.sl.quiet hfr.out.2))
      obtain ⟨N, en, er, hrd⟩ : ∃ N en er, readShort ys 0 = (N, en, er) := ⟨_, _, _, rfl⟩
      rw [hrd] at s1 s2
      simp only at s1 s2
      have hval : ReadVal ys 0 = .tuple #[.int .u64 (N : Int), .int .i64 en, .int .i64 (er : Int)] := by unfold ReadVal; rw [hrd]
      have hNU : er = 0 → N < U64 := fun e0 => by subst e0; exact readShort_lt (bs := ys) (a := 0) (t := en) hrd
      have hHS : Hid (Calls Try.prog 125 #[.slice B m c', .int .i64 0] w2 fun e w' => e = .returned (.tuple #[.int .u64 (N : Int), .int .i64 en, .int .i64 (er : Int)]) ∧ w2 = w') := by
        have := HS.out; rw [hval] at this; exact this
      have i0 : (0 : Int) ≤ (j : Int) := by omega
      have i1 : (j : Int) < (k : Int) := by omega
      have i2 : IntKind.i64.wrap ((j : Int) + 1) = ((j + 1 : Nat) : Int) := by rw [IntWalk.i64_in _ (by omega)]; omega
      have Hlt := hide hlt
      have Hlen := hide hlen
      have hcm : (0 : Int) ≤ (m : Int) := by omega
      have hcap := hm.2
      have Hmle := hide hmle
      have hm1 := hm.1
      by_cases hbad : er ≠ 0 ∨ en ≠ (m : Int) ∨ 1125899906842624 < N
      · have Hnone : Hid (intsL (rs.map (·.xs)) = none) := s1 (by rw [← hlen]; unfold M50; exact_mod_cast hbad)
        have x2 : w2.cell? ⟨pb, 0, none⟩ = some (.bool bad) := (HP.out.quiet hfr.out.2).bd.cell' rfl
        have x3 : w2.frozen? ⟨pb, 0, none⟩ = false := (HP.out.quiet hfr.out.2).bd.free _
        have HP2 := hide (HP.out.quiet hfr.out.2)
        have hend : Hid (∃ (ws : List Int) (b1 : Bool) (f' : RF) (A : Option Addr) (n c : Nat) (g : Option Nat), (Ending.returned (.slice none 0 0) : Ending) = .returned (.slice A n c) ∧ Hid ((itS d f t most).2.2 = f' ∧ IntsR (itVals d (itS d f t most)) bad ws b1) ∧
            n ≤ 1048576 ∧ Ow (w2.setCell ⟨pb, 0, none⟩ (.bool true)) 3 1 A n c (ws.map iv) g ∧ (∀ x, g = some x → w.heap.size ≤ x) ∧ RC (w2.setCell ⟨pb, 0, none⟩ (.bool true)) pf pb b r (d.took f t) f' b1 ∧ Fr (rturn pf pb r) w (w2.setCell ⟨pb, 0, none⟩ (.bool true))) := by
          have hb2 : Bl (w2.setCell ⟨pb, 0, none⟩ (.bool true)) pb tBool #[.bool true] := by have := HP2.out.bd.set 0 (.bool true); simpa using this
          have hf2 : Fr (fun x => x = pb) w2 (w2.setCell ⟨pb, 0, none⟩ (.bool true)) := (Fr.refl _ _).setAt _
          refine ⟨[], true, _, none, 0, 0, none, rfl, ⟨rfl, .inl ⟨by rw [← hxs.out]; exact Hnone.out, rfl, rfl⟩⟩, by omega, Ow.nil_ _ _ _, (fun x e => by cases e), HP2.out.bad_ hb2 hf2, ?_⟩
          exact HF1.out.trans ((hfr.out.2.weak _).trans (hf2.mono fun _ _ e => .inr (.inl e)))
        clear s1 s2 hval hNU HS hrd hmem hb256 hyo hO0 hy hA hin hjl hlt hxj hm hmle hlen
        rcases hbad with h1 | h1
        · have e1 : ((er : Int) == 0) = false := by simpa using (by omega : ¬ (er : Int) = 0)
          have e1b : ((er : Int) != 0) = true := by simpa using (by omega : ¬ (er : Int) = 0)
          have e1c : ¬ (er : Int) = 0 := by omega
          clear h1
          go_wp2_with fail
          refine hHS.out.mono ?_
          rintro e w' ⟨rfl, rfl⟩
          go_wp2_with fail
          go_ret
          exact hend.out
        · by_cases h0 : er = 0
          · subst h0
            rcases h1 with h1 | h1
            · have e2 : (en == (m : Int)) = false := by simpa using h1
              go_wp2_with fail
              refine hHS.out.mono ?_
              rintro e w' ⟨rfl, rfl⟩
              go_wp2_with fail
              go_ret
              exact hend.out
            · by_cases h2 : en = (m : Int)
              · subst h2
                have e3 : (1125899906842624 : Int) < (N : Int) := by omega
                clear h1
                go_wp2_with fail
                refine hHS.out.mono ?_
                rintro e w' ⟨rfl, rfl⟩
                go_wp2_with fail
                go_ret
                exact hend.out
              · have e2 : (en == (m : Int)) = false := by simpa using h2
                clear h1
                go_wp2_with fail
                refine hHS.out.mono ?_
                rintro e w' ⟨rfl, rfl⟩
                go_wp2_with fail
                go_ret
                exact hend.out
          · have e1c : ¬ (er : Int) = 0 := by omega
            have e1 : ((er : Int) == 0) = false := by simpa using e1c
            clear h1 h0
            go_wp2_with fail
            refine hHS.out.mono ?_
            rintro e w' ⟨rfl, rfl⟩
            go_wp2_with fail
            go_ret
            exact hend.out
      · obtain ⟨h1, h2, h3⟩ : er = 0 ∧ en = (m : Int) ∧ N ≤ 1125899906842624 := by omega
        subst h1 h2
        have hNi : IntKind.i64.wrap (N : Int) = (N : Int) := IntWalk.i64_in _ (by omega)
        have hN3 : (N : Int) ≤ 1125899906842624 := by omega
        have Hnext : Hid (intsL (rs.map (·.xs)) = (intsL ((rs.map (·.xs)).drop (j + 1))).map ((ns ++ [N]) ++ ·)) := s2 (by rw [← hlen]; unfold M50; omega)
        clear s1 s2 hval hNU HS hrd hmem hb256 hyo hO0 hy hin hjl hlt hxj hm hmle hlen hbad h3
        go_wp2_with fail
        refine hHS.out.mono ?_
        rintro e w' ⟨rfl, rfl⟩
        go_wp2_with (first | (at_builtin; refine wpList_append_ow _ rfl _ _ 24 rfl 3 j0 (.int .i64 0) 1 8 Try.underlying24 hj hj0 hj1 hj2 rfl (by decide) _ _ _ _ _ rfl (hA.fr ((Fr.refl (fun _ => False) _).alloc _) (fun _ _ => id)) _ _ _ [.int .i64 (N : Int)] rfl (Sl.one _ _ _) (by intro u hu; simp at hu; subst hu; rfl) (by unfold maxLen; omega) (by omega) ?_) | go_in)
        intro A3 c3 w3 g3 hO3 hf3 hg3
        have hs := hfr.out.2.size
        have HR : Hid ((∀ x, g3 = some x → W1.heap.size ≤ x) ∧ Fr (fun _ => False) W1 w3) := by
          refine ⟨fun x e => ?_, ?_⟩
          · rcases hg3 with e2 | ⟨z, e2, hz⟩
            · rw [e2] at e; exact hfr.out.1 x e
            · rw [e2] at e; cases e
              (try simp at hz); omega
          · refine hfr.out.2.comp (((Fr.refl _ _).alloc _).comp hf3 (fun _ _ e => e)) fun x hx e => ?_
            have := hfr.out.1 x e.symm
            omega
        have hO4 : Ow w3 3 1 A3 (j + 1) c3 (((ns ++ [N]).map Int.ofNat).map iv) g3 := by
          have h9 := hO3
          simp only [List.map_append, List.map_map, List.map_cons, List.map_nil] at h9 ⊢
          exact h9
        clear hO3 hf3 hg3 hA
        go_wp2_with fail
        have := Hlt.out
        exact ⟨⟨j + 1, ns ++ [N], A3, c3, g3, by omega, by first | rfl | go_num, rfl, Hnext, hO4, HR⟩, by simp [intOf]; try omega⟩
    · obtain rfl : j = k := by omega
      have Hend : Hid (intsL (rs.map (·.xs)) = some ns) := by
        have := hin.out
        rw [List.drop_eq_nil_of_le (by rw [List.length_map, ← Hk.out]; exact Nat.le_refl _)] at this
        show _ = _
        rw [this]; simp [intsL]
      clear hlt hin
      go_wp2_with fail
      go_ret
      have hs := HF1.out.size
      exact ⟨ns.map Int.ofNat, bad, _, A, j, ca, ga, rfl, ⟨rfl, .inr ⟨ns, by rw [← hxs.out]; exact Hend.out, rfl, rfl⟩⟩, hk, hA, fun x e => by have := hfr.out.1 x e; omega, HP.out.quiet hfr.out.2, HF1.out.trans (hfr.out.2.weak _)⟩
end
end Go.Proofs.Ytlcjhbemgagchaa
end

section
/-
  Whole structs out of and into a part of a block, in one step.
-/
namespace Go.Proofs.Ytlcjhbemgagchaa
open Go.RowKit
set_option linter.unusedVariables false
set_option linter.unusedSimpArgs false
section
variable {P : Program}
def putAt (cur : Array Value) : Nat → List Value → Array Value
  | _, [] => cur
  | k, v :: vs => putAt (cur.setIfInBounds k v) (k + 1) vs
theorem putAt_list : ∀ (vs : List Value) (k : Nat) (cur : Array Value), k + vs.length ≤ cur.size → (putAt cur k vs).toList = cur.toList.take k ++ (vs ++ cur.toList.drop (k + vs.length))
  | [], k, cur, _ => by simp [putAt]
  | v :: vs, k, cur, h => by
    have hk : k < cur.size := by simp at h; omega
    rw [putAt, putAt_list vs (k + 1) _ (by simp at h ⊢; omega)]
    rw [Array.toList_setIfInBounds]
    have hl : k < cur.toList.length := by simpa using hk
    have h1 : (cur.toList.set k v).take (k + 1) = cur.toList.take k ++ [v] := by
      apply List.ext_getElem?
      intro i
      rcases Nat.lt_trichotomy i k with hi | hi | hi
      · rw [List.getElem?_take, if_pos (by omega), List.getElem?_set, if_neg (by omega), List.getElem?_append_left (by rw [List.length_take]; omega), List.getElem?_take, if_pos hi]
      · subst hi
        rw [List.getElem?_take, if_pos (by omega), List.getElem?_set, if_pos rfl, if_pos hl, List.getElem?_append_right (by rw [List.length_take]; omega)]
        rw [List.length_take, show i - min i cur.toList.length = 0 by omega]
        rfl
      · rw [List.getElem?_take, if_neg (by omega), List.getElem?_eq_none (by rw [List.length_append, List.length_take]; simp; omega)]
    have h2 : (cur.toList.set k v).drop (k + 1 + vs.length) = cur.toList.drop (k + (v :: vs).length) := by
      rw [List.drop_set_of_lt (by omega)]
      congr 1
      simp; omega
    rw [h1, h2]
    simp
theorem add_at (g o i : Nat) : (⟨g, o, none⟩ : Addr).add i = ⟨g, o + i, none⟩ := by unfold Addr.add; simp
theorem run_storeCells_at (g o : Nat) (t : TypeId) : ∀ (vs : List Value) (i : Nat) (cur : Array Value) (w : World), w.heap[g]? = some (.cells cur t (0, 0)) → o + i + vs.length ≤ cur.size → (∀ v ∈ vs, v.oneCell' = true) →
    (storeCells ⟨g, o, none⟩ vs i).run P w = .ok () (w.setRow g (putAt cur (o + i) vs))
  | [], i, cur, w, hg, hl, _ => by
    rw [putAt, setRow_self w g cur t (0, 0) hg]
    rfl
  | v :: rest, i, cur, w, hg, hl, h1 => by
    have hi : o + i < cur.size := by simp at hl; omega
    have hcell : w.cell? ⟨g, o + i, none⟩ = some cur[o + i] := by simp [World.cell?, hg, hi]
    have hfro : w.frozen? ⟨g, o + i, none⟩ = false := by simp [World.frozen?, hg]
    have hst : (store ((⟨g, o, none⟩ : Addr).add i) v).run P w = .ok () (w.setRow g (cur.setIfInBounds (o + i) v)) := by
      rw [add_at, run_store P w _ v _ (h1 v (by simp)), hcell]
      simp [hfro, setCell_eq_setRow w g (o + i) cur t (0, 0) v hg]
    have ih := run_storeCells_at g o t rest (i + 1) (cur.setIfInBounds (o + i) v) (w.setRow g (cur.setIfInBounds (o + i) v)) (setRow_heap w g cur _ t _ hg) (by simp at hl ⊢; omega) (fun x hx => h1 x (by simp [hx]))
    simp only [storeCells, Sem.run_bind, hst, Result.andThen_ok, ih, setRow_setRow, putAt, Nat.add_assoc]
theorem run_storeVar_at (w : World) (g o : Nat) (t ty : TypeId) (old cells : Array Value) (hg : w.heap[g]? = some (.cells old t (0, 0))) (hi : (P.info? ty).map (·.size) = some cells.size)
    (ho : o + cells.size ≤ old.size) (h1 : cells.toList.all (·.oneCell') = true) :
    (storeVar ty ⟨g, o, none⟩ (.agg cells)).run P w = .ok () (w.setRow g (putAt old o cells.toList)) := by
  have := run_storeCells_at (P := P) g o t cells.toList 0 old w hg (by simp; omega) (fun v hv => (List.all_eq_true.1 h1) v hv)
  cases hq : P.info? ty with
  | none => simp [hq] at hi
  | some i =>
    have hs : cells.size = i.size := by simp [hq] at hi; omega
    simp [storeVar, sizeOf, typeInfo, hq, Value.cells, hs, this]
theorem wpList_store_at {ops : Array Oper} {rest : List Oper} {o : Oper} {a : Act} {w : World} {Q : Exit → Act → World → Prop} (hw : Region.wanted o (yielded ops a.tmps) = true) (ty : TypeId) (x y : Operand) (ho : o.op = .store ty x y)
    (g off : Nat) (cells : Array Value) (hx : a.eval x = .pointer (some ⟨g, off, none⟩)) (hy : a.eval y = .agg cells)
    (t : TypeId) (old new : Array Value) (hg : w.heap[g]? = some (.cells old t (0, 0))) (hi : (P.info? ty).map (·.size) = some cells.size)
    (n k : Nat) (hn : old.size = n) (hk : cells.size = k) (hnk : off + k ≤ n) (h1 : cells.toList.all (·.oneCell') = true) (hnew : old.toList.take off ++ (cells.toList ++ old.toList.drop (off + cells.size)) = new.toList)
    (h : wpList P ops Q rest (a.put o.dst undef) (w.setRow g new)) : wpList P ops Q (o :: rest) a w :=
  wpList_step fun K hK => by
    have hold : off + cells.size ≤ old.size := by rw [hn, hk]; exact hnk
    have hnew' : putAt old off cells.toList = new := by
      have := putAt_list cells.toList off old (by simpa using hold)
      rw [Array.length_toList, hnew] at this
      exact Array.toList_inj.1 this
    rw [if_pos hw]
    unfold Oper.wp execOp
    simp only [ho, hx, hy, Instr.storeAt, Instr.sureAddr, Sem.run_bind, Sem.run_pure, Result.andThen_ok, run_storeVar_at w g off t ty old cells hg hi hold h1, hnew']
    exact hK _ _ h
theorem run_loadVar_at (w : World) (g o : Nat) (t ty : TypeId) (cs sub : Array Value) (fr : Nat × Nat) (d : TypeDesc) (hg : w.heap[g]? = some (.cells cs t fr))
    (hu : P.underlying ty = some d) (hd : (match d with | .struct _ | .array _ _ => true | _ => false) = true) (hi : (P.info? ty).map (·.size) = some sub.size) (hsub : (cs.toList.drop o).take sub.size = sub.toList) :
    (loadVar ty ⟨g, o, none⟩).run P w = .ok (.agg sub) w := by
  have hl : (loadCells ⟨g, o, none⟩ sub.toList.length).run P w = .ok sub.toList.toArray w :=
    run_loadCells_list (P := P) w ⟨g, o, none⟩ sub.toList (fun j v hv => by
      rw [add_at, cell_of_row w g (o + j) cs t fr hg]
      have hj : j < sub.size := by simpa using (List.getElem?_eq_some_iff.1 hv).1
      rw [← hsub, List.getElem?_take, if_pos hj, List.getElem?_drop] at hv
      simpa using hv)
  cases hq : P.info? ty with
  | none => simp [hq] at hi
  | some i =>
    have hs : i.size = sub.size := by simpa [hq] using hi
    have hagg : (isAgg ty).run P w = .ok true w := by
      unfold isAgg
      rw [Sem.run_bind, run_underlying hu w]
      cases d <;> simp_all
    simp only [Array.length_toList, Array.toArray_toList] at hl
    simp [loadVar, Sem.run_bind, hagg, sizeOf, typeInfo, hq, hs, hl]
theorem wpList_load_at {ops : Array Oper} {rest : List Oper} {o : Oper} {a : Act} {w : World} {Q : Exit → Act → World → Prop} (hw : Region.wanted o (yielded ops a.tmps) = true) (ty : TypeId) (x : Operand) (ho : o.op = .load ty x)
    (g off : Nat) (hx : a.eval x = .pointer (some ⟨g, off, none⟩)) (t : TypeId) (cs sub : Array Value) (fr : Nat × Nat) (d : TypeDesc) (hg : w.heap[g]? = some (.cells cs t fr))
    (hu : P.underlying ty = some d) (hd : (match d with | .struct _ | .array _ _ => true | _ => false) = true) (hi : (P.info? ty).map (·.size) = some sub.size) (hsub : (cs.toList.drop off).take sub.size = sub.toList)
    (h : wpList P ops Q rest (a.put o.dst (.agg sub)) w) : wpList P ops Q (o :: rest) a w :=
  wpList_step fun K hK => by
    rw [if_pos hw]
    unfold Oper.wp execOp
    simp only [ho, hx, Instr.loadAt, Instr.sureAddr, Sem.run_bind, Sem.run_pure, Result.andThen_ok, run_loadVar_at w g off t ty cs sub fr d hg hu hd hi hsub]
    exact hK _ _ h
end
theorem Bl.setRow {w : World} {g : Nat} {t : TypeId} {cs : Array Value} (h : Bl w g t cs) (cs' : Array Value) : Bl (w.setRow g cs') g t cs' := setRow_heap w g cs cs' t (0, 0) h
theorem Bl.farRow {w : World} {g k : Nat} {t : TypeId} {cs : Array Value} (h : Bl w g t cs) (hk : g ≠ k) (cs' : Array Value) : Bl (w.setRow k cs') g t cs := (setRow_other w k g cs' hk).trans h
theorem Fr.setRow {S : Nat → Prop} {w w' : World} {g : Nat} (h : Fr S w w') (hp : S g ∨ w.heap.size ≤ g) (cs : Array Value) : Fr S w (w'.setRow g cs) :=
  ⟨h.os, h.tape, h.output, by rw [setRow_size]; exact h.size, fun k hk hs => (setRow_other w' g k cs (fun e => by subst e; rcases hp with hp | hp; exact hs hp; omega)).trans (h.block k hk hs)⟩
theorem Fr.row {w : World} {g : Nat} (cs : Array Value) : Fr (fun x => x = g) w (w.setRow g cs) := Fr.setRow (S := fun x => x = g) (Fr.refl _ w) (.inl rfl) cs
theorem setRow_alloc2 (w : World) (o : Obj) (c c' : Array Value) (t : TypeId) : ((w.alloc o).alloc (.cells c t)).setRow (w.heap.size + 1) c' = (w.alloc o).alloc (.cells c' t) := by
  have := World.setRow_alloc_new (w.alloc o) c c' t
  rwa [show (w.alloc o).heap.size = w.heap.size + 1 by simp] at this
end Go.Proofs.Ytlcjhbemgagchaa
end

section
/-
  A whole struct out of a part of a block, in a region that draws its order.
-/
namespace Go.Proofs.Ytlcjhbemgagchaa
open Go.RowKit
set_option linter.unusedVariables false
variable {P : Program}
theorem wp_load_at {o : Oper} {a : Act} {w : World} {K : Act → World → Prop} {Q : Exit → Act → World → Prop} (ty : TypeId) (x : Operand) (ho : o.op = .load ty x)
    (g off : Nat) (hx : a.eval x = .pointer (some ⟨g, off, none⟩)) (t : TypeId) (cs sub : Array Value) (fr : Nat × Nat) (d : TypeDesc) (hg : w.heap[g]? = some (.cells cs t fr))
    (hu : P.underlying ty = some d) (hd : (match d with | .struct _ | .array _ _ => true | _ => false) = true) (hi : (P.info? ty).map (·.size) = some sub.size) (hsub : (cs.toList.drop off).take sub.size = sub.toList)
    (h : K (a.put o.dst (.agg sub)) w) : o.wp P a w K Q := by
  unfold Oper.wp execOp
  simp only [ho, hx, Instr.loadAt, Instr.sureAddr, Sem.run_bind, Sem.run_pure, Result.andThen_ok, run_loadVar_at w g off t ty cs sub fr d hg hu hd hi hsub]
  exact h
theorem run_loadAt_at (ty : TypeId) (g off : Nat) (t : TypeId) (cs sub : Array Value) (d : TypeDesc) (hu : P.underlying ty = some d) (hd : (match d with | .struct _ | .array _ _ => true | _ => false) = true) (hi : (P.info? ty).map (·.size) = some sub.size) (hsub : (cs.toList.drop off).take sub.size = sub.toList)
    {w : World} (hb : Bl w g t cs) : (Instr.loadAt ty (.pointer (some ⟨g, off, none⟩))).run P w = .ok (.agg sub) w := by
  simp only [Instr.loadAt, Instr.sureAddr, Sem.run_bind, Sem.run_pure, Result.andThen_ok, run_loadVar_at w g off t ty cs sub (0, 0) d hb hu hd hi hsub]
theorem run_loadAt_one {w : World} {a : Addr} {A : Option Addr} {n c : Nat} (h : w.cell? a = some (.slice A n c)) : (Instr.loadAt 24 (.pointer (some a))).run Try.prog w = .ok (.slice A n c) w := by
  have h1 : (isAgg 24).run Try.prog w = .ok false w := by
    unfold isAgg
    rw [Sem.run_bind, run_underlying Try.underlying24 w]
    rfl
  simp [go_sem, Instr.loadAt, Instr.sureAddr, Sem.run_bind, loadVar, h1, h]
end Go.Proofs.Ytlcjhbemgagchaa
end
