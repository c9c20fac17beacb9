/-
  Texts merged into one, to keep the claim small: PdA, PrK0, PdB.
-/
import Derived.Test.YtlcjhbemgagchaaMc18
import Derived.Deep.CutBlock
import Derived.Deep.RegionLaw
import Derived.Test.YtlcjhbemgagchaaMc13
import Derived.Test.YtlcjhbemgagchaaMc14
section
/-
  proto: a record read as a contract. (printed by pr_dec.py)
-/
namespace Go.Proofs.Ytlcjhbemgagchaa
open Go.RowKit
set_option linter.unusedVariables false
set_option linter.unusedSimpArgs false
abbrev tCo : TypeId := 29
abbrev con0 : Array Value := #[.int .i64 0, .int .i64 0, .int .i64 0, .int .i64 0, .int .i64 0, .int .i64 0, .int .u64 0, .int .u64 0, .int .u64 0, .int .i64 0, .slice none 0 0]
abbrev tRds : TypeId := 199
theorem run_load_ptrR {w : World} {a : Addr} {p : Nat} (h : w.cell? a = some (.pointer (some ⟨p, 0, none⟩))) : (Instr.loadAt tPtrR (.pointer (some a))).run Try.prog w = .ok (.pointer (some ⟨p, 0, none⟩)) w :=
  run_loadAt_cell tPtrR _ Try.underlying147 rfl h
theorem run_load_ents {w : World} {a : Addr} {L : Option Addr} {n c : Nat} (h : w.cell? a = some (.slice L n c)) : (Instr.loadAt 27 (.pointer (some a))).run Try.prog w = .ok (.slice L n c) w :=
  run_loadAt_cell 27 _ Try.underlying27 rfl h
section
variable {pf pb b : Nat} {r : TRd} {d : RD} {f : RF} {bad : Bool}
set_option maxHeartbeats 8000000 in
set_option maxRecDepth 8000 in
attribute [-go_sem] Go.Instr.loadAt Go.Instr.storeAt in
theorem rcontract_r (w : World) (h : RC w pf pb b r d f bad) :
    Calls Try.prog 97 #[rdv r pb] w fun e w' => ∃ (q : CR) (f' : RF) (b' : Bool) (g : Option Nat), e = .returned (.agg #[.int .i64 q.num, .int .i64 q.kind, .int .i64 q.by_, .int .i64 q.dl, .int .i64 q.to_, .int .i64 q.want, .int .u64 (q.pr : Int), .int .u64 (q.rs : Int), .int .u64 (q.st : Int), .int .i64 q.of_, .slice q.A q.n q.c]) ∧
      Hid (ConR d f bad q f' b') ∧ q.n ≤ 1048576 ∧ Hid (Ents w w' q.es q.A q.n q.c g) ∧ Hid (Flt w' tFau pf f' ∧ Bl w' pb tBool #[.bool b'] ∧ Fr (rturn pf pb r) w w') := by
  obtain ⟨j0, hj, hj0, hj1, hj2⟩ := info_parts infoEnt
  obtain ⟨w0, hw0⟩ : ∃ w0, (w.alloc (.cells #[.pointer (some ⟨r.p, 0, none⟩), .pointer (some ⟨pb, 0, none⟩)] tRdr)).alloc (.cells #[.int .i64 0, .int .i64 0, .int .i64 0, .int .i64 0, .int .i64 0, .int .i64 0, .int .u64 0, .int .u64 0, .int .u64 0, .int .i64 0, .slice none 0 0] tCo) = w0 := ⟨_, rfl⟩
  have hF0 : Fr (fun _ => False) w w0 := by rw [← hw0]; (repeat (first | with_reducible exact Fr.refl _ _ | with_reducible assumption | with_reducible refine Fr.drew ?_ | with_reducible refine Fr.drewN ?_ _ | with_reducible refine Fr.alloc ?_ _ | with_reducible refine Fr.setIn ?_ (by first | exact Or.inl rfl | exact Or.inr (by simp; done) | exact Or.inr (by simp; omega) | exact Or.inr (by omega)) _))
  have M0 : Me [] w0 w0 w.heap.size pf pb b r d [] f bad := ⟨(fun x hx => by cases hx), h.quiet hF0, by rw [← hw0]; (repeat (first | with_reducible assumption | with_reducible refine Bl.drew ?_ | with_reducible refine Bl.drewN ?_ _ | with_reducible refine Bl.far ?_ (by first | (simp; done) | (simp; omega)) _ | with_reducible exact Bl.newAt (by simp) | with_reducible refine Bl.alloc ?_ _)), Fr.refl _ _⟩
  have HR : Hid (Bl w0 (w.heap.size + 1) tCo con0) := by show Bl _ _ _ _; rw [← hw0]; exact Bl.newAt (by simp)
  have hs0 : w.heap.size + 1 < w0.heap.size := by rw [← hw0]; simp
  have HF0 := hide hF0
  have z0 : keepB w0 w.heap.size r pb := M0.bx
  clear h
  go_enter Try.func97, Try.ntmps97
  go_wp2_with fail
  (try rw [hw0])
  clear hw0 hF0
  go_upto_region 1 with fail
  go_cut [1, 2, 3] (fun s1 s2 s3 wx => s1 = .pointer (some ⟨w.heap.size, 0, none⟩) ∧ s2 = .pointer (some ⟨w.heap.size + 1, 0, none⟩) ∧ ∃ (B3 n1 n2 n3 n4 n5 n6 n7 : Nat) (f1 f2 f3 f4 f5 f6 f7 : RF), s3 = .pointer (some ⟨B3, 0, none⟩) ∧
    Hid (numberS d f 7 1125899906842624 = (n1, f1) ∧ numberS d f1 2 1125899906842624 = (n2, f2) ∧ numberS d f2 20 1125899906842624 = (n3, f3) ∧ numberS d f3 13 1125899906842624 = (n4, f4) ∧ numberS d f4 4 1125899906842624 = (n5, f5) ∧ numberS d f5 14 1125899906842624 = (n6, f6) ∧ numberS d f6 8 1125899906842624 = (n7, f7)) ∧ Hid (Me [(B3, tCo, #[.int .i64 (n1 : Int), .int .i64 (n2 : Int), .int .i64 (n3 : Int), .int .i64 (n4 : Int), .int .i64 (n5 : Int), .int .i64 (n6 : Int), .int .u64 0, .int .u64 0, .int .u64 0, .int .i64 (n7 : Int), .slice none 0 0])] w0 wx w.heap.size pf pb b r d [(f, 7), (f1, 2), (f2, 20), (f3, 13), (f4, 4), (f5, 14), (f6, 8)] f7 bad))
  case first =>
    have hall : ∀ w', keepB w' w.heap.size r pb → (Instr.loadAt tRdr (.pointer (some ⟨w.heap.size, 0, none⟩))).run Try.prog w' = .ok (rdv r pb) w' := fun _ h => h.load
    go_region_held3 (fun w' => keepB w' w.heap.size r pb) (first | assumption | exact Bl.drew (by assumption) | exact Bl.alloc (by assumption) _ | exact Bl.farRow (by assumption) (by omega) _)
      (first
        | (have hk := M6; clear hk; go_at_call 91; refine (Me.int (by first | exact M6 | exact M6.push tCo con0 (by unfold Turns2 Turns; decide)) 8).mono ?_; rintro e w7 ⟨n7, f7, rfl, H7, M7⟩; have z7 : keepB w7 w.heap.size r pb := M7.bx;
            first
              | (have Y5 := M7.hd; have Y6 := M7.hdle; have M9 := M7; have hst := run_storeAt_at (P := Try.prog) tCo _ 0 tCo _ #[.int .i64 (n1 : Int), .int .i64 (n2 : Int), .int .i64 (n3 : Int), .int .i64 (n4 : Int), .int .i64 (n5 : Int), .int .i64 (n6 : Int), .int .u64 0, .int .u64 0, .int .u64 0, .int .i64 (n7 : Int), .slice none 0 0] #[.int .i64 (n1 : Int), .int .i64 (n2 : Int), .int .i64 (n3 : Int), .int .i64 (n4 : Int), .int .i64 (n5 : Int), .int .i64 (n6 : Int), .int .u64 0, .int .u64 0, .int .u64 0, .int .i64 (n7 : Int), .slice none 0 0] (by kernel_rfl) 11 11 rfl rfl (by decide) rfl rfl Y5)
              | (have Y5 := Bl.new w7 tCo con0; have Y6 := M7.fr.size; have M9 := M7.push tCo con0 (by unfold Turns2 Turns; decide); have hst := run_storeAt_at (P := Try.prog) tCo _ 0 tCo _ #[.int .i64 (n1 : Int), .int .i64 (n2 : Int), .int .i64 (n3 : Int), .int .i64 (n4 : Int), .int .i64 (n5 : Int), .int .i64 (n6 : Int), .int .u64 0, .int .u64 0, .int .u64 0, .int .i64 (n7 : Int), .slice none 0 0] #[.int .i64 (n1 : Int), .int .i64 (n2 : Int), .int .i64 (n3 : Int), .int .i64 (n4 : Int), .int .i64 (n5 : Int), .int .i64 (n6 : Int), .int .u64 0, .int .u64 0, .int .u64 0, .int .i64 (n7 : Int), .slice none 0 0] (by kernel_rfl) 11 11 rfl rfl (by decide) rfl rfl Y5))
        | (have hk := M5; clear hk; go_at_call 91; refine (Me.int (by first | exact M5 | exact M5.push tCo con0 (by unfold Turns2 Turns; decide)) 14).mono ?_; rintro e w6 ⟨n6, f6, rfl, H6, M6⟩; have z6 : keepB w6 w.heap.size r pb := M6.bx)
        | (have hk := M4; clear hk; go_at_call 91; refine (Me.int (by first | exact M4 | exact M4.push tCo con0 (by unfold Turns2 Turns; decide)) 4).mono ?_; rintro e w5 ⟨n5, f5, rfl, H5, M5⟩; have z5 : keepB w5 w.heap.size r pb := M5.bx)
        | (have hk := M3; clear hk; go_at_call 91; refine (Me.int (by first | exact M3 | exact M3.push tCo con0 (by unfold Turns2 Turns; decide)) 13).mono ?_; rintro e w4 ⟨n4, f4, rfl, H4, M4⟩; have z4 : keepB w4 w.heap.size r pb := M4.bx)
        | (have hk := M2; clear hk; go_at_call 91; refine (Me.int (by first | exact M2 | exact M2.push tCo con0 (by unfold Turns2 Turns; decide)) 20).mono ?_; rintro e w3 ⟨n3, f3, rfl, H3, M3⟩; have z3 : keepB w3 w.heap.size r pb := M3.bx)
        | (have hk := M1; clear hk; go_at_call 91; refine (Me.int (by first | exact M1 | exact M1.push tCo con0 (by unfold Turns2 Turns; decide)) 2).mono ?_; rintro e w2 ⟨n2, f2, rfl, H2, M2⟩; have z2 : keepB w2 w.heap.size r pb := M2.bx)
        | (go_at_call 91; refine (Me.int (by first | exact M0.quiet ((Fr.refl _ _).drew) | exact (M0.quiet ((Fr.refl _ _).drew)).pushAt tCo con0 (by unfold Turns2 Turns; decide) w0.heap.size rfl) 7).mono ?_; rintro e w1 ⟨n1, f1, rfl, H1, M1⟩; have z1 : keepB w1 w.heap.size r pb := M1.bx)
        | fail)
    all_goals (go_wp2_with fail; go_meet; case rel => exact ⟨rfl, rfl, _, _, _, _, _, _, _, _, _, _, _, _, _, _, _, rfl, ⟨H1.out, H2.out, H3.out, H4.out, H5.out, H6.out, H7.out⟩, M9.setX (by unfold Plain Turns2 Turns Rt; decide) (by decide) _⟩)
  case rest =>
  obtain ⟨rfl, rfl, B3, n1, n2, n3, n4, n5, n6, n7, f1, f2, f3, f4, f5, f6, f7, rfl, HE1, HM⟩ := hcut
  obtain ⟨w6, rfl⟩ : ∃ w6, w6 = wc := ⟨_, rfl⟩
  clear z0
  have hB3 : w0.heap.size ≤ B3 := HM.out.hdle
  have hBn : w.heap.size + 1 < B3 := by omega
  go_upto_region 2 with fail
  go_cut [1, 2, 3] (fun s1 s2 s3 wx => s1 = .pointer (some ⟨w.heap.size, 0, none⟩) ∧ s2 = .pointer (some ⟨w.heap.size + 1, 0, none⟩) ∧ s3 = .pointer (some ⟨B3, 0, none⟩) ∧ ∃ (p8 p9 p10 : Nat) (f8 f9 f10 : RF),
    Hid (numberS d f7 10 18446744073709551615 = (p8, f8) ∧ numberS d f8 15 18446744073709551615 = (p9, f9) ∧ numberS d f9 16 18446744073709551615 = (p10, f10)) ∧ Hid (Me [(B3, tCo, #[.int .i64 (n1 : Int), .int .i64 (n2 : Int), .int .i64 (n3 : Int), .int .i64 (n4 : Int), .int .i64 (n5 : Int), .int .i64 (n6 : Int), .int .u64 (p8 : Int), .int .u64 (p9 : Int), .int .u64 (p10 : Int), .int .i64 (n7 : Int), .slice none 0 0])] w0 wx w.heap.size pf pb b r d [(f, 7), (f1, 2), (f2, 20), (f3, 13), (f4, 4), (f5, 14), (f6, 8), (f7, 10), (f8, 15), (f9, 16)] f10 bad))
  case first =>
    have hall : ∀ w', keepB w' w.heap.size r pb → (Instr.loadAt tRdr (.pointer (some ⟨w.heap.size, 0, none⟩))).run Try.prog w' = .ok (rdv r pb) w' := fun _ h => h.load
    have z0 : keepB w6 w.heap.size r pb := HM.out.bx
    go_region_held3 (fun w' => keepB w' w.heap.size r pb) (first | assumption | exact Bl.drew (by assumption) | exact Bl.alloc (by assumption) _ | exact Bl.farRow (by assumption) (by omega) _)
      (first
        | (have hk := M9; clear hk; go_at_call 93; refine (Me.all M9 16).mono ?_; rintro e w10 ⟨p10, f10, rfl, H10, M10⟩; have z10 : keepB w10 w.heap.size r pb := M10.bx;
            have a1 := run_storeAt_cell (P := Try.prog) 23 (by kernel_rfl) (i := 6) M10.hd (.int .u64 (p8 : Int)) #[.int .i64 (n1 : Int), .int .i64 (n2 : Int), .int .i64 (n3 : Int), .int .i64 (n4 : Int), .int .i64 (n5 : Int), .int .i64 (n6 : Int), .int .u64 (p8 : Int), .int .u64 0, .int .u64 0, .int .i64 (n7 : Int), .slice none 0 0] 11 rfl (by decide) rfl rfl rfl;
            have M11 := M10.setX (by unfold Plain Turns2 Turns Rt; decide) (by decide) #[.int .i64 (n1 : Int), .int .i64 (n2 : Int), .int .i64 (n3 : Int), .int .i64 (n4 : Int), .int .i64 (n5 : Int), .int .i64 (n6 : Int), .int .u64 (p8 : Int), .int .u64 0, .int .u64 0, .int .i64 (n7 : Int), .slice none 0 0];
            have a2 := run_storeAt_cell (P := Try.prog) 23 (by kernel_rfl) (i := 7) M11.hd (.int .u64 (p9 : Int)) #[.int .i64 (n1 : Int), .int .i64 (n2 : Int), .int .i64 (n3 : Int), .int .i64 (n4 : Int), .int .i64 (n5 : Int), .int .i64 (n6 : Int), .int .u64 (p8 : Int), .int .u64 (p9 : Int), .int .u64 0, .int .i64 (n7 : Int), .slice none 0 0] 11 rfl (by decide) rfl rfl rfl;
            have M12 := M11.setX (by unfold Plain Turns2 Turns Rt; decide) (by decide) #[.int .i64 (n1 : Int), .int .i64 (n2 : Int), .int .i64 (n3 : Int), .int .i64 (n4 : Int), .int .i64 (n5 : Int), .int .i64 (n6 : Int), .int .u64 (p8 : Int), .int .u64 (p9 : Int), .int .u64 0, .int .i64 (n7 : Int), .slice none 0 0];
            have a3 := run_storeAt_cell (P := Try.prog) 23 (by kernel_rfl) (i := 8) M12.hd (.int .u64 (p10 : Int)) #[.int .i64 (n1 : Int), .int .i64 (n2 : Int), .int .i64 (n3 : Int), .int .i64 (n4 : Int), .int .i64 (n5 : Int), .int .i64 (n6 : Int), .int .u64 (p8 : Int), .int .u64 (p9 : Int), .int .u64 (p10 : Int), .int .i64 (n7 : Int), .slice none 0 0] 11 rfl (by decide) rfl rfl rfl;
            have M13 := M12.setX (by unfold Plain Turns2 Turns Rt; decide) (by decide) #[.int .i64 (n1 : Int), .int .i64 (n2 : Int), .int .i64 (n3 : Int), .int .i64 (n4 : Int), .int .i64 (n5 : Int), .int .i64 (n6 : Int), .int .u64 (p8 : Int), .int .u64 (p9 : Int), .int .u64 (p10 : Int), .int .i64 (n7 : Int), .slice none 0 0])
        | (have hk := M8; clear hk; go_at_call 93; refine (Me.all M8 15).mono ?_; rintro e w9 ⟨p9, f9, rfl, H9, M9⟩; have z9 : keepB w9 w.heap.size r pb := M9.bx)
        | (go_at_call 93; refine (Me.all (HM.out.quiet ((Fr.refl _ _).drew)) 10).mono ?_; rintro e w8 ⟨p8, f8, rfl, H8, M8⟩; have z8 : keepB w8 w.heap.size r pb := M8.bx))
    all_goals (go_wp2_with fail; go_meet; case rel => exact ⟨rfl, rfl, rfl, _, _, _, _, _, _, ⟨H8.out, H9.out, H10.out⟩, M13⟩)
  case rest =>
  obtain ⟨rfl, rfl, rfl, p8, p9, p10, f8, f9, f10, HE2, HM2⟩ := hcut
  obtain ⟨w7, rfl⟩ : ∃ w7, w7 = wc := ⟨_, rfl⟩
  clear HM
  have HM := HM2
  have r1 := run_load_ptrR (HM.out.bx.cell' (i := 0) rfl)
  go_wp2_with fail
  refine (Me.records HM.out 21 16).mono ?_
  rintro e W8 ⟨rs, O, k, gO, ds, f11, rfl, hk, H11, HOR, HM8⟩
  clear r1
  have Hlen : Hid (rs.length = ds.length) := HOR.out.2.len
  have Hk : Hid (k = rs.length) := by have := HOR.out.1.1; simp at this; exact this.symm
  have Hrf : Hid (∀ r2 ∈ rs, (∀ x, r2.foot x → w7.heap.size ≤ x) ∧ ∀ x, r.foot x → ¬ r2.foot x) := fun r2 h2 => ⟨HOR.out.2.new r2 h2, fun x hx h3 => by have := HOR.out.2.new r2 h2 x h3; have := HM.out.rc.tr.lt x hx; omega⟩
  have Hap : Hid (rs.Pairwise fun x y => ∀ z, x.foot z → ¬ y.foot z) := HOR.out.2.ap
  have Hs7 : Hid (w0.heap.size ≤ w7.heap.size) := HM.out.fr.size
  have HM8 := hide HM8
  go_wp2_with fail
  go_loopw [34] (fun i wr => ∃ (j : Nat) (es : List ER) (L : Option Addr) (cl : Nat) (g : Option Nat) (fj : RF) (bj : Bool), j ≤ k ∧ i = .int .i64 (j : Int) ∧ Hid (EntsR (ds.take j) f11 bad es fj bj) ∧ Hid (Ents w0 wr es L j cl g) ∧
    Hid (Me [(B3, tCo, #[.int .i64 (n1 : Int), .int .i64 (n2 : Int), .int .i64 (n3 : Int), .int .i64 (n4 : Int), .int .i64 (n5 : Int), .int .i64 (n6 : Int), .int .u64 (p8 : Int), .int .u64 (p9 : Int), .int .u64 (p10 : Int), .int .i64 (n7 : Int), .slice L j cl])] w0 wr w.heap.size pf pb b r d [(f, 7), (f1, 2), (f2, 20), (f3, 13), (f4, 4), (f5, 14), (f6, 8), (f7, 10), (f8, 15), (f9, 16), (f10, 21)] fj bj) ∧ Hid (Ow wr 147 1 O k k (rs.map fun r => .pointer (some ⟨r.p, 0, none⟩)) gO ∧ ∀ i (hi : i < rs.length) (hj : i < ds.length), j ≤ i → TR wr pf b rs[i] ds[i])) (fun i _ => k - (intOf i).toNat)
  case atStart => exact ⟨0, [], none, 0, none, f11, bad, Nat.zero_le _, rfl, EntsR.nil _ _, Ents.nil_ _ _, HM8.out, HOR.out.1, fun i hi hj _ => HOR.out.2.tr i hi hj⟩
  case round =>
    obtain ⟨j, es, L, cl, g, fj, bj, hjk, rfl, HES, HEN, HMe, HRT⟩ := hrel
    obtain ⟨w9, rfl⟩ : ∃ w9, w9 = wr := ⟨_, rfl⟩
    by_cases hlt : j < k
    · have hjl : j < rs.length := by rw [← Hk.out]; exact hlt
      have hjd : j < ds.length := by rw [← Hlen.out]; exact hjl
      obtain ⟨rj, hrj⟩ : ∃ rj, rs[j] = rj := ⟨_, rfl⟩
      obtain ⟨dj, hdj⟩ : ∃ dj, ds[j] = dj := ⟨_, rfl⟩
      obtain ⟨bO, oO, rfl, c0⟩ := HRT.out.1.sl.at_ (j := j) (u := .pointer (some ⟨rj.p, 0, none⟩)) (by rw [List.getElem?_map, List.getElem?_eq_getElem hjl, hrj]; rfl)
      have hTR := HRT.out.2 j hjl hjd (Nat.le_refl _)
      rw [hrj, hdj] at hTR
      have HRC : Hid (RC w9 pf pb b rj dj fj bj) := ⟨hTR, HMe.out.rc.flt, HMe.out.rc.bd⟩
      have HE : Hid (∀ w1, Fr (fun _ => False) w9 w1 → Calls Try.prog 130 #[rdv rj pb] w1 fun e w' => ∃ (q : ER) (f' : RF) (b' : Bool) (g : Option Nat), e = .returned (.agg #[.int .i64 q.acc, .int .i64 q.item, .int .u64 (q.co : Int), .int .u64 (q.pr : Int), .slice q.A q.n q.c]) ∧ Hid (EntR dj fj bj q f' b') ∧ q.n ≤ 1048576 ∧
          Hid (Ow w' 3 1 q.A q.n q.c (q.ws.map iv) g ∧ (∀ x, g = some x → w1.heap.size ≤ x)) ∧ Hid (Flt w' tFau pf f' ∧ Bl w' pb tBool #[.bool b'] ∧ Fr (rturn pf pb rj) w1 w')) := fun w1 hf => rentry_r w1 (HRC.out.quiet hf)
      have hrm : rj ∈ rs := by rw [← hrj]; exact List.getElem_mem hjl
      have Hfoot := hide (Hrf.out rj hrm)
      have Hoth : Hid (∀ i (hi : i < rs.length), j < i → ∀ x, rs[i].foot x → ¬ rj.foot x) := fun i hi hji x hx h2 => by
        have := List.pairwise_iff_getElem.1 Hap.out j i hjl hi hji
        rw [hrj] at this
        exact this x h2 hx
      have Hdrop : Hid (ds.take (j + 1) = ds.take j ++ [dj]) := by
        show _ = _
        rw [List.take_succ_eq_append_getElem hjd, hdj]
      have i0 : (0 : Int) ≤ (j : Int) := by omega
      have i1 : (j : Int) < (k : Int) := by omega
      have q1 : IntKind.i64.wrap ((j : Int) + 1) = ((j + 1 : Nat) : Int) := by rw [IntWalk.i64_in _ (by omega)]; omega
      have r2 := run_load_ptrR c0
      have Hlt := hide hlt
      clear hTR hrm hrj hdj hjl hjd hlt hjk
      go_wp2_with fail
      clear r2 c0
      have x0 : keepB w9.drew w.heap.size r pb := HMe.out.bx
      have y0 : Bl w9.drew B3 tCo #[.int .i64 (n1 : Int), .int .i64 (n2 : Int), .int .i64 (n3 : Int), .int .i64 (n4 : Int), .int .i64 (n5 : Int), .int .i64 (n6 : Int), .int .u64 (p8 : Int), .int .u64 (p9 : Int), .int .u64 (p10 : Int), .int .i64 (n7 : Int), .slice L j cl] := HMe.out.hd
      have hallE : ∀ w', Bl w' B3 tCo #[.int .i64 (n1 : Int), .int .i64 (n2 : Int), .int .i64 (n3 : Int), .int .i64 (n4 : Int), .int .i64 (n5 : Int), .int .i64 (n6 : Int), .int .u64 (p8 : Int), .int .u64 (p9 : Int), .int .u64 (p10 : Int), .int .i64 (n7 : Int), .slice L j cl] → (Instr.loadAt 27 (.pointer (some ⟨B3, 10, none⟩))).run Try.prog w' = .ok (.slice L j cl) w' := fun w' h => run_load_ents (h.cell' (i := 10) rfl)
      have hallP : ∀ w', keepB w' w.heap.size r pb → (Instr.loadAt tPtrB (.pointer (some ⟨w.heap.size, 1, none⟩))).run Try.prog w' = .ok (.pointer (some ⟨pb, 0, none⟩)) w' := fun w' h => h.ld1
      go_region_law (first
        | (refine step_append_ow _ (by rfl) _ _ 27 (by rfl) tEnt j0 (.agg #[.int .i64 0, .int .i64 0, .int .u64 0, .int .u64 0, .slice none 0 0]) 5 56 Try.underlying27 hj hj0 hj1 hj2 rfl (by decide) _ _ _ _ _ (by rfl) hOE _ _ _ [.int .i64 q.acc, .int .i64 q.item, .int .u64 (q.co : Int), .int .u64 (q.pr : Int), .slice q.A q.n q.c] (by rfl) hSl (by intro u hu; simp at hu; rcases hu with rfl | rfl | rfl | rfl | rfl <;> rfl) (by unfold maxLen; omega) (by omega) ?_; intro L3 c3 w3 g3 hO3 hf3 hg3; have hfX : Fr (fun x => some x = g) w2 w3 := Fr.comp (Fr.alloc (Fr.refl (fun x => some x = g) w2) _) hf3 (fun _ _ e => e); have M3 := M2.other1 (fun x e => ⟨E2.ow.typed x e, E2.new x e⟩) (by unfold Plain Turns2 Turns Rt; decide) (by decide) (by decide) hfX; have hst := run_storeAt_cell (P := Try.prog) 27 (by kernel_rfl) (i := 10) M3.hd (.slice L3 (j + 1) c3) #[.int .i64 (n1 : Int), .int .i64 (n2 : Int), .int .i64 (n3 : Int), .int .i64 (n4 : Int), .int .i64 (n5 : Int), .int .i64 (n6 : Int), .int .u64 (p8 : Int), .int .u64 (p9 : Int), .int .u64 (p10 : Int), .int .i64 (n7 : Int), .slice L3 (j + 1) c3] 11 rfl (by decide) rfl rfl rfl)
        | (go_simp; go_at_call 130; refine (HE.out _ ((Fr.refl _ _).drew)).mono ?_; rintro e w2 ⟨q, f', b', gq, rfl, HQ, hqn, HOq, HFl⟩; have M2 := HMe.out.sub HRC.out Hfoot.out.2 (fun x hx => Nat.le_trans Hs7.out (Hfoot.out.1 x hx)) HFl.out.1 HFl.out.2.1 (Fr.trans ((Fr.refl _ _).drew) HFl.out.2.2); have x2 : keepB w2 w.heap.size r pb := M2.bx; have y2 : Bl w2 B3 tCo #[.int .i64 (n1 : Int), .int .i64 (n2 : Int), .int .i64 (n3 : Int), .int .i64 (n4 : Int), .int .i64 (n5 : Int), .int .i64 (n6 : Int), .int .u64 (p8 : Int), .int .u64 (p9 : Int), .int .u64 (p10 : Int), .int .i64 (n7 : Int), .slice L j cl] := M2.hd; have y2a : ∀ o, Bl (w2.alloc o) B3 tCo #[.int .i64 (n1 : Int), .int .i64 (n2 : Int), .int .i64 (n3 : Int), .int .i64 (n4 : Int), .int .i64 (n5 : Int), .int .i64 (n6 : Int), .int .u64 (p8 : Int), .int .u64 (p9 : Int), .int .u64 (p10 : Int), .int .i64 (n7 : Int), .slice L j cl] := fun o => y2.alloc o; have E2 := HEN.out.rturn HRC.out (Fr.trans ((Fr.refl _ _).drew) HFl.out.2.2); have hOE := E2.ow.fr ((Fr.refl (fun _ => False) w2).alloc (.cells #[.int .i64 q.acc, .int .i64 q.item, .int .u64 (q.co : Int), .int .u64 (q.pr : Int), .slice q.A q.n q.c] tEnt)) (fun _ _ => id); have hSl := Sl.row w2 #[.int .i64 q.acc, .int .i64 q.item, .int .u64 (q.co : Int), .int .u64 (q.pr : Int), .slice q.A q.n q.c] tEnt 5 1 rfl)
        | fail)
      all_goals
       (go_wp2_with fail
        have hrow : Fr (fun x => x = B3) w3 (w3.setRow B3 #[.int .i64 (n1 : Int), .int .i64 (n2 : Int), .int .i64 (n3 : Int), .int .i64 (n4 : Int), .int .i64 (n5 : Int), .int .i64 (n6 : Int), .int .u64 (p8 : Int), .int .u64 (p9 : Int), .int .u64 (p10 : Int), .int .i64 (n7 : Int), .slice L3 (j + 1) c3]) := Fr.row _
        have hF92 : Fr (rturn pf pb rj) w9 w2 := Fr.trans ((Fr.refl _ _).drew) HFl.out.2.2
        have hgt : ∀ x, g = some x → Typed w2 x tEnt := fun x e => E2.ow.typed x e
        have EN3 := HEN.out.app E2 hqn HOq.out.1 (fun x e => HOq.out.2 x e) HMe.out.fr.size hO3 hfX (hg3.imp id fun ⟨x, e, h⟩ => ⟨x, e, by first | omega | (simp at h; omega)⟩) hF92.size
        have hL2 := HRT.out.1.fr hF92 (fun x e => HRC.out.not (HRT.out.1.typed x e) (by unfold Turns2 Turns; decide))
        have hL3 := hL2.fr hfX (fun x e e2 => absurd ((hL2.typed x e).same (hgt x e2.symm)) (by decide))
        have hL4 := hL3.fr hrow (fun x e e2 => by subst e2; exact absurd ((hL3.typed x e).same M3.hd.typed) (by decide))
        have hlt2 := Hlt.out
        exact ⟨⟨j + 1, es ++ [q], L3, c3, g3, f', b', by omega, by first | rfl | go_num, by show EntsR _ _ _ _ _ _; rw [Hdrop.out]; exact EntsR.snoc HES.out HQ.out, EN3.row M3.hd.typed (by decide) (by decide) _, M3.setX (by unfold Plain Turns2 Turns Rt; decide) (by decide) _, hL4, fun i hi hj2 hji => (((HRT.out.2 i hi hj2 (by omega)).sub HRC.out (Hoth.out i hi (by omega)) hF92).oth hgt (by unfold Rt; decide) hfX).frt hrow fun x t' h1 h2 e => by subst e; exact absurd h2 (by rw [h1.same M3.hd.typed]; unfold Rt; decide)⟩, by simp [intOf]; try omega⟩)
    · obtain rfl : j = k := by omega
      have Hes : Hid (EntsR ds f11 bad es fj bj) := by
        have := HES.out
        rwa [List.take_of_length_le (by rw [← Hlen.out, ← Hk.out]; exact Nat.le_refl _)] at this
      have rL := keepB.load (w := w9) (B := w.heap.size) (r := r) (pb := pb) HMe.out.bx
      clear HES hlt
      go_wp2_with fail
      refine (Me.done HMe.out).mono ?_
      rintro e w10 ⟨f13, rfl, H13, M10, hF⟩
      have hBR : Bl w10 (w.heap.size + 1) tCo con0 := HR.out.fr M10.fr (M0.rc.not HR.out.typed (by unfold Turns2 Turns; decide))
      have r2 := run_loadAt_at (P := Try.prog) tCo B3 0 tCo _ #[.int .i64 (n1 : Int), .int .i64 (n2 : Int), .int .i64 (n3 : Int), .int .i64 (n4 : Int), .int .i64 (n5 : Int), .int .i64 (n6 : Int), .int .u64 (p8 : Int), .int .u64 (p9 : Int), .int .u64 (p10 : Int), .int .i64 (n7 : Int), .slice L j cl] _ Try.underlying29 rfl (by kernel_rfl) rfl M10.hd
      have r3 := run_storeAt_at (P := Try.prog) tCo (w.heap.size + 1) 0 tCo con0 #[.int .i64 (n1 : Int), .int .i64 (n2 : Int), .int .i64 (n3 : Int), .int .i64 (n4 : Int), .int .i64 (n5 : Int), .int .i64 (n6 : Int), .int .u64 (p8 : Int), .int .u64 (p9 : Int), .int .u64 (p10 : Int), .int .i64 (n7 : Int), .slice L j cl] #[.int .i64 (n1 : Int), .int .i64 (n2 : Int), .int .i64 (n3 : Int), .int .i64 (n4 : Int), .int .i64 (n5 : Int), .int .i64 (n6 : Int), .int .u64 (p8 : Int), .int .u64 (p9 : Int), .int .u64 (p10 : Int), .int .i64 (n7 : Int), .slice L j cl] (by kernel_rfl) 11 11 rfl rfl (by decide) rfl rfl hBR
      clear rL
      go_wp2_with fail
      have hB9 := hBR.setRow #[.int .i64 (n1 : Int), .int .i64 (n2 : Int), .int .i64 (n3 : Int), .int .i64 (n4 : Int), .int .i64 (n5 : Int), .int .i64 (n6 : Int), .int .u64 (p8 : Int), .int .u64 (p9 : Int), .int .u64 (p10 : Int), .int .i64 (n7 : Int), .slice L j cl]
      try simp only [Exit.inBlock, Exit.then]
      refine bodyPost_ret (results_cell_row rfl _ _ (w.heap.size + 1) tCo #[.int .i64 (n1 : Int), .int .i64 (n2 : Int), .int .i64 (n3 : Int), .int .i64 (n4 : Int), .int .i64 (n5 : Int), .int .i64 (n6 : Int), .int .u64 (p8 : Int), .int .u64 (p9 : Int), .int .u64 (p10 : Int), .int .i64 (n7 : Int), .slice L j cl] (0, 0) _ rfl hB9 Try.underlying29 rfl (by kernel_rfl)) rfl ?_
      obtain ⟨k1, k2, k3, k4, k5, k6, k7⟩ := HE1.out
      obtain ⟨k8, k9, k10⟩ := HE2.out
      have hs := HF0.out.size
      have hn1 : ¬ rturn pf pb r (w.heap.size + 1) := M10.rc.not hBR.typed (by unfold Turns2 Turns; decide)
      refine ⟨⟨n1, n2, n3, n4, n5, n6, p8, p9, p10, n7, L, j, cl, es⟩, f13, bj || decide (f13.e ≠ 0), g, rfl, ⟨n1, n2, n3, n4, n5, n6, n7, f1, f2, f3, f4, f5, f6, f7, f8, f9, f10, f11, fj, ds, bj, ⟨rfl, rfl, rfl, rfl, rfl, rfl, rfl⟩, k1, k2, k3, k4, k5, k6, k7, k8, k9, k10, H11.out, Hes.out, H13.out, rfl⟩, hk, ((HEN.out.rturn HMe.out.rc hF).row hBR.typed (by decide) (by decide) _).base hs, ?_⟩
      refine ⟨M10.rc.flt.fr (Fr.row _) (fun e => hn1 (.inl e.symm)), M10.rc.bd.fr (Fr.row _) (fun e => hn1 (.inr (.inl e.symm))), ?_⟩
      exact Fr.setRow ((HF0.out.weak _).trans M10.fr) (.inr (by omega)) _
end
end Go.Proofs.Ytlcjhbemgagchaa
end

section
/-
  proto: a command that can be read.
-/
namespace Go.Proofs.Ytlcjhbemgagchaa
structure KC.at_ (w : World) (r : KC) : Prop where
  e : r.e.at_ w
  k : r.k.at_ w
theorem KC.at_.quiet {w w' : World} {r : KC} (h : r.at_ w) (hf : Fr (fun _ => False) w w') : r.at_ w' := ⟨h.e.quiet hf, h.k.quiet hf⟩
end Go.Proofs.Ytlcjhbemgagchaa
end

section
/-
  proto: what Decode and DecodeReply stand on: a record within, a text; results of a struct and an error.
-/
namespace Go.Proofs.Ytlcjhbemgagchaa
open Go.RowKit
set_option linter.unusedVariables false
set_option linter.unusedSimpArgs false
theorem results_row_tmp {P : Program} {fn : Func} {p u : Tmp} {ty : TypeId} (h : fn.results = #[.cell p ty, .tmp u]) (tmps : Array Value) (w : World) (g : Nat) (t : TypeId) (cs : Array Value) (fr : Nat × Nat) (d : TypeDesc)
    (hp : tmps.getD p undef = .pointer (some ⟨g, 0, none⟩)) (hg : w.heap[g]? = some (.cells cs t fr))
    (hu : P.underlying ty = some d) (hd : (match d with | .struct _ | .array _ _ => true | _ => false) = true) (hi : (P.info? ty).map (·.size) = some cs.size) :
    (results fn tmps).run P w = .ok (.tuple #[.agg cs, tmps.getD u undef]) w := by
  have hp' : tmps[p]?.getD undef = .pointer (some ⟨g, 0, none⟩) := by simpa using hp
  simp [results, h, hp', asAddr, run_loadVar_row w g t ty cs fr d hg hu hd hi]
section
variable {X : List (Nat × TypeId × Array Value)} {W w w' : World} {B pf pb b : Nat} {r : TRd} {d : RD} {T : List (RF × Int)} {f : RF} {bad : Bool}
theorem Me.text (h : Me X W w B pf pb b r d T f bad) (t most : Int) :
    Calls Try.prog 92 #[.pointer (some ⟨r.p, 0, none⟩), .int .i64 t, .int .i64 most] w fun e w' => ∃ (v : List Nat) (str : ByteArray) (f' : RF), e = .returned (.string str) ∧ Hid (str = strOf v ∧ rawS d f t most = (v, f')) ∧ Me X W w' B pf pb b r d (T ++ [(f, t)]) f' bad := by
  obtain ⟨v, f', hv⟩ : ∃ v f', rawS d f t most = (v, f') := ⟨_, _, rfl⟩
  have c := trtext_any w pf b r (takes d T) f t most h.rc.tr h.rc.flt
  rw [raw_takes, hv] at c
  refine c.mono ?_
  rintro e w' ⟨rfl, hP⟩
  obtain ⟨h1, h2⟩ := h.rc.post hP
  rw [← takes_snoc] at h1
  exact ⟨v, _, f', rfl, ⟨rfl, hv⟩, h.step h1 h2⟩
theorem Me.num19 (h : Me X W w B pf pb b r d T f bad) (t : Int) :
    Calls Try.prog 95 #[.pointer (some ⟨r.p, 0, none⟩), .int .i64 t, .int .u64 4294967295] w fun e w' => ∃ (n : Nat) (f' : RF), e = .returned (.int .u64 (n : Int)) ∧ n ≤ 4294967295 ∧ Hid (numberS d f t 4294967295 = (n, f')) ∧ Fr (rturn pf pb r) w w' ∧ Me X W w' B pf pb b r d (T ++ [(f, t)]) f' bad := by
  obtain ⟨n, f', hv⟩ : ∃ n f', numberS d f t 4294967295 = (n, f') := ⟨_, _, rfl⟩
  have hn : n ≤ 4294967295 := by have := numberS_le d f t 4294967295; rw [hv] at this; exact this
  have c := trnum_any w pf b r (takes d T) f t 4294967295 (by decide) h.rc.tr h.rc.flt
  rw [num_takes, hv] at c
  refine c.mono ?_
  rintro e w' ⟨rfl, hP⟩
  obtain ⟨h1, h2⟩ := h.rc.post hP
  rw [← takes_snoc] at h1
  exact ⟨n, f', rfl, hn, hv, h2, h.step h1 h2⟩
theorem Me.in_ (h : Me X W w B pf pb b r d T f bad) (t : Int) :
    Calls Try.prog 96 #[rdv r pb, .int .i64 t] w fun e w' => ∃ (r' : TRd) (d' : RD) (f' : RF), e = .returned (rdv r' pb) ∧ Hid (recordS d f t = (d', f')) ∧
      Hid (RC w' pf pb b r' d' f' bad ∧ (∀ x, r.foot x → ¬ r'.foot x) ∧ (∀ x, r'.foot x → W.heap.size ≤ x) ∧ Fr (rturn pf pb r) w w') ∧ Me X W w' B pf pb b r d (T ++ [(f, t)]) f' bad := by
  refine (rin_any w h.rc t).mono ?_
  rintro e w' ⟨r', d', f', rfl, hv, hP⟩
  rw [record_takes] at hv
  obtain ⟨h1, h2, h3, h4⟩ := hP.out
  rw [← takes_snoc] at h1
  exact ⟨r', d', f', rfl, hv, ⟨⟨h2, h1.flt, h1.bd⟩, fun x hx h5 => by have := h3 x h5; have := h.rc.tr.lt x hx; omega, fun x hx => Nat.le_trans h.fr.size (h3 x hx), h4⟩, h.step h1 h4⟩
end
/-- A command's lists, in memory of their own. -/
structure KOwn (W w : World) (c : KC) : Prop where
  en : c.e.n ≤ 1048576
  eo : ∃ g, Ow w 3 1 c.e.A c.e.n c.e.c (c.e.ws.map iv) g ∧ ∀ x, g = some x → W.heap.size ≤ x
  kn : c.k.n ≤ 1048576
  ko : ∃ g, Ents W w c.k.es c.k.A c.k.n c.k.c g
theorem KOwn.at_ {W w : World} {c : KC} (h : KOwn W w c) : c.at_ w := by
  obtain ⟨ge, h1, -⟩ := h.eo
  obtain ⟨gk, h2⟩ := h.ko
  have c1 := h1.cap
  have c2 := h2.ow.cap
  unfold maxLen at c1 c2
  have := h.en
  have := h.kn
  exact ⟨⟨h1.sl, by omega, c1.1, c1.2⟩, ⟨h2.ow.sl, by omega, ⟨c2.1, c2.2⟩, h2.at_⟩⟩
/-- A reply's. -/
structure ROwn (W w : World) (c : RR) : Prop where
  en : c.n ≤ 1048576
  eo : ∃ g, Ow w 3 1 c.A c.n c.c (c.items.map iv) g ∧ ∀ x, g = some x → W.heap.size ≤ x
  kn : c.k.n ≤ 1048576
  ko : ∃ g, Ents W w c.k.es c.k.A c.k.n c.k.c g
theorem ROwn.at_ {W w : World} {c : RR} (h : ROwn W w c) : c.at_ w := by
  obtain ⟨ge, h1, -⟩ := h.eo
  obtain ⟨gk, h2⟩ := h.ko
  have c1 := h1.cap
  have c2 := h2.ow.cap
  unfold maxLen at c1 c2
  have := h.en
  have := h.kn
  exact ⟨h1.sl, by omega, ⟨c1.1, c1.2⟩, ⟨h2.ow.sl, by omega, ⟨c2.1, c2.2⟩, h2.at_⟩⟩
end Go.Proofs.Ytlcjhbemgagchaa
end
