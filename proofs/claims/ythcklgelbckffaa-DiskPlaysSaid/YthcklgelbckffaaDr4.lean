/-
  bazaarref08.Disk: Sync, Crash.
-/
import Derived.Test.YthcklgelbckffaaDr3
namespace Go.Proofs.Ythcklgelbckffaa
open Go.RowKit
set_option linter.unusedVariables false
set_option linter.unusedSimpArgs false
section
variable {w w' : World} {q n : Nat} {SA : Option Addr} {sc : Nat} {gs : Option Nat} {RA : Option Addr} {rc : Nat} {gr : Option Nat} {vs : List (Nat × Nat × Nat)} {s : DS}
theorem RAt.at_ (h : RAt w q n SA sc gs RA rc gr vs s) {i : Nat} {r : Nat × List Nat} (hi : s.row[i]? = some r) : ∃ v b o, vs[i]? = some v ∧ RA = some ⟨b, o, none⟩ ∧ gr = some b ∧
    w.cell? ⟨b, o + i * 2, none⟩ = some (.int .i64 (r.1 : Int)) ∧ w.cell? ⟨b, o + i * 2 + 1, none⟩ = some (.slice (some ⟨v.1, v.2.1, none⟩) 64 v.2.2) ∧ Sl w 1 (some ⟨v.1, v.2.1, none⟩) 64 (r.2.map bn) ∧ gs ≠ some v.1 := by
  have hil : i < s.row.length := (List.getElem?_eq_some_iff.1 hi).1
  obtain ⟨v, hv⟩ : ∃ v, vs[i]? = some v := ⟨_, List.getElem?_eq_getElem (by rw [h.len]; exact hil)⟩
  have hz : (s.row.zip vs)[i]? = some (r, v) := by rw [List.getElem?_zip_eq_some]; exact ⟨hi, hv⟩
  obtain ⟨f1, f2⟩ := flat2 (fun x : (Nat × List Nat) × Nat × Nat × Nat => Value.int .i64 (x.1.1 : Int)) (fun x => .slice (some ⟨x.2.1, x.2.2.1, none⟩) 64 x.2.2.2) (s.row.zip vs) i
  rw [hz] at f1 f2
  obtain ⟨b, o, e, hg, c1, -⟩ := h.rows.look (j := i * 2) f1
  obtain ⟨b1, o1, e1, -, c2, -⟩ := h.rows.look (j := i * 2 + 1) f2
  rw [e] at e1; cases e1
  exact ⟨v, b, o, hv, e, hg, c1, c2, (h.data i r v hi hv).sl, h.off v (List.mem_of_getElem? hv)⟩
/-- None waits any more. -/
theorem RAt.rest (h : RAt w q n SA sc gs RA rc gr vs s) (f : Int) (y : Nat) (h1 : -1 ≤ f) (h2 : f ≤ 9223372036854775807) (h3 : y ≤ 9000000000000000000)
    (hB : Bl w' q tRef #[.slice SA (n * 64) sc, .slice none 0 0, .int .i64 f, .int .i64 (s.wr : Int), .int .i64 (y : Int)]) (hF : Fr (fun x => x = q) w w') :
    RAt w' q n SA sc gs none 0 none [] { s with row := [], fuse := f, sy := y } :=
  ⟨hB, h.safe.fr hF (fun b e e' => h.nqs (by rw [e, e'])), Ow.nil_ _ _ _, rfl, (fun i r v h => by simp at h), (fun v hv => by cases hv), ⟨h.ok.n1, h.ok.n2, h.ok.len, fun r hr => (by cases hr), h1, h2, Nat.zero_le _, h.ok.c2, h3⟩⟩
end
theorem rsync_bad {w : World} {q n : Nat} {G : Nat → Prop} {s : DS} (h : RI w q n G s) (hf : s.fuse = 0) :
    Calls Try.prog 38 #[.pointer (some ⟨q, 0, none⟩)] w fun e w' => e = .returned (.int .i64 80) ∧ w = w' := by
  obtain ⟨SA, sc, RA, rc, hb⟩ := h.bl
  have c2 : w.cell? ⟨q, 2, none⟩ = some (.int .i64 s.fuse) := hb.cell' rfl
  rw [hf] at c2
  clear hb h hf
  go_enter Try.func38, Try.ntmps38
  go_wp2_with fail
  go_ret
  exact ⟨rfl, rfl⟩
theorem rsync_nil (w : World) : Calls Try.prog 38 #[.pointer none] w fun e w' => e = .returned (.int .i64 1) ∧ w = w' := by
  go_enter Try.func38, Try.ntmps38
  go_wp2_with fail
  go_ret
  exact ⟨rfl, rfl⟩
set_option maxHeartbeats 4000000 in
set_option maxRecDepth 8000 in
theorem rsync_ok {w : World} {q n : Nat} {G : Nat → Prop} {s : DS} (h : RI w q n G s) (hf : s.fuse ≠ 0) (hs : s.sy < 8000000000000000000) :
    Calls Try.prog 38 #[.pointer (some ⟨q, 0, none⟩)] w fun e w' => e = .returned (.int .i64 0) ∧ ROut w q n G s.sync w' := by
  obtain ⟨SA, sc, gs, RA, rc, gr, vs, h, rfl⟩ := h
  have c2 : w.cell? ⟨q, 2, none⟩ = some (.int .i64 s.fuse) := h.bl.cell' rfl
  have H := hide h
  have hrl := h.ok.c1
  have hrl2 := h.ok.c2
  obtain ⟨m, hm⟩ : ∃ m, s.row.length = m := ⟨_, rfl⟩
  have hmm : m ≤ 9000000000000000000 := by omega
  have Hm := hide hm
  have Hf := hide hf
  have hfb : (s.fuse == 0) = false := by simpa using hf
  clear h hrl hrl2 hm hf
  go_enter Try.func38, Try.ntmps38
  go_wp2_with fail
  clear c2 hfb
  go_loopw [3] (fun v wr => ∃ j : Nat, j ≤ m ∧ v = .int .i64 j ∧ Hid (RAt wr q n SA sc gs RA rc gr vs { s with sf := laidAll s.sf (s.row.take j) }) ∧ Hid (Fr (fun k => gs = some k) w wr)) (fun v _ => m - (intOf v).toNat)
  case atStart => exact ⟨0, Nat.zero_le _, rfl, H.out, Fr.refl _ _⟩
  case round =>
    obtain ⟨w2, rfl⟩ : ∃ w2, w2 = wr := ⟨_, rfl⟩
    obtain ⟨j, hj, rfl, HR, Hfr⟩ := hrel
    have c1 : w2.cell? ⟨q, 1, none⟩ = some (.slice RA s.row.length rc) := HR.out.bl.cell' rfl
    rw [Hm.out] at c1
    by_cases hlt : j < m
    · obtain ⟨r, hr⟩ : ∃ r, s.row[j]? = some r := ⟨_, List.getElem?_eq_getElem (by rw [Hm.out]; exact hlt)⟩
      obtain ⟨v, b, o, hv, rfl, rfl, d0, d1, hS, hgv⟩ := HR.out.at_ (i := j) (r := r) hr
      obtain ⟨vb, vo, vc⟩ := v
      obtain ⟨k, d⟩ := r
      obtain ⟨hk, hd⟩ := HR.out.ok.row (k, d) (List.mem_of_getElem? hr)
      simp only at d0 d1 hk hd hgv
      have i0 : (0 : Int) ≤ (j : Int) := by omega
      have i1 : (j : Int) < (m : Int) := by omega
      have hcar := carry_any HR.out k hk d hd vb vo vc hS hgv 64 (by omega)
      have hsn := laidAll_snoc s.sf s.row j (k, d) hr
      have hl : (laidAll s.sf (s.row.take j)).length = n * 64 := HR.out.ok.len
      have htf : torn (laidAll s.sf (s.row.take j)) k d 64 = laidAll s.sf (s.row.take (j + 1)) := by rw [hsn]; exact torn_full hl hk hd
      have Htf := hide htf
      have Hcar := hide hcar
      clear hcar hsn hl htf hS hgv hr hv hk hd
      go_wp2_with fail
      refine Hcar.out.mono ?_
      rintro e w3 ⟨rfl, hR3, hf3⟩
      have hR4 : RAt w3 q n SA sc gs (some ⟨b, o, none⟩) rc (some b) vs { s with sf := laidAll s.sf (s.row.take (j + 1)) } := by
        rw [← Htf.out]; exact hR3
      have HR4 := hide hR4
      have Hf4 := hide (Hfr.out.trans hf3)
      clear hR3 hR4 hf3 HR Hfr Hcar
      go_wp2_with fail
      exact ⟨⟨j + 1, by omega, by go_num, HR4.out, Hf4.out⟩, by simp [intOf]; omega⟩
    · obtain rfl : m = j := by omega
      have c4 : w2.cell? ⟨q, 4, none⟩ = some (.int .i64 (s.sy : Int)) := HR.out.bl.cell' rfl
      have z1 := HR.out.bl.free 1
      have z4 := HR.out.bl.free 4
      have hw1 : IntKind.i64.wrap ((s.sy : Int) + 1) = (s.sy : Int) + 1 := IntWalk.i64_in _ (by omega)
      clear hlt hj
      go_wp2_with fail
      have hlast : laidAll s.sf (s.row.take m) = laidAll s.sf s.row := by rw [List.take_of_length_le (by rw [Hm.out]; exact Nat.le_refl _)]
      obtain ⟨w3, Hw3⟩ : ∃ w3, Hid (w3 = (w2.setCell ⟨q, 1, none⟩ (.slice none 0 0)).setCell ⟨q, 4, none⟩ (.int .i64 ((s.sy : Int) + 1))) := ⟨_, rfl⟩
      have hF : Fr (fun x => x = q) w2 w3 := by rw [Hw3.out]; exact ((Fr.refl _ _).setAt _).setAt _
      have hB : Bl w3 q tRef #[.slice SA (n * 64) sc, .slice none 0 0, .int .i64 s.fuse, .int .i64 (s.wr : Int), .int .i64 ((s.sy + 1 : Nat) : Int)] := by
        have := (HR.out.bl.set 1 (.slice none 0 0)).set 4 (.int .i64 ((s.sy : Int) + 1))
        rw [Hw3.out]
        simpa using this
      have hR := HR.out.rest s.fuse (s.sy + 1) H.out.ok.f1 H.out.ok.f2 (by omega) hB hF
      rw [hlast] at hR
      rw [← Hw3.out]
      refine (spent_any hR).mono ?_
      rintro e w4 ⟨rfl, hR4, hf4⟩
      have HR4 := hide hR4
      have Hf4 := hide (((Hfr.out.mono fun x _ e => (.inr (.inl e) : rfoot q gs gr vs x)).trans (hF.mono fun x _ e => .inl e)).trans (hf4.mono fun x _ e => .inl e))
      clear hR4 hf4 hR hB hF
      go_wp2_with fail
      go_ret
      refine ⟨rfl, _, ⟨SA, sc, gs, none, 0, none, [], HR4.out, rfl⟩, Hf4.out, ?_⟩
      rintro x hx (e | e | e | ⟨v, hv, -⟩)
      · exact .inl e
      · exact .inr (.inl e)
      · cases e
      · cases hv
theorem rsync_any {w : World} {q n : Nat} {G : Nat → Prop} {s : DS} (h : RI w q n G s) (hs : s.sy < 8000000000000000000) :
    Calls Try.prog 38 #[.pointer (some ⟨q, 0, none⟩)] w fun e w' => e = .returned (.int .i64 (syncN s)) ∧ ROut w q n G s.syncS w' := by
  unfold DS.syncS
  by_cases h0 : s.fuse = 0
  · have e : syncN s = 80 := by unfold syncN; rw [if_pos h0]
    rw [e, if_neg (by omega)]
    refine (rsync_bad h h0).mono ?_
    rintro e w' ⟨rfl, rfl⟩
    exact ⟨rfl, ROut.refl h (Fr.refl _ _)⟩
  · have e : syncN s = 0 := by unfold syncN; rw [if_neg h0]
    rw [e, if_pos rfl]
    exact rsync_ok h h0 hs
end Go.Proofs.Ythcklgelbckffaa
