/-
  bazaarref08.Disk: Read, Write.
-/
import Derived.Test.YthcklgelbckffaaDr5
import Derived.Test.YthcklgelbckffaaReg
import Derived.Deep.CutBlock
namespace Go.Proofs.Ythcklgelbckffaa
open Go.RowKit
set_option linter.unusedVariables false
set_option linter.unusedSimpArgs false
theorem lastOf_none : ∀ {l : List (Nat × List Nat)} {k : Nat}, (∀ r ∈ l, r.1 ≠ k) → lastOf l k = none
  | [], k, _ => rfl
  | r :: l, k, h => by
    rw [lastOf_cons, lastOf_none (fun x hx => h x (List.mem_cons_of_mem _ hx))]
    simp only
    rw [if_neg (h r (List.mem_cons_self ..))]
theorem lastOf_some : ∀ {l : List (Nat × List Nat)} {k i : Nat} {r : Nat × List Nat}, l[i]? = some r → r.1 = k → (∀ j r', i < j → l[j]? = some r' → r'.1 ≠ k) → lastOf l k = some i
  | [], k, i, r, h, _, _ => by simp at h
  | x :: l, k, 0, r, h, hr, hj => by
    simp at h; subst h
    rw [lastOf_cons, lastOf_none (fun y hy => ?_)]
    · simp only; rw [if_pos hr]
    · obtain ⟨j, hjl, e⟩ := List.getElem_of_mem hy
      exact hj (j + 1) y (by omega) (by rw [List.getElem?_cons_succ, List.getElem?_eq_getElem hjl, e])
  | x :: l, k, i + 1, r, h, hr, hj => by
    rw [lastOf_cons, lastOf_some (l := l) (i := i) (r := r) (by simpa using h) hr (fun j r' hij hr' => hj (j + 1) r' (by omega) (by simpa using hr'))]
/-- What Read of the reference tells, in new memory. -/
structure RReadPost (w : World) (xs : List Nat) (er : Int) (e : Ending) (w' : World) : Prop where
  out : ∃ A c g e0, e = .returned (.tuple #[.slice A xs.length c, .int .i64 er]) ∧ Ow w' e0 1 A xs.length c (xs.map bn) g ∧ (∀ b, g = some b → w.heap.size ≤ b)
  fr : Fr (fun _ => False) w w'
theorem rread_nil (w : World) (at_ : Int) : Calls Try.prog 37 #[.pointer none, .int .i64 at_] w fun e w' => e = .returned (.tuple #[.slice none 0 0, .int .i64 1]) ∧ w = w' := by
  go_enter Try.func37, Try.ntmps37
  go_wp2_with fail
  go_ret2
  exact ⟨rfl, rfl⟩
theorem rread_bad {w : World} {q n : Nat} {G : Nat → Prop} {s : DS} (h : RI w q n G s) (at_ : Int) (hw : readN n s at_ ≠ 0) :
    Calls Try.prog 37 #[.pointer (some ⟨q, 0, none⟩), .int .i64 at_] w fun e w' => e = .returned (.tuple #[.slice none 0 0, .int .i64 (readN n s at_)]) ∧ w = w' := by
  obtain ⟨SA, sc, RA, rc, hb⟩ := h.bl
  have hsec := rsectors_any h
  have c2 : w.cell? ⟨q, 2, none⟩ = some (.int .i64 s.fuse) := hb.cell' rfl
  unfold readN at hw ⊢
  by_cases h0 : s.fuse = 0
  · rw [if_pos h0]
    rw [h0] at c2
    clear hw hb h h0 hsec
    go_enter Try.func37, Try.ntmps37
    go_wp2_with fail
    go_ret2
    exact ⟨rfl, rfl⟩
  · have hfb : (s.fuse == 0) = false := by simpa using h0
    rw [if_neg h0] at hw ⊢
    by_cases h1 : at_ < 0
    · rw [if_pos (.inl h1)]
      clear hw hb h h0 hsec
      go_enter Try.func37, Try.ntmps37
      go_wp2_with fail
      go_ret2
      exact ⟨rfl, rfl⟩
    · by_cases h2 : (n : Int) ≤ at_
      · rw [if_pos (.inr h2)]
        clear hw hb h h0
        have Hsec := hide hsec
        clear hsec
        go_enter Try.func37, Try.ntmps37
        go_wp2_with fail
        refine Hsec.out.mono ?_
        rintro e w' ⟨rfl, rfl⟩
        go_wp2_with fail
        go_ret2
        exact ⟨rfl, rfl⟩
      · rw [if_neg (by omega)] at hw; exact absurd rfl hw
set_option maxHeartbeats 4000000 in
set_option maxRecDepth 8000 in
theorem rread_ok {w : World} {q n : Nat} {G : Nat → Prop} {s : DS} (h : RI w q n G s) (k : Nat) (hf : s.fuse ≠ 0) (hk : k < n) :
    Calls Try.prog 37 #[.pointer (some ⟨q, 0, none⟩), .int .i64 (k : Int)] w fun e w' => ∃ A c g e0, e = .returned (.tuple #[.slice A 64 c, .int .i64 0]) ∧ Ow w' e0 1 A 64 c ((s.told k).map bn) g ∧ (∀ b, g = some b → w.heap.size ≤ b) ∧ Fr (fun _ => False) w w' := by
  obtain ⟨i0, hi, hz0, hz1, hz2⟩ := info_parts infoU8
  have hsec := rsectors_any h
  obtain ⟨SA, sc, gs, RA, rc, gr, vs, h, rfl⟩ := h
  have hn2 := h.ok.n2
  have c2 : w.cell? ⟨q, 2, none⟩ = some (.int .i64 s.fuse) := h.bl.cell' rfl
  have c1 : w.cell? ⟨q, 1, none⟩ = some (.slice RA s.row.length rc) := h.bl.cell' rfl
  have hrl := h.ok.c1
  have hrl2 := h.ok.c2
  obtain ⟨m, hm⟩ : ∃ m, s.row.length = m := ⟨_, rfl⟩
  rw [hm] at c1
  have hmm : m ≤ 9000000000000000000 := by omega
  have hfb : (s.fuse == 0) = false := by simpa using hf
  have i1 : ¬ (k : Int) < 0 := by omega
  have i2 : ¬ (n : Int) ≤ (k : Int) := by omega
  have q1 : IntKind.i64.wrap ((m : Int) - 1) = (m : Int) - 1 := IntWalk.i64_in _ (by omega)
  have H := hide h
  have Hm := hide hm
  have Hsec := hide hsec
  clear h hm hsec hrl hrl2 hf
  go_enter Try.func37, Try.ntmps37
  go_wp2_with fail
  refine Hsec.out.mono ?_
  rintro e w' ⟨rfl, rfl⟩
  go_wp2_with fail
  clear q1 hfb
  go_loopw [7] (fun v wr => ∃ i : Nat, i ≤ m ∧ v = .int .i64 ((i : Int) - 1) ∧ Hid (wr = w) ∧ Hid (∀ j r, i ≤ j → s.row[j]? = some r → r.1 ≠ k)) (fun v _ => (intOf v + 1).toNat)
  case atStart => exact ⟨m, Nat.le_refl _, rfl, rfl, fun j r hj hr => by have := (List.getElem?_eq_some_iff.1 hr).1; rw [Hm.out] at this; omega⟩
  case round =>
    obtain ⟨i, hil, rfl, hw, hno⟩ := hrel
    have hw2 := hw.out.symm
    subst hw2
    clear hw
    by_cases hi0 : 1 ≤ i
    · obtain ⟨r, hr⟩ : ∃ r, s.row[i - 1]? = some r := ⟨_, List.getElem?_eq_getElem (by rw [Hm.out]; omega)⟩
      obtain ⟨v, b, o, hv, rfl, rfl, d0, d1, hS, hgv⟩ := H.out.at_ hr
      obtain ⟨vb, vo, vc⟩ := v
      obtain ⟨rk, d⟩ := r
      obtain ⟨hk2, hd⟩ := H.out.ok.row (rk, d) (List.mem_of_getElem? hr)
      simp only at d0 d1 hk2 hd hS
      obtain ⟨t, ht⟩ : ∃ t, i - 1 = t := ⟨_, rfl⟩
      have hti : (i : Int) - 1 = (t : Int) := by omega
      rw [ht] at d0 d1 hr
      rw [hti]
      have j0 : (0 : Int) ≤ (t : Int) := by omega
      have j1 : (t : Int) < (m : Int) := by omega
      have q1 : IntKind.i64.wrap ((t : Int) - 1) = (t : Int) - 1 := IntWalk.i64_in _ (by omega)
      have HS := hide hS
      have Hd := hide hd
      have Hr := hide hr
      have Hti := hide hti
      have Ht := hide ht
      clear hS hd hr hv hgv hti ht
      by_cases hrk : rk = k
      · subst hrk
        have hlast : lastOf s.row rk = some t := lastOf_some Hr.out rfl (fun j r' hj hr' => hno.out j r' (by have := Ht.out; omega) hr')
        have htold : s.told rk = d := by unfold DS.told; rw [hlast]; show (s.row.getD t (0, [])).2 = d; rw [List.getD_eq_getElem?_getD, Hr.out]; rfl
        have Htold := hide htold
        have HSl : Hid (Sl w 1 (some ⟨vb, vo, none⟩) 64 (d.map bn)) := HS
        clear hlast htold hno q1
        go_wp2_with (at_builtin; refine wpList_append_ow _ rfl _ _ 34 rfl 5 i0 (.int .u8 0) 1 1 Try.underlying34 hi hz0 hz1 hz2 rfl (by decide) _ _ _ _ _ rfl (Ow.nil_ _ _ _) _ _ _ _ rfl HS.out (bn_one _) (by unfold maxLen; omega) (by omega) ?_)
        intro A1 c1' w1 g1 hO1 hf1 hg1
        have HO := hide hO1
        have Hf1 := hide hf1
        have Hg1 := hide hg1
        clear hO1 hf1 hg1
        go_wp2_with fail
        go_ret2
        refine ⟨A1, c1', g1, 5, by simp, by rw [Htold.out]; simpa using HO.out, ?_, Hf1.out.mono fun x _ e => by cases e⟩
        rintro b' rfl
        rcases Hg1.out with e | ⟨b2, e, h⟩
        · cases e
        · cases e; exact h
      · have e1 : ¬ (rk : Int) = (k : Int) := by omega
        go_wp2_with fail
        refine ⟨⟨t, by have := Ht.out; omega, rfl, trivial, fun j r hj hr => ?_⟩, by first | (simp [intOf]; done) | (simp [intOf]; omega)⟩
        by_cases hjt : j = t
        · subst hjt
          have := Hr.out
          rw [hr] at this; cases this
          exact hrk
        · exact hno.out j r (by have := Ht.out; omega) hr
    · obtain rfl : i = 0 := by omega
      have hno2 : ∀ r ∈ s.row, r.1 ≠ k := fun r hr => by
        obtain ⟨j, hj, e⟩ := List.getElem_of_mem hr
        exact hno.out j r (Nat.zero_le _) (by rw [List.getElem?_eq_getElem hj, e])
      have htold : s.told k = sec s.sf k := by unfold DS.told; rw [lastOf_none hno2]; rfl
      have Htold := hide htold
      have c0 : w.cell? ⟨q, 0, none⟩ = some (.slice SA (n * 64) sc) := H.out.bl.cell' rfl
      have hcap := H.out.safe.cap
      obtain ⟨hl0, h0 | ⟨sb, so, cur, rfl, rfl, hrest⟩⟩ := id H.out.safe
      · have := h0.2.1; omega
      obtain ⟨M, hM⟩ : ∃ M, n * 64 = M := ⟨_, rfl⟩
      have HP := Sl.part H.out.safe.sl rfl k hk
      obtain ⟨t, ht⟩ : ∃ t, k * 64 = t := ⟨_, rfl⟩
      obtain ⟨u, hu⟩ : ∃ u, k * 64 + 64 = u := ⟨_, rfl⟩
      rw [hM] at c0 hcap
      rw [ht] at HP
      have HS := hide HP
      have q1 : IntKind.i64.wrap (64 * (k : Int)) = (t : Int) := by rw [IntWalk.i64_in _ (by omega)]; omega
      have q2 : IntKind.i64.wrap ((t : Int) + 64) = (u : Int) := by rw [IntWalk.i64_in _ (by omega)]; omega
      have j1 : (0 : Int) ≤ (t : Int) := by omega
      have j2 : (t : Int) ≤ (u : Int) := by omega
      have j3 : (u : Int) ≤ (sc : Int) := by have := hcap.1; omega
      have j4 : u - t = 64 := by omega
      clear hno hno2 htold hcap hl0 hrest HP hM ht hu hi0
      go_wp2_with (at_builtin; refine wpList_append_ow _ rfl _ _ 34 rfl 5 i0 (.int .u8 0) 1 1 Try.underlying34 hi hz0 hz1 hz2 rfl (by decide) _ _ _ _ _ rfl (Ow.nil_ _ _ _) _ _ _ _ rfl HS.out (bn_one _) (by unfold maxLen; omega) (by omega) ?_)
      intro A1 c1' w1 g1 hO1 hf1 hg1
      have HO := hide hO1
      have Hf1 := hide hf1
      have Hg1 := hide hg1
      clear hO1 hf1 hg1
      go_wp2_with fail
      go_ret2
      refine ⟨A1, c1', g1, 5, by simp, by rw [Htold.out]; simpa using HO.out, ?_, Hf1.out.mono fun x _ e => by cases e⟩
      rintro b' rfl
      rcases Hg1.out with e | ⟨b2, e, h⟩
      · cases e
      · cases e; exact h
theorem rread_any {w : World} {q n : Nat} {G : Nat → Prop} {s : DS} (h : RI w q n G s) (at_ : Int) :
    Calls Try.prog 37 #[.pointer (some ⟨q, 0, none⟩), .int .i64 at_] w (RReadPost w (s.readS n at_) (readN n s at_)) := by
  by_cases h0 : readN n s at_ = 0
  · have hf : s.fuse ≠ 0 := fun e => by rw [readN, if_pos e] at h0; omega
    have hr : ¬ (at_ < 0 ∨ (n : Int) ≤ at_) := fun e => by rw [readN, if_neg hf, if_pos e] at h0; omega
    obtain ⟨k, rfl⟩ : ∃ k : Nat, at_ = (k : Int) := ⟨at_.toNat, by omega⟩
    have hk : k < n := by omega
    have hl := told_len h.ok hk
    rw [h0, (readS_at hf hk).2]
    refine (rread_ok h k hf hk).mono ?_
    rintro e w' ⟨A, c, g, e0, rfl, h1, h2, h3⟩
    exact ⟨⟨A, c, g, e0, by rw [hl], by rw [hl]; exact h1, h2⟩, h3⟩
  · unfold DS.readS
    rw [if_neg h0]
    refine (rread_bad h at_ h0).mono ?_
    rintro e w' ⟨rfl, rfl⟩
    exact ⟨⟨none, 0, none, 5, rfl, Ow.nil_ _ _ _, fun b hb => by cases hb⟩, Fr.refl _ _⟩
end Go.Proofs.Ythcklgelbckffaa
