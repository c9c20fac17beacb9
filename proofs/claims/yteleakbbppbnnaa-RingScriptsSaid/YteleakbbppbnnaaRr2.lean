/-
  bazaarref10.Ring: Pop, Put, Push.
-/
import Derived.Test.YteleakbbppbnnaaRr1
namespace Go.Proofs.Yteleakbbppbnnaa
open Go.RowKit
set_option linter.unusedVariables false
/-- The ring behind a call that turns it where it lies. -/
def RefKeep (w : World) (q : Nat) (lg : Option Nat) (room : Nat) (xs : List Int) (w' : World) : Prop := RefI w' q lg room xs ∧ Fr (rfoot q lg) w w'
section
variable {q : Nat} {lg : Option Nat} {room : Nat} {xs : List Int}
theorem RefKeep.out {w w' : World} (h : RefKeep w q lg room xs w') : RefOut w q lg room xs w' := ⟨lg, h.1, h.2, .inl rfl⟩
set_option maxHeartbeats 1000000 in
theorem rpop_any (w : World) (h : RefI w q lg room xs) (hb : xs.length ≤ 65536) :
    Calls Try.prog 29 #[.pointer (some ⟨q, 0, none⟩)] w fun e w' => e = .returned (.tuple #[.int .i64 (xs.headD 0), .bool (decide (0 < xs.length))]) ∧ RefKeep w q lg room (xs.drop 1) w' := by
  by_cases h0 : 0 < xs.length
  · have hat := rat_in w h 0 h0 hb
    have hx : xs.headD 0 = xs[0] := by
      obtain ⟨a, l, hh⟩ := List.exists_cons_of_ne_nil (List.ne_nil_of_length_pos h0)
      simp [hh]
    rw [decide_eq_true h0, hx]
    clear hx
    obtain ⟨x, hx⟩ : ∃ x, xs[0] = x := ⟨_, rfl⟩
    rw [hx] at hat ⊢
    have H := hide h
    have hne := h.ne
    obtain ⟨n, hn⟩ : ∃ n, xs.length = n := ⟨_, rfl⟩
    have HN := hide hn
    rw [hn] at h0 hb
    clear hx h hn
    go_enter Try.func29, Try.ntmps29
    go_wp2_with fail
    refine hat.mono ?_
    rintro e w1 ⟨rfl, hf1⟩
    obtain ⟨LA, c, h1, h2⟩ := H.out.fr hf1 (fun _ _ => id)
    rw [HN.out] at h1 h2
    obtain ⟨b, o, rfl, -⟩ := h2.sl.2 h0
    have hcap := h2.cap
    have c1 : w1.cell? ⟨q, 1, none⟩ = some (.slice (some ⟨b, o, none⟩) n c) := h1.cell' rfl
    have z1 := h1.free 1
    have hgb : lg = some b := by
      rcases h2.2 with ⟨h, _⟩ | ⟨b', o', cur, hA, hg, _⟩
      · cases h
      · cases hA; exact hg
    have hset : ∀ v, Fr (fun x => x = q) w1 (w1.setCell ⟨q, 1, none⟩ v) := fun v => (Fr.refl _ _).setAt _
    have H1 := hide h1
    have H2 := hide h2
    have HG := hide hgb
    clear h1 h2 hat hgb
    by_cases hz : c = 1
    · obtain rfl : n = 1 := by omega
      obtain rfl : c = 1 := hz
      go_wp2_with fail
      go_ret2
      refine ⟨rfl, ⟨some ⟨b, o, none⟩, 0, ?_, ?_⟩, (hf1.weak _).trans ((hset _).mono fun k _ e => .inl e)⟩
      · have : (xs.drop 1).length = 0 := by rw [List.length_drop, HN.out]
        rw [this]
        exact H1.out.set 1 _
      · have h3 : xs.drop 1 = [] := List.drop_of_length_le (by rw [HN.out]; exact Nat.le_refl _)
        rw [h3]
        exact (H2.out.nought).fr (hset _) (fun x e e2 => by rw [e2] at e; exact hne e)
    · have hz1 : ¬ (c : Int) = 1 := by omega
      have hz2 : (1 : Int) ≤ (n : Int) := by omega
      have hz3 : (1 : Int) ≤ (c : Int) := by omega
      go_wp2_with fail
      go_ret2
      refine ⟨rfl, ⟨some ⟨b, o + 1, none⟩, c - 1, ?_, ?_⟩, (hf1.weak _).trans ((hset _).mono fun k _ e => .inl e)⟩
      · have : (xs.drop 1).length = n - 1 := by rw [List.length_drop, HN.out]
        rw [this]
        exact H1.out.set 1 _
      · have : (xs.drop 1).length = n - 1 := by rw [List.length_drop, HN.out]
        rw [this, List.map_drop]
        exact (H2.out.tl (k := 1) (by omega)).fr (hset _) (fun x e e2 => by rw [e2] at e; exact hne e)
  · have h00 : xs = [] := List.eq_nil_of_length_eq_zero (by omega)
    have hat := rat_out w h 0 (.inr (by omega))
    rw [decide_eq_false h0, h00]
    rw [h00] at h
    have H := hide h
    clear h h0 h00 hb
    go_enter Try.func29, Try.ntmps29
    go_wp2_with fail
    refine hat.mono ?_
    rintro e w1 ⟨rfl, rfl⟩
    go_wp2_with fail
    go_ret2
    exact ⟨rfl, H.out, Fr.refl _ _⟩
theorem rpop_nil (w : World) : Calls Try.prog 29 #[.pointer none] w fun e w' => e = .returned (.tuple #[.int .i64 0, .bool false]) ∧ w = w' := by
  go_enter Try.func29, Try.ntmps29
  go_wp2_with fail
  refine (rat_nil w 0).mono ?_
  rintro e w1 ⟨rfl, rfl⟩
  go_wp2_with fail
  go_ret2
  exact ⟨rfl, rfl⟩
set_option maxHeartbeats 1000000 in
theorem rput_in (w : World) (h : RefI w q lg room xs) (i : Nat) (x : Int) (hi : i < xs.length) (hb : xs.length ≤ 65536) :
    Calls Try.prog 32 #[.pointer (some ⟨q, 0, none⟩), .int .i64 (i : Int), .int .i64 x] w fun e w' => e = .returned (.int .i64 0) ∧ RefKeep w q lg room (xs.set i x) w' := by
  have hne := h.ne
  obtain ⟨LA, c, h1, h2⟩ := h
  obtain ⟨y, hy⟩ : ∃ y, xs[i] = y := ⟨_, rfl⟩
  obtain ⟨b, o, rfl, hg, hc, hz⟩ := h2.look (j := i) (u := .int .i64 y) (by rw [List.getElem?_map, List.getElem?_eq_getElem hi, hy]; rfl)
  have H1 := hide h1
  have H2 := hide h2
  have Hi := hide hi
  obtain ⟨n, hn⟩ : ∃ n, xs.length = n := ⟨_, rfl⟩
  rw [hn] at h1 hi hb
  have c1 : w.cell? ⟨q, 1, none⟩ = some (.slice (some ⟨b, o, none⟩) n c) := h1.cell' rfl
  have i0 : (0 : Int) ≤ (i : Int) := by omega
  have i1 : (i : Int) < (n : Int) := by omega
  have HG := hide hg
  clear h1 h2 hn hy hg
  go_enter Try.func32, Try.ntmps32
  go_wp2
  go_ret
  have hset : Fr (fun k => k = b) w (w.setCell ⟨b, o + i, none⟩ (.int .i64 x)) := (Fr.refl _ _).setAt _
  refine ⟨rfl, ⟨some ⟨b, o, none⟩, c, ?_, ?_⟩, hset.mono fun k _ e => .inr (by rw [e, HG.out])⟩
  · rw [List.length_set]
    exact H1.out.fr hset (fun e => hne (by rw [HG.out, e]))
  · rw [List.length_set, List.map_set]
    exact H2.out.put (j := i) (by have := Hi.out; omega) _
theorem rput_out (w : World) (h : RefI w q lg room xs) (i x : Int) (hi : i < 0 ∨ (xs.length : Int) ≤ i) :
    Calls Try.prog 32 #[.pointer (some ⟨q, 0, none⟩), .int .i64 i, .int .i64 x] w fun e w' => e = .returned (.int .i64 2) ∧ w = w' := by
  obtain ⟨LA, c, h1, h2⟩ := h
  obtain ⟨n, hn⟩ : ∃ n, xs.length = n := ⟨_, rfl⟩
  rw [hn] at h1 hi
  have c1 : w.cell? ⟨q, 1, none⟩ = some (.slice LA n c) := h1.cell' rfl
  clear h1 h2 hn
  by_cases h0 : i < 0
  · clear hi
    go_enter Try.func32, Try.ntmps32
    go_wp2
    go_ret
    exact ⟨rfl, rfl⟩
  · have h1 : (n : Int) ≤ i := by omega
    clear hi
    go_enter Try.func32, Try.ntmps32
    go_wp2
    go_ret
    exact ⟨rfl, rfl⟩
theorem rput_nil (w : World) (i x : Int) : Calls Try.prog 32 #[.pointer none, .int .i64 i, .int .i64 x] w fun e w' => e = .returned (.int .i64 1) ∧ w = w' := by
  go_enter Try.func32, Try.ntmps32
  go_wp2
  go_ret
  exact ⟨rfl, rfl⟩
set_option maxHeartbeats 1000000 in
theorem rpush_ok (w : World) (h : RefI w q lg room xs) (A : Option Addr) (m c' : Nat) (l : List Int) (hl : Sl w 1 A m (l.map iv)) (hfit : xs.length + m ≤ room) (hr : room ≤ 65536) :
    Calls Try.prog 27 #[.pointer (some ⟨q, 0, none⟩), .slice A m c'] w fun e w' => e = .returned (.int .i64 0) ∧ RefOut w q lg room (xs ++ l) w' := by
  obtain ⟨j0, hj, hj0, hj1, hj2⟩ := info_parts infoInt
  obtain ⟨LA, c, h1, h2⟩ := h
  have hml : l.length = m := by have := hl.1; simpa using this
  have hS := h2.sl
  have H1 := hide h1
  have HL := hide (And.intro hl hml)
  obtain ⟨n, hn⟩ : ∃ n, xs.length = n := ⟨_, rfl⟩
  have HN := hide hn
  rw [hn] at h1 hfit hS
  have c0 : w.cell? ⟨q, 0, none⟩ = some (.int .i64 (room : Int)) := h1.cell' rfl
  have c1 : w.cell? ⟨q, 1, none⟩ = some (.slice LA n c) := h1.cell' rfl
  have iw : IntKind.i64.wrap ((n : Int) + (m : Int)) = (n : Int) + (m : Int) := IntWalk.i64_in _ (by omega)
  have i1 : ¬ (room : Int) < (n : Int) + (m : Int) := by omega
  have HW := hide h1.lt
  clear h1 h2 hn hml
  go_enter Try.func27, Try.ntmps27
  go_wp2_with fail
  go_quiet (fail)
  have hq0 : Fr (fun _ => False) w (w.drewN nq) := (Fr.refl _ _).drewN nq
  have hN := Ow.nil_ (w.drewN nq) 3 1
  have hS2 := hS.below hq0 (fun _ _ => id)
  go_wp2_with (at_builtin; go_loud (refine wpList_append_ow _ rfl _ _ 22 rfl 3 j0 (.int .i64 0) 1 8 Try.underlying22 hj hj0 hj1 hj2 rfl (by decide) _ _ _ _ _ rfl hN _ _ _ _ rfl hS2 (iv_one _) (by unfold maxLen; omega) (by omega) ?_))
  intro A1 c2 w1 g1 hO1 hf1 hg1
  have hf1' : Fr (fun _ => False) w w1 := hq0.trans (hf1.mono fun k _ e => by cases e)
  have hnew1 : ∀ b, g1 = some b → w.heap.size ≤ b := fun b e => by
    rcases hg1 with rfl | ⟨b', rfl, hb⟩
    · cases e
    · cases e; have := hq0.size; omega
  have hl1 := HL.out.1.below hf1' (fun _ _ => id)
  have c11 : w1.cell? ⟨q, 1, none⟩ = some (.slice LA n c) := (hf1'.cell (p := ⟨q, 1, none⟩) HW.out id).trans c1
  have hO1' : Ow w1 3 1 A1 n c2 (xs.map iv) g1 := by simpa using hO1
  have HF1 := hide (And.intro hf1' hnew1)
  clear hO1 hf1 hg1 hf1' hnew1 hN hS hS2 hq0
  go_wp2_with (at_builtin; go_loud (refine wpList_append_ow _ rfl _ _ 22 rfl 3 j0 (.int .i64 0) 1 8 Try.underlying22 hj hj0 hj1 hj2 rfl (by decide) _ _ _ _ _ rfl hO1' _ _ _ _ rfl hl1 (iv_one _) (by unfold maxLen; omega) (by omega) ?_))
  intro A2 c3 w2 g2 hO2 hf2 hg2
  obtain ⟨hf1, hnew1⟩ := HF1.out
  have hB2 : Bl w2 q tRef #[.int .i64 (room : Int), .slice LA xs.length c] := (H1.out.fr hf1 id).fr hf2 (fun e => by have := hnew1 q e.symm; have := HW.out; omega)
  have hF2 : Fr (fun _ => False) w w2 := hf1.comp hf2 fun i hi e => by have := hnew1 i e.symm; omega
  have hnew2 : ∀ b, g2 = some b → w.heap.size ≤ b := fun b e => by
    rcases hg2 with rfl | ⟨b', rfl, hb⟩
    · exact hnew1 b e
    · cases e; have := hf1.size; omega
  have d1 : w2.cell? ⟨q, 1, none⟩ = some (.slice LA xs.length c) := hB2.cell' rfl
  have z1 := hB2.free 1
  have HB2 := hide hB2
  have HO2 := hide hO2
  have HF2 := hide (And.intro hF2 hnew2)
  clear hO2 hf2 hg2 hf1 hnew1 hB2 hF2 hnew2 hO1' hl1
  go_wp2_with fail
  go_ret
  have hset : Fr (fun x => x = q) w2 (w2.setCell ⟨q, 1, none⟩ (.slice A2 (n + m) c3)) := (Fr.refl _ _).setAt _
  have hlen : (xs ++ l).length = n + m := by rw [List.length_append, HN.out, HL.out.2]
  refine ⟨rfl, g2, ⟨A2, c3, ?_, ?_⟩, (HF2.out.1.weak _).trans (hset.mono fun k _ e => .inl e), ?_⟩
  · rw [hlen]; exact HB2.out.set 1 _
  · rw [hlen, List.map_append]
    exact HO2.out.fr hset (fun x e e2 => by have := HF2.out.2 x e; have := HW.out; omega)
  · cases g2 with
    | none => exact .inr (.inl rfl)
    | some b => exact .inr (.inr ⟨b, rfl, HF2.out.2 b rfl⟩)
theorem rpush_full (w : World) (h : RefI w q lg room xs) (A : Option Addr) (m c' : Nat) (hfit : ¬ xs.length + m ≤ room) (hb : xs.length ≤ 65536) (hm : m ≤ 4611686018427387904) (hr : room ≤ 65536) :
    Calls Try.prog 27 #[.pointer (some ⟨q, 0, none⟩), .slice A m c'] w fun e w' => e = .returned (.int .i64 100) ∧ Fr (fun _ => False) w w' := by
  obtain ⟨LA, c, h1, h2⟩ := h
  obtain ⟨n, hn⟩ : ∃ n, xs.length = n := ⟨_, rfl⟩
  rw [hn] at h1 hfit hb
  have c0 : w.cell? ⟨q, 0, none⟩ = some (.int .i64 (room : Int)) := h1.cell' rfl
  have c1 : w.cell? ⟨q, 1, none⟩ = some (.slice LA n c) := h1.cell' rfl
  have iw : IntKind.i64.wrap ((n : Int) + (m : Int)) = (n : Int) + (m : Int) := IntWalk.i64_in _ (by omega)
  have i1 : (room : Int) < (n : Int) + (m : Int) := by omega
  clear h1 h2 hn hfit
  go_enter Try.func27, Try.ntmps27
  go_wp2_with fail
  go_quiet (fail)
  go_wp2_with fail
  go_ret
  exact ⟨rfl, (Fr.refl _ _).drewN nq⟩
theorem rpush_nil (w : World) (A : Option Addr) (m c' : Nat) : Calls Try.prog 27 #[.pointer none, .slice A m c'] w fun e w' => e = .returned (.int .i64 1) ∧ w = w' := by
  go_enter Try.func27, Try.ntmps27
  go_wp2
  go_ret
  exact ⟨rfl, rfl⟩
end
end Go.Proofs.Yteleakbbppbnnaa
