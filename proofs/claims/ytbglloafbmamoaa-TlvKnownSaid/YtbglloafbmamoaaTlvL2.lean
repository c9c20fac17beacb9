/-
  lentAll, keptAll; List of both.
-/
import Derived.Test.YtbglloafbmamoaaTlvL1
namespace Go.Proofs.Ytbglloafbmamoaa
open Go.RowKit
set_option linter.unusedVariables false
attribute [local go_sem ↓] Go.wp_at_zero Go.wp_at_succ

theorem Ow.some_ {w : World} {e : TypeId} {s n c : Nat} {A : Option Addr} {xs : List Value} {g : Option Nat} (h : Ow w e s A n c xs g) (hn : 0 < n) : ∃ b, g = some b := by
  rcases h.2 with ⟨_, h0, _⟩ | ⟨b, o, cur, _, h1, _⟩
  · omega
  · exact ⟨b, h1⟩
theorem BSs.lent {w : World} {B : Nat} {rs : List BS} (h : BSs w 5 B rs) {r : BS} (hr : r ∈ rs) : ∃ g, r.g = some g ∧ Lent w r.A r.n r.c r.xs g := by
  have h1 := h.own r hr
  obtain ⟨g, e⟩ := h1.some_ (by omega)
  exact ⟨g, e, by rw [e] at h1; exact h1⟩
theorem map_get {α β : Type} {f : α → β} {l : List α} {m : List β} (h : l.map f = m) {i : Nat} (hi : i < l.length) : some (f l[i]) = m[i]? := by rw [← h]; simp [hi]
/-- Behind lentAll. -/
def LentAll (w0 w : World) (xss : List (List Nat)) (L : Option Addr) (n c : Nat) (rs : List BS) (g : Option Nat) : Prop :=
  rs.map (·.xs) = xss ++ [[1], [2]] ∧ Ow w 23 1 L (n + 2) c (rs.map BS.cell) g ∧ (∀ b, g = some b → w0.heap.size ≤ b) ∧ BSs w 5 w0.heap.size rs

set_option maxHeartbeats 4000000 in
set_option maxRecDepth 4000 in
theorem lentAll_any (w : World) (xss : List (List Nat)) (A : Option Addr) (n c B : Nat) (hn : n ≤ 1099511627776) (hM : ∀ x ∈ xss, x.length ≤ 140737488355000) (hA : LAt w B A n xss) :
    Calls Try.prog 31 #[.slice A n c] w fun e w' => ∃ L c rs g, e = .returned (.slice L n c) ∧ LentAll w w' xss L n c rs g ∧ Fr (fun _ => False) w w' := by
  obtain ⟨bi, bj, bj0, bj1, bj2⟩ := info_parts infoB
  have Hn := hide hA.1
  have HA := hide hA
  clear hA
  go_enter Try.func31, Try.ntmps31
  go_wp2_with fail
  go_loopw [3, 4] (fun u i wr => ∃ (k : Nat) (rs : List BS) (L : Option Addr) (cl : Nat) (g : Option Nat), k ≤ n ∧ i = .int .i64 k ∧ u = .slice L k cl ∧ Hid (rs.map (·.xs) = xss.take k) ∧ Ow wr 23 1 L k cl (rs.map BS.cell) g ∧ (∀ b, g = some b → w.heap.size ≤ b) ∧ BSs wr 5 w.heap.size rs ∧ Fr (fun _ => False) w wr) (fun _ i _ => n - (intOf i).toNat)
  case atStart => exact ⟨0, [], none, 0, none, by omega, rfl, rfl, rfl, Ow.nil_ _ _ _, (fun b h => by cases h), BSs.nil_ _ _ _, Fr.refl _ _⟩
  case round =>
    obtain ⟨k, rs, L, cl, g, hk, rfl, rfl, hx, hO, hg, hR, hf⟩ := hrel
    have hs0 := hf.size
    by_cases hlt : k < n
    · have hkl : k < xss.length := by rw [← Hn.out]; exact hlt
      obtain ⟨b, o, rfl, _, hc⟩ := (HA.out.quiet hf).2 (by omega)
      obtain ⟨V, m, d, c0, _, _, hV, _⟩ := hc k hkl
      have hm : m ≤ 140737488355000 := by rw [hV.len]; exact hM _ (List.getElem_mem hkl)
      have Hx1 : Hid ((rs.map (·.xs)) ++ [xss[k]] = xss.take (k + 1)) := by show _ = _; rw [hx.out, List.take_succ_eq_append_getElem hkl]
      obtain ⟨ys, hy⟩ : ∃ ys, xss[k] = ys := ⟨_, rfl⟩
      rw [hy] at hV Hx1
      clear hc hy hkl
      have i0 : (0 : Int) ≤ (k : Int) := by omega
      have i1 : (k : Int) < (n : Int) := by omega
      go_wp2_with fail
      refine (lent_any _ ys V m d (by omega) hV).mono ?_
      rintro e w2 ⟨A2, c2, g2, rfl, hL2, hg2, hf2⟩
      have hO2 := hO.fr hf2 (fun _ _ => id)
      go_wp2_with (first | (at_builtin; refine wpList_append_ow _ rfl _ _ 58 rfl 23 bi (.slice none 0 0) 1 24 Try.underlying58 bj bj0 bj1 bj2 rfl (by decide) _ _ _ _ _ rfl (hO2.fr ((Fr.refl (fun _ => False) _).alloc _) (fun _ _ => id)) _ _ _ [.slice A2 m c2] rfl (Sl.one _ _ _) (by intro u hu; simp at hu; subst hu; rfl) (by unfold maxLen; omega) (by omega) ?_) | go_in)
      intro L3 cl3 w3 g3 hO3 hf3 hg3
      go_wp2_with fail
      have hf23 : Fr (fun x => some x = g) w2 w3 := ((Fr.refl _ _).alloc _).comp hf3 (fun _ _ e => e)
      have hs2 := hf2.size
      refine ⟨⟨k + 1, rs ++ [⟨ys, A2, m, c2, some g2⟩], L3, cl3, g3, by omega, by go_num, rfl, ?_, ?_, ?_, ?_, ?_⟩, by simp [intOf]; omega⟩
      · show _ = _
        rw [← Hx1.out, List.map_append]; rfl
      · rw [List.map_append]; exact hO3
      · intro x e
        rcases hg3 with h | ⟨b2, h, hb2⟩
        · exact hg x (h ▸ e)
        · rw [h] at e; cases e
          first | omega | (simp at hb2; omega)
      · have hL3 : Lent w3 A2 m c2 ys g2 := Ow.fr hL2 hf23 fun x e1 e2 => by
          cases e1
          rw [← e2] at hO2
          exact Ow.ne hO2 hL2 (by decide) rfl
        exact BSs.add (S := fun x => some x = g) hR ((hf2.weak _).comp hf23 (fun _ _ e => e)) (hR.apart hO (by decide)) (r := ⟨ys, A2, m, c2, some g2⟩) hL3 (fun x e => by cases e; exact hg2) hs0
      · exact (hf.trans hf2).comp hf23 fun x hx e => by have := hg x e.symm; omega
    · obtain rfl : k = n := by omega
      have Hx1 : Hid (rs.map (·.xs) = xss) := by show _ = _; rw [hx.out, List.take_of_length_le (by rw [← Hn.out]; exact Nat.le_refl _)]
      clear hlt hx
      go_wp2_with fail
      refine (lent_any _ [1] _ 1 1 (by omega) (Sl.one _ _ _)).mono ?_
      rintro e w2 ⟨A2, c2, g2, rfl, hL2, hg2, hf2⟩
      have hf02 : Fr (fun _ => False) wr w2 := ((Fr.refl _ _).alloc _).trans hf2
      go_wp2_with fail
      refine (lent_any _ [2] _ 1 1 (by omega) (Sl.one _ _ _)).mono ?_
      rintro e w3 ⟨A3, c3, g3, rfl, hL3, hg3, hf3⟩
      have hf23 : Fr (fun _ => False) w2 w3 := ((Fr.refl _ _).alloc _).trans hf3
      have hO3 := (hO.fr hf02 (fun _ _ => id)).fr hf23 (fun _ _ => id)
      have hL23 : Lent w3 A2 1 c2 [1] g2 := Ow.fr hL2 hf23 (fun _ _ => id)
      go_wp2_with (first | (at_builtin; refine wpList_append_ow _ rfl _ _ 58 rfl 23 bi (.slice none 0 0) 1 24 Try.underlying58 bj bj0 bj1 bj2 rfl (by decide) _ _ _ _ _ rfl (hO3.fr ((Fr.refl (fun _ => False) _).alloc _) (fun _ _ => id)) _ _ _ [.slice A2 1 c2, .slice A3 1 c3] rfl (Sl.row _ _ _ 1 2 rfl) (by intro u hu; simp at hu; rcases hu with rfl | rfl <;> rfl) (by unfold maxLen; omega) (by omega) ?_) | go_in)
      intro L4 cl4 w4 g4 hO4 hf4 hg4
      have hcap := hO4.cap
      have k1 := hcap.1
      have k2 : cl4 ≤ 9223372036854775807 := by have := hcap.2; unfold maxLen at this; exact this
      have s2 := hf02.size
      have s3 := hf23.size
      have HO4 := hide hO4
      clear hO4 hcap
      go_wp2_with fail
      all_goals
        go_ret
        have hf34 : Fr (fun x => some x = g) w3 w4 := ((Fr.refl _ _).alloc _).comp hf4 (fun _ _ e => e)
        have h1 : BSs w2 5 w.heap.size (rs ++ [⟨[1], A2, 1, c2, some g2⟩]) := BSs.add (S := fun _ => False) hR hf02 (fun _ _ _ _ => id) (r := ⟨[1], A2, 1, c2, some g2⟩) hL2 (fun x e => by cases e; simp at hg2; omega) hs0
        have h2 : BSs w3 5 w.heap.size ((rs ++ [⟨[1], A2, 1, c2, some g2⟩]) ++ [⟨[2], A3, 1, c3, some g3⟩]) := BSs.add (S := fun _ => False) h1 hf23 (fun _ _ _ _ => id) (r := ⟨[2], A3, 1, c3, some g3⟩) hL3 (fun x e => by cases e; simp at hg3; omega) (by omega)
        have h3 := h2.apart hO3 (by decide)
        refine ⟨_, _, (rs ++ [⟨[1], A2, 1, c2, some g2⟩]) ++ [⟨[2], A3, 1, c3, some g3⟩], g4, rfl, ⟨?_, ?_, ?_, ?_⟩, ?_⟩
        · rw [List.map_append, List.map_append, Hx1.out]; simp
        · rw [List.map_append, List.map_append, List.append_assoc]; exact HO4.out
        · intro x e
          rcases hg4 with h | ⟨b2, h, hb2⟩
          · exact hg x (h ▸ e)
          · rw [h] at e; cases e
            first | omega | (simp at hb2; omega)
        · exact ⟨fun r hr => (h2.own r hr).fr hf34 (h3 r hr), h2.new, h2.ord⟩
        · exact ((hf.trans hf02).trans hf23).comp hf34 fun x hx e => by have := hg x e.symm; omega

set_option maxHeartbeats 4000000 in
set_option maxRecDepth 4000 in
theorem keptAll_any (w : World) (xss : List (List Nat)) (A L : Option Addr) (n c cl B : Nat) (w0 : World) (rs : List BS) (g : Option Nat) (hn : n ≤ 1099511627776) (hM : ∀ x ∈ xss, x.length ≤ 140737488355000) (hL : LentAll w0 w xss L n cl rs g) (hA : LAt w B A n xss) :
    Calls Try.prog 34 #[.slice L n cl, .slice A n c] w fun e w' => e = .returned (.bool true) ∧ Fr (fun _ => False) w w' := by
  have Hn := hide hA.1
  have HA := hide hA
  clear hA
  obtain ⟨hx, hO, _, hR⟩ := hL
  have hcap := hO.cap
  have k1 := hcap.1
  have k2 : cl ≤ 9223372036854775807 := by have := hcap.2; unfold maxLen at this; exact this
  have hlen : rs.length = n + 2 := by have := congrArg List.length hx; simp at this; rw [this, ← Hn.out]
  have Hlen := hide hlen
  have hxs : Hid (∀ i (hi : i < rs.length) (hi' : i < xss.length), rs[i].xs = xss[i]) := fun i hi hi' => by
    have := map_get hx hi
    rw [List.getElem?_append_left hi', List.getElem?_eq_getElem hi'] at this
    exact Option.some.inj this
  have hx1 : Hid (∀ (hi : n < rs.length), rs[n].xs = [1]) := fun hi => by
    have := map_get hx hi
    rw [List.getElem?_append_right (by rw [← Hn.out]; exact Nat.le_refl _), ← Hn.out, Nat.sub_self] at this
    exact Option.some.inj this
  have hx2 : Hid (∀ (hi : n + 1 < rs.length), rs[n + 1].xs = [2]) := fun hi => by
    have := map_get hx hi
    rw [List.getElem?_append_right (by rw [← Hn.out]; omega), ← Hn.out, Nat.add_sub_cancel_left] at this
    exact Option.some.inj this
  obtain ⟨bL, oL, rfl, rfl, hh1, hh2⟩ := hO.look (u := .slice rs[0].A rs[0].n rs[0].c) (j := 0) (by simp [hlen, BS.cell])
  clear hh1 hh2
  clear hcap hlen hx
  go_enter Try.func34, Try.ntmps34
  go_wp2_with fail
  go_loopw [5] (fun i wr => ∃ (k : Nat), k ≤ n ∧ i = .int .i64 k ∧ Fr (fun _ => False) w wr) (fun i _ => n - (intOf i).toNat)
  case atStart => exact ⟨0, Nat.zero_le _, rfl, Fr.refl _ _⟩
  case round =>
    obtain ⟨k, hk, rfl, hf⟩ := hrel
    have hO' := hO.fr hf (fun _ _ => id)
    have hR' := hR.quiet hf
    by_cases hlt : k < n
    · have hkr : k < rs.length := by rw [Hlen.out]; omega
      have hkl : k < xss.length := by rw [← Hn.out]; exact hlt
      obtain ⟨b, o, rfl, _, hc⟩ := (HA.out.quiet hf).2 (by omega)
      obtain ⟨V, m, d, c0, _, _, hV, _⟩ := hc k hkl
      have hy := cells_get hkr []
      rw [List.append_nil] at hy
      obtain ⟨b1, o1, e1, -, c1, -⟩ := hO'.look hy
      cases e1
      obtain ⟨g1, e1, hL1⟩ := hR'.lent (List.getElem_mem hkr)
      have hxk := hxs.out k hkr hkl
      have hm : m ≤ 140737488355000 := by rw [hV.len]; exact hM _ (List.getElem_mem hkl)
      obtain ⟨r, hr⟩ : ∃ r, rs[k] = r := ⟨_, rfl⟩
      rw [hr] at c1 hL1 hxk
      rw [← hxk] at hV
      have hl1 := (Ow.len hL1)
      rw [List.length_append, marks_len] at hl1
      obtain ⟨rxs, rA, rn, rc, rg⟩ := r
      simp only at hl1 hV c1 hL1
      obtain rfl : rn = m := by have := hV.len; omega
      have Hm := hide hV.len
      clear hc hy hkr hkl hxk hr hl1 e1
      have i0 : (0 : Int) ≤ (k : Int) := by omega
      have i1 : (k : Int) < (n : Int) := by omega
      go_wp2_with fail
      go_quiet ((go_at_call 23; exact quiet_ex (kept_q _ rxs rA V rn rc d g1 (by omega) Hm.out (by exact hL1) (by exact hV))))
      go_wp2_with fail
      exact ⟨⟨k + 1, by omega, by go_num, hf.drewN _⟩, by simp [intOf]; omega⟩
    · obtain rfl : k = n := by omega
      have hk0 : k < rs.length := by rw [Hlen.out]; omega
      have hk1 : k + 1 < rs.length := by rw [Hlen.out]; omega
      have y0 := cells_get hk0 []
      have y1 := cells_get hk1 []
      rw [List.append_nil] at y0 y1
      obtain ⟨b1, o1, e1, -, c1, -⟩ := hO'.look y0
      cases e1
      obtain ⟨b1, o1, e1, -, c2, -⟩ := hO'.look y1
      cases e1
      obtain ⟨g1, -, hL1⟩ := hR'.lent (List.getElem_mem hk0)
      obtain ⟨g2, -, hL2⟩ := hR'.lent (List.getElem_mem hk1)
      rw [hx1.out hk0] at hL1
      rw [hx2.out hk1] at hL2
      obtain ⟨r1, hr1⟩ : ∃ r, rs[k] = r := ⟨_, rfl⟩
      obtain ⟨r2, hr2⟩ : ∃ r, rs[k + 1] = r := ⟨_, rfl⟩
      rw [hr1] at hL1 c1
      rw [hr2] at hL2 c2
      have n1 : r1.n = 1 := by have := Ow.len hL1; rw [List.length_append, marks_len] at this; simpa using this
      have n2 : r2.n = 1 := by have := Ow.len hL2; rw [List.length_append, marks_len] at this; simpa using this
      rw [n1] at hL1 c1
      rw [n2] at hL2 c2
      have w1 : IntKind.i64.wrap ((k : Int) + 2) = ((k + 2 : Nat) : Int) := by rw [IntWalk.i64_in _ (by omega)]; omega
      have w2 : IntKind.i64.wrap ((k : Int) + 1) = ((k + 1 : Nat) : Int) := by rw [IntWalk.i64_in _ (by omega)]; omega
      clear y0 y1 hk0 hk1 hr1 hr2 hlt
      go_wp2_with fail
      refine (kept_q _ [1] r1.A _ 1 r1.c 1 g1 (by omega) rfl (Ow.fr hL1 ((Fr.refl (fun _ => False) _).alloc _) (fun _ _ => id)) (Sl.one _ _ _)).mono ?_
      rintro e w3 ⟨rfl, hd3⟩
      have hf3 : Fr (fun _ => False) wr w3 := ((Fr.refl (fun _ => False) _).alloc _).trans (fr_of_drewN hd3)
      have c23 := (hf3.cell (World.block_lt_of_cell? wr _ c2) id).trans c2
      have hL23 : Lent w3 r2.A 1 r2.c [2] g2 := Ow.fr hL2 hf3 (fun _ _ => id)
      clear hd3
      go_wp2_with fail
      refine (kept_q _ [2] r2.A _ 1 r2.c 1 g2 (by omega) rfl (Ow.fr hL23 ((Fr.refl (fun _ => False) _).alloc _) (fun _ _ => id)) (Sl.one _ _ _)).mono ?_
      rintro e w4 ⟨rfl, hd4⟩
      have hf4 : Fr (fun _ => False) w3 w4 := ((Fr.refl (fun _ => False) _).alloc _).trans (fr_of_drewN hd4)
      go_wp2_with fail
      go_ret
      exact ⟨rfl, (hf.trans hf3).trans hf4⟩
end Go.Proofs.Ytbglloafbmamoaa
