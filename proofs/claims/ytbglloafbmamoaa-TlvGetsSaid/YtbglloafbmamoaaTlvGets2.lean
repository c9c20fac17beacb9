/-
  TlvGets: the walk.
-/
import Derived.Test.YtbglloafbmamoaaTlvGets1
namespace Go.Proofs.Ytbglloafbmamoaa
open Go.RowKit
set_option linter.unusedVariables false
attribute [local go_sem ↓] Go.wp_at_zero Go.wp_at_succ

set_option maxHeartbeats 4000000 in
set_option maxRecDepth 100000 in
theorem gets_walk (w : World) (xs : List Nat) (A : Option Addr) (n c : Nat) (hn : n ≤ 140737488355000) (hc : n ≤ c) (hc2 : c ≤ 9223372036854775807) (hl : n = xs.length) (h256 : ∀ x ∈ xs, x < 256) (hA : Sl w 1 A n (xs.map bn)) :
    Calls Try.prog 6 #[.slice A n c] w fun e w' => e = .returned (.bool true) ∧ Below w.heap.size w w' := by
  obtain ⟨j0, hj, hj0, hj1, hj2⟩ := info_parts info40
  have Hl := hide hl
  clear hl
  go_enter Try.func6, Try.ntmps6
  go_wp2_with fail
  refine (lent_any _ xs A n c (by omega) hA).mono ?_
  rintro e w1 ⟨A1, c1, g1, rfl, hL1, hg1, hf1⟩
  have hA1 := hA.below hf1 (fun _ _ => id)
  have hcap := (Lent.ow hL1 Hl.out).cap
  have hcc1 := hcap.1
  have hcc2 : c1 ≤ 9223372036854775807 := by have := hcap.2; unfold maxLen at this; exact this
  clear hcap
  go_wp2_with fail
  refine (rget_any _ xs A n c (by omega) hc hc2 Hl.out h256 hA1).mono ?_
  rintro e w2 ⟨qs, Q, kq, cq, gq, rfl, hkq, hqs, hQ, hgq, hFq, hf2⟩
  obtain ⟨pl, hpl⟩ : ∃ pl, (getAll xs).2.1 = pl := ⟨_, rfl⟩
  obtain ⟨er, her⟩ : ∃ er, (getAll xs).2.2 = er := ⟨_, rfl⟩
  rw [hpl, her]
  have Hpl := hide hpl
  have Her := hide her
  have hL2 : Lent w2 A1 n c1 xs g1 := Ow.fr hL1 hf2 (fun _ _ => id)
  have Hkq := hide hkq
  have Hqs := hide hqs
  clear hpl her hkq hqs
  go_wp2_with fail
  refine (tget_any _ xs A1 n c1 (by omega) hcc1 hcc2 Hl.out h256 (hL2.sl Hl.out)).mono ?_
  rintro e w3 ⟨rs, L, k, cl, gl, rfl, hk, hrs, hO, hgl, hF, hf3⟩
  have hL3 : Lent w3 A1 n c1 xs g1 := Ow.fr hL2 hf3 (fun _ _ => id)
  rw [Hpl.out, Her.out]
  have Hk := hide hk
  have Hrs := hide hrs
  clear hk hrs
  go_wp2_with fail
  refine (tget_any _ xs A1 n c1 (by omega) hcc1 hcc2 Hl.out h256 (hL3.sl Hl.out)).mono ?_
  rintro e w4 ⟨ms, M, km, cm, gm, rfl, hkm, hms, hM, hgm, hFm, hf4⟩
  have hL4 : Lent w4 A1 n c1 xs g1 := Ow.fr hL3 hf4 (fun _ _ => id)
  rw [Hpl.out, Her.out]
  have Hms := hide hms
  have el : rs.length = qs.length := by have := congrArg List.length (Hrs.out.trans Hqs.out.symm); simpa using this
  have el2 : ms.length = qs.length := by have := congrArg List.length (Hms.out.trans Hqs.out.symm); simpa using this
  obtain rfl : kq = k := by rw [Hkq.out, Hk.out, el]
  obtain rfl : km = kq := by rw [hkm, Hkq.out, el2]
  have hkb0 : km ≤ 1048576 := by have h1 := getAll_len xs; rw [← Hrs.out, List.length_map] at h1; rw [Hk.out]; exact h1
  have hkb : km ≤ 9223372036854775806 := by omega
  have hnb : xs.length ≤ 9223372036854775806 := by rw [← Hl.out]; omega
  clear hms hkm el el2
  have hQ4 := (hQ.fr hf3 (fun _ _ => id)).fr hf4 (fun _ _ => id)
  have hFq4 := (hFq.quiet hf3).quiet hf4
  have hO4 := hO.fr hf4 (fun _ _ => id)
  have hF4 := hF.quiet hf4
  go_wp2_with fail
  refine (num_any _ _).mono ?_
  rintro e w' ⟨rfl, rfl⟩
  go_wp2_with fail
  refine (num_any _ _).mono ?_
  rintro e w' ⟨rfl, rfl⟩
  go_wp2_with fail
  refine (fsame_q _ xs rs qs L Q km cl cq _ _ gl gq hkb hnb (Hrs.out.trans Hqs.out.symm) hO4 hQ4 hF4 hFq4).mono ?_
  rintro e w5 ⟨rfl, hd5⟩
  have hf5 := fr_of_drewN hd5
  clear hd5
  have hM5 := hM.fr hf5 (fun _ _ => id)
  have hFm5 := hFm.quiet hf5
  go_wp2_with fail
  refine (fsame_q _ xs ms qs M Q km cm cq _ _ gm gq hkb hnb (Hms.out.trans Hqs.out.symm) hM5 (hQ4.fr hf5 (fun _ _ => id)) hFm5 (hFq4.quiet hf5)).mono ?_
  rintro e w6 ⟨rfl, hd6⟩
  have hf6 := fr_of_drewN hd6
  clear hd6
  have hL6 : Lent w6 A1 n c1 xs g1 := (Ow.fr (Ow.fr hL4 hf5 (fun _ _ => id)) hf6 (fun _ _ => id))
  have hA6 := (((((hA1.below hf2 (fun _ _ => id)).below hf3 (fun _ _ => id)).below hf4 (fun _ _ => id)).below hf5 (fun _ _ => id)).below hf6 (fun _ _ => id))
  go_wp2_with fail
  refine (kept_q _ xs A1 A n c1 c g1 (by omega) Hl.out hL6 hA6).mono ?_
  rintro e w7 ⟨rfl, hd7⟩
  have hf7 := fr_of_drewN hd7
  clear hd7
  have hL7 : Lent w7 A1 n c1 xs g1 := Ow.fr hL6 hf7 (fun _ _ => id)
  go_wp2_with fail
  refine (over_any _ xs A1 n c1 (some g1) (Lent.ow hL7 Hl.out) (by omega)).mono ?_
  rintro e w8 ⟨rfl, hf8⟩
  have hg1l := hL1.lt g1 rfl
  have hf27 : Fr (fun _ => False) w2 w7 := (((hf3.trans hf4).trans hf5).trans hf6).trans hf7
  have hf37 : Fr (fun _ => False) w3 w7 := ((hf4.trans hf5).trans hf6).trans hf7
  have hf47 : Fr (fun _ => False) w4 w7 := (hf5.trans hf6).trans hf7
  have s1 := hf1.size
  have s2 := hf2.size
  have s3 := hf3.size
  have s4 := hf4.size
  have s7 := hf47.size
  have s8 := hf8.size
  have hf38 : Fr (fun x => x = g1) w3 w8 := (hf37.weak _).comp hf8 (fun x _ e => by cases e; rfl)
  have hO8 := hO.fr hf38 (fun b e e' => by have := hgl b e; omega)
  have hF8 : FOs w8 xs w2.heap.size rs := hF.fr hf38 (fun b e _ e' => by omega)
  have hgl3 : ∀ b, gl = some b → b < w3.heap.size := hO.lt
  have hFl3 : ∀ r ∈ rs, ∀ b, r.g = some b → b < w3.heap.size := fun r hr => (hF.own r hr).lt
  have hrn : ∀ r ∈ rs, r.n ≤ 140737488355000 := fun r hr => by
    rw [(hF.own r hr).len, GF.val, List.length_take, List.length_drop]; have := Hl.out; omega
  go_wp2_with fail
  go_loopw [13] (fun i wr => ∃ (j : Nat) (ys : List Value), j ≤ km ∧ i = .int .i64 j ∧ Ow wr 40 2 L km cl ys gl ∧ Hid (∀ i (hi : i < rs.length), ys[i * 2 + 1]? = some (.slice rs[i].A rs[i].n rs[i].c)) ∧
      Hid (∀ r ∈ rs.drop j, Ow wr 5 1 r.A r.n r.c ((r.F.val xs).map bn) r.g) ∧ Fr (fun x => w2.heap.size ≤ x ∧ x < w3.heap.size) w8 wr) (fun i _ => km - (intOf i).toNat)
  case atStart =>
    refine ⟨0, _, by omega, rfl, hO8, ?_, fun r hr => hF8.own r (by simpa using hr), Fr.refl _ _⟩
    intro i hi
    rw [rows_get FO.tCells 2 FO.tCells_len rs i 1 hi (by omega)]; rfl
  case round =>
    obtain ⟨j, ys, hjk, rfl, hY, hys, hown, hf⟩ := hrel
    by_cases hlt : j < km
    · have hjr : j < rs.length := by rw [← Hk.out]; exact hlt
      have hy1 := hys.out j hjr
      have hyl : j * 2 < ys.length := by rw [hY.1]; omega
      obtain ⟨b, o, rfl, hgb, c1', -⟩ := hY.look hy1
      obtain ⟨b2, o2, hA2, hgb2, c0', f0'⟩ := hY.look (List.getElem?_eq_getElem hyl)
      cases hA2
      obtain ⟨u0, hu0⟩ : ∃ u, ys[j * 2] = u := ⟨_, rfl⟩
      rw [hu0] at c0'
      have hmem : rs[j] ∈ rs := List.getElem_mem hjr
      have hdr : rs.drop j = rs[j] :: rs.drop (j + 1) := List.drop_eq_getElem_cons hjr
      have ho := hown.out rs[j] (by rw [hdr]; exact List.mem_cons_self)
      have hord : ∀ r' ∈ rs.drop (j + 1), ∀ x y, rs[j].g = some x → r'.g = some y → x < y := by
        have h1 : (rs.drop j).Pairwise fun a b => ∀ x y, a.g = some x → b.g = some y → x < y := hF.ord.sublist (List.drop_sublist _ _)
        rw [hdr, List.pairwise_cons] at h1
        exact h1.1
      have hnew := hF.new _ hmem
      have hlt3 := hFl3 _ hmem
      have hrn1 := hrn _ hmem
      have hown' : Hid (∀ r ∈ rs.drop (j + 1), Ow wr 5 1 r.A r.n r.c ((r.F.val xs).map bn) r.g) := fun r hr => hown.out r (by rw [hdr]; exact List.mem_cons_of_mem _ hr)
      obtain ⟨r, hr⟩ : ∃ r, rs[j] = r := ⟨_, rfl⟩
      rw [hr] at c1' ho hord hnew hlt3 hrn1
      have HY := hide hY
      rw [← Nat.add_assoc] at c1'
      have Hord := hide hord
      have Hnew := hide hnew
      have Hlt3 := hide hlt3
      subst hgb
      have hgbb : b ∉ [] := by simp
      clear hyl hy1 hu0 hmem hdr hr hown hgb2 hjr hY hord hnew hlt3 hgbb
      have i0 : (0 : Int) ≤ (j : Int) := by omega
      have i1 : (j : Int) < (km : Int) := by omega
      go_wp2_with fail
      refine (over_any _ (r.F.val xs) r.A r.n r.c r.g ho (by omega)).mono ?_
      rintro e w9 ⟨rfl, hf9⟩
      have hne : ∀ x, r.g = some x → x ≠ b := fun x e1 e2 => by
        subst e2
        have h2 := HY.out
        rw [e1] at ho
        exact Ow.ne h2 ho (by decide) rfl
      have hY9 := HY.out.fr hf9 (fun x e e' => by cases e; exact hne _ e'.symm rfl)
      have c09 := (hf9.cell (World.block_lt_of_cell? wr _ c0') (fun e' => hne _ e'.symm rfl)).trans c0'
      have f09 := (hf9.frozen (p := ⟨b, o + j * 2, none⟩) (World.block_lt_of_cell? wr _ c0') (fun e' => hne _ e'.symm rfl)).trans f0'
      go_wp2_with fail
      have hf9' : Fr (fun x => some x = r.g ∨ x = b) wr (w9.setCell ⟨b, o + j * 2, none⟩ (.int .i64 (-1))) := Fr.setIn (S := fun x => some x = r.g ∨ x = b) (hf9.mono fun _ _ e => Or.inl e) (Or.inl (Or.inr rfl)) _
      refine ⟨⟨j + 1, _, by omega, by go_num, Ow.put hY9 (j := j * 2) (by omega) (.int .i64 (-1)), ?_, ?_, ?_⟩, by simp [intOf]; omega⟩
      · intro i hi
        rw [List.getElem?_set_ne (by omega)]
        exact hys.out i hi
      · intro r' hr'
        have h1 := hown'.out r' hr'
        refine h1.fr hf9' fun x e1 e2 => ?_
        rcases e2 with e2 | e2
        · have := Hord.out r' hr' x x e2.symm e1; omega
        · subst e2
          rw [e1] at h1
          exact Ow.ne HY.out h1 (by decide) rfl
      · refine hf.comp hf9' fun x _ e => ?_
        rcases e with e | e
        · exact ⟨Hnew.out x e.symm, Hlt3.out x e.symm⟩
        · subst e; exact ⟨hgl x rfl, hgl3 x rfl⟩
    · obtain rfl : j = km := by omega
      have HY := hide hY
      have s9 := hf.size
      clear hY hlt
      go_wp2_with fail
      go_loopw [7, 14] (fun u i wl => ∃ (t : Nat) (B : Option Addr) (cb : Nat) (zs : List Value) (gb : Option Nat), t ≤ 20 ∧ i = .int .i64 t ∧ u = .slice B (j + t) cb ∧ Ow wl 40 2 B (j + t) cb zs gb ∧ (∀ b, gb = some b → (w2.heap.size ≤ b ∧ b < w3.heap.size) ∨ w8.heap.size ≤ b) ∧ Fr (fun x => w2.heap.size ≤ x ∧ x < w3.heap.size) w8 wl) (fun _ i _ => 20 - (intOf i).toNat)
      case atStart => exact ⟨0, L, cl, ys, gl, by omega, rfl, rfl, HY.out, (fun b e => .inl ⟨hgl b e, hgl3 b e⟩), hf⟩
      case round =>
        obtain ⟨t, B, cb, zs, gb, ht, rfl, rfl, hB, hgb, hfl⟩ := hrel
        by_cases hlt : t < 20
        · go_wp2_with (first | (at_builtin; refine wpList_append_ow _ rfl _ _ 36 rfl 40 j0 _ 2 32 Try.underlying36 hj hj0 hj1 hj2 rfl (by decide) _ _ _ _ _ rfl (hB.fr ((Fr.refl (fun _ => False) _).alloc _) (fun _ _ => id)) _ _ _ [.int .i64 79, .slice none 0 0] rfl (Sl.row _ _ _ 2 1 rfl) (by intro u hu; simp at hu; rcases hu with rfl | rfl <;> rfl) (by unfold maxLen; omega) (by omega) ?_) | go_in)
          intro B3 cb3 w9 g9 hB9 hf9 hg9
          go_wp2_with fail
          refine ⟨⟨t + 1, B3, cb3, _, g9, by omega, by go_num, rfl, hB9, ?_, ?_⟩, by simp [intOf]; omega⟩
          · intro b e
            rcases hg9 with h | ⟨b2, h, hb2⟩
            · exact hgb b (h ▸ e)
            · rw [h] at e; cases e
              have := hfl.size
              right; first | omega | (simp at hb2; omega)
          · refine hfl.comp (((Fr.refl (fun x => some x = gb) _).alloc _).comp hf9 (fun _ _ e => e)) fun x hx e => ?_
            rcases hgb x e.symm with h | h
            · exact h
            · omega
        · have hf2l : Fr (fun x => x = g1 ∨ w2.heap.size ≤ x ∧ x < w3.heap.size) w2 wr := (((hf27.weak _).comp hf8 (fun x _ e => by cases e; exact .inl rfl)).comp hfl (fun x _ e => .inr e))
          have hf4l : Fr (fun x => x = g1 ∨ w2.heap.size ≤ x ∧ x < w3.heap.size) w4 wr := (((hf47.weak _).comp hf8 (fun x _ e => by cases e; exact .inl rfl)).comp hfl (fun x _ e => .inr e))
          have hQl := hQ.fr hf2l (fun b e e' => by have := hgq b e; have := hQ.lt b e; omega)
          have hFql := hFq.fr hf2l (fun b h1 h2 e' => by omega)
          have hMl := hM.fr hf4l (fun b e e' => by have := hgm b e; omega)
          have hFml := hFm.fr hf4l (fun b h1 h2 e' => by omega)
          obtain rfl : t = 20 := by omega
          clear hlt
          go_wp2_with fail
          refine (fsame_q _ xs ms qs M Q j cm cq _ _ gm gq hkb hnb (Hms.out.trans Hqs.out.symm) hMl hQl hFml hFql).mono ?_
          rintro e w9 ⟨rfl, hd9⟩
          have hf9 := fr_of_drewN hd9
          go_wp2_with fail
          go_ret
          have hall : Fr (fun x => w.heap.size ≤ x) w w9 := ((((hf1.trans hf2).weak _).comp hf2l fun x _ e => by rcases e with e | e <;> omega)).comp hf9 (fun _ _ e => e.elim)
          exact ⟨rfl, hall.toBelow (Nat.le_refl _) (fun k hk => by omega)⟩
end Go.Proofs.Ytbglloafbmamoaa
