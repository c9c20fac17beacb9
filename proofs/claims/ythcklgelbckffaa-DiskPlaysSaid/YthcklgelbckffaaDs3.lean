/-
  DiskPlays: one step of both.
-/
import Derived.Test.YthcklgelbckffaaDs2
namespace Go.Proofs.Ythcklgelbckffaa
open Go.RowKit
set_option linter.unusedVariables false
set_option linter.unusedSimpArgs false
theorem Ow.addr {w : World} {e : TypeId} {size n c : Nat} {A : Option Addr} {xs : List Value} {g : Nat} (h : Ow w e size A n c xs (some g)) : ∃ o, A = some ⟨g, o, none⟩ := by
  rcases h.2 with ⟨_, _, _, h⟩ | ⟨b, o, cur, hA, hg, _⟩
  · cases h
  · cases hg; exact ⟨o, hA⟩
theorem TOut.of {W w w1 w' : World} {p q n : Nat} {F G F1 G1 : Nat → Prop} {s1 : DS} (h : Two W w' p q n F1 G1 s1 s1) (hf : Fr (fun k => F k ∨ G k) w w') (hb : ∀ k, k < w.heap.size → (F1 k ∨ G1 k) → (F k ∨ G k)) : TOut W w p q n F G s1 w' := ⟨F1, G1, h, hf, hb⟩
/-- What a step leaves. -/
def PlayOut (W w : World) (p q n : Nat) (F G : Nat → Prop) (s : DS) (w' : World) : Prop := ∃ s1, TOut W w p q n F G s1 w' ∧ s1.wr + s1.sy ≤ s.wr + s.sy + 1
theorem writeS_ct (s : DS) (n : Nat) (z : Int) (d : List Nat) : (s.writeS n z d).wr + (s.writeS n z d).sy ≤ s.wr + s.sy + 1 := by
  unfold DS.writeS; split
  · show s.wr + 1 + s.sy ≤ _; omega
  · omega
theorem syncS_ct (s : DS) : s.syncS.wr + s.syncS.sy ≤ s.wr + s.sy + 1 := by
  unfold DS.syncS; split
  · show s.wr + (s.sy + 1) ≤ _; omega
  · omega
set_option maxHeartbeats 16000000 in
set_option maxRecDepth 100000 in
theorem plays_any {W w : World} {p q n : Nat} {F G : Nat → Prop} {s : DS} (h : Two W w p q n F G s s) (op : OpD) (hO : OpIs W op) (hs1 : (s.row.length + 1) * 72 ≤ 140737488355328) (hs2 : s.wr < 8000000000000000000) (hs3 : s.sy < 8000000000000000000) :
    Calls Try.prog 29 #[.pointer (some ⟨p, 0, none⟩), .pointer (some ⟨q, 0, none⟩), .agg op.cells.toArray] w fun e w' => e = .returned (.bool true) ∧ PlayOut W w p q n F G s w' := by
  have hcr := fun (wx : World) (hf : Fr (fun _ => False) w wx) => crashes_any (h.step hf) op hO
  obtain ⟨who, kd, nn, DA, dn, dc, dd, KA, kn, kc, kk, tn, ct⟩ := op
  have Hcr := hide hcr
  have HO := hide hO
  have H0 := hide h
  have hn2' : nn ≤ 9223372036854775807 := hO.n2
  have hd3 : dn ≤ 140737488351232 := hO.d3
  have Hdl : Hid (dn = dd.length) := hO.d1
  obtain ⟨bx, hbx⟩ : ∃ bx, w.heap.size = bx := ⟨_, rfl⟩
  have hxF : ¬ F bx := fun e => by have := h.dn.di.lt e; omega
  have hxG : ¬ G bx := fun e => by have := h.rn.di.lt e; omega
  have HxF := hide hxF
  have HxG := hide hxG
  have hWw := h.dn.fr.size
  have Hs1 := hide hs1
  have Hs2 := hide hs2
  have Hs3 := hide hs3
  clear hcr hO h hxF hxG hs1 hs2 hs3
  by_cases k1 : kd = 1
  · subst k1
    show Calls Try.prog 29 #[.pointer (some ⟨p, 0, none⟩), .pointer (some ⟨q, 0, none⟩), .agg #[.int .i64 who, .int .i64 1, .int .i64 nn, .slice DA dn dc, .slice KA kn kc, .int .i64 tn, .int .i64 ct]] w fun e w' => e = .returned (.bool true) ∧ PlayOut W w p q n F G s w'
    go_enter Try.func29, Try.ntmps29
    go_wp2_with fail
    obtain ⟨wB, HwB⟩ : ∃ wB, Hid (wB = w.alloc (.cells #[.int .i64 who, .int .i64 1, .int .i64 nn, .slice DA dn dc, .slice KA kn kc, .int .i64 tn, .int .i64 ct] 61)) := ⟨_, rfl⟩
    have HB : Hid (Bl wB bx 61 #[.int .i64 who, .int .i64 1, .int .i64 nn, .slice DA dn dc, .slice KA kn kc, .int .i64 tn, .int .i64 ct]) := by rw [HwB.out, ← hbx]; exact Bl.new _ _ _
    have HfB : Hid (Fr (fun _ => False) w wB) := by rw [HwB.out]; exact (Fr.refl _ _).alloc _
    have H1 := hide (H0.out.step HfB.out)
    rw [← HwB.out]
    first | rw [hbx] | skip
    clear HwB
    refine (lent_any wB dd DA dn dc (by omega) (HO.out.d4.below H1.out.dn.fr (fun _ _ => id))).mono ?_
    rintro e w1 ⟨LA, Lc, gL, rfl, hL, hgL, hf⟩
    obtain ⟨oL, rfl⟩ := Ow.addr hL
    have H2 := hide (H1.out.step hf)
    have HB2 := hide (HB.out.fr hf id)
    have HL := hide hL
    have Hf2 := hide (HfB.out.trans hf)
    have hgW : bx + 1 ≤ gL := by have := HB.out.lt; omega
    have hgF : ¬ F gL := fun e => by have := H1.out.dn.di.lt e; omega
    have hgG : ¬ G gL := fun e => by have := H1.out.rn.di.lt e; omega
    have HgF := hide hgF
    have HgG := hide hgG
    have x2 : w1.cell? ⟨bx, 2, none⟩ = some ((.int .i64 nn)) := HB2.out.cell' rfl
    have x3 : w1.cell? ⟨bx, 3, none⟩ = some (.slice DA dn dc) := HB2.out.cell' rfl
    clear hL hgL hf hgF hgG H1 HB HfB
    go_wp2_with fail
    obtain ⟨er, her⟩ : ∃ er, writeN n s nn dn = er := ⟨_, rfl⟩
    refine (rwrite_any H2.out.rn.di nn DA dn dc dd Hdl.out (HO.out.d4.below H2.out.dn.fr (fun _ _ => id)) (by have := Hs1.out; omega) Hs2.out).mono ?_
    rintro e w2 ⟨rfl, hro⟩
    rw [her]
    obtain ⟨G', hT, hf, hG'⟩ := H2.out.rOut hro
    have H3 := hide hT
    have HB3 := hide (HB2.out.fr hf HxG.out)
    have HL3 := hide (Ow.fr HL.out hf (fun b hb => by cases hb; exact HgG.out))
    have Hf3 := hide hf
    have HG' := hide hG'
    have Her := hide her
    have hgG' : ¬ G' gL := fun e => HgG.out (hG' gL (Ow.lt HL.out gL rfl) e)
    have HgG' := hide hgG'
    clear hro hT hf hG' her hgG' x2 x3 H2 HB2 HL
    have x2 : w2.cell? ⟨bx, 2, none⟩ = some ((.int .i64 nn)) := HB3.out.cell' rfl
    go_wp2_with fail
    refine (write_arg H3.out.dn.di nn (some ⟨gL, oL, none⟩) dn Lc dd Hdl.out ((Lent.own HL3.out Hdl.out).sl) Hs1.out Hs2.out (fun h0 b hb hF => by obtain ⟨o, e⟩ := hb; cases e; exact HgF.out hF)).mono ?_
    rintro e w3 ⟨rfl, hdo⟩
    rw [Her.out]
    obtain ⟨F', hT, hf, hF'⟩ := H3.out.dOut hdo
    have H4 := hide hT
    have HB4 := hide (HB3.out.fr hf HxF.out)
    have HL4 := hide (Ow.fr HL3.out hf (fun b hb => by cases hb; exact HgF.out))
    have hgF' : ¬ F' gL := fun e => HgF.out (hF' gL (Ow.lt HL3.out gL rfl) e)
    have HgF' := hide hgF'
    have hfw : Fr (fun k => F k ∨ G k) w w3 := ((Hf2.out.weak _).trans (Hf3.out.mono fun x _ e => .inr e)).trans (hf.mono fun x _ e => .inl e)
    have hback : ∀ k, k < w.heap.size → (F' k ∨ G' k) → (F k ∨ G k) := fun k hk e => by
      have h1 := Hf2.out.size
      have h2 := Hf3.out.size
      rcases e with e | e
      · exact .inl (hF' k (by omega) e)
      · exact .inr (HG'.out k (by omega) e)
    have Hfw := hide hfw
    have Hback := hide hback
    have x3 : w3.cell? ⟨bx, 3, none⟩ = some (.slice DA dn dc) := HB4.out.cell' rfl
    clear hdo hT hf hF' hgF' hfw hback H3 HB3 HL3 Hf3 HG'
    go_wp2_with fail
    refine (num_any _ _).mono ?_
    rintro e w' ⟨rfl, rfl⟩
    go_wp2_with fail
    refine (kept_q w3 dd _ _ dn _ _ gL (by omega) Hdl.out HL4.out (HO.out.d4.below H4.out.dn.fr (fun _ _ => id))).mono ?_
    rintro e w4 ⟨rfl, hq⟩
    have hfd := fr_of_drewN hq
    have H5 := hide (H4.out.step hfd)
    have HL5 := hide (Ow.fr HL4.out hfd (fun _ _ => id))
    have Hf5 := hide (Hfw.out.trans (hfd.weak _))
    clear hq hfd x3 HB4 H4 HL4 Hfw
    go_wp2_with fail
    refine (over_any w4 dd _ dn _ (some gL) (Lent.own HL5.out Hdl.out) (by omega)).mono ?_
    rintro e w5 ⟨rfl, hf⟩
    have H6 := hide (H5.out.turn hf (fun k hk => by cases hk; exact HgF'.out) (fun k hk => by cases hk; exact HgG'.out) (fun k hk => by cases hk; omega))
    have Hf6 := hide (Hf5.out.comp hf (fun i hi e => by cases e; omega))
    clear hf H5 HL5 Hf5
    go_wp2_with fail
    go_ret
    exact ⟨rfl, _, ⟨_, _, H6.out, Hf6.out, Hback.out⟩, writeS_ct s n nn dd⟩
  by_cases k2 : kd = 2
  · subst k2
    show Calls Try.prog 29 #[.pointer (some ⟨p, 0, none⟩), .pointer (some ⟨q, 0, none⟩), .agg #[.int .i64 who, .int .i64 2, .int .i64 nn, .slice DA dn dc, .slice KA kn kc, .int .i64 tn, .int .i64 ct]] w fun e w' => e = .returned (.bool true) ∧ PlayOut W w p q n F G s w'
    go_enter Try.func29, Try.ntmps29
    go_wp2_with fail
    obtain ⟨wB, HwB⟩ : ∃ wB, Hid (wB = w.alloc (.cells #[.int .i64 who, .int .i64 2, .int .i64 nn, .slice DA dn dc, .slice KA kn kc, .int .i64 tn, .int .i64 ct] 61)) := ⟨_, rfl⟩
    have HB : Hid (Bl wB bx 61 #[.int .i64 who, .int .i64 2, .int .i64 nn, .slice DA dn dc, .slice KA kn kc, .int .i64 tn, .int .i64 ct]) := by rw [HwB.out, ← hbx]; exact Bl.new _ _ _
    have HfB : Hid (Fr (fun _ => False) w wB) := by rw [HwB.out]; exact (Fr.refl _ _).alloc _
    have H1 := hide (H0.out.step HfB.out)
    rw [← HwB.out]
    first | rw [hbx] | skip
    clear HwB
    obtain ⟨er, her⟩ : ∃ er, readN n s nn = er := ⟨_, rfl⟩
    obtain ⟨xs, hxs⟩ : ∃ xs, s.readS n nn = xs := ⟨_, rfl⟩
    have hx64 : xs.length ≤ 64 := by rw [← hxs]; exact readS_len H0.out.dn.di.ok nn
    obtain ⟨m, hm⟩ : ∃ m, xs.length = m := ⟨_, rfl⟩
    refine (rread_any H1.out.rn.di nn).mono ?_
    rintro e w1 ⟨⟨RA, rc, rg, e0, rfl, hR, hrg⟩, hf⟩
    rw [hxs] at hR
    rw [her, hxs, hm]
    rw [hm] at hR
    have HR := hide hR
    have H2 := hide (H1.out.step hf)
    have HB2 := hide (HB.out.fr hf id)
    have Hf2 := hide (HfB.out.trans hf)
    have x2 : w1.cell? ⟨bx, 2, none⟩ = some ((.int .i64 nn)) := HB2.out.cell' rfl
    clear hR hrg hf H1 HB HfB
    go_wp2_with fail
    refine (read_any H2.out.dn.di nn).mono ?_
    rintro e w2 ⟨⟨BA, bg, e1, rfl, hB, hbg⟩, hf⟩
    rw [hxs] at hB
    rw [her, hxs, hm]
    rw [hm] at hB
    have HBb := hide hB
    have HR3 := hide (HR.out.fr hf (fun _ _ => id))
    have H3 := hide (H2.out.step hf)
    have Hf3 := hide (Hf2.out.trans hf)
    have hgF : ∀ b, bg = some b → ¬ F b ∧ ¬ G b ∧ w.heap.size ≤ b := fun b hb => by have h1 := hbg b hb; have h2 := Hf2.out.size; exact ⟨fun e => by have := H2.out.dn.di.lt e; omega, fun e => by have := H2.out.rn.di.lt e; omega, by omega⟩
    have HgF := hide hgF
    have Hm := hide hm
    have hm64 : m ≤ 64 := by omega
    clear hB hbg hf hgF her hxs hm hx64 x2 H2 HR HB2 Hf2
    go_wp2_with fail
    refine (num_any _ _).mono ?_
    rintro e w' ⟨rfl, rfl⟩
    go_wp2_with fail
    refine (same_q w2 xs _ _ _ _ m Hm.out.symm (by omega) HBb.out.sl HR3.out.sl).mono ?_
    rintro e w3 ⟨rfl, hq⟩
    have hfd := fr_of_drewN hq
    have H4 := hide (H3.out.step hfd)
    have HB4 := hide (HBb.out.fr hfd (fun _ _ => id))
    have Hf4 := hide (Hf3.out.trans hfd)
    clear hq hfd H3 HBb HR3 Hf3
    go_wp2_with fail
    refine (over_any w3 xs _ m _ bg HB4.out (by omega)).mono ?_
    rintro e w4 ⟨rfl, hf⟩
    have H5 := hide (H4.out.turn hf (fun k hk => (HgF.out k hk.symm).1) (fun k hk => (HgF.out k hk.symm).2.1) (fun k hk => by have := (HgF.out k hk.symm).2.2; omega))
    have Hf5 := hide (Hf4.out.comp hf (fun i hi e => by have := (HgF.out i e.symm).2.2; omega))
    clear hf H4 HB4 Hf4
    go_wp2_with fail
    go_ret
    exact ⟨rfl, s, ⟨_, _, H5.out, Hf5.out.weak _, fun _ _ h => h⟩, Nat.le_succ _⟩
  by_cases k3 : kd = 3
  · subst k3
    show Calls Try.prog 29 #[.pointer (some ⟨p, 0, none⟩), .pointer (some ⟨q, 0, none⟩), .agg #[.int .i64 who, .int .i64 3, .int .i64 nn, .slice DA dn dc, .slice KA kn kc, .int .i64 tn, .int .i64 ct]] w fun e w' => e = .returned (.bool true) ∧ PlayOut W w p q n F G s w'
    go_enter Try.func29, Try.ntmps29
    go_wp2_with fail
    obtain ⟨wB, HwB⟩ : ∃ wB, Hid (wB = w.alloc (.cells #[.int .i64 who, .int .i64 3, .int .i64 nn, .slice DA dn dc, .slice KA kn kc, .int .i64 tn, .int .i64 ct] 61)) := ⟨_, rfl⟩
    have HB : Hid (Bl wB bx 61 #[.int .i64 who, .int .i64 3, .int .i64 nn, .slice DA dn dc, .slice KA kn kc, .int .i64 tn, .int .i64 ct]) := by rw [HwB.out, ← hbx]; exact Bl.new _ _ _
    have HfB : Hid (Fr (fun _ => False) w wB) := by rw [HwB.out]; exact (Fr.refl _ _).alloc _
    have H1 := hide (H0.out.step HfB.out)
    rw [← HwB.out]
    first | rw [hbx] | skip
    clear HwB
    obtain ⟨er, her⟩ : ∃ er, syncN s = er := ⟨_, rfl⟩
    refine (rsync_any H1.out.rn.di Hs3.out).mono ?_
    rintro e w1 ⟨rfl, hro⟩
    rw [her]
    obtain ⟨G', hT, hf, hG'⟩ := H1.out.rOut hro
    have H2 := hide hT
    have Hf2 := hide hf
    have HG' := hide hG'
    have Her := hide her
    clear hro hT hf hG' her HB
    go_wp2_with fail
    refine (sync_any H2.out.dn.di Hs3.out).mono ?_
    rintro e w2 ⟨rfl, hdo⟩
    rw [Her.out]
    obtain ⟨F', hT, hf, hF'⟩ := H2.out.dOut hdo
    have hfw : Fr (fun k => F k ∨ G k) w w2 := ((HfB.out.weak _).trans (Hf2.out.mono fun x _ e => .inr e)).trans (hf.mono fun x _ e => .inl e)
    have hback : ∀ k, k < w.heap.size → (F' k ∨ G' k) → (F k ∨ G k) := fun k hk e => by
      have h1 := HfB.out.size
      have h2 := Hf2.out.size
      rcases e with e | e
      · exact .inl (hF' k (by omega) e)
      · exact .inr (HG'.out k (by omega) e)
    have H3 := hide hT
    have Hfw := hide hfw
    have Hback := hide hback
    clear hdo hT hf hF' hfw hback
    go_wp2_with fail
    refine (num_any _ _).mono ?_
    rintro e w' ⟨rfl, rfl⟩
    go_wp2_with fail
    go_ret
    exact ⟨rfl, _, ⟨_, _, H3.out, Hfw.out, Hback.out⟩, syncS_ct s⟩
  by_cases k4 : kd = 4
  · subst k4
    show Calls Try.prog 29 #[.pointer (some ⟨p, 0, none⟩), .pointer (some ⟨q, 0, none⟩), .agg #[.int .i64 who, .int .i64 4, .int .i64 nn, .slice DA dn dc, .slice KA kn kc, .int .i64 tn, .int .i64 ct]] w fun e w' => e = .returned (.bool true) ∧ PlayOut W w p q n F G s w'
    go_enter Try.func29, Try.ntmps29
    go_wp2_with fail
    obtain ⟨wB, HwB⟩ : ∃ wB, Hid (wB = w.alloc (.cells #[.int .i64 who, .int .i64 4, .int .i64 nn, .slice DA dn dc, .slice KA kn kc, .int .i64 tn, .int .i64 ct] 61)) := ⟨_, rfl⟩
    have HB : Hid (Bl wB bx 61 #[.int .i64 who, .int .i64 4, .int .i64 nn, .slice DA dn dc, .slice KA kn kc, .int .i64 tn, .int .i64 ct]) := by rw [HwB.out, ← hbx]; exact Bl.new _ _ _
    have HfB : Hid (Fr (fun _ => False) w wB) := by rw [HwB.out]; exact (Fr.refl _ _).alloc _
    have H1 := hide (H0.out.step HfB.out)
    rw [← HwB.out]
    first | rw [hbx] | skip
    clear HwB
    refine (counts_any H1.out).mono ?_
    rintro e w1 ⟨rfl, hf⟩
    have H2 := hide (H1.out.step hf)
    have Hf2 := hide (HfB.out.trans hf)
    clear hf
    go_wp2_with fail
    go_ret
    exact ⟨rfl, s, ⟨_, _, H2.out, Hf2.out.weak _, fun _ _ h => h⟩, Nat.le_succ _⟩
  by_cases k5 : kd = 5
  · subst k5
    show Calls Try.prog 29 #[.pointer (some ⟨p, 0, none⟩), .pointer (some ⟨q, 0, none⟩), .agg #[.int .i64 who, .int .i64 5, .int .i64 nn, .slice DA dn dc, .slice KA kn kc, .int .i64 tn, .int .i64 ct]] w fun e w' => e = .returned (.bool true) ∧ PlayOut W w p q n F G s w'
    go_enter Try.func29, Try.ntmps29
    go_wp2_with fail
    obtain ⟨wB, HwB⟩ : ∃ wB, Hid (wB = w.alloc (.cells #[.int .i64 who, .int .i64 5, .int .i64 nn, .slice DA dn dc, .slice KA kn kc, .int .i64 tn, .int .i64 ct] 61)) := ⟨_, rfl⟩
    have HB : Hid (Bl wB bx 61 #[.int .i64 who, .int .i64 5, .int .i64 nn, .slice DA dn dc, .slice KA kn kc, .int .i64 tn, .int .i64 ct]) := by rw [HwB.out, ← hbx]; exact Bl.new _ _ _
    have HfB : Hid (Fr (fun _ => False) w wB) := by rw [HwB.out]; exact (Fr.refl _ _).alloc _
    have H1 := hide (H0.out.step HfB.out)
    rw [← HwB.out]
    first | rw [hbx] | skip
    clear HwB
    refine (rfuse_any nn hn2' H1.out.rn.di).mono ?_
    rintro e w1 ⟨rfl, hro⟩
    obtain ⟨G', hT, hf, hG'⟩ := H1.out.rOut hro
    have H2 := hide hT
    have Hf2 := hide hf
    have HG' := hide hG'
    have HB2 := hide (HB.out.fr hf HxG.out)
    have x2 : w1.cell? ⟨bx, 2, none⟩ = some ((.int .i64 nn)) := HB2.out.cell' rfl
    clear hro hT hf hG' HB
    go_wp2_with fail
    refine (fuse_any nn hn2' H2.out.dn.di).mono ?_
    rintro e w2 ⟨rfl, hdo⟩
    obtain ⟨F', hT, hf, hF'⟩ := H2.out.dOut hdo
    have hfw : Fr (fun k => F k ∨ G k) w w2 := ((HfB.out.weak _).trans (Hf2.out.mono fun x _ e => .inr e)).trans (hf.mono fun x _ e => .inl e)
    have hback : ∀ k, k < w.heap.size → (F' k ∨ G' k) → (F k ∨ G k) := fun k hk e => by
      have h1 := HfB.out.size
      have h2 := Hf2.out.size
      rcases e with e | e
      · exact .inl (hF' k (by omega) e)
      · exact .inr (HG'.out k (by omega) e)
    have H3 := hide hT
    have Hfw := hide hfw
    have Hback := hide hback
    clear hdo hT hf hF' hfw hback x2
    go_wp2_with fail
    go_ret
    exact ⟨rfl, _, ⟨_, _, H3.out, Hfw.out, Hback.out⟩, by show s.wr + s.sy ≤ _; omega⟩
  by_cases k6 : kd = 6
  · subst k6
    show Calls Try.prog 29 #[.pointer (some ⟨p, 0, none⟩), .pointer (some ⟨q, 0, none⟩), .agg #[.int .i64 who, .int .i64 6, .int .i64 nn, .slice DA dn dc, .slice KA kn kc, .int .i64 tn, .int .i64 ct]] w fun e w' => e = .returned (.bool true) ∧ PlayOut W w p q n F G s w'
    go_enter Try.func29, Try.ntmps29
    go_wp2_with fail
    obtain ⟨wB, HwB⟩ : ∃ wB, Hid (wB = w.alloc (.cells #[.int .i64 who, .int .i64 6, .int .i64 nn, .slice DA dn dc, .slice KA kn kc, .int .i64 tn, .int .i64 ct] 61)) := ⟨_, rfl⟩
    have HB : Hid (Bl wB bx 61 #[.int .i64 who, .int .i64 6, .int .i64 nn, .slice DA dn dc, .slice KA kn kc, .int .i64 tn, .int .i64 ct]) := by rw [HwB.out, ← hbx]; exact Bl.new _ _ _
    have HfB : Hid (Fr (fun _ => False) w wB) := by rw [HwB.out]; exact (Fr.refl _ _).alloc _
    have H1 := hide (H0.out.step HfB.out)
    rw [← HwB.out]
    first | rw [hbx] | skip
    clear HwB
    refine (Hcr.out wB HfB.out).mono ?_
    rintro e w1 ⟨rfl, F', G', hT, hf, hb⟩
    have hfw : Fr (fun k => F k ∨ G k) w w1 := (HfB.out.weak _).trans hf
    have hback : ∀ k, k < w.heap.size → (F' k ∨ G' k) → (F k ∨ G k) := fun k hk e => hb k (by have := HfB.out.size; omega) e
    have H3 := hide hT
    have Hfw := hide hfw
    have Hback := hide hback
    clear hT hf hb hfw hback
    go_wp2_with fail
    go_ret
    exact ⟨rfl, _, ⟨_, _, H3.out, Hfw.out, Hback.out⟩, by show s.wr + s.sy ≤ _; omega⟩
  by_cases k7 : kd = 7
  · subst k7
    show Calls Try.prog 29 #[.pointer (some ⟨p, 0, none⟩), .pointer (some ⟨q, 0, none⟩), .agg #[.int .i64 who, .int .i64 7, .int .i64 nn, .slice DA dn dc, .slice KA kn kc, .int .i64 tn, .int .i64 ct]] w fun e w' => e = .returned (.bool true) ∧ PlayOut W w p q n F G s w'
    go_enter Try.func29, Try.ntmps29
    go_wp2_with fail
    obtain ⟨wB, HwB⟩ : ∃ wB, Hid (wB = w.alloc (.cells #[.int .i64 who, .int .i64 7, .int .i64 nn, .slice DA dn dc, .slice KA kn kc, .int .i64 tn, .int .i64 ct] 61)) := ⟨_, rfl⟩
    have HB : Hid (Bl wB bx 61 #[.int .i64 who, .int .i64 7, .int .i64 nn, .slice DA dn dc, .slice KA kn kc, .int .i64 tn, .int .i64 ct]) := by rw [HwB.out, ← hbx]; exact Bl.new _ _ _
    have HfB : Hid (Fr (fun _ => False) w wB) := by rw [HwB.out]; exact (Fr.refl _ _).alloc _
    have H1 := hide (H0.out.step HfB.out)
    rw [← HwB.out]
    first | rw [hbx] | skip
    clear HwB
    have hno := H0.out.dn.di.ok.n2
    obtain ⟨m, hm⟩ : ∃ m, s.sf.length = m := ⟨_, rfl⟩
    have hmn : n * 64 = m := by rw [← hm]; exact H0.out.dn.di.ok.len.symm
    have hmb : m ≤ 4194304 := by omega
    refine (image_any H1.out.dn.di).mono ?_
    rintro e w1 ⟨BA, bg, rfl, hB, hbg, hf⟩
    rw [hm] at hB ⊢
    have HBb := hide hB
    have H2 := hide (H1.out.step hf)
    have Hf2 := hide (HfB.out.trans hf)
    have hgF : ∀ b, bg = some b → ¬ F b ∧ ¬ G b ∧ w.heap.size ≤ b := fun b hb => by have h1 := hbg b hb; have h2 := HfB.out.size; exact ⟨fun e => by have := H1.out.dn.di.lt e; omega, fun e => by have := H1.out.rn.di.lt e; omega, by omega⟩
    have HgF := hide hgF
    have Hm := hide hm
    have Hmn := hide hmn
    clear hB hbg hf hgF hm hmn H1 HB HfB hno
    go_wp2_with fail
    refine (rimage_any H2.out.rn.di).mono ?_
    rintro e w2 ⟨RA, rc, rg, rfl, hR, -, hf⟩
    rw [Hmn.out] at hR ⊢
    have HR3 := hide hR
    have HB3 := hide (HBb.out.fr hf (fun _ _ => id))
    have H3 := hide (H2.out.step hf)
    have Hf3 := hide (Hf2.out.trans hf)
    clear hR hf H2 HBb Hf2
    go_wp2_with fail
    refine (same_q w2 s.sf _ _ _ _ m Hm.out.symm (by omega) HB3.out.sl HR3.out.sl).mono ?_
    rintro e w3 ⟨rfl, hq⟩
    have hfd := fr_of_drewN hq
    have H4 := hide (H3.out.step hfd)
    have HB4 := hide (HB3.out.fr hfd (fun _ _ => id))
    have Hf4 := hide (Hf3.out.trans hfd)
    clear hq hfd H3 HB3 HR3 Hf3
    go_wp2_with fail
    refine (over_any w3 s.sf _ m _ bg HB4.out (by omega)).mono ?_
    rintro e w4 ⟨rfl, hf⟩
    have H5 := hide (H4.out.turn hf (fun k hk => (HgF.out k hk.symm).1) (fun k hk => (HgF.out k hk.symm).2.1) (fun k hk => by have := (HgF.out k hk.symm).2.2; omega))
    have Hf5 := hide (Hf4.out.comp hf (fun i hi e => by have := (HgF.out i e.symm).2.2; omega))
    clear hf H4 HB4 Hf4
    go_wp2_with fail
    go_ret
    exact ⟨rfl, s, ⟨_, _, H5.out, Hf5.out.weak _, fun _ _ h => h⟩, Nat.le_succ _⟩
  have b1 : (kd == 1) = false := by simpa using k1
  have b2 : (kd == 2) = false := by simpa using k2
  have b3 : (kd == 3) = false := by simpa using k3
  have b4 : (kd == 4) = false := by simpa using k4
  have b5 : (kd == 5) = false := by simpa using k5
  have b6 : (kd == 6) = false := by simpa using k6
  have b7 : (kd == 7) = false := by simpa using k7
  clear k1 k2 k3 k4 k5 k6 k7
  show Calls Try.prog 29 #[.pointer (some ⟨p, 0, none⟩), .pointer (some ⟨q, 0, none⟩), .agg #[.int .i64 who, .int .i64 kd, .int .i64 nn, .slice DA dn dc, .slice KA kn kc, .int .i64 tn, .int .i64 ct]] w fun e w' => e = .returned (.bool true) ∧ PlayOut W w p q n F G s w'
  go_enter Try.func29, Try.ntmps29
  go_wp2_with fail
  go_ret
  exact ⟨rfl, s, TOut.quiet H0.out ((Fr.refl _ _).alloc _), Nat.le_succ _⟩
#print axioms plays_any
end Go.Proofs.Ythcklgelbckffaa
