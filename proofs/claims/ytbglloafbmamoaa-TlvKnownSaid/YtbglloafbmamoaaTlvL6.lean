/-
  TlvLists: the walk.
-/
import Derived.Test.YtbglloafbmamoaaTlvL5
namespace Go.Proofs.Ytbglloafbmamoaa
open Go.RowKit
set_option linter.unusedVariables false
attribute [local go_sem ↓] Go.wp_at_zero Go.wp_at_succ

theorem LentAll.rows {w0 w : World} {xss : List (List Nat)} {L : Option Addr} {n c : Nat} {rs : List BS} {g : Option Nat} (h : LentAll w0 w xss L n c rs g) (hn : n = xss.length) :
    (rs.take n).map (·.xs) = xss ∧ (rs.take n).length = n ∧ Ow w 23 1 L n c ((rs.take n).map BS.cell) g ∧ BSs w 5 w0.heap.size (rs.take n) := by
  obtain ⟨h1, h2, h3, h4⟩ := h
  have hl : rs.length = n + 2 := by have := congrArg List.length h1; simp at this; omega
  refine ⟨by rw [List.map_take, h1, hn, List.take_left], by simp; omega, ?_, h4.sub (List.take_sublist _ _)⟩
  have := h2.take (k := n) (by omega)
  rwa [Nat.mul_one, ← List.map_take] at this
theorem LentAll.lat {w0 w : World} {xss : List (List Nat)} {L : Option Addr} {n c : Nat} {rs : List BS} {g : Option Nat} (h : LentAll w0 w xss L n c rs g) (hn : n = xss.length) : LAt w w.heap.size L n xss := by
  obtain ⟨h1, h2, h3, h4⟩ := h.rows hn
  have := h4.lat' h3
  rwa [h1] at this
theorem LentAll.quiet {w0 w w' : World} {xss : List (List Nat)} {L : Option Addr} {n c : Nat} {rs : List BS} {g : Option Nat} (h : LentAll w0 w xss L n c rs g) (hf : Fr (fun _ => False) w w') : LentAll w0 w' xss L n c rs g :=
  ⟨h.1, h.2.1.fr hf (fun _ _ => id), h.2.2.1, h.2.2.2.quiet hf⟩
theorem LentAll.range {w0 w : World} {xss : List (List Nat)} {L : Option Addr} {n c : Nat} {rs : List BS} {g : Option Nat} (h : LentAll w0 w xss L n c rs g) : ∀ x, (some x = g ∨ ∃ r ∈ rs.take n, some x = r.g) → w0.heap.size ≤ x ∧ x < w.heap.size := by
  rintro x (e | ⟨r, hr, e⟩)
  · exact ⟨h.2.2.1 x e.symm, h.2.1.lt x e.symm⟩
  · have hr' := List.mem_of_mem_take hr
    exact ⟨h.2.2.2.new r hr' x e.symm, (h.2.2.2.own r hr').lt x e.symm⟩
theorem Told.range {bs : List Nat} {w w' : World} {rs : List BS} {A : Option Addr} {k c : Nat} {g : Option Nat} (h : Told bs w w' rs A k c g) : ∀ x, (some x = g ∨ ∃ r ∈ rs, some x = r.g) → w.heap.size ≤ x ∧ x < w'.heap.size := by
  rintro x (e | ⟨r, hr, e⟩)
  · exact ⟨h.new x e.symm, h.ow.lt x e.symm⟩
  · exact ⟨h.own.new r hr x e.symm, (h.own.own r hr).lt x e.symm⟩
theorem Told.lat {bs : List Nat} {w w' : World} {rs : List BS} {A : Option Addr} {k c : Nat} {g : Option Nat} (h : Told bs w w' rs A k c g) : LAt w' w'.heap.size A k ((itemsAll bs).1.map (GF.val bs)) := by
  have := h.own.lat' h.ow
  rwa [h.eq] at this
/-- What was told lies in blocks from w's size to w''s. -/
theorem Told.lat_fr {bs : List Nat} {w w' w'' : World} {rs : List BS} {A : Option Addr} {k c : Nat} {g : Option Nat} {S : Nat → Prop} (h : Told bs w w' rs A k c g) (hf : Fr S w' w'') (hS : ∀ x, w.heap.size ≤ x → x < w'.heap.size → ¬ S x) : LAt w'' w''.heap.size A k ((itemsAll bs).1.map (GF.val bs)) := by
  have h1 := h.own.fr hf hS
  have h2 := h.ow.fr hf (fun b e => hS b (h.new b e) (h.ow.lt b e))
  have := h1.lat' h2
  rwa [h.eq] at this
theorem vals_len {bs : List Nat} {N : Nat} (h : bs.length ≤ N) : ∀ x ∈ (itemsAll bs).1.map (GF.val bs), x.length ≤ N := by
  intro x hx
  obtain ⟨F, hF, rfl⟩ := List.mem_map.1 hx
  rw [GF.val_len (itemsAll_at bs F hF).2]
  have := (itemsAll_at bs F hF).2
  omega

set_option maxHeartbeats 4000000 in
set_option maxRecDepth 100000 in
theorem lists_walk (w : World) (xss : List (List Nat)) (A : Option Addr) (n c : Nat) (ys : List Nat) (V : Option Addr) (m d : Nat) (hn : n ≤ 1048576) (hM0 : ∀ x ∈ xss, x.length ≤ 1048576) (hT : (listAll xss).length ≤ 100000000000) (hA : LAt w w.heap.size A n xss)
    (hm : m ≤ 1048576) (hmd : m ≤ d) (hd : d ≤ 9223372036854775807) (h256 : ∀ x ∈ ys, x < 256) (hV : Sl w 1 V m (ys.map bn)) :
    Calls Try.prog 7 #[.slice A n c, .slice V m d] w fun e w' => e = .returned (.bool true) ∧ Below w.heap.size w w' := by
  have Hn := hide hA.1
  have Hm : Hid (m = ys.length) := hV.len
  have hM1 : Hid (∀ x ∈ xss, x.length ≤ 140000000000000) := fun x hx => by have := hM0 x hx; omega
  have hM : Hid (∀ x ∈ xss, x.length ≤ 140737488355000) := fun x hx => by have := hM0 x hx; omega
  have hv0 : Hid (∀ b o, V = some ⟨b, o, none⟩ → 0 < m → b < w.heap.size) := hV.lt
  clear hM0
  go_enter Try.func7, Try.ntmps7
  go_wp2_with fail
  refine (lentAll_any _ xss A n c _ (by omega) hM.out hA).mono ?_
  rintro e w1 ⟨L, cl, rs, g, rfl, hL1, hf1⟩
  have s1 := hf1.size
  have hA1 := hA.quiet hf1
  go_wp2_with fail
  refine (tlist_any _ xss L n cl _ (by omega) (Nat.le_refl _) hM1.out (by omega) (hL1.lat Hn.out)).mono ?_
  rintro e w2 ⟨Aa, ca, ga, rfl, hOa, hga, hf2⟩
  have hL2 := hL1.quiet hf2
  go_wp2_with fail
  refine (tlist_any _ xss L n cl _ (by omega) (Nat.le_refl _) hM1.out (by omega) (hL2.lat Hn.out)).mono ?_
  rintro e w3 ⟨Ab, cb, gb, rfl, hOb, hgb, hf3⟩
  have hA3 := (hA1.quiet hf2).quiet hf3
  have hs23 := Nat.le_trans (Nat.le_trans hf1.size hf2.size) hf3.size
  go_wp2_with fail
  refine (rlist_any _ xss A n c _ (by omega) hs23 hM1.out (by omega) hA3).mono ?_
  rintro e w4 ⟨Ap, cp, gp, rfl, hOp, hgp, hf4⟩
  have hOa4 := (hOa.fr hf3 (fun _ _ => id)).fr hf4 (fun _ _ => id)
  have hOb4 := hOb.fr hf4 (fun _ _ => id)
  obtain ⟨N, hN⟩ : ∃ N, (listAll xss).length = N := ⟨_, rfl⟩
  have HN := hide hN
  rw [hN] at hOa hOb hOp hOa4 hOb4 hT
  rw [hN]
  clear hN
  go_wp2_with fail
  refine (same_q _ (listAll xss) Aa Ap ca cp N HN.out.symm (by omega) hOa4.sl hOp.sl).mono ?_
  rintro e w5 ⟨rfl, hd5⟩
  have hf5 := fr_of_drewN hd5
  clear hd5
  have hOb5 := hOb4.fr hf5 (fun _ _ => id)
  have hOp5 := hOp.fr hf5 (fun _ _ => id)
  go_wp2_with fail
  refine (same_q _ (listAll xss) Ab Ap cb cp N HN.out.symm (by omega) hOb5.sl hOp5.sl).mono ?_
  rintro e w6 ⟨rfl, hd6⟩
  have hf6 := fr_of_drewN hd6
  clear hd6
  have hf16 : Fr (fun _ => False) w1 w6 := (((hf2.trans hf3).trans hf4).trans hf5).trans hf6
  have hL6 := hL1.quiet hf16
  have hA6 := hA1.quiet hf16
  go_wp2_with fail
  refine (keptAll_any _ xss A L n c cl _ w rs g (by omega) hM.out hL6 hA6).mono ?_
  rintro e w7 ⟨rfl, hf7⟩
  have hf17 := hf16.trans hf7
  have hL7 := hL1.quiet hf17
  have hrow := hL7.rows Hn.out
  have hr1 : Hid (∀ r ∈ rs.take n, r.n ≤ 140737488355000) := fun r hr => by
    have h1 := (hrow.2.2.2.ow hr).len
    have h2 : r.xs ∈ xss := by rw [← hrow.1]; exact List.mem_map.2 ⟨r, hr, rfl⟩
    have h3 := hM.out _ h2
    omega
  go_wp2_with fail
  refine (overAll_any _ (rs.take n) L n cl 5 _ g (by omega) hrow.2.2.1 hrow.2.2.2 hr1.out).mono ?_
  rintro e w8 ⟨rfl, hf8⟩
  have hf18 : Fr (fun x => w.heap.size ≤ x ∧ x < w1.heap.size) w1 w8 := (hf17.weak _).comp hf8 fun x _ e => hL1.range x e
  have s12 := hf2.size
  have s23 := hf3.size
  have s34 := hf4.size
  have s47 := (hf5.trans (hf6.trans hf7)).size
  have s78 := hf8.size
  have hga2 : ∀ b, ga = some b → b < w2.heap.size := hOa.lt
  have hgb3 : ∀ b, gb = some b → b < w3.heap.size := hOb.lt
  have hgp4 : ∀ b, gp = some b → b < w4.heap.size := hOp.lt
  have hf28 : Fr (fun x => w.heap.size ≤ x ∧ x < w1.heap.size) w2 w8 := (((((hf3.trans hf4).trans hf5).trans hf6).trans hf7).weak _).comp hf8 fun x _ e => hL1.range x e
  have hOa8 := hOa.fr hf28 (fun b e h => by have := hga b e; omega)
  go_wp2_with fail
  refine (over_any _ (listAll xss) Aa N ca ga hOa8 (by omega)).mono ?_
  rintro e w9 ⟨rfl, hf9⟩
  have hR : Fr (fun x => w.heap.size ≤ x ∧ x < w2.heap.size) w2 w9 := (hf28.mono fun x _ e => ⟨e.1, by omega⟩).comp hf9 fun x _ e => ⟨by have := hga x e.symm; omega, hga2 x e.symm⟩
  have hf48 : Fr (fun x => w.heap.size ≤ x ∧ x < w1.heap.size) w4 w8 := (((hf5.trans hf6).trans hf7).weak _).comp hf8 fun x _ e => hL1.range x e
  have hf49 : Fr (fun x => w.heap.size ≤ x ∧ x < w2.heap.size) w4 w9 := (hf48.mono fun x _ e => ⟨e.1, by omega⟩).comp hf9 fun x _ e => ⟨by have := hga x e.symm; omega, hga2 x e.symm⟩
  have hOb9 := hOb4.fr hf49 (fun b e h => by have := hgb b e; omega)
  have hOp9 := hOp.fr hf49 (fun b e h => by have := hgp b e; omega)
  have hf09 : Fr (fun x => w.heap.size ≤ x) w w9 := ((hf1.trans hf2).weak _).comp hR fun x _ e => e.1
  have hV9 := Sl.fr' hf09 hV fun b o e h0 h => by have := hv0.out b o e h0; omega
  have s9 := hf9.size
  go_wp2_with fail
  refine (lent_any _ ys V m d (by omega) hV9).mono ?_
  rintro e w10 ⟨Ai, ci, gi, rfl, hLi, hgi, hf10⟩
  have hV10 := hV9.below hf10 (fun _ _ => id)
  have hcap := (Lent.ow hLi Hm.out).cap
  have hcc1 := hcap.1
  have hcc2 : ci ≤ 9223372036854775807 := by have := hcap.2; unfold maxLen at this; exact this
  clear hcap
  go_wp2_with fail
  refine (ritems_any _ ys V m d (by omega) hmd hd Hm.out h256 hV10).mono ?_
  rintro e w11 ⟨qs, Q, k, cq, gq, E, d2, g2, rfl, hQ, hE, hgE⟩
  have hf11 := hQ.fr
  have hLi11 : Lent w11 Ai m ci ys gi := Ow.fr hLi hf11 (fun _ _ => id)
  obtain ⟨pl, hpl⟩ : ∃ pl, (itemsAll ys).2.1 = pl := ⟨_, rfl⟩
  obtain ⟨er, her⟩ : ∃ er, (itemsAll ys).2.2 = er := ⟨_, rfl⟩
  rw [hpl, her]
  have Hpl := hide hpl
  have Her := hide her
  have Hk : Hid (k = (itemsAll ys).1.length) := hQ.len
  clear hpl her hE hgE
  go_wp2_with fail
  refine (tItems_any _ ys Ai m ci (by omega) hcc1 hcc2 Hm.out h256 (hLi11.sl Hm.out)).mono ?_
  rintro e w12 ⟨ls, Ll, k2, c2, gl, rfl, hLs⟩
  have hf12 := hLs.fr
  have hLi12 : Lent w12 Ai m ci ys gi := Ow.fr hLi11 hf12 (fun _ _ => id)
  obtain rfl : k2 = k := by rw [hLs.len, Hk.out]
  rw [Hpl.out, Her.out]
  go_wp2_with fail
  refine (tItems_any _ ys Ai m ci (by omega) hcc1 hcc2 Hm.out h256 (hLi12.sl Hm.out)).mono ?_
  rintro e w13 ⟨ms, Mm, k3, c3, gm, rfl, hMs⟩
  have hf13 := hMs.fr
  have hLi13 : Lent w13 Ai m ci ys gi := Ow.fr hLi12 hf13 (fun _ _ => id)
  obtain rfl : k3 = k2 := by rw [hMs.len, Hk.out]
  rw [Hpl.out, Her.out]
  have hf913 := ((hf10.trans hf11).trans hf12).trans hf13
  have hOb13 := hOb9.fr hf913 (fun _ _ => id)
  have hOp13 := hOp9.fr hf913 (fun _ _ => id)
  have hval : Hid (∀ x ∈ (itemsAll ys).1.map (GF.val ys), x.length ≤ 140737488355000) := vals_len (by rw [← Hm.out]; omega)
  have hk63 : k3 ≤ 9223372036854775806 := by
    have h1 := itemsAll_len ys
    have h2 := Hm.out
    rw [← Hk.out] at h1; omega
  go_wp2_with fail
  refine (same_q _ (listAll xss) Ab Ap cb cp N HN.out.symm (by omega) hOb13.sl hOp13.sl).mono ?_
  rintro e w14 ⟨rfl, hd14⟩
  have hf14 := fr_of_drewN hd14
  clear hd14
  go_wp2_with fail
  refine (num_any _ _).mono ?_
  rintro e w' ⟨rfl, rfl⟩
  go_wp2_with fail
  refine (num_any _ _).mono ?_
  rintro e w' ⟨rfl, rfl⟩
  go_wp2_with fail
  refine (alike_q _ _ Ll Q k3 c2 cq _ _ hval.out hk63 ((hLs.lat.quiet hf13).quiet hf14) (((hQ.lat.quiet hf12).quiet hf13).quiet hf14)).mono ?_
  rintro e w15 ⟨rfl, hd15⟩
  have hf15 := fr_of_drewN hd15
  clear hd15
  go_wp2_with fail
  refine (alike_q _ _ Mm Q k3 c3 cq _ _ hval.out hk63 ((hMs.lat.quiet hf14).quiet hf15) ((((hQ.lat.quiet hf12).quiet hf13).quiet hf14).quiet hf15)).mono ?_
  rintro e w16 ⟨rfl, hd16⟩
  have hf16' := fr_of_drewN hd16
  clear hd16
  have hf1316 := (hf14.trans hf15).trans hf16'
  have hLi16 : Lent w16 Ai m ci ys gi := Ow.fr hLi13 hf1316 (fun _ _ => id)
  have hV16 := ((((hV10.below hf11 (fun _ _ => id)).below hf12 (fun _ _ => id)).below hf13 (fun _ _ => id)).below hf1316 (fun _ _ => id))
  go_wp2_with fail
  refine (kept_q _ ys Ai V m ci d gi (by omega) Hm.out hLi16 hV16).mono ?_
  rintro e w17 ⟨rfl, hd17⟩
  have hf17' := fr_of_drewN hd17
  clear hd17
  have hf1317 := hf1316.trans hf17'
  have hLi17 : Lent w17 Ai m ci ys gi := Ow.fr hLi13 hf1317 (fun _ _ => id)
  go_wp2_with fail
  refine (over_any _ ys Ai m ci (some gi) (Lent.ow hLi17 Hm.out) (by omega)).mono ?_
  rintro e w18 ⟨rfl, hf18'⟩
  have hgil := hLi.lt gi rfl
  have t10 := hf10.size
  have t11 := hf11.size
  have t12 := hf12.size
  have t13 := hf13.size
  have t17 := hf1317.size
  have t18 := hf18'.size
  have hfi : Fr (fun x => x = gi) w13 w18 := (hf1317.weak _).comp hf18' fun x _ e => by cases e; rfl
  have hfl18 : Fr (fun x => x = gi) w12 w18 := (hf13.weak _).trans hfi
  have hOl18 := hLs.ow.fr hfl18 (fun b e e' => by have := hLs.new b e; omega)
  have hRl18 := hLs.own.fr hfl18 (fun x h1 h2 e' => by omega)
  have hrl : Hid (∀ r ∈ ls, r.n ≤ 140737488355000) := fun r hr => by
    have h1 := (hLs.own.ow hr).len
    have h2 : r.xs ∈ (itemsAll ys).1.map (GF.val ys) := by rw [← hLs.eq]; exact List.mem_map.2 ⟨r, hr, rfl⟩
    have h3 := hval.out _ h2
    omega
  have hk40 : k3 ≤ 1099511627776 := by
    have h1 := itemsAll_len ys
    have h2 := Hm.out
    rw [← Hk.out] at h1; omega
  go_wp2_with fail
  refine (overAll_any _ ls Ll k3 c2 0 _ gl hk40 hOl18 hRl18 hrl.out).mono ?_
  rintro e w19 ⟨rfl, hf19⟩
  have hrange := hLs.range
  have hS13 : Fr (fun x => x = gi ∨ w11.heap.size ≤ x ∧ x < w12.heap.size) w13 w19 := (hfi.mono fun _ _ e => .inl e).comp hf19 fun x _ e => .inr (hrange x e)
  have hS11 : Fr (fun x => x = gi ∨ w11.heap.size ≤ x ∧ x < w12.heap.size) w11 w19 := ((hf12.trans hf13).weak _).trans hS13
  go_wp2_with fail
  refine (alike_q _ _ Mm Q k3 c3 cq _ _ hval.out hk63 (hMs.lat_fr hS13 fun x h1 h2 h => by omega) (hQ.lat_fr hS11 fun x h1 h2 h => by omega)).mono ?_
  rintro e w20 ⟨rfl, hd20⟩
  have hf20 := fr_of_drewN hd20
  go_wp2_with fail
  go_ret
  have hall : Fr (fun x => w.heap.size ≤ x) w w20 := ((hf09.comp (hf10.trans hf11) (fun _ _ e => e.elim)).comp hS11 fun x _ e => by rcases e with e | e <;> omega).comp hf20 (fun _ _ e => e.elim)
  exact ⟨rfl, hall.toBelow (Nat.le_refl _) (fun k hk => by omega)⟩
end Go.Proofs.Ytbglloafbmamoaa
