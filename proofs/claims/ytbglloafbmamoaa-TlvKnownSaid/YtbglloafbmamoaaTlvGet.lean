/-
  tlv.Get.
-/
import Derived.Test.YtbglloafbmamoaaTlvParts
import Derived.Test.YtbglloafbmamoaaTlvPuts2
namespace Go.Proofs.Ytbglloafbmamoaa
open Go.RowKit
set_option linter.unusedVariables false
attribute [local go_sem ↓] Go.wp_at_zero Go.wp_at_succ

/-- A field that was got: where it stands, its bytes in memory of their own. -/
structure FO where
  F : GF
  A : Option Addr
  n : Nat
  c : Nat
  g : Option Nat
def FO.tCells (r : FO) : List Value := [.int .i64 r.F.tag, .slice r.A r.n r.c]
def FO.rCells (r : FO) : List Value := [.int .i64 r.F.tag, .slice r.A r.n r.c, .int .i64 r.F.at_, .int .i64 r.F.from_, .bool false]
theorem FO.tCells_len (r : FO) : r.tCells.length = 2 := rfl
theorem FO.rCells_len (r : FO) : r.rCells.length = 5 := rfl
/-- The fields' bytes: each in memory of its own, behind block B. -/
structure FOs (w : World) (bs : List Nat) (B : Nat) (rs : List FO) : Prop where
  own : ∀ r ∈ rs, Ow w 5 1 r.A r.n r.c ((r.F.val bs).map bn) r.g
  new : ∀ r ∈ rs, ∀ b, r.g = some b → B ≤ b
  ord : rs.Pairwise fun a b => ∀ x y, a.g = some x → b.g = some y → x < y
theorem FOs.fr {w w' : World} {bs : List Nat} {B : Nat} {rs : List FO} {S : Nat → Prop} (h : FOs w bs B rs) (hf : Fr S w w') (hS : ∀ k, B ≤ k → k < w.heap.size → ¬ S k) : FOs w' bs B rs :=
  ⟨fun r hr => (h.own r hr).fr hf fun b e => hS b (h.new r hr b e) ((h.own r hr).lt b e), h.new, h.ord⟩
theorem FOs.more {w : World} {bs : List Nat} {B B' : Nat} {rs : List FO} (h : FOs w bs B rs) (hB : B' ≤ B) : FOs w bs B' rs := ⟨h.own, fun r hr b e => Nat.le_trans hB (h.new r hr b e), h.ord⟩
theorem FOs.quiet {w w' : World} {bs : List Nat} {B : Nat} {rs : List FO} (h : FOs w bs B rs) (hf : Fr (fun _ => False) w w') : FOs w' bs B rs := h.fr hf fun _ _ _ => id
theorem FOs.nil_ (w : World) (bs : List Nat) (B : Nat) : FOs w bs B [] := ⟨(fun r h => by cases h), (fun r h => by cases h), List.Pairwise.nil⟩
/-- One more, in a world where only block g (of another type) has turned. -/
theorem FOs.add {w w' : World} {bs : List Nat} {B : Nat} {rs : List FO} {S : Nat → Prop} (h : FOs w bs B rs) (hf : Fr S w w') (hS : ∀ r ∈ rs, ∀ k, r.g = some k → ¬ S k) {r : FO} (ho : Ow w' 5 1 r.A r.n r.c ((r.F.val bs).map bn) r.g) (hn : ∀ b, r.g = some b → w.heap.size ≤ b) (hB : B ≤ w.heap.size) : FOs w' bs B (rs ++ [r]) := by
  refine ⟨fun x hx => ?_, fun x hx b e => ?_, ?_⟩
  · rcases List.mem_append.1 hx with hx | hx
    · exact (h.own x hx).fr hf fun k e => hS x hx k e
    · simp at hx; subst hx; exact ho
  · rcases List.mem_append.1 hx with hx | hx
    · exact h.new x hx b e
    · simp at hx; subst hx; exact Nat.le_trans hB (hn b e)
  · rw [List.pairwise_append]
    refine ⟨h.ord, by simp, fun x hx y hy a b ha hb => ?_⟩
    simp at hy; subst hy
    have := (h.own x hx).lt a ha
    have := hn b hb
    omega
def GetPost (f : FO → List Value) (e0 : TypeId) (size : Nat) (bs : List Nat) (w : World) (e : Ending) (w' : World) : Prop :=
  ∃ (rs : List FO) (A : Option Addr) (k c : Nat) (g : Option Nat), e = .returned (.tuple #[.slice A k c, .int .i64 ((getAll bs).2.1 : Int), .int .i64 (getAll bs).2.2]) ∧ k = rs.length ∧ rs.map (·.F) = (getAll bs).1 ∧
    Ow w' e0 size A k c (rs.flatMap f) g ∧ (∀ b, g = some b → w.heap.size ≤ b) ∧ FOs w' bs w.heap.size rs ∧ Fr (fun _ => False) w w'

set_option maxHeartbeats 1000000 in
set_option maxRecDepth 4000 in
theorem clipF_any (w : World) (A : Option Addr) (n c : Nat) (hn : n ≤ c) (hc : c ≤ 9223372036854775807) :
    Calls Try.prog 76 #[.slice A n c] w fun e w' => e = .returned (.slice A n n) ∧ w = w' := by
  have h1 : (n : Int) ≤ c := by omega
  go_enter Try.func76, Try.ntmps76
  go_wp2
  all_goals
    go_ret
    exact ⟨rfl, rfl⟩

set_option maxHeartbeats 4000000 in
set_option maxRecDepth 100000 in
theorem tget_any (w : World) (xs : List Nat) (A : Option Addr) (n c : Nat) (hn : n ≤ 140737488355328) (hc : n ≤ c) (hc2 : c ≤ 9223372036854775807) (hl : n = xs.length) (h256 : ∀ x ∈ xs, x < 256) (hA : Sl w 1 A n (xs.map bn)) :
    Calls Try.prog 29 #[.slice A n c] w (GetPost FO.tCells 40 2 xs w) := by
  obtain ⟨j0, hj, hj0, hj1, hj2⟩ := info_parts info40
  have Hl := hide hl
  clear hl
  go_enter Try.func29, Try.ntmps29
  go_wp2_with fail
  refine (parts_any _ xs A n c hn hc hc2 Hl.out h256 hA).mono ?_
  rintro e w1 ⟨b, hb, ps, L, k, cl, gl, rfl, hps, hO, hg, hP, hf1, hkm⟩
  obtain ⟨er, he⟩ : ∃ er, (getAll xs).2.2 = er := ⟨_, rfl⟩
  obtain ⟨pl, hpl⟩ : ∃ pl, (getAll xs).2.1 = pl := ⟨_, rfl⟩
  rw [he, hpl]
  have He := hide he
  have Hpl := hide hpl
  have Hps := hide hps
  clear he hpl hps
  by_cases h0 : er = 0
  · subst h0
    have Hk : Hid (k = ps.length) := by
      have := hO.1; simp at this; exact this.symm
    go_wp2_with fail
    go_loopw [8, 23] (fun u i wr => ∃ (j : Nat) (rs : List FO) (B : Option Addr) (cb : Nat) (g : Option Nat), j ≤ k ∧ i = .int .i64 j ∧ u = .slice B j cb ∧ Hid (rs.map (·.F) = (ps.take j).map (·.2.1)) ∧ Ow wr 40 2 B j cb (rs.flatMap FO.tCells) g ∧ (∀ b, g = some b → w1.heap.size ≤ b) ∧ FOs wr xs w1.heap.size rs ∧ Fr (fun _ => False) w1 wr) (fun _ i _ => k - (intOf i).toNat)
    case atStart => exact ⟨0, [], none, 0, none, by omega, rfl, rfl, rfl, Ow.nil_ _ _ _, (fun b h => by cases h), FOs.nil_ _ _ _, Fr.refl _ _⟩
    case round =>
      obtain ⟨j, rs, B, cb, g, hjk, rfl, rfl, hrs, hB, hgB, hF, hf⟩ := hrel
      by_cases hlt : j < k
      · have hjp : j < ps.length := by rw [← Hk.out]; exact hlt
        obtain ⟨⟨p, F, o'⟩, hy⟩ : ∃ y, ps[j] = y := ⟨_, rfl⟩
        have hmem : (p, F, o') ∈ ps := by rw [← hy]; exact List.getElem_mem hjp
        obtain ⟨bL, oL, rfl, -, hcL, -⟩ := (hO.fr hf (fun _ _ => id)).look (j := j) (u := ptr p) (by simp [hjp, hy])
        have hp := (hP.at_ _ hmem).quiet hf
        simp only at hp
        have hFle := hp.to_
        obtain ⟨m, hm⟩ : ∃ m, F.to_ - F.from_ = m := ⟨_, rfl⟩
        obtain ⟨T, hT⟩ : ∃ T, F.tag = T := ⟨_, rfl⟩
        have hmn : m ≤ n := by rw [Hl.out]; omega
        have c0 : wr.cell? ⟨p, 0, none⟩ = some (.int .i64 T) := by rw [← hT]; exact hp.bl.cell' rfl
        have c3 : wr.cell? ⟨p, 3, none⟩ = some (.slice (some ⟨b, o', none⟩) m m) := by rw [← hm]; exact hp.bl.cell' rfl
        have hV := hp.val
        rw [hm] at hV
        have hpb : ¬ some p = g := fun e => by rw [← e] at hB; exact hB.neBl hp.bl (by decide) rfl
        have hplt := hp.bl.lt
        have Hm := hide hm
        have HT := hide hT
        have hcL' : wr.cell? ⟨bL, oL + j, none⟩ = some (.pointer (some ⟨p, 0, none⟩)) := hcL
        have hdrop : Hid (ps.take (j + 1) = ps.take j ++ [(p, F, o')]) := by show _ = _; rw [List.take_succ_eq_append_getElem hjp, hy]
        have i1 : (0 : Int) ≤ (j : Int) := by omega
        have i2 : (j : Int) < (k : Int) := by omega
        clear hcL hy hm hT hp hFle hmem hjp
        go_wp2_with fail
        go_region_held3 (fun w' => w'.cell? ⟨p, 0, none⟩ = some (.int .i64 T) ∧ w'.cell? ⟨p, 3, none⟩ = some (.slice (some ⟨b, o', none⟩) m m)) (go_keep)
          (first
            | (go_at_call 67; refine (own_any _ (F.val xs) (some ⟨b, o', none⟩) m m (by omega) (by exact hV)).mono ?_; rintro e w2 ⟨A2, c2, g2, rfl, hL2, hg2, hf2⟩; have kc0 := (hf2.cell (World.block_lt_of_cell? wr _ c0) id).trans c0; have kc1 := (hf2.cell (World.block_lt_of_cell? wr _ c3) id).trans c3)
            | (refine step_append_ow _ (by rfl) _ _ 36 (by rfl) 40 j0 _ 2 32 Try.underlying36 hj hj0 hj1 hj2 rfl (by decide) _ _ _ _ _ (by rfl) (hB.fr (Fr.alloc (Fr.trans (by exact (Fr.refl _ _).drew) hf2) _) (fun _ _ => id)) _ _ _ [.int .i64 T, .slice A2 m c2] (by rfl) (Sl.row _ _ _ 2 1 rfl) (by intro u hu; simp at hu; rcases hu with rfl | rfl <;> rfl) (by unfold maxLen; omega) (by omega) ?_; intro B3 ci3 w3 g3 hB3 hf3 hg3; have hf23 := Fr.comp (Fr.alloc (Fr.refl (fun k => some k = g) w2) _) hf3 (fun _ _ e => e); have kd0 := (hf23.cell (World.block_lt_of_cell? w2 _ kc0) hpb).trans kc0; have kd1 := (hf23.cell (World.block_lt_of_cell? w2 _ kc1) hpb).trans kc1))
        go_wp2_with fail
        have hf12 : Fr (fun _ => False) wr w2 := (Fr.refl _ wr).drew.trans hf2
        have hB2 := hB.fr hf12 (fun _ _ => id)
        have hg2g : ∀ x y, g = some x → g2 = some y → x ≠ y := fun x y e1 e2 => by
          subst e1; subst e2; exact Ow.ne hB2 hL2 (by decide)
        refine ⟨⟨j + 1, rs ++ [⟨F, A2, m, c2, g2⟩], B3, ci3, g3, by omega, by go_num, rfl, ?_, ?_, ?_, ?_, ?_⟩, by simp [intOf]; omega⟩
        · show _ = _
          rw [hdrop.out, List.map_append, List.map_append, hrs.out]; rfl
        · rw [List.flatMap_append]
          have := hB3
          rw [← HT.out] at this
          simpa [FO.tCells] using this
        · intro x e
          rcases hg3 with h | ⟨b2, h, hb2⟩
          · exact hgB x (h ▸ e)
          · rw [h] at e; cases e
            have h5 := hf.size
            have h6 := hf12.size
            simp at hb2; omega
        · have hL3 := Ow.fr hL2 hf23 fun x e1 e2 => hg2g x x e2.symm e1 rfl
          have h1 : FOs w2 xs w1.heap.size rs := hF.quiet hf12
          refine FOs.add (S := fun k => some k = g) (w := wr) hF ((hf12.weak _).comp hf23 (fun _ _ e => e)) ?_ hL3 ?_ ?_
          · intro r hr x e1 e2
            have := hF.own r hr
            rw [e1] at this
            rw [← e2] at hB
            exact Ow.ne hB this (by decide) rfl
          · intro x e; simpa using hg2 x e
          · exact hf.size
        · exact (hf.trans hf12).comp hf23 fun x hx e => by
            have := hgB x e.symm
            omega
      · obtain rfl : j = k := by omega
        have hcap := hB.cap
        have hc1 := hcap.1
        have hc4 : cb ≤ 9223372036854775807 := by have := hcap.2; unfold maxLen at this; exact this
        clear hcap
        go_wp2_with fail
        refine (clipF_any _ B j cb hc1 hc4).mono ?_
        rintro e w2 ⟨rfl, rfl⟩
        go_wp2_with fail
        go_ret3
        have e1 := hrs.out
        rw [List.take_of_length_le (by rw [← Hk.out]; exact Nat.le_refl _), Hps.out] at e1
        refine ⟨rs, B, j, j, g, by rw [He.out, getAll_place He.out]; rfl, ?_, e1, hB.clip, ?_, hF.more hf1.size, hf1.trans hf⟩
        · have := congrArg List.length e1
          rw [← Hps.out, List.length_map, List.length_map] at this
          rw [this]; exact Hk.out
        · intro x e; have := hgB x e; have := hf1.size; omega
  · have Hn : Hid ((getAll xs).1 = []) := by
      show _ = _
      have := He.out
      unfold getAll at this ⊢
      split at this
      · rename_i h; rw [if_pos h]
      · rename_i h; rw [if_neg h]
        split at this
        · rename_i h'; rw [h'] at this; exact absurd this.symm h0
        · rename_i h'; rw [if_neg h']
    go_wp2_with fail
    go_ret3
    exact ⟨[], none, 0, 0, none, by rw [He.out, Hpl.out]; rfl, rfl, by rw [Hn.out]; rfl, Ow.nil_ _ _ _, (fun b h => by cases h), FOs.nil_ _ _ _, hf1⟩
end Go.Proofs.Ytbglloafbmamoaa
