/-
  TlvReads: the walk.
-/
import Derived.Test.YtbglloafbmamoaaTlvQ3
namespace Go.Proofs.Ytbglloafbmamoaa
open Go.RowKit
set_option linter.unusedVariables false
attribute [local go_sem ↓] Go.wp_at_zero Go.wp_at_succ

theorem TR.offU {w w' : World} {pf b : Nat} {r : TRd} {d : RD} {S : Nat → Prop} (h : TR w pf b r d) (hf : Fr S w w') (hS : ∀ x, S x → Typed w x 5) (hb : 0 < r.ps.length → ¬ S b) : TR w' pf b r d := by
  have hnt : ∀ {x t'}, Typed w x t' → t' ≠ 5 → ¬ S x := fun hx hne e => hne (hx.same (hS _ e))
  exact ⟨h.bl.fr hf (hnt h.bl.typed (by decide)), h.ls.fr hf (fun b e => hnt (h.ls.typed b e) (by decide)), h.eq, fun i hi => (h.at_ i hi).fr hf (hnt (h.at_ i hi).bl.typed (by decide)) (hb (by omega)), h.ord, fun h0 => (h.buf h0).fr hf (hb h0), h.ok⟩
structure RStep where
  who : Int
  kind : Int
  tag : Int
  most : Int
  above : Nat
def RScript (w : World) (B : Nat) (A : Option Addr) (n : Nat) (sc : List RStep) : Prop :=
  n = sc.length ∧ (0 < n → ∃ b o, A = some ⟨b, o, none⟩ ∧ b < B ∧ ∀ (i : Nat) (hi : i < sc.length), sc[i].above < U64 ∧ ∀ j u, (rbox sc[i].who sc[i].kind sc[i].tag sc[i].most sc[i].above)[j]? = some u → w.cell? ⟨b, o + i * 5 + j, none⟩ = some u)
theorem Ow.listAt {α : Type} {g : α → Value} {w : World} {e : TypeId} {A : Option Addr} {n c : Nat} {l : List α} {gA : Option Nat} (hO : Ow w e 1 A n c (l.map g) gA) {k : Nat} {x : α} (hk : l[k]? = some x) : ∃ b o, A = some ⟨b, o, none⟩ ∧ gA = some b ∧ w.cell? ⟨b, o + k, none⟩ = some (g x) := by
  obtain ⟨b, o, h1, h2, h3, _⟩ := hO.look (j := k) (u := g x) (by simp [hk])
  exact ⟨b, o, h1, h2, h3⟩

/-- A step of both on entry k of the lists: what comes out, and the readers behind it. -/
def StepOut (w0 w : World) (pf b wq : Nat) (l : List RE) (k : Nat) (e : Ending) (w' : World) : Prop :=
  ∃ f' l' rs qs ds X Y n c c' gx gy, e = .returned (.tuple #[.slice X n c, .slice Y n c', .bool true]) ∧ Ow w' 84 1 X n c (rs.map fun r => rp r.p) gx ∧ Ow w' 87 1 Y n c' (qs.map fun r => rp r.q) gy ∧ (∀ b, gx = some b → w.heap.size ≤ b) ∧ (∀ b, gy = some b → w.heap.size ≤ b) ∧
    rs.length = ds.length ∧ qs.length = ds.length ∧ LI w0 w' pf b wq f' (l' ++ pairs rs qs ds) ∧ l'.length = l.length ∧ l'.map tv = l.map tv ∧ l'.map qv = l.map qv ∧ ∃ S, Fr S w w' ∧ Within w S ∧ ∀ x, S x → w0.heap.size ≤ x

theorem step_any (w0 w : World) (pf b wq : Nat) (f : RF) (l : List RE) (h : LI w0 w pf b wq f l) {k : Nat} {x : RE} (hk : l[k]? = some x) (who kind tag most : Int) (above : Nat) (ha : above < U64) :
    Calls Try.prog 43 #[tv x, qv x, .agg (rbox who kind tag most above)] w (StepOut w0 w pf b wq l k) := by
  match x, hk with
  | none, hk =>
    refine (reads_nil w who kind tag most above).mono ?_
    rintro e w' ⟨rfl, hf⟩
    exact ⟨f, l, [], [], [], none, none, 0, 0, 0, none, none, rfl, Ow.nil_ _ _ _, Ow.nil_ _ _ _, (fun b h => by cases h), (fun b h => by cases h), rfl, rfl, by simpa [pairs] using h.quiet hf, rfl, rfl, rfl, _, hf, Within.none_ w, fun _ h => h.elim⟩
  | some (r, q, d), hk =>
    have hm := List.mem_of_getElem? hk
    have hP := h.ps r q d hm
    refine (reads_some w pf b r wq q d f who kind tag most above ha hP).mono ?_
    rintro e w' ⟨d', f', rs, qs, ds, X, Y, n, c, c', gx, gy, rfl, h1, h2, h3, h4, h5, h6, h7, h8⟩
    have hl := h.step hk h7 h8
    refine ⟨f', _, rs, qs, ds, X, Y, n, c, c', gx, gy, rfl, h1, h2, h3, h4, h5.len, h6.len, h.add hl (fun r2 q2 d2 hm2 => ?_) h5 h6, List.length_set, map_set_same tv hk rfl, map_set_same qv hk rfl, _, h8, hP.typedSet, h.set_ge hm⟩
    rcases List.mem_or_eq_of_mem_set hm2 with h9 | h9
    · exact ⟨d2, h9⟩
    · cases h9; exact ⟨d, hm⟩

/-- The law's lists. -/
structure Lists (w0 w : World) (l : List RE) (A B : Option Addr) (n c c' : Nat) (gA gB : Option Nat) : Prop where
  a : Ow w 84 1 A n c (l.map tv) gA
  b : Ow w 87 1 B n c' (l.map qv) gB
  na : ∀ x, gA = some x → w0.heap.size ≤ x
  nb : ∀ x, gB = some x → w0.heap.size ≤ x

set_option maxHeartbeats 8000000 in
set_option maxRecDepth 100000 in
theorem treads_walk (w : World) (xs : List Nat) (A : Option Addr) (n c : Nat) (hn : n ≤ 140737488354000) (hc : n ≤ c) (hc2 : c ≤ 9223372036854775807) (hl : n = xs.length) (h256 : ∀ x ∈ xs, x < 256) (hA : Sl w 1 A n (xs.map bn))
    (sc : List RStep) (V : Option Addr) (m d : Nat) (hm : m ≤ 9223372036854775806) (hV : RScript w w.heap.size V m sc) :
    Calls Try.prog 9 #[.slice A n c, .slice V m d] w fun e w' => e = .returned (.bool true) ∧ Below w.heap.size w w' := by
  obtain ⟨j0, hj, hj0, hj1, hj2⟩ := info_parts infoR
  obtain ⟨q0, hq, hq0, hq1, hq2⟩ := info_parts infoRR
  have Hl := hide hl
  have HV := hide hV
  have Hm := hide hV.1
  clear hl hV
  go_enter Try.func9, Try.ntmps9
  go_wp2_with fail
  refine (lent_any _ xs A n c (by omega) hA).mono ?_
  rintro e w1 ⟨A1, c1, g1, rfl, hL1, hg1, hf1⟩
  have hA1 := hA.below hf1 (fun _ _ => id)
  have hg1l := hL1.lt g1 rfl
  go_wp2_with fail
  refine (tnew_any _ xs A1 n c1 (by omega) h256 (hL1.sl Hl.out)).mono ?_
  rintro e w2 ⟨r0, pf, bb, rfl, hT2, hF2, hpf, hft, hbb, hf2⟩
  have hL2 : Lent w2 A1 n c1 xs g1 := Ow.fr hL1 hf2 (fun _ _ => id)
  have hA2 := hA1.below hf2 (fun _ _ => id)
  simp only [rp]
  go_wp2_with fail
  refine (kept_q _ xs A1 A n c1 c g1 (by omega) Hl.out hL2 hA2).mono ?_
  rintro e w3 ⟨rfl, hd3⟩
  have hf3 := fr_of_drewN hd3
  clear hd3
  have hL3 : Lent w3 A1 n c1 xs g1 := Ow.fr hL2 hf3 (fun _ _ => id)
  have hT3 := hT2.quiet hf3
  have hF3 := hF2.fr hf3 id
  go_wp2_with fail
  refine (over_any _ xs A1 n c1 (some g1) (Lent.ow hL3 Hl.out) (by omega)).mono ?_
  rintro e w4 ⟨rfl, hf4⟩
  have hty : Typed w3 g1 5 := hL3.typed g1 rfl
  have hT4 : TR w4 pf bb r0 (readS ⟨0, 0⟩ 0 xs).1 := hT3.offU hf4 (fun x e => by cases e; exact hty) (fun h0 e => by
    cases e
    rcases hbb with h | h
    · rw [h] at h0; simp at h0
    · omega)
  have hF4 := hF3.fr hf4 (fun e => by cases e; exact absurd ((Bl.typed hF3).same hty) (by decide))
  have s1 := hf1.size
  have s2 := hf2.size
  have s3 := hf3.size
  have s4 := hf4.size
  have hf04 : Fr (fun _ => False) w w4 := (((hf1.trans hf2).trans hf3)).comp hf4 fun x hx e => by cases e; omega
  have hA4 := hA.below hf04 (fun _ _ => id)
  have HT4 := hide hT4
  have HF4 := hide hF4
  clear hT2 hT3 hT4 hF2 hF3 hF4 hL1 hL2 hL3 hA1 hA2
  go_wp2_with fail
  have hB0 := (Ow.made w4 84 1 2 2 #[rp r0.p, .pointer none] [rp r0.p, .pointer none] rfl (by omega) (by unfold maxLen; omega) rfl)
  have hfa : Fr (fun _ => False) w4 (w4.alloc (.cells #[rp r0.p, .pointer none] 84)) := (Fr.refl _ _).alloc _
  refine (rnew_any _ xs A n c (by omega) hc hc2 h256 (hA4.below hfa (fun _ _ => id))).mono ?_
  rintro e w5 ⟨rq0, wq, rfl, hR5, hF5, hwq, hfq, hf5⟩
  simp only [rp]
  have hI0 : LI w w5 pf bb wq (readS ⟨0, 0⟩ 0 xs).2 [some (r0, rq0, (readS ⟨0, 0⟩ 0 xs).1), none] := by
    have hf45 := hfa.trans hf5
    refine ⟨fun r q d hm => ?_, HF4.out.fr hf45 id, hF5, ?_, ⟨by omega, by simp at hwq; omega, fun r q d hm => ?_⟩, hf04.trans hf45⟩
    · simp at hm
      obtain ⟨rfl, rfl, rfl⟩ := hm
      exact ⟨HT4.out.quiet hf45, hR5, HF4.out.fr hf45 id, hF5⟩
    · rw [List.pairwise_cons]
      refine ⟨fun y hy r q d r' q' d' e1 e2 => ?_, by simp⟩
      simp at hy
      rw [hy] at e2; cases e2
    · simp at hm
      obtain ⟨rfl, rfl, rfl⟩ := hm
      exact ⟨fun z hz => by have := hft z hz; omega, fun z hz => by have := hfq z hz; simp at this; omega⟩
  have s5 := hf5.size
  simp at s5
  have hLs0 : Lists w (w5.alloc (.cells #[rp rq0.q, .pointer none] 87)) [some (r0, rq0, (readS ⟨0, 0⟩ 0 xs).1), none] (some ⟨w4.heap.size, 0, none⟩) (some ⟨w5.heap.size, 0, none⟩) 2 2 2 (some w4.heap.size) (some w5.heap.size) :=
    ⟨(hB0.fr hf5 (fun _ _ => id)).fr (S := fun _ => False) ((Fr.refl _ _).alloc _) (fun _ _ => id), Ow.made w5 87 1 2 2 #[rp rq0.q, .pointer none] [rp rq0.q, .pointer none] rfl (by omega) (by unfold maxLen; omega) rfl, (fun x e => by cases e; omega), (fun x e => by cases e; omega)⟩
  have hI1 := hI0.quiet ((Fr.refl _ _).alloc (.cells #[rp rq0.q, .pointer none] 87))
  have HI1 := hide hI1
  have HLs0 := hide hLs0
  clear hI0 hI1 hLs0 hR5 hF5 HT4 HF4 hB0
  go_wp2_with fail
  go_loopw [7, 8, 9] (fun u v i wr => ∃ (k nn cA cB : Nat) (LA LB : Option Addr) (gA gB : Option Nat) (l : List RE) (f : RF), k ≤ m ∧ i = .int .i64 k ∧ u = .slice LA nn cA ∧ v = .slice LB nn cB ∧ 2 ≤ nn ∧ nn ≤ 60 ∧ LI w wr pf bb wq f l ∧ Lists w wr l LA LB nn cA cB gA gB) (fun _ _ i _ => m - (intOf i).toNat)
  case atStart => exact ⟨0, 2, 2, 2, _, _, _, _, _, _, by omega, rfl, rfl, rfl, by omega, by omega, HI1.out, HLs0.out⟩
  case round =>
    obtain ⟨k, nn, cA, cB, LA, LB, gA, gB, l, f, hkm, rfl, rfl, rfl, hn2, hn60, hI, hLs⟩ := hrel
    have hnl : Hid (nn = l.length) := by have := hLs.a.1; simp at this; exact this.symm
    by_cases hlt : k < m
    · have hks : k < sc.length := by rw [← Hm.out]; exact hlt
      obtain ⟨bV, oV, rfl, hbV, hcV⟩ := HV.out.2 (by omega)
      obtain ⟨hab, hcell⟩ := hcV k hks
      obtain ⟨⟨who, kind, tag, most, above⟩, hs⟩ : ∃ s, sc[k] = s := ⟨_, rfl⟩
      rw [hs] at hab hcell
      simp only at hab hcell
      obtain ⟨ix, hix⟩ : ∃ ix : Nat, who % (nn : Int) = (ix : Int) := ⟨(who % (nn : Int)).toNat, by have := Int.emod_nonneg who (show (nn : Int) ≠ 0 by omega); omega⟩
      have hixn : ix < nn := by have := Int.emod_lt_of_pos who (show (0 : Int) < (nn : Int) by omega); omega
      have Hix := hide hix
      obtain ⟨x, hx⟩ : ∃ x, l[ix]? = some x := ⟨_, List.getElem?_eq_getElem (by rw [← hnl.out]; exact hixn)⟩
      obtain ⟨bA, oA, rfl, rfl, cA'⟩ := hLs.a.listAt hx
      obtain ⟨bB, oB, rfl, rfl, cB'⟩ := hLs.b.listAt hx
      have hfw := hI.fr
      have hcw : ∀ j u, (rbox who kind tag most above)[j]? = some u → wr.cell? ⟨bV, oV + k * 5 + j, none⟩ = some u := fun j u hu => (hfw.cell (p := ⟨bV, oV + k * 5 + j, none⟩) hbV id).trans (hcell j u hu)
      have v0 : wr.cell? ⟨bV, oV + k * 5, none⟩ = some (.int .i64 who) := hcw 0 _ rfl
      have v1 : wr.cell? ⟨bV, oV + k * 5 + 1, none⟩ = some (.int .i64 kind) := hcw 1 _ rfl
      have v2 : wr.cell? ⟨bV, oV + k * 5 + 2, none⟩ = some (.int .i64 tag) := hcw 2 _ rfl
      have v3 : wr.cell? ⟨bV, oV + k * 5 + 3, none⟩ = some (.int .i64 most) := hcw 3 _ rfl
      have v4 : wr.cell? ⟨bV, oV + k * 5 + 4, none⟩ = some (.int .u64 (above : Int)) := hcw 4 _ rfl
      have HI := hide hI
      have HLs := hide hLs
      have hbVr : bV < wr.heap.size := Nat.lt_of_lt_of_le hbV hfw.size
      have Hx := hide hx
      clear hcV hcell hs hix hcw hI hLs hks hx
      have i0 : (0 : Int) ≤ (k : Int) := by omega
      have i1 : (k : Int) < (m : Int) := by omega
      have i2 : (0 : Int) ≤ (ix : Int) := by omega
      have i3 : (ix : Int) < (nn : Int) := by omega
      go_wp2_with fail
      refine (round_any _ who nn (by omega) (by omega)).mono ?_
      rintro e w' ⟨rfl, rfl⟩
      rw [Hix.out]
      go_wp2_with fail
      go_region_held3 (fun w' => w'.cell? ⟨bA, oA + ix, none⟩ = some (tv x) ∧ w'.cell? ⟨bB, oB + ix, none⟩ = some (qv x) ∧ w'.cell? ⟨bV, oV + k * 5, none⟩ = some (.int .i64 who) ∧ w'.cell? ⟨bV, oV + k * 5 + 1, none⟩ = some (.int .i64 kind) ∧ w'.cell? ⟨bV, oV + k * 5 + 2, none⟩ = some (.int .i64 tag) ∧ w'.cell? ⟨bV, oV + k * 5 + 3, none⟩ = some (.int .i64 most) ∧ w'.cell? ⟨bV, oV + k * 5 + 4, none⟩ = some (.int .u64 (above : Int))) (go_keep)
        ((go_at_call 43; refine (step_any w _ pf bb wq f l (HI.out.quiet (by exact (Fr.refl (fun _ => False) _).drew)) Hx.out who kind tag most above hab).mono ?_; rintro e w2 ⟨f', l', rs, qs, ds, X, Y, nX, cX, cY, gx, gy, rfl, hX, hY, hgx, hgy, hr1, hr2, hI2, hll, htv, hqv, S, hfS, hwS, hS0⟩; have nA : ¬ S bA := hwS.not (HLs.out.a.typed bA rfl) (by unfold Turns; decide); have nB : ¬ S bB := hwS.not (HLs.out.b.typed bB rfl) (by unfold Turns; decide); have y0 := (hfS.cell (World.block_lt_of_cell? wr _ cA') nA).trans cA'; have y1 := (hfS.cell (World.block_lt_of_cell? wr _ cB') nB).trans cB'; have nV : ¬ S bV := fun e => Nat.lt_irrefl _ (Nat.lt_of_lt_of_le hbV (hS0 bV e)); have x0 := (hfS.cell (World.block_lt_of_cell? wr _ v0) nV).trans v0; have x1 := (hfS.cell (World.block_lt_of_cell? wr _ v1) nV).trans v1; have x2 := (hfS.cell (World.block_lt_of_cell? wr _ v2) nV).trans v2; have x3 := (hfS.cell (World.block_lt_of_cell? wr _ v3) nV).trans v3; have x4 := (hfS.cell (World.block_lt_of_cell? wr _ v4) nV).trans v4))
      have hfw2 : Fr S wr w2 := (Fr.refl _ _).drew.trans hfS
      have hA2 : Ow w2 84 1 (some ⟨bA, oA, none⟩) nn cA (l'.map tv) (some bA) := by rw [htv]; exact HLs.out.a.fr hfw2 (fun y e => by cases e; exact nA)
      have hB2 : Ow w2 87 1 (some ⟨bB, oB, none⟩) nn cB (l'.map qv) (some bB) := by rw [hqv]; exact HLs.out.b.fr hfw2 (fun y e => by cases e; exact nB)
      have hbA : bA < wr.heap.size := HLs.out.a.lt bA rfl
      have hbB : bB < wr.heap.size := HLs.out.b.lt bB rfl
      have hgx' : ∀ y, gx = some y → wr.heap.size ≤ y := hgx
      have hgy' : ∀ y, gy = some y → wr.heap.size ≤ y := hgy
      have s2' := hfw2.size
      have hnX : Hid (nX = rs.length) := by have := hX.1; simp at this; exact this.symm
      have hnX2 : Hid (nX = qs.length) := by have := hY.1; simp at this; exact this.symm
      have hll' : Hid (l'.length = nn) := by show _ = _; rw [hll, ← hnl.out]
      have hnA0 := HLs.out.na bA rfl
      have hnB0 := HLs.out.nb bB rfl
      have HI2 := hide hI2
      have HX := hide hX
      have HY := hide hY
      have HA2 := hide hA2
      have HB2 := hide hB2
      have Hr1 := hide hr1
      have Hr2 := hide hr2
      clear hI2 hX hY hA2 hB2 hll htv hqv hr1 hr2 hgx hgy hfS hwS hS0 hfw2
      go_wp2_with fail
      go_loopw [7, 8, 14] (fun u v i wp => ∃ (t cA2 cB2 : Nat) (LA LB : Option Addr) (gA gB : Option Nat), t ≤ nX ∧ nn + t ≤ 60 ∧ i = .int .i64 t ∧ u = .slice LA (nn + t) cA2 ∧ v = .slice LB (nn + t) cB2 ∧ Lists w wp (l' ++ (pairs rs qs ds).take t) LA LB (nn + t) cA2 cB2 gA gB ∧ LI w wp pf bb wq f' (l' ++ pairs rs qs ds) ∧ (∀ y, gA = some y → y = bA ∨ w2.heap.size ≤ y) ∧ (∀ y, gB = some y → y = bB ∨ w2.heap.size ≤ y) ∧ Fr (fun y => y = bA ∨ y = bB) w2 wp) (fun _ _ i _ => nX - (intOf i).toNat)
      case atStart => exact ⟨0, cA, cB, _, _, _, _, by omega, by omega, rfl, rfl, rfl, ⟨by simpa using HA2.out, by simpa using HB2.out, (fun y e => by cases e; exact hnA0), (fun y e => by cases e; exact hnB0)⟩, HI2.out, (fun y e => by cases e; exact .inl rfl), (fun y e => by cases e; exact .inl rfl), Fr.refl _ _⟩
      case round =>
        obtain ⟨t, cA2, cB2, LA2, LB2, gA2, gB2, htX, ht60, rfl, rfl, rfl, hLs2, hI3, hgA2, hgB2, hfp⟩ := hrel
        have hXr := HX.out.fr hfp (fun y e e' => by have := hgx' y e; rcases e' with e' | e' <;> omega)
        have hYr := HY.out.fr hfp (fun y e e' => by have := hgy' y e; rcases e' with e' | e' <;> omega)
        by_cases ht : t < nX
        · by_cases h60 : nn + t < 60
          · have htr : t < rs.length := by rw [← hnX.out]; exact ht
            have htq : t < qs.length := by rw [← hnX2.out]; exact ht
            have htd : t < ds.length := by rw [← Hr1.out]; exact htr
            obtain ⟨bX, oX, rfl, rfl, cXt⟩ := hXr.listAt (k := t) (x := rs[t]) (List.getElem?_eq_getElem htr)
            obtain ⟨bY, oY, rfl, rfl, cYt⟩ := hYr.listAt (k := t) (x := qs[t]) (List.getElem?_eq_getElem htq)
            have cXt' : wr.cell? ⟨bX, oX + t, none⟩ = some (.pointer (some ⟨rs[t].p, 0, none⟩)) := cXt
            have cYt' : wr.cell? ⟨bY, oY + t, none⟩ = some (.pointer (some ⟨qs[t].q, 0, none⟩)) := cYt
            have hpt : Hid ((pairs rs qs ds).take (t + 1) = (pairs rs qs ds).take t ++ [some (rs[t], qs[t], ds[t])]) := by
              show _ = _
              have h1 := pairs_at htr htq htd
              have h2 := (List.getElem?_eq_some_iff.1 h1)
              rw [List.take_succ_eq_append_getElem h2.1, h2.2]
            have hbXl : bX < wr.heap.size := hXr.lt bX rfl
            have hbYl : bY < wr.heap.size := hYr.lt bY rfl
            have hbX0 := hgx' bX rfl
            have hbY0 := hgy' bY rfl
            have hbXw := HX.out.lt bX rfl
            have hbYw := HY.out.lt bY rfl
            have j1 : (0 : Int) ≤ (t : Int) := by omega
            have j2 : (t : Int) < (nX : Int) := by omega
            have j3 : (nn : Int) + (t : Int) < 60 := by omega
            have HLs2 := hide hLs2
            have HI3 := hide hI3
            have Hfp := hide hfp
            have hsp := hfp.size
            clear cXt cYt hLs2 hI3 hfp hXr hYr
            go_wp2_with (first | (at_builtin; refine wpList_append_ow _ rfl _ _ 86 rfl 84 j0 (.pointer none) 1 8 Try.underlying86 hj hj0 hj1 hj2 rfl (by decide) _ _ _ _ _ rfl (HLs2.out.a.fr (S := fun _ => False) ((Fr.refl _ _).alloc _) (fun _ _ => id)) _ _ _ [rp rs[t].p] rfl (Sl.one _ _ _) (by intro u hu; simp at hu; subst hu; rfl) (by unfold maxLen; omega) (by omega) ?_) | go_in)
            intro LA3 cA3 w3 gA3 hA3 hf3 hgA3
            have hf23 : Fr (fun y => some y = gA2) wr w3 := ((Fr.refl _ _).alloc _).comp hf3 (fun _ _ e => e)
            have cY3 := (hf23.cell (World.block_lt_of_cell? wr _ cYt') (fun e => by rcases hgA2 bY e.symm with h | h <;> omega)).trans cYt'
            have hB3 := HLs2.out.b.fr hf23 (fun y e1 e2 => by
              have h1 := HLs2.out.b.typed y e1
              exact absurd (h1.same (HLs2.out.a.typed y e2.symm)) (by decide))
            have HA3 := hide hA3
            have HB3 := hide hB3
            clear hA3 hB3
            go_wp2_with (first | (at_builtin; refine wpList_append_ow _ rfl _ _ 89 rfl 87 q0 (.pointer none) 1 8 Try.underlying89 hq hq0 hq1 hq2 rfl (by decide) _ _ _ _ _ rfl (HB3.out.fr (S := fun _ => False) ((Fr.refl _ _).alloc _) (fun _ _ => id)) _ _ _ [rp qs[t].q] rfl (Sl.one _ _ _) (by intro u hu; simp at hu; subst hu; rfl) (by unfold maxLen; omega) (by omega) ?_) | go_in)
            intro LB4 cB4 w4' gB4 hB4 hf4' hgB4
            have hf34 : Fr (fun y => some y = gB2) w3 w4' := ((Fr.refl _ _).alloc _).comp hf4' (fun _ _ e => e)
            have HB4 := hide hB4
            clear hB4
            go_wp2_with fail
            have s3' := hf23.size
            have hA4 := HA3.out.fr hf34 (fun y e1 e2 => by
              have h1 := HA3.out.typed y e1
              exact absurd (h1.same (HB3.out.typed y e2.symm)) (by decide))
            have hI4 := (HI3.out.off hf23 (fun y e => HLs2.out.a.typed y e.symm) (fun y e => HLs2.out.na y e.symm) (.inl rfl)).off hf34 (fun y e => HB3.out.typed y e.symm) (fun y e => HLs2.out.nb y e.symm) (.inr rfl)
            refine ⟨⟨t + 1, cA3, cB4, LA3, LB4, gA3, gB4, by omega, by omega, by go_num, rfl, rfl, ⟨?_, ?_, ?_, ?_⟩, hI4, ?_, ?_, ?_⟩, by simp [intOf]; omega⟩
            · have e : (l' ++ (pairs rs qs ds).take (t + 1)).map tv = l'.map tv ++ (((pairs rs qs ds).map tv).take t ++ [rp rs[t].p]) := by
                rw [hpt.out, List.map_append, List.map_append, List.map_take]; rfl
              rw [e]; exact hA4
            · have e : (l' ++ (pairs rs qs ds).take (t + 1)).map qv = l'.map qv ++ (((pairs rs qs ds).map qv).take t ++ [rp qs[t].q]) := by
                rw [hpt.out, List.map_append, List.map_append, List.map_take]; rfl
              rw [e]; exact HB4.out
            · exact fun y e => by
                rcases hgA3 with h | ⟨z, h, hz⟩
                · exact HLs2.out.na y (h ▸ e)
                · rw [h] at e; cases e
                  have := HI3.out.fr.size
                  first | omega | (simp at hz; omega)
            · exact fun y e => by
                rcases hgB4 with h | ⟨z, h, hz⟩
                · exact HLs2.out.nb y (h ▸ e)
                · rw [h] at e; cases e
                  have := HI3.out.fr.size
                  first | omega | (simp at hz; omega)
            · exact fun y e => by
                rcases hgA3 with h | ⟨z, h, hz⟩
                · exact hgA2 y (h ▸ e)
                · rw [h] at e; cases e
                  right; first | omega | (simp at hz; omega)
            · exact fun y e => by
                rcases hgB4 with h | ⟨z, h, hz⟩
                · exact hgB2 y (h ▸ e)
                · rw [h] at e; cases e
                  right; first | omega | (simp at hz; omega)
            · refine (Hfp.out.comp hf23 fun y hy e => ?_).comp hf34 fun y hy e => ?_
              · rcases hgA2 y e.symm with h | h
                · exact .inl h
                · omega
              · rcases hgB2 y e.symm with h | h
                · exact .inr h
                · omega
          · have j2 : (t : Int) < (nX : Int) := by omega
            have j3 : ¬ (nn : Int) + (t : Int) < 60 := by omega
            go_wp2_with fail
            exact ⟨⟨k + 1, nn + t, cA2, cB2, LA2, LB2, gA2, gB2, _, f', by omega, by go_num, rfl, rfl, by omega, by omega, hI3.sub (List.Sublist.append (List.Sublist.refl _) (List.take_sublist _ _)), hLs2⟩, by simp [intOf]; omega⟩
        · obtain rfl : t = nX := by omega
          go_wp2_with fail
          exact ⟨⟨k + 1, nn + t, cA2, cB2, LA2, LB2, gA2, gB2, _, f', by omega, by go_num, rfl, rfl, by omega, by omega, hI3.sub (List.Sublist.append (List.Sublist.refl _) (List.take_sublist _ _)), hLs2⟩, by simp [intOf]; omega⟩
    · obtain rfl : k = m := by omega
      have HLs := hide hLs
      have HI := hide hI
      clear hlt hLs hI
      go_wp2_with fail
      go_loopw [15] (fun i wp => ∃ (t : Nat) (l : List RE) (f : RF), t ≤ nn ∧ i = .int .i64 t ∧ Hid (nn = l.length) ∧ LI w wp pf bb wq f l ∧ Lists w wp l LA LB nn cA cB gA gB) (fun i _ => nn - (intOf i).toNat)
      case atStart => exact ⟨0, l, f, by omega, rfl, hnl, HI.out, HLs.out⟩
      case round =>
        clear hnl HI HLs
        obtain ⟨ix, l, f, hix, rfl, hnl, hI, hLs⟩ := hrel
        by_cases hlt : ix < nn
        · obtain ⟨x, hx⟩ : ∃ x, l[ix]? = some x := ⟨_, List.getElem?_eq_getElem (by rw [← hnl.out]; exact hlt)⟩
          obtain ⟨bA, oA, rfl, rfl, cA'⟩ := hLs.a.listAt hx
          obtain ⟨bB, oB, rfl, rfl, cB'⟩ := hLs.b.listAt hx
          have HI := hide hI
          have HLs := hide hLs
          have Hx := hide hx
          clear hI hLs hx
          have i2 : (0 : Int) ≤ (ix : Int) := by omega
          have i3 : (ix : Int) < (nn : Int) := by omega
          go_wp2_with fail
          go_region_held3 (fun w' => w'.cell? ⟨bA, oA + ix, none⟩ = some (tv x) ∧ w'.cell? ⟨bB, oB + ix, none⟩ = some (qv x)) (go_keep)
            ((go_at_call 43; refine (step_any w _ pf bb wq f l (HI.out.quiet (by exact (Fr.refl (fun _ => False) _).drew)) Hx.out 0 6 0 0 0 (by decide)).mono ?_; rintro e w2 ⟨af', al', ars, aqs, ads, aX, aY, anX, acX, acY, agx, agy, rfl, ahX, ahY, ahgx, ahgy, ahr1, ahr2, ahI2, ahll, ahtv, ahqv, aS, ahfS, ahwS, ahS0⟩; have anA : ¬ aS bA := ahwS.not (HLs.out.a.typed bA rfl) (by unfold Turns; decide); have anB : ¬ aS bB := ahwS.not (HLs.out.b.typed bB rfl) (by unfold Turns; decide); have ay0 := (ahfS.cell (World.block_lt_of_cell? wr _ cA') anA).trans cA'; have ay1 := (ahfS.cell (World.block_lt_of_cell? wr _ cB') anB).trans cB'))
          have hfw2 : Fr aS wr w2 := (Fr.refl _ _).drew.trans ahfS
          have HA2 := hide (HLs.out.a.fr hfw2 (fun y e => by cases e; exact anA))
          have HB2 := hide (HLs.out.b.fr hfw2 (fun y e => by cases e; exact anB))
          have HI3 := hide (ahI2.sub (List.sublist_append_left _ _))
          obtain ⟨x2, hx2⟩ : ∃ x2, al'[ix]? = some x2 := ⟨_, List.getElem?_eq_getElem (by rw [ahll, ← hnl.out]; exact hlt)⟩
          have et : tv x2 = tv x := by
            have h1 := congrArg (fun z => z[ix]?) ahtv
            simp only [List.getElem?_map, hx2, Hx.out, Option.map_some] at h1
            exact Option.some.inj h1
          have eq : qv x2 = qv x := by
            have h1 := congrArg (fun z => z[ix]?) ahqv
            simp only [List.getElem?_map, hx2, Hx.out, Option.map_some] at h1
            exact Option.some.inj h1
          have hcall : ∀ w', LI w w' pf bb wq af' al' → Calls Try.prog 43 #[tv x, qv x, .agg (rbox 0 7 0 0 0)] w' (StepOut w w' pf bb wq al' ix) := fun w' h => by
            have := step_any w w' pf bb wq af' al' h hx2 0 7 0 0 0 (by decide)
            rwa [et, eq] at this
          have Htv := hide ahtv
          have Hqv := hide ahqv
          have Hll := hide ahll
          clear ahX ahY ahgx ahgy ahr1 ahr2 ahI2 ahll ahtv ahqv ahfS ahwS ahS0 anA anB hfw2 hx2 et eq
          go_wp2_with fail
          go_region_held3 (fun w' => w'.cell? ⟨bA, oA + ix, none⟩ = some (tv x) ∧ w'.cell? ⟨bB, oB + ix, none⟩ = some (qv x)) (go_keep)
            ((go_at_call 43; refine (hcall _ (HI3.out.quiet (by exact (Fr.refl (fun _ => False) _).drew))).mono ?_; rintro e w3 ⟨bf', bl', brs, bqs, bds, bX, bY, bnX, bcX, bcY, bgx, bgy, rfl, bhX, bhY, bhgx, bhgy, bhr1, bhr2, bhI2, bhll, bhtv, bhqv, bS, bhfS, bhwS, bhS0⟩; have bnA : ¬ bS bA := bhwS.not (HA2.out.typed bA rfl) (by unfold Turns; decide); have bnB : ¬ bS bB := bhwS.not (HB2.out.typed bB rfl) (by unfold Turns; decide); have by0 := (bhfS.cell (World.block_lt_of_cell? w2 _ ay0) bnA).trans ay0; have by1 := (bhfS.cell (World.block_lt_of_cell? w2 _ ay1) bnB).trans ay1))
          have hfw3 : Fr bS w2 w3 := (Fr.refl _ _).drew.trans bhfS
          have HA3 := hide (HA2.out.fr hfw3 (fun y e => by cases e; exact bnA))
          have HB3 := hide (HB2.out.fr hfw3 (fun y e => by cases e; exact bnB))
          have HI4 := hide (bhI2.sub (List.sublist_append_left _ _))
          have Htv2 := hide bhtv
          have Hqv2 := hide bhqv
          have Hll2 := hide bhll
          clear bhX bhY bhgx bhgy bhr1 bhr2 bhI2 bhll bhtv bhqv bhfS bhwS bhS0 bnA bnB hfw3
          go_wp2_with fail
          exact ⟨⟨ix + 1, bl', bf', by omega, by go_num, by show nn = _; rw [Hll2.out, Hll.out, ← hnl.out], HI4.out, ⟨by rw [Htv2.out, Htv.out]; exact HA3.out, by rw [Hqv2.out, Hqv.out]; exact HB3.out, HLs.out.na, HLs.out.nb⟩⟩, by simp [intOf]; omega⟩
        · obtain rfl : ix = nn := by omega
          have HI := hide hI
          clear hlt hI hLs
          go_wp2_with fail
          go_ret
          exact ⟨rfl, HI.out.fr.toBelow (Nat.le_refl _) (fun _ _ => id)⟩
end Go.Proofs.Ytbglloafbmamoaa
