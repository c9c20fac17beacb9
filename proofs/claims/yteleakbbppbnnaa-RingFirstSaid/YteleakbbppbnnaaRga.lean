/-
  RingFirst: the walk.
-/
import Derived.Test.YteleakbbppbnnaaRg9
namespace Go.Proofs.Yteleakbbppbnnaa
open Go.RowKit
set_option linter.unusedVariables false
attribute [local go_sem ↓] Go.wp_at_zero Go.wp_at_succ

/-- The loop over the script. -/
def FHeld (w0 : World) (p q rp rq n : Nat) (va vb vi : Value) (w : World) : Prop :=
  ∃ i a b gp gq xs ys, vi = .int .i64 ((i : Nat) : Int) ∧ va = .int .i64 ((a : Nat) : Int) ∧ vb = .int .i64 ((b : Nat) : Int) ∧ i ≤ n ∧ a ≤ i * 65536 ∧ FS w0.heap.size w0 w p q rp rq a b gp gq xs ys

/-- The loop that makes the list. -/
def LHeld (ob : Nat) (os : Array Value) (a m : Nat) (w0 : World) (vl vk : Value) (w : World) : Prop :=
  ∃ (t : Nat) (A : Option Addr) (c : Nat) (g : Option Nat), vl = .slice A t c ∧ vk = .int .i64 ((t : Nat) : Int) ∧ t ≤ m ∧ Ow w 3 1 A t c ((seqI a t).map iv) g ∧ (∀ b, g = some b → ob < b) ∧ Bl w ob 36 os ∧ Fr (fun k => ob < k) w0 w
set_option maxHeartbeats 8000000 in
set_option maxRecDepth 100000 in
theorem first_walk (w : World) (one two : Int) (A : Option Addr) (n c : Nat) (hn : n * 64 ≤ 140737488355328) (f : Nat → Nat → Value) (kd wh tw nn x : Nat → Int) (AL : Nat → Option Addr) (nl cl : Nat → Nat) (hs : Cells w w.heap.size A n 6 f)
    (h0 : ∀ i, i < n → f i 0 = .int .i64 (kd i)) (h1 : ∀ i, i < n → f i 1 = .int .i64 (wh i)) (h2 : ∀ i, i < n → f i 2 = .int .i64 (tw i)) (h3 : ∀ i, i < n → f i 3 = .int .i64 (nn i)) (h4 : ∀ i, i < n → f i 4 = .int .i64 (x i))
    (h5 : ∀ i, i < n → f i 5 = .slice (AL i) (nl i) (cl i)) (h6 : ∀ i, i < n → nl i * 8 ≤ 140737488355328) :
    Calls Try.prog 4 #[.int .i64 one, .int .i64 two, .slice A n c] w fun e w' => e = .returned (.bool true) ∧ Below w.heap.size w w' := by
  obtain ⟨j0, hj, hj0, hj1, hj2⟩ := info_parts infoInt
  by_cases hb1 : one < 1 ∨ 65536 < one
  · have Hb1 := hide hb1
    clear hb1
    go_enter Try.func4, Try.ntmps4
    go_wp2_with fail
    refine (awake_any _).mono ?_
    rintro e w1 ⟨rfl, hf1⟩
    go_wp2_with fail
    refine (new_bad _ one Hb1.out).mono ?_
    rintro e w2 ⟨rfl, rfl⟩
    go_wp2_with fail
    by_cases hb2 : two < 1 ∨ 65536 < two
    · refine (new_bad _ two hb2).mono ?_
      rintro e w2 ⟨rfl, rfl⟩
      clear hb2
      go_wp2_with fail
      go_ret
      exact ⟨rfl, hf1.toBelow (Nat.le_refl _) (fun _ _ => id)⟩
    · obtain ⟨t2, rfl⟩ : ∃ t : Nat, two = (t : Int) := ⟨two.toNat, by omega⟩
      refine (new_ok _ t2 (by omega) (by omega)).mono ?_
      rintro e w2 ⟨rfl, -, hf2, -⟩
      clear hb2
      go_wp2_with fail
      go_ret
      exact ⟨rfl, (hf1.trans hf2).toBelow (Nat.le_refl _) (fun _ _ => id)⟩
  obtain ⟨rp, rfl⟩ : ∃ t : Nat, one = (t : Int) := ⟨one.toNat, by omega⟩
  have hr1 : 1 ≤ rp := by omega
  have hr2 : rp ≤ 65536 := by omega
  clear hb1
  by_cases hb2 : two < 1 ∨ 65536 < two
  · have Hb2 := hide hb2
    clear hb2
    go_enter Try.func4, Try.ntmps4
    go_wp2_with fail
    refine (awake_any _).mono ?_
    rintro e w1 ⟨rfl, hf1⟩
    go_wp2_with fail
    refine (new_ok _ rp hr1 hr2).mono ?_
    rintro e w2 ⟨rfl, -, hf2, -⟩
    go_wp2_with fail
    refine (new_bad _ two Hb2.out).mono ?_
    rintro e w3 ⟨rfl, rfl⟩
    go_wp2_with fail
    go_ret
    exact ⟨rfl, (hf1.trans hf2).toBelow (Nat.le_refl _) (fun _ _ => id)⟩
  obtain ⟨rq, rfl⟩ : ∃ t : Nat, two = (t : Int) := ⟨two.toNat, by omega⟩
  have hq1 : 1 ≤ rq := by omega
  have hq2 : rq ≤ 65536 := by omega
  clear hb2
  go_enter Try.func4, Try.ntmps4
  go_wp2_with fail
  refine (awake_any _).mono ?_
  rintro e w1 ⟨rfl, hf1⟩
  go_wp2_with fail
  refine (new_ok _ rp hr1 hr2).mono ?_
  rintro e w2 ⟨rfl, hR2, hf2, hs2⟩
  obtain ⟨p, hp⟩ : ∃ p, w1.heap.size = p := ⟨_, rfl⟩
  rw [hp] at hR2 hs2 ⊢
  have hpw : w.heap.size ≤ p := by rw [← hp]; exact hf1.size
  have hI2 : RI w2 p none rp [] := ⟨_, _, _, rfl, rfl, hR2⟩
  clear hR2 hp
  go_wp2_with fail
  refine (new_ok _ rq hq1 hq2).mono ?_
  rintro e w3 ⟨rfl, hR3, hf3, hs3⟩
  obtain ⟨q, hq⟩ : ∃ q, w2.heap.size = q := ⟨_, rfl⟩
  rw [hq] at hR3 hs3 ⊢
  have hpq : p < q := by rw [← hq]; exact hs2
  have hI3 : RI w3 q none rq [] := ⟨_, _, _, rfl, rfl, hR3⟩
  have hS0 : FS w.heap.size w w3 p q rp rq 0 0 none none [] [] := by
    refine ⟨⟨hI2.fr hf3 (fun _ _ => id), hI3, fun b h1 h2 => ?_⟩, by simp [seqI], Nat.le_refl _, ((hf1.trans hf2).trans hf3).weak _, Nat.le_refl _, fun k hk => ?_⟩
    · rcases h1 with rfl | h1
      · rcases h2 with h2 | h2
        · omega
        · cases h2
      · cases h1
    · rcases hk with (rfl | hk) | (rfl | hk)
      · exact hpw
      · cases hk
      · omega
      · cases hk
  clear hR3 hq hI2 hI3 hf1 hf2 hf3 hs2 hs3
  go_wp2_with fail
  go_loopw [11, 12, 13] (fun va vb vi wr => FHeld w p q rp rq n va vb vi wr) (fun _ _ i _ => n - (intOf i).toNat)
  case atStart => exact ⟨0, 0, 0, none, none, [], [], rfl, rfl, rfl, Nat.zero_le _, Nat.zero_le _, hS0⟩
  case round =>
    clear hS0
    obtain ⟨i, a, b, gp, gq, xs, ys, rfl, rfl, rfl, hi, hai, hS⟩ := hrel
    by_cases hlt : i < n
    · obtain ⟨bk, o, rfl, hbB, hcs⟩ := hs (by omega)
      have hb0 := hS.d.a.bounds
      have hb1 := hS.d.b.bounds
      have hln := hS.len
      have hle := hS.le
      have hc : ∀ j, j < 6 → wr.cell? ⟨bk, o + i * 6 + j, none⟩ = some (f i j) := fun j hj => (hS.fr.cell (p := ⟨bk, o + i * 6 + j, none⟩) hbB (by simp; omega)).trans (hcs i j hlt hj)
      have d0 := (hc 0 (by omega)).trans (congrArg some (h0 i hlt))
      rw [Nat.add_zero] at d0
      have d1 := (hc 1 (by omega)).trans (congrArg some (h1 i hlt))
      have d2 := (hc 2 (by omega)).trans (congrArg some (h2 i hlt))
      have d3 := (hc 3 (by omega)).trans (congrArg some (h3 i hlt))
      have d4 := (hc 4 (by omega)).trans (congrArg some (h4 i hlt))
      have d5 := (hc 5 (by omega)).trans (congrArg some (h5 i hlt))
      have hnl := h6 i hlt
      obtain ⟨kk, hkk⟩ : ∃ z, kd i = z := ⟨_, rfl⟩
      obtain ⟨ww, hww⟩ : ∃ z, wh i = z := ⟨_, rfl⟩
      obtain ⟨tt, htt⟩ : ∃ z, tw i = z := ⟨_, rfl⟩
      obtain ⟨nz, hnz⟩ : ∃ z, nn i = z := ⟨_, rfl⟩
      obtain ⟨xx, hxx⟩ : ∃ z, x i = z := ⟨_, rfl⟩
      obtain ⟨LA, hLA⟩ : ∃ z, AL i = z := ⟨_, rfl⟩
      obtain ⟨m, hm⟩ : ∃ z, nl i = z := ⟨_, rfl⟩
      obtain ⟨mc, hmc⟩ : ∃ z, cl i = z := ⟨_, rfl⟩
      rw [hkk] at d0
      rw [hww] at d1
      rw [htt] at d2
      rw [hnz] at d3
      rw [hxx] at d4
      rw [hLA, hm, hmc] at d5
      rw [hm] at hnl
      clear hc hcs hs h0 h1 h2 h3 h4 h5 h6 hkk hww htt hnz hxx hLA hm hmc
      by_cases k1 : kk = 1
      · subst k1
        go_wp2_with fail
        obtain ⟨wo, rfl⟩ : ∃ wo, wo = wr := ⟨_, rfl⟩
        obtain ⟨ob, hob⟩ : ∃ ob, wo.heap.size = ob := ⟨_, rfl⟩
        have hbx := Bl.new wo 36 #[.int .i64 1, .int .i64 ww, .int .i64 tt, .int .i64 nz, .int .i64 xx, .slice LA m mc]
        have hfx : Fr (fun _ => False) wo (wo.alloc (.cells #[.int .i64 1, .int .i64 ww, .int .i64 tt, .int .i64 nz, .int .i64 xx, .slice LA m mc] 36)) := (Fr.refl _ _).alloc _
        have hsx : ob < (wo.alloc (.cells #[.int .i64 1, .int .i64 ww, .int .i64 tt, .int .i64 nz, .int .i64 xx, .slice LA m mc] 36)).heap.size := by simp; omega
        have hfoot : ∀ z, foot p gp z ∨ foot q gq z → z ≠ ob := fun z hz => by
          rcases hz with hz | hz
          · have := hS.d.a.lt hz; omega
          · have := hS.d.b.lt hz; omega
        rw [hob] at hbx ⊢
        generalize wo.alloc (.cells #[.int .i64 1, .int .i64 ww, .int .i64 tt, .int .i64 nz, .int .i64 xx, .slice LA m mc] 36) = wx at hbx hfx hsx ⊢
        go_loopw [15, 16] (fun vl vk wq => LHeld ob #[.int .i64 1, .int .i64 ww, .int .i64 tt, .int .i64 nz, .int .i64 xx, .slice LA m mc] a m wx vl vk wq) (fun _ vk _ => m - (intOf vk).toNat)
        case atStart => exact ⟨0, none, 0, none, rfl, rfl, Nat.zero_le _, by simpa [seqI] using Ow.nil_ _ _ _, (fun b h => by cases h), hbx, Fr.refl _ _⟩
        case round =>
          clear hbx
          obtain ⟨t, A3, c3, g3, rfl, rfl, ht, hO, hg3, hbx, hfq⟩ := hrel
          have e0 : wr.cell? ⟨ob, 5, none⟩ = some (.slice LA m mc) := hbx.cell' rfl
          by_cases hltm : t < m
          · have hlo := hO.lt
            have hwz : IntKind.i64.wrap ((a : Int) + (t : Int)) = (a : Int) + (t : Int) := IntWalk.i64_in _ (by omega)
            go_wp2_with (first | (at_builtin; go_loud (refine wpList_append_ow _ rfl _ _ 22 rfl 3 j0 (.int .i64 0) 1 8 Try.underlying22 hj hj0 hj1 hj2 rfl (by decide) _ _ _ _ _ rfl (hO.fr (S := fun _ => False) ((Fr.refl _ _).alloc _) (fun _ _ => id)) _ _ _ [.int .i64 ((a : Int) + (t : Int))] rfl (sl_one _ _ _) (by intro u hu; simp at hu; subst hu; rfl) (by unfold maxLen; omega) (by omega) ?_)) | go_in)
            intro A4 c4 w4 g4 hO4 hf4 hg4
            have hbx4 : Bl w4 ob 36 #[.int .i64 1, .int .i64 ww, .int .i64 tt, .int .i64 nz, .int .i64 xx, .slice LA m mc] := (hbx.alloc _).fr hf4 (fun e => by have := hg3 ob e.symm; omega)
            have hfq4 : Fr (fun k => ob < k) wx w4 := (hfq.alloc _).comp hf4 (fun k _ e => hg3 k e.symm)
            have hobw := hbx.lt
            clear hO hf4 hfq hbx
            go_wp2_with fail
            refine ⟨⟨t + 1, A4, c4, g4, rfl, by go_num, hltm, by rw [seqI_succ, List.map_append]; exact hO4, fun b hb => ?_, hbx4, hfq4⟩, by simp [intOf]; omega⟩
            rcases hg4 with rfl | ⟨b3, rfl, hb3⟩
            · exact hg3 b hb
            · cases hb; omega
          · obtain rfl : t = m := by omega
            have hS2 := hS.later ((hfx.weak _).trans (hfq.mono fun k _ e => by omega))
            have hlo := hO.lt
            have hsl := hO.sl
            have hap : ∀ b, (∃ o, A3 = some ⟨b, o, none⟩) → b < wr.heap.size → ¬ foot p gp b := fun b' ⟨o', e⟩ hb' hf' => by
              have h9 := hS.d.a.lt hf'
              rcases hO.2 with ⟨h8, _⟩ | ⟨b8, o8, cur8, hA8, hg8, _⟩
              · rw [e] at h8; cases h8
              · rw [e] at hA8; cases hA8
                have := hg3 _ hg8; omega
            clear hS hO
            have hwr : IntKind.i64.wrap ((rp : Int) - (xs.length : Int)) = (rp : Int) - (xs.length : Int) := IntWalk.i64_in _ (by omega)
            have hwa : IntKind.i64.wrap ((a : Int) + (t : Int)) = (a : Int) + (t : Int) := IntWalk.i64_in _ (by omega)
            go_wp2_with fail
            refine (roomR_any _ hS2.d.a).mono ?_
            rintro e w9 ⟨rfl, rfl⟩
            go_wp2_with fail
            refine (lenR_any _ hS2.d.a).mono ?_
            rintro e w9 ⟨rfl, rfl⟩
            go_wp2_with fail
            by_cases hroom : xs.length + t ≤ rp
            · refine (push_ok _ hS2.d.a A3 t c3 (seqI a t) hsl hap hroom).mono ?_
              rintro e w10 ⟨rfl, hR⟩
              obtain ⟨gp2, gq2, hS⟩ := hS2.turn (a' := a + t) (b' := b) (hS2.d.left hR) (by rw [← List.append_assoc, hS2.seq, show a + t - b = a - b + t by omega, ← seqI_app, show b + (a - b) = a by omega]) (by omega)
              have hroom' : (t : Int) ≤ (rp : Int) - (xs.length : Int) := by omega
              clear hR hS2 hsl hap
              go_wp2_with fail
              obtain ⟨a2, ha2⟩ : ∃ a2, a + t = a2 := ⟨_, rfl⟩
              obtain ⟨b2, rfl⟩ : ∃ b2, b2 = b := ⟨_, rfl⟩
              obtain ⟨xs2, hxs2⟩ : ∃ xs2, xs ++ seqI a t = xs2 := ⟨_, rfl⟩
              obtain ⟨ys2, rfl⟩ : ∃ ys2, ys2 = ys := ⟨_, rfl⟩
              have ha3 : (a : Int) + (t : Int) = (a2 : Int) := by omega
              have hai2 : a2 ≤ (i + 1) * 65536 := by omega
              simp only [ha3]
              rw [ha2, hxs2] at hS
              clear ha3 ha2 hxs2
              (have l1 := hS.len; have l2 := hS.d.a.bounds; have l3 := hS.d.b.bounds; have l4 := hS.le; have c1 := hS.d.a; have c2 := hS.d.b; have HS := hide hS; obtain ⟨nx2, hx2⟩ : ∃ z, xs2.length = z := ⟨_, rfl⟩; obtain ⟨ny2, hy2⟩ : ∃ z, ys2.length = z := ⟨_, rfl⟩; have v1 := fun w (h : RI w p gp2 rp xs2) => lenR_any w h; have v2 := fun w (h : RI w q gq2 rq ys2) => lenR_any w h; rw [hx2] at l1 l2 v1; rw [hy2] at l1 l3 v2; have w1 : IntKind.i64.wrap ((nx2 : Int) + (ny2 : Int)) = (nx2 : Int) + (ny2 : Int) := IntWalk.i64_in _ (by omega); have w2 : IntKind.i64.wrap ((a2 : Int) - (b2 : Int)) = (a2 : Int) - (b2 : Int) := IntWalk.i64_in _ (by omega); have z1 : (nx2 : Int) + (ny2 : Int) = (a2 : Int) - (b2 : Int) := (by omega); have z2 : ¬ rp < nx2 := (by omega); have z3 : ¬ rq < ny2 := (by omega); have V1 := hide (v1 _ c1); have V2 := hide (v2 _ c2); clear hS l1 l2 l3 l4 c1 c2 hx2 hy2 v1 v2)
              go_wp2_with fail; refine V1.out.mono ?_; rintro e w9 ⟨rfl, rfl⟩; go_wp2_with fail; refine V2.out.mono ?_; rintro e w9 ⟨rfl, rfl⟩; go_wp2_with fail; refine V1.out.mono ?_; rintro e w9 ⟨rfl, rfl⟩; go_wp2_with fail; refine V2.out.mono ?_; rintro e w9 ⟨rfl, rfl⟩; go_wp2_with fail; exact ⟨⟨i + 1, a2, b2, gp2, gq2, xs2, ys2, by go_num, rfl, rfl, hlt, hai2, HS.out⟩, by simp [intOf]; omega⟩
            · refine (push_full _ hS2.d.a A3 t c3 hroom).mono ?_
              rintro e w10 ⟨rfl, hf10⟩
              have hS := hS2.quiet hf10
              have hroom' : ¬ (t : Int) ≤ (rp : Int) - (xs.length : Int) := by omega
              clear hS2 hf10 hsl hap
              go_wp2_with fail
              obtain ⟨a2, rfl⟩ : ∃ a2, a2 = a := ⟨_, rfl⟩; (have hai2 : a2 ≤ (i + 1) * 65536 := Nat.le_trans hai (Nat.mul_le_mul_right _ (Nat.le_succ i)))
              obtain ⟨b2, rfl⟩ : ∃ b2, b2 = b := ⟨_, rfl⟩
              obtain ⟨xs2, rfl⟩ : ∃ xs2, xs2 = xs := ⟨_, rfl⟩
              obtain ⟨ys2, rfl⟩ : ∃ ys2, ys2 = ys := ⟨_, rfl⟩
              obtain ⟨gp2, rfl⟩ : ∃ z, z = gp := ⟨_, rfl⟩
              obtain ⟨gq2, rfl⟩ : ∃ z, z = gq := ⟨_, rfl⟩
              (have l1 := hS.len; have l2 := hS.d.a.bounds; have l3 := hS.d.b.bounds; have l4 := hS.le; have c1 := hS.d.a; have c2 := hS.d.b; have HS := hide hS; obtain ⟨nx2, hx2⟩ : ∃ z, xs2.length = z := ⟨_, rfl⟩; obtain ⟨ny2, hy2⟩ : ∃ z, ys2.length = z := ⟨_, rfl⟩; have v1 := fun w (h : RI w p gp2 rp xs2) => lenR_any w h; have v2 := fun w (h : RI w q gq2 rq ys2) => lenR_any w h; rw [hx2] at l1 l2 v1; rw [hy2] at l1 l3 v2; have w1 : IntKind.i64.wrap ((nx2 : Int) + (ny2 : Int)) = (nx2 : Int) + (ny2 : Int) := IntWalk.i64_in _ (by omega); have w2 : IntKind.i64.wrap ((a2 : Int) - (b2 : Int)) = (a2 : Int) - (b2 : Int) := IntWalk.i64_in _ (by omega); have z1 : (nx2 : Int) + (ny2 : Int) = (a2 : Int) - (b2 : Int) := (by omega); have z2 : ¬ rp < nx2 := (by omega); have z3 : ¬ rq < ny2 := (by omega); have V1 := hide (v1 _ c1); have V2 := hide (v2 _ c2); clear hS l1 l2 l3 l4 c1 c2 hx2 hy2 v1 v2)
              go_wp2_with fail; refine V1.out.mono ?_; rintro e w9 ⟨rfl, rfl⟩; go_wp2_with fail; refine V2.out.mono ?_; rintro e w9 ⟨rfl, rfl⟩; go_wp2_with fail; refine V1.out.mono ?_; rintro e w9 ⟨rfl, rfl⟩; go_wp2_with fail; refine V2.out.mono ?_; rintro e w9 ⟨rfl, rfl⟩; go_wp2_with fail; exact ⟨⟨i + 1, a2, b2, gp2, gq2, xs2, ys2, by go_num, rfl, rfl, hlt, hai2, HS.out⟩, by simp [intOf]; omega⟩
      by_cases k2 : kk = 8
      · subst k2
        go_wp2_with fail
        obtain ⟨wo, rfl⟩ : ∃ wo, wo = wr := ⟨_, rfl⟩
        obtain ⟨ob, hob⟩ : ∃ ob, wo.heap.size = ob := ⟨_, rfl⟩
        have hbx := Bl.new wo 36 #[.int .i64 8, .int .i64 ww, .int .i64 tt, .int .i64 nz, .int .i64 xx, .slice LA m mc]
        have hS2 := hS.quiet ((Fr.refl _ wo).alloc (.cells #[.int .i64 8, .int .i64 ww, .int .i64 tt, .int .i64 nz, .int .i64 xx, .slice LA m mc] 36))
        have hfoot : ∀ z, foot p gp z ∨ foot q gq z → z ≠ ob := fun z hz => by
          rcases hz with hz | hz
          · have := hS.d.a.lt hz; omega
          · have := hS.d.b.lt hz; omega
        rw [hob] at hbx ⊢
        generalize wo.alloc (.cells #[.int .i64 8, .int .i64 ww, .int .i64 tt, .int .i64 nz, .int .i64 xx, .slice LA m mc] 36) = wx at hbx hS2 ⊢
        have e3 : wx.cell? ⟨ob, 3, none⟩ = some (.int .i64 nz) := hbx.cell' rfl
        clear hS d0 d1 d2 d3 d4 d5
        refine (lenR_any _ hS2.d.a).mono ?_
        rintro e w9 ⟨rfl, rfl⟩
        go_wp2_with fail
        by_cases hz : 0 ≤ nz
        · have hz' : ¬ nz < 0 := by omega
          obtain ⟨k, hk⟩ : ∃ k, min nz.toNat (min xs.length (rq - ys.length)) = k := ⟨_, rfl⟩
          have hkx : k ≤ xs.length := by omega
          refine (move_ok _ hS2.d nz hz k hk.symm).mono ?_
          rintro e w10 ⟨rfl, hD⟩
          have e4 : w10.cell? ⟨ob, 3, none⟩ = some (.int .i64 nz) := by
            obtain ⟨g1, g2, -, hf, -⟩ := hD
            exact (hf.cell (p := ⟨ob, 3, none⟩) hbx.lt (fun e => hfoot ob e rfl)).trans e3
          obtain ⟨gp2, gq2, hS⟩ := hS2.turn (a' := a) (b' := b) hD (by rw [List.append_assoc, List.take_append_drop]; exact hS2.seq) hS2.le
          obtain ⟨xs2, hxs2⟩ : ∃ z, xs.drop k = z := ⟨_, rfl⟩
          obtain ⟨ys2, hys2⟩ : ∃ z, ys ++ xs.take k = z := ⟨_, rfl⟩
          have hlx : xs2.length = xs.length - k := by rw [← hxs2, List.length_drop]
          rw [hxs2, hys2] at hS
          obtain ⟨a2, rfl⟩ : ∃ a2, a2 = a := ⟨_, rfl⟩; (have hai2 : a2 ≤ (i + 1) * 65536 := Nat.le_trans hai (Nat.mul_le_mul_right _ (Nat.le_succ i)))
          obtain ⟨b2, rfl⟩ : ∃ b2, b2 = b := ⟨_, rfl⟩
          have u1 : IntKind.i64.wrap ((xs.length : Int) - (k : Int)) = (xs.length : Int) - (k : Int) := IntWalk.i64_in _ (by omega)
          have u2 : (xs2.length : Int) = (xs.length : Int) - (k : Int) := by omega
          have V0 := hide (lenR_any _ hS.d.a)
          clear hD hS2 e3 hxs2 hys2 hk
          go_wp2_with fail
          refine V0.out.mono ?_
          rintro e w9 ⟨rfl, rfl⟩
          clear V0
          go_wp2_with fail
          clear u1 u2 hlx
          (have l1 := hS.len; have l2 := hS.d.a.bounds; have l3 := hS.d.b.bounds; have l4 := hS.le; have c1 := hS.d.a; have c2 := hS.d.b; have HS := hide hS; obtain ⟨nx2, hx2⟩ : ∃ z, xs2.length = z := ⟨_, rfl⟩; obtain ⟨ny2, hy2⟩ : ∃ z, ys2.length = z := ⟨_, rfl⟩; have v1 := fun w (h : RI w p gp2 rp xs2) => lenR_any w h; have v2 := fun w (h : RI w q gq2 rq ys2) => lenR_any w h; rw [hx2] at l1 l2 v1; rw [hy2] at l1 l3 v2; have w1 : IntKind.i64.wrap ((nx2 : Int) + (ny2 : Int)) = (nx2 : Int) + (ny2 : Int) := IntWalk.i64_in _ (by omega); have w2 : IntKind.i64.wrap ((a2 : Int) - (b2 : Int)) = (a2 : Int) - (b2 : Int) := IntWalk.i64_in _ (by omega); have z1 : (nx2 : Int) + (ny2 : Int) = (a2 : Int) - (b2 : Int) := (by omega); have z2 : ¬ rp < nx2 := (by omega); have z3 : ¬ rq < ny2 := (by omega); have V1 := hide (v1 _ c1); have V2 := hide (v2 _ c2); clear hS l1 l2 l3 l4 c1 c2 hx2 hy2 v1 v2)
          go_wp2_with fail; refine V1.out.mono ?_; rintro e w9 ⟨rfl, rfl⟩; go_wp2_with fail; refine V2.out.mono ?_; rintro e w9 ⟨rfl, rfl⟩; go_wp2_with fail; refine V1.out.mono ?_; rintro e w9 ⟨rfl, rfl⟩; go_wp2_with fail; refine V2.out.mono ?_; rintro e w9 ⟨rfl, rfl⟩; go_wp2_with fail; exact ⟨⟨i + 1, a2, b2, gp2, gq2, xs2, ys2, by go_num, rfl, rfl, hlt, hai2, HS.out⟩, by simp [intOf]; omega⟩
        · have hz' : nz < 0 := by omega
          refine (move_bad _ hS2.d nz hz').mono ?_
          rintro e w10 ⟨rfl, rfl⟩
          have V0 := hide (lenR_any _ hS2.d.a)
          have u1 : IntKind.i64.wrap ((xs.length : Int)) = (xs.length : Int) := IntWalk.i64_in _ (by omega)
          go_wp2_with fail
          refine V0.out.mono ?_
          rintro e w9 ⟨rfl, rfl⟩
          clear V0
          have hS := hS2
          clear hS2
          go_wp2_with fail
          obtain ⟨a2, rfl⟩ : ∃ a2, a2 = a := ⟨_, rfl⟩; (have hai2 : a2 ≤ (i + 1) * 65536 := Nat.le_trans hai (Nat.mul_le_mul_right _ (Nat.le_succ i)))
          obtain ⟨b2, rfl⟩ : ∃ b2, b2 = b := ⟨_, rfl⟩
          obtain ⟨xs2, rfl⟩ : ∃ xs2, xs2 = xs := ⟨_, rfl⟩
          obtain ⟨ys2, rfl⟩ : ∃ ys2, ys2 = ys := ⟨_, rfl⟩
          obtain ⟨gp2, rfl⟩ : ∃ z, z = gp := ⟨_, rfl⟩
          obtain ⟨gq2, rfl⟩ : ∃ z, z = gq := ⟨_, rfl⟩

          (have l1 := hS.len; have l2 := hS.d.a.bounds; have l3 := hS.d.b.bounds; have l4 := hS.le; have c1 := hS.d.a; have c2 := hS.d.b; have HS := hide hS; obtain ⟨nx2, hx2⟩ : ∃ z, xs2.length = z := ⟨_, rfl⟩; obtain ⟨ny2, hy2⟩ : ∃ z, ys2.length = z := ⟨_, rfl⟩; have v1 := fun w (h : RI w p gp2 rp xs2) => lenR_any w h; have v2 := fun w (h : RI w q gq2 rq ys2) => lenR_any w h; rw [hx2] at l1 l2 v1; rw [hy2] at l1 l3 v2; have w1 : IntKind.i64.wrap ((nx2 : Int) + (ny2 : Int)) = (nx2 : Int) + (ny2 : Int) := IntWalk.i64_in _ (by omega); have w2 : IntKind.i64.wrap ((a2 : Int) - (b2 : Int)) = (a2 : Int) - (b2 : Int) := IntWalk.i64_in _ (by omega); have z1 : (nx2 : Int) + (ny2 : Int) = (a2 : Int) - (b2 : Int) := (by omega); have z2 : ¬ rp < nx2 := (by omega); have z3 : ¬ rq < ny2 := (by omega); have V1 := hide (v1 _ c1); have V2 := hide (v2 _ c2); clear hS l1 l2 l3 l4 c1 c2 hx2 hy2 v1 v2)
          go_wp2_with fail; refine V1.out.mono ?_; rintro e w9 ⟨rfl, rfl⟩; go_wp2_with fail; refine V2.out.mono ?_; rintro e w9 ⟨rfl, rfl⟩; go_wp2_with fail; refine V1.out.mono ?_; rintro e w9 ⟨rfl, rfl⟩; go_wp2_with fail; refine V2.out.mono ?_; rintro e w9 ⟨rfl, rfl⟩; go_wp2_with fail; exact ⟨⟨i + 1, a2, b2, gp2, gq2, xs2, ys2, by go_num, rfl, rfl, hlt, hai2, HS.out⟩, by simp [intOf]; omega⟩
      by_cases k3 : kk = 2
      · subst k3
        go_wp2_with fail
        obtain ⟨wo, rfl⟩ : ∃ wo, wo = wr := ⟨_, rfl⟩
        obtain ⟨ob, hob⟩ : ∃ ob, wo.heap.size = ob := ⟨_, rfl⟩
        have hbx := Bl.new wo 36 #[.int .i64 2, .int .i64 ww, .int .i64 tt, .int .i64 nz, .int .i64 xx, .slice LA m mc]
        have hS2 := hS.quiet ((Fr.refl _ wo).alloc (.cells #[.int .i64 2, .int .i64 ww, .int .i64 tt, .int .i64 nz, .int .i64 xx, .slice LA m mc] 36))
        have hfoot : ∀ z, foot p gp z ∨ foot q gq z → z ≠ ob := fun z hz => by
          rcases hz with hz | hz
          · have := hS.d.a.lt hz; omega
          · have := hS.d.b.lt hz; omega
        rw [hob] at hbx ⊢
        generalize wo.alloc (.cells #[.int .i64 2, .int .i64 ww, .int .i64 tt, .int .i64 nz, .int .i64 xx, .slice LA m mc] 36) = wx at hbx hS2 ⊢
        have e3 : wx.cell? ⟨ob, 3, none⟩ = some (.int .i64 nz) := hbx.cell' rfl
        clear hS d0 d1 d2 d3 d4 d5
        cases hy : ys with
        | nil =>
          subst hy
          have hpop := hide (pop_any _ hS2.d.b)
          go_wp2_with fail
          refine hpop.out.mono ?_
          rintro e w10 ⟨rfl, hK⟩
          obtain ⟨gp2, gq2, hS⟩ := hS2.turn (a' := a) (b' := b) (hS2.d.right hK.out) hS2.seq hS2.le
          have V0 := hide (lenR_any _ hS.d.b)
          clear hpop hK hS2
          go_wp2_with fail
          refine V0.out.mono ?_
          rintro e w9 ⟨rfl, rfl⟩
          clear V0
          go_wp2_with fail
          obtain ⟨a2, rfl⟩ : ∃ a2, a2 = a := ⟨_, rfl⟩; (have hai2 : a2 ≤ (i + 1) * 65536 := Nat.le_trans hai (Nat.mul_le_mul_right _ (Nat.le_succ i)))
          obtain ⟨b2, rfl⟩ : ∃ b2, b2 = b := ⟨_, rfl⟩
          obtain ⟨xs2, rfl⟩ : ∃ xs2, xs2 = xs := ⟨_, rfl⟩
          obtain ⟨ys2, hys2⟩ : ∃ z, ([] : List Int).drop 1 = z := ⟨_, rfl⟩
          rw [hys2] at hS
          clear hys2
          (have l1 := hS.len; have l2 := hS.d.a.bounds; have l3 := hS.d.b.bounds; have l4 := hS.le; have c1 := hS.d.a; have c2 := hS.d.b; have HS := hide hS; obtain ⟨nx2, hx2⟩ : ∃ z, xs2.length = z := ⟨_, rfl⟩; obtain ⟨ny2, hy2⟩ : ∃ z, ys2.length = z := ⟨_, rfl⟩; have v1 := fun w (h : RI w p gp2 rp xs2) => lenR_any w h; have v2 := fun w (h : RI w q gq2 rq ys2) => lenR_any w h; rw [hx2] at l1 l2 v1; rw [hy2] at l1 l3 v2; have w1 : IntKind.i64.wrap ((nx2 : Int) + (ny2 : Int)) = (nx2 : Int) + (ny2 : Int) := IntWalk.i64_in _ (by omega); have w2 : IntKind.i64.wrap ((a2 : Int) - (b2 : Int)) = (a2 : Int) - (b2 : Int) := IntWalk.i64_in _ (by omega); have z1 : (nx2 : Int) + (ny2 : Int) = (a2 : Int) - (b2 : Int) := (by omega); have z2 : ¬ rp < nx2 := (by omega); have z3 : ¬ rq < ny2 := (by omega); have V1 := hide (v1 _ c1); have V2 := hide (v2 _ c2); clear hS l1 l2 l3 l4 c1 c2 hx2 hy2 v1 v2)
          go_wp2_with fail; refine V1.out.mono ?_; rintro e w9 ⟨rfl, rfl⟩; go_wp2_with fail; refine V2.out.mono ?_; rintro e w9 ⟨rfl, rfl⟩; go_wp2_with fail; refine V1.out.mono ?_; rintro e w9 ⟨rfl, rfl⟩; go_wp2_with fail; refine V2.out.mono ?_; rintro e w9 ⟨rfl, rfl⟩; go_wp2_with fail; exact ⟨⟨i + 1, a2, b2, gp2, gq2, xs2, ys2, by go_num, rfl, rfl, hlt, hai2, HS.out⟩, by simp [intOf]; omega⟩
        | cons y rest =>
          subst hy
          have hseq := hS2.seq
          have hab : b < a := by
            have h9 := hS2.len
            simp only [List.length_cons] at h9
            omega
          obtain ⟨k9, hk9⟩ : ∃ k, a - b = k + 1 := ⟨a - b - 1, by omega⟩
          have hy : y = (b : Int) := by
            have h9 := congrArg (fun l => l[0]?) hseq
            simp only [List.cons_append, List.getElem?_cons_zero] at h9
            rw [seqI_get (by omega)] at h9
            simpa using h9
          have hrest : rest ++ xs = seqI (b + 1) (a - (b + 1)) := by
            have h9 := congrArg (List.drop 1) hseq
            rw [seqI_drop] at h9
            simpa [show a - b - 1 = a - (b + 1) by omega] using h9
          subst hy
          have hpop := pop_any _ hS2.d.b
          simp only [List.headD_cons, List.length_cons, List.drop_succ_cons, List.drop_zero, Nat.zero_lt_succ, decide_true] at hpop
          have Hpop := hide hpop
          have hwb : IntKind.i64.wrap ((b : Int) + 1) = (b : Int) + 1 := IntWalk.i64_in _ (by omega)
          clear hpop hseq hk9
          go_wp2_with fail
          refine Hpop.out.mono ?_
          rintro e w10 ⟨rfl, hK⟩
          obtain ⟨gp2, gq2, hS⟩ := hS2.turn (a' := a) (b' := b + 1) (hS2.d.right hK.out) hrest hab
          clear Hpop hK hS2 hrest
          go_wp2_with fail
          obtain ⟨b2, hb2⟩ : ∃ b2, b + 1 = b2 := ⟨_, rfl⟩
          have hb3 : (b : Int) + 1 = (b2 : Int) := by omega
          simp only [hb3]
          rw [hb2] at hS
          clear hb3 hb2 hwb
          obtain ⟨a2, rfl⟩ : ∃ a2, a2 = a := ⟨_, rfl⟩; (have hai2 : a2 ≤ (i + 1) * 65536 := Nat.le_trans hai (Nat.mul_le_mul_right _ (Nat.le_succ i)))
          obtain ⟨xs2, rfl⟩ : ∃ xs2, xs2 = xs := ⟨_, rfl⟩
          obtain ⟨ys2, rfl⟩ : ∃ z, z = rest := ⟨_, rfl⟩
          (have l1 := hS.len; have l2 := hS.d.a.bounds; have l3 := hS.d.b.bounds; have l4 := hS.le; have c1 := hS.d.a; have c2 := hS.d.b; have HS := hide hS; obtain ⟨nx2, hx2⟩ : ∃ z, xs2.length = z := ⟨_, rfl⟩; obtain ⟨ny2, hy2⟩ : ∃ z, ys2.length = z := ⟨_, rfl⟩; have v1 := fun w (h : RI w p gp2 rp xs2) => lenR_any w h; have v2 := fun w (h : RI w q gq2 rq ys2) => lenR_any w h; rw [hx2] at l1 l2 v1; rw [hy2] at l1 l3 v2; have w1 : IntKind.i64.wrap ((nx2 : Int) + (ny2 : Int)) = (nx2 : Int) + (ny2 : Int) := IntWalk.i64_in _ (by omega); have w2 : IntKind.i64.wrap ((a2 : Int) - (b2 : Int)) = (a2 : Int) - (b2 : Int) := IntWalk.i64_in _ (by omega); have z1 : (nx2 : Int) + (ny2 : Int) = (a2 : Int) - (b2 : Int) := (by omega); have z2 : ¬ rp < nx2 := (by omega); have z3 : ¬ rq < ny2 := (by omega); have V1 := hide (v1 _ c1); have V2 := hide (v2 _ c2); clear hS l1 l2 l3 l4 c1 c2 hx2 hy2 v1 v2)
          go_wp2_with fail; refine V1.out.mono ?_; rintro e w9 ⟨rfl, rfl⟩; go_wp2_with fail; refine V2.out.mono ?_; rintro e w9 ⟨rfl, rfl⟩; go_wp2_with fail; refine V1.out.mono ?_; rintro e w9 ⟨rfl, rfl⟩; go_wp2_with fail; refine V2.out.mono ?_; rintro e w9 ⟨rfl, rfl⟩; go_wp2_with fail; exact ⟨⟨i + 1, a2, b2, gp2, gq2, xs2, ys2, by go_num, rfl, rfl, hlt, hai2, HS.out⟩, by simp [intOf]; omega⟩
      by_cases k4 : kk = 5
      · subst k4
        go_wp2_with fail
        obtain ⟨wo, rfl⟩ : ∃ wo, wo = wr := ⟨_, rfl⟩
        obtain ⟨ob, hob⟩ : ∃ ob, wo.heap.size = ob := ⟨_, rfl⟩
        have hbx := Bl.new wo 36 #[.int .i64 5, .int .i64 ww, .int .i64 tt, .int .i64 nz, .int .i64 xx, .slice LA m mc]
        have hS2 := hS.quiet ((Fr.refl _ wo).alloc (.cells #[.int .i64 5, .int .i64 ww, .int .i64 tt, .int .i64 nz, .int .i64 xx, .slice LA m mc] 36))
        have hfoot : ∀ z, foot p gp z ∨ foot q gq z → z ≠ ob := fun z hz => by
          rcases hz with hz | hz
          · have := hS.d.a.lt hz; omega
          · have := hS.d.b.lt hz; omega
        rw [hob] at hbx ⊢
        generalize wo.alloc (.cells #[.int .i64 5, .int .i64 ww, .int .i64 tt, .int .i64 nz, .int .i64 xx, .slice LA m mc] 36) = wx at hbx hS2 ⊢
        have e3 : wx.cell? ⟨ob, 3, none⟩ = some (.int .i64 nz) := hbx.cell' rfl
        clear hS d0 d1 d2 d3 d4 d5
        have hdrop := dropR_any _ nz hS2.d.b
        obtain ⟨k, hk⟩ : ∃ k, (if nz < 1 then 0 else min nz.toNat ys.length) = k := ⟨_, rfl⟩
        rw [hk] at hdrop
        have hky : k ≤ ys.length := by rw [← hk]; split <;> omega
        have hl9 := hS2.len
        have hwb : IntKind.i64.wrap ((b : Int) + (k : Int)) = (b : Int) + (k : Int) := IntWalk.i64_in _ (by omega)
        have Hdrop := hide hdrop
        clear hdrop hk
        go_wp2_with fail
        refine Hdrop.out.mono ?_
        rintro e w10 ⟨rfl, hK⟩
        obtain ⟨gp2, gq2, hS⟩ := hS2.turn (a' := a) (b' := b + k) (hS2.d.right hK.out) (by rw [← List.drop_append_of_le_length hky, hS2.seq, seqI_drop, show a - b - k = a - (b + k) by omega]) (by have := hS2.le; omega)
        clear Hdrop hK hS2
        go_wp2_with fail
        obtain ⟨b2, hb2⟩ : ∃ b2, b + k = b2 := ⟨_, rfl⟩
        have hb3 : (b : Int) + (k : Int) = (b2 : Int) := by omega
        simp only [hb3]
        rw [hb2] at hS
        clear hb3 hb2 hwb hl9
        obtain ⟨a2, rfl⟩ : ∃ a2, a2 = a := ⟨_, rfl⟩; (have hai2 : a2 ≤ (i + 1) * 65536 := Nat.le_trans hai (Nat.mul_le_mul_right _ (Nat.le_succ i)))
        obtain ⟨xs2, rfl⟩ : ∃ xs2, xs2 = xs := ⟨_, rfl⟩
        obtain ⟨ys2, hys2⟩ : ∃ z, ys.drop k = z := ⟨_, rfl⟩
        rw [hys2] at hS
        clear hys2 hky
        (have l1 := hS.len; have l2 := hS.d.a.bounds; have l3 := hS.d.b.bounds; have l4 := hS.le; have c1 := hS.d.a; have c2 := hS.d.b; have HS := hide hS; obtain ⟨nx2, hx2⟩ : ∃ z, xs2.length = z := ⟨_, rfl⟩; obtain ⟨ny2, hy2⟩ : ∃ z, ys2.length = z := ⟨_, rfl⟩; have v1 := fun w (h : RI w p gp2 rp xs2) => lenR_any w h; have v2 := fun w (h : RI w q gq2 rq ys2) => lenR_any w h; rw [hx2] at l1 l2 v1; rw [hy2] at l1 l3 v2; have w1 : IntKind.i64.wrap ((nx2 : Int) + (ny2 : Int)) = (nx2 : Int) + (ny2 : Int) := IntWalk.i64_in _ (by omega); have w2 : IntKind.i64.wrap ((a2 : Int) - (b2 : Int)) = (a2 : Int) - (b2 : Int) := IntWalk.i64_in _ (by omega); have z1 : (nx2 : Int) + (ny2 : Int) = (a2 : Int) - (b2 : Int) := (by omega); have z2 : ¬ rp < nx2 := (by omega); have z3 : ¬ rq < ny2 := (by omega); have V1 := hide (v1 _ c1); have V2 := hide (v2 _ c2); clear hS l1 l2 l3 l4 c1 c2 hx2 hy2 v1 v2)
        go_wp2_with fail; refine V1.out.mono ?_; rintro e w9 ⟨rfl, rfl⟩; go_wp2_with fail; refine V2.out.mono ?_; rintro e w9 ⟨rfl, rfl⟩; go_wp2_with fail; refine V1.out.mono ?_; rintro e w9 ⟨rfl, rfl⟩; go_wp2_with fail; refine V2.out.mono ?_; rintro e w9 ⟨rfl, rfl⟩; go_wp2_with fail; exact ⟨⟨i + 1, a2, b2, gp2, gq2, xs2, ys2, by go_num, rfl, rfl, hlt, hai2, HS.out⟩, by simp [intOf]; omega⟩
      go_wp2_with fail
      obtain ⟨wo, rfl⟩ : ∃ wo, wo = wr := ⟨_, rfl⟩
      obtain ⟨ob, hob⟩ : ∃ ob, wo.heap.size = ob := ⟨_, rfl⟩
      have hbx := Bl.new wo 36 #[.int .i64 kk, .int .i64 ww, .int .i64 tt, .int .i64 nz, .int .i64 xx, .slice LA m mc]
      have hS2 := hS.quiet ((Fr.refl _ wo).alloc (.cells #[.int .i64 kk, .int .i64 ww, .int .i64 tt, .int .i64 nz, .int .i64 xx, .slice LA m mc] 36))
      rw [hob] at hbx ⊢
      generalize wo.alloc (.cells #[.int .i64 kk, .int .i64 ww, .int .i64 tt, .int .i64 nz, .int .i64 xx, .slice LA m mc] 36) = wx at hbx hS2 ⊢
      have e3 : wx.cell? ⟨ob, 3, none⟩ = some (.int .i64 nz) := hbx.cell' rfl
      clear hS d0 d1 d2 d3 d4 d5
      have hS := hS2
      clear hS2
      obtain ⟨a2, rfl⟩ : ∃ a2, a2 = a := ⟨_, rfl⟩; (have hai2 : a2 ≤ (i + 1) * 65536 := Nat.le_trans hai (Nat.mul_le_mul_right _ (Nat.le_succ i)))
      obtain ⟨b2, rfl⟩ : ∃ b2, b2 = b := ⟨_, rfl⟩
      obtain ⟨xs2, rfl⟩ : ∃ xs2, xs2 = xs := ⟨_, rfl⟩
      obtain ⟨ys2, rfl⟩ : ∃ ys2, ys2 = ys := ⟨_, rfl⟩
      obtain ⟨gp2, rfl⟩ : ∃ z, z = gp := ⟨_, rfl⟩
      obtain ⟨gq2, rfl⟩ : ∃ z, z = gq := ⟨_, rfl⟩
      (have l1 := hS.len; have l2 := hS.d.a.bounds; have l3 := hS.d.b.bounds; have l4 := hS.le; have c1 := hS.d.a; have c2 := hS.d.b; have HS := hide hS; obtain ⟨nx2, hx2⟩ : ∃ z, xs2.length = z := ⟨_, rfl⟩; obtain ⟨ny2, hy2⟩ : ∃ z, ys2.length = z := ⟨_, rfl⟩; have v1 := fun w (h : RI w p gp2 rp xs2) => lenR_any w h; have v2 := fun w (h : RI w q gq2 rq ys2) => lenR_any w h; rw [hx2] at l1 l2 v1; rw [hy2] at l1 l3 v2; have w1 : IntKind.i64.wrap ((nx2 : Int) + (ny2 : Int)) = (nx2 : Int) + (ny2 : Int) := IntWalk.i64_in _ (by omega); have w2 : IntKind.i64.wrap ((a2 : Int) - (b2 : Int)) = (a2 : Int) - (b2 : Int) := IntWalk.i64_in _ (by omega); have z1 : (nx2 : Int) + (ny2 : Int) = (a2 : Int) - (b2 : Int) := (by omega); have z2 : ¬ rp < nx2 := (by omega); have z3 : ¬ rq < ny2 := (by omega); have V1 := hide (v1 _ c1); have V2 := hide (v2 _ c2); clear hS l1 l2 l3 l4 c1 c2 hx2 hy2 v1 v2)
      go_wp2_with fail; refine V1.out.mono ?_; rintro e w9 ⟨rfl, rfl⟩; go_wp2_with fail; refine V2.out.mono ?_; rintro e w9 ⟨rfl, rfl⟩; go_wp2_with fail; refine V1.out.mono ?_; rintro e w9 ⟨rfl, rfl⟩; go_wp2_with fail; refine V2.out.mono ?_; rintro e w9 ⟨rfl, rfl⟩; go_wp2_with fail; exact ⟨⟨i + 1, a2, b2, gp2, gq2, xs2, ys2, by go_num, rfl, rfl, hlt, hai2, HS.out⟩, by simp [intOf]; omega⟩
    · obtain rfl : i = n := by omega
      have hln := hS.len
      have hle := hS.le
      have hb0 := hS.d.a.bounds
      have hb1 := hS.d.b.bounds
      go_wp2_with fail
      refine (list_any _ _ _ _ _ hS.d.b).mono ?_
      rintro e w10 ⟨A1, c1, g1, rfl, hO1, hn1, hf1⟩
      have hS1 := hS.quiet hf1
      go_wp2_with fail
      refine (list_any _ _ _ _ _ hS1.d.a).mono ?_
      rintro e w11 ⟨A2, c2, g2, rfl, hO2, hn2, hf2⟩
      have hS2 := hS1.quiet hf2
      have hO1' := hO1.fr hf2 (fun _ _ => id)
      have hseq := hS.seq
      have hg1 := hO1.lt
      have hF := hS.fr
      clear hS1 hO1 hS
      go_wp2_with (first | (at_builtin; go_loud (refine wpList_append_ow _ rfl _ _ 22 rfl 3 j0 (.int .i64 0) 1 8 Try.underlying22 hj hj0 hj1 hj2 rfl (by decide) _ _ _ _ _ rfl hO1' _ _ _ _ rfl hO2.sl (by intro u hu; obtain ⟨v, -, rfl⟩ := List.mem_map.1 hu; rfl) (by unfold maxLen; omega) (by omega) ?_)) | go_in)
      intro A3 c3 w12 g3 hO3 hf3 hg3
      rw [← List.map_append, hseq] at hO3
      have hfr : Fr (fun k => w.heap.size ≤ k) wr w12 := ((hf1.trans hf2).weak _).comp hf3 (fun k hk e => by have := hn1 k e.symm; omega)
      have hB : Below w.heap.size w w12 := (hF.trans hfr).toBelow (Nat.le_refl _) (fun k hk e => by omega)
      obtain ⟨d, hd⟩ : ∃ d, a - b = d := ⟨_, rfl⟩
      have hd2 : (a : Int) - (b : Int) = (d : Int) := by omega
      have hwd : IntKind.i64.wrap (d : Int) = (d : Int) := IntWalk.i64_in _ (by omega)
      rw [hd] at hO3 ⊢
      clear hseq hO1' hO2 hf3 hg3 hf1 hf2 hn1 hn2 hg1 hS2 hfr hF hd
      go_wp2_with fail
      go_loopw [25] (fun vi wq => ∃ t : Nat, vi = .int .i64 (t : Int) ∧ t ≤ d ∧ wq = w12) (fun vi _ => d - (intOf vi).toNat)
      case atStart => exact ⟨0, rfl, Nat.zero_le _, rfl⟩
      case round =>
        obtain ⟨t, rfl, ht, rfl⟩ := hrel
        by_cases hlt : t < d
        · obtain ⟨b4, o4, rfl, -, hc4, -⟩ := hO3.look (j := t) (u := .int .i64 ((b + t : Nat) : Int)) (by rw [List.getElem?_map, seqI_get hlt]; rfl)
          have hc5 : wr.cell? ⟨b4, o4 + t, none⟩ = some (.int .i64 ((b : Int) + (t : Int))) := hc4
          have hwb : IntKind.i64.wrap ((b : Int) + (t : Int)) = (b : Int) + (t : Int) := IntWalk.i64_in _ (by omega)
          clear hc4 hO3
          go_wp2_with fail
          exact ⟨⟨t + 1, by go_num, hlt, trivial⟩, by simp [intOf]; omega⟩
        · obtain rfl : t = d := by omega
          clear hO3
          go_wp2_with fail
          go_ret
          exact ⟨by simp, hB⟩
end Go.Proofs.Yteleakbbppbnnaa
