/-
  does, of any kind; BucketScripts: the walk.
-/
import Derived.Test.YtgogagapapdlgaaBkW4
namespace Go.Proofs.Ytgogagapapdlgaa
open Go.RowKit
set_option linter.unusedVariables false
attribute [local go_sem ↓] Go.wp_at_zero Go.wp_at_succ

theorem does_any {B0 wb : Nat} {L : List Ent} {σ : Nat → St} {A1 : Option Addr} {c1 : Nat} {g1 : Option Nat} {A2 : Option Addr} {c2 : Nat} {g2 : Option Nat} {w : World} (hW : WP B0 wb L A1 c1 g1 A2 c2 g2 w) (hI : BI B0 L σ w) (hL1 : 1 ≤ L.length) (hL2 : L.length ≤ 20)
    (hB : B0 ≤ w.heap.size) (kd wh n : Int) (AL : Option Addr) (nl cl : Nat) (hnl : nl * 8 ≤ 140737488355328) (kl : Nat → Int) (hAL : Cells w B0 AL nl 1 (fun j _ => .int .i64 (kl j))) :
    Calls Try.prog 18 #[.pointer (some ⟨wb, 0, none⟩), .agg #[.int .i64 kd, .int .i64 wh, .int .i64 n, .slice AL nl cl]] w fun r w' => r = .returned (.bool true) ∧ DoesOut B0 wb w w' := by
  obtain ⟨m, hm⟩ : ∃ m, L.length = m := ⟨_, rfl⟩
  have Hm := hide hm
  rw [hm] at hL1 hL2
  obtain ⟨k, hk⟩ : ∃ k : Nat, wh % (m : Int) = (k : Int) := ⟨(wh % (m : Int)).toNat, by have := Int.emod_nonneg wh (show (m : Int) ≠ 0 by omega); omega⟩
  have hkm : k < m := by have := Int.emod_lt_of_pos wh (show (0 : Int) < (m : Int) by omega); omega
  obtain ⟨e, he⟩ : ∃ e, L[k]? = some e := ⟨_, List.getElem?_eq_getElem (by omega)⟩
  by_cases k1 : kd = 1
  · subst k1; exact does_refill hW hI m Hm hL1 hL2 wh n k hk hkm e he AL nl cl
  by_cases k2 : kd = 2
  · subst k2; exact does_take hW hI m Hm hL1 hL2 wh n k hk hkm e he AL nl cl
  by_cases k3 : kd = 3
  · subst k3; exact does_when hW hI m Hm hL1 hL2 wh n k hk hkm e he AL nl cl
  by_cases k4 : kd = 4
  · subst k4; exact does_tell hW hI m Hm hL1 hL2 wh n k hk hkm e he AL nl cl
  by_cases k5 : kd = 5
  · subst k5; exact does_copy hW hI m Hm hL1 hL2 wh n k hk hkm e he AL nl cl hB
  by_cases k6 : kd = 6
  · subst k6; exact does_all hW hI m Hm hL1 hL2 wh n k hk hkm e he AL nl cl hB hnl kl hAL
  by_cases k7 : kd = 7
  · subst k7; exact does_made hW hI m Hm hL1 hL2 wh n k hk hkm e he AL nl cl
  exact does_none hW hI m Hm hL1 hL2 wh n k hk hkm e he AL nl cl kd (by omega)

/-- What is held between two steps. -/
def Held (B0 wb : Nat) (w0 w : World) (a b : Nat) : Prop :=
  ∃ L σ A1 c1 g1 A2 c2 g2, WP B0 wb L A1 c1 g1 A2 c2 g2 w ∧ BI B0 L σ w ∧ a ≤ L.length ∧ L.length ≤ b ∧ Fr (fun k => B0 ≤ k) w0 w

set_option maxHeartbeats 8000000 in
set_option maxRecDepth 4000 in
theorem scripts_walk (w : World) (AS : Option Addr) (ns cs : Nat) (sh : Nat → Nat → Int) (hS : Cells w w.heap.size AS ns 3 (fun i j => .int .i64 (sh i j)))
    (A : Option Addr) (n c : Nat) (hn : n ≤ 140737488355328) (f : Nat → Nat → Value) (kd wh nn : Nat → Int) (AL : Nat → Option Addr) (nl cl : Nat → Nat) (kl : Nat → Nat → Int) (hs : Cells w w.heap.size A n 4 f)
    (h0 : ∀ i, i < n → f i 0 = .int .i64 (kd i)) (h1 : ∀ i, i < n → f i 1 = .int .i64 (wh i)) (h2 : ∀ i, i < n → f i 2 = .int .i64 (nn i)) (h3 : ∀ i, i < n → f i 3 = .slice (AL i) (nl i) (cl i))
    (h4 : ∀ i, i < n → nl i * 8 ≤ 140737488355328 ∧ Cells w w.heap.size (AL i) (nl i) 1 (fun j _ => .int .i64 (kl i j))) :
    Calls Try.prog 6 #[.slice AS ns cs, .slice A n c] w fun e w' => e = .returned (.bool true) ∧ Below w.heap.size w w' := by
  obtain ⟨j0, hj, hj0, hj1, hj2⟩ := info_parts infoPB
  obtain ⟨q0, hq, hq0, hq1, hq2⟩ := info_parts infoPM
  by_cases hbig : 16 < ns
  · go_enter Try.func6, Try.ntmps6
    go_wp2_with fail
    go_ret
    exact ⟨rfl, (Fr.refl (fun _ => False) w).toBelow (Nat.le_refl _) (fun _ _ => id)⟩
  have hb16 : decide (16 < (ns : Int)) = false := decide_eq_false (by omega)
  go_enter Try.func6, Try.ntmps6
  go_wp2_with fail
  go_loopw [6] (fun i wr => ∃ k : Nat, i = .int .i64 (k : Int) ∧ k ≤ ns ∧ Held w.heap.size w.heap.size w wr k k) (fun i _ => ns - (intOf i).toNat)
  case atStart => exact ⟨0, rfl, Nat.zero_le _, [], fun _ => ⟨0, 0, 0, 0, 0⟩, none, 0, none, none, 0, none, ⟨Bl.new _ _ _, Ow.nil_ _ _ _, Ow.nil_ _ _ _, Nat.le_refl _, (fun b h => by cases h), (fun b h => by cases h)⟩, ⟨fun x hx => by simp at hx, fun x hx => by simp at hx, fun x y hx _ => by simp at hx, fun x hx => by simp at hx⟩, Nat.zero_le _, Nat.le_refl _, (Fr.refl _ _).alloc _⟩
  case round =>
    obtain ⟨k, rfl, hk, L, σ, A1, c1, g1, A2, c2, g2, hW, hI, hL1, hL2, hfr⟩ := hrel
    have Hm : Hid (L.length = k) := Nat.le_antisymm hL2 hL1
    have hQ := hide (hW.toQ Hm.out)
    have hsr := hfr.size
    have w0 : wr.cell? ⟨w.heap.size, 0, none⟩ = some (.slice A1 k c1) := hQ.out.bl.cell' rfl
    have w1 : wr.cell? ⟨w.heap.size, 1, none⟩ = some (.slice A2 k c2) := hQ.out.bl.cell' rfl
    have hwb := hQ.out.bl.lt
    clear hL1 hL2
    by_cases hlt : k < ns
    · obtain ⟨b, o, rfl, hbB, hcs⟩ := hS (by omega)
      have hC : Hid (∀ W, Fr (fun x => w.heap.size ≤ x) w W → W.cell? ⟨b, o + k * 3, none⟩ = some (.int .i64 (sh k 0)) ∧ W.cell? ⟨b, o + k * 3 + 1, none⟩ = some (.int .i64 (sh k 1)) ∧ W.cell? ⟨b, o + k * 3 + 2, none⟩ = some (.int .i64 (sh k 2))) := fun W hW => by
        have hc : ∀ j, j < 3 → W.cell? ⟨b, o + k * 3 + j, none⟩ = some (.int .i64 (sh k j)) := fun j hj =>
          (hW.cell (p := ⟨b, o + k * 3 + j, none⟩) hbB (by simp; omega)).trans (hcs k j hlt hj)
        exact ⟨hc 0 (by omega), hc 1 (by omega), hc 2 (by omega)⟩
      obtain ⟨d0, d1, d2⟩ := hC.out wr hfr
      clear hS hcs
      obtain ⟨rate, hra⟩ : ∃ x, sh k 0 = x := ⟨_, rfl⟩
      obtain ⟨per, hpe⟩ : ∃ x, sh k 1 = x := ⟨_, rfl⟩
      obtain ⟨burst, hbu⟩ : ∃ x, sh k 2 = x := ⟨_, rfl⟩
      rw [hra] at d0
      rw [hpe] at d1
      rw [hbu] at d2
      clear hra hpe hbu hC
      have hfx := (Fr.refl (fun _ => False) wr).alloc (.cells #[.int .i64 rate, .int .i64 per, .int .i64 burst] 23)
      have hbx := Bl.new wr 23 #[.int .i64 rate, .int .i64 per, .int .i64 burst]
      have hold : Hid (∀ x, some x ∈ L → x.1 < wr.heap.size ∧ x.2 < wr.heap.size) := fun x hx => ⟨Bl.lt (hI.b x hx).1, Bl.lt (hI.m x hx).1⟩
      by_cases hbad : NewBad rate per burst
      · have Hbad := hide hbad
        clear hbad
        go_wp2_with fail
        refine (new_bad _ rate per burst Hbad.out).mono ?_
        rintro r w' ⟨rfl, rfl⟩
        go_wp2_with fail
        refine (rnew_bad _ rate per burst Hbad.out).mono ?_
        rintro r w' ⟨rfl, rfl⟩
        generalize hwx : wr.alloc (.cells #[.int .i64 rate, .int .i64 per, .int .i64 burst] 23) = wx at hfx hbx ⊢
        clear hwx w0 w1 d0 d1 d2
        have Q1 := hQ.out.fr0 hfx
        have w0 : wx.cell? ⟨w.heap.size, 0, none⟩ = some (.slice A1 k c1) := Q1.bl.cell' rfl
        go_wp2_with (first | (at_builtin; go_loud (refine wpList_append_ow _ rfl _ _ 44 rfl 25 j0 (.pointer none) 1 8 Try.underlying44 hj hj0 hj1 hj2 rfl (by decide) _ _ _ _ _ rfl (Q1.o1.fr (S := fun _ => False) ((Fr.refl _ _).alloc _) (fun _ _ => id)) _ _ _ [.pointer none] rfl (Sl.oneAt (by simp)) (by intro u hu; simp at hu; subst hu; rfl) (by unfold maxLen; omega) (by omega) ?_)) | go_in)
        intro A3 c3 w3 g3 hA3 hf3 hg3
        obtain ⟨Q2, hf2, hbl3⟩ := Q1.more1 (by have := hfx.size; omega) ((Fr.refl _ _).alloc _) hA3 hf3 (hg3.imp_right fun ⟨b, e, h⟩ => ⟨b, e, by first | omega | (simp at h; omega) | simpa using h⟩)
        have z0 := hbl3.free 0
        have d0 : w3.cell? ⟨w.heap.size, 0, none⟩ = some (.slice A1 k c1) := hbl3.cell' rfl
        have d1 : w3.cell? ⟨w.heap.size, 1, none⟩ = some (.slice A2 k c2) := hbl3.cell' rfl
        have e1 : (w3.setCell ⟨w.heap.size, 0, none⟩ (.slice A3 (k + 1) c3)).cell? ⟨w.heap.size, 1, none⟩ = some (.slice A2 k c2) := Q2.bl.cell' rfl
        have HA3 := hide hA3
        clear hA3
        have Q3 := Q2
        go_wp2_with (first | (at_builtin; go_loud (refine wpList_append_ow _ rfl _ _ 45 rfl 50 q0 (.pointer none) 1 8 Try.underlying45 hq hq0 hq1 hq2 rfl (by decide) _ _ _ _ _ rfl (Q3.o2.fr (S := fun _ => False) ((Fr.refl _ _).alloc _) (fun _ _ => id)) _ _ _ [.pointer none] rfl (Sl.oneAt (by simp)) (by intro u hu; simp at hu; subst hu; rfl) (by unfold maxLen; omega) (by omega) ?_)) | go_in)
        intro A6 c6 w6 g6 hA6 hf6 hg6
        obtain ⟨Q4, hf4, hbl6⟩ := Q3.more2 (by have := hfx.size; have := hf2.size; omega) ((Fr.refl _ _).alloc _) hA6 hf6 (hg6.imp_right fun ⟨b, e, h⟩ => ⟨b, e, by first | omega | (simp at h; omega) | simpa using h⟩)
        have z6 := hbl6.free 1
        have y0 : w6.cell? ⟨w.heap.size, 0, none⟩ = some (.slice A3 (k + 1) c3) := hbl6.cell' rfl
        have y1 : w6.cell? ⟨w.heap.size, 1, none⟩ = some (.slice A2 k c2) := hbl6.cell' rfl
        have hP : WP w.heap.size w.heap.size (L ++ [none]) A3 c3 g3 A6 c6 g6 (w6.setCell ⟨w.heap.size, 1, none⟩ (.slice A6 (k + 1) c6)) := WQ.toP (m := k + 1) (by rw [List.map_append, List.map_append]; exact Q4) (by rw [List.length_append, Hm.out]; rfl)
        have hI6 := (((hI.fr hfx (fun _ => id)).frA hf2 (Q1.apart1 (by decide) (by decide)) (Q1.apart1 (by decide) (by decide))).frA hf4 (Q3.apart2 (by decide) (by decide)) (Q3.apart2 (by decide) (by decide))).moreN
        have hF := ((hfr.trans (hfx.weak _)).comp hf2 (fun i _ e => Q1.old1 i e)).comp hf4 (fun i _ e => Q3.old2 i e)
        have hH : Held w.heap.size w.heap.size w (w6.setCell ⟨w.heap.size, 1, none⟩ (.slice A6 (k + 1) c6)) (k + 1) (k + 1) := ⟨L ++ [none], σ, A3, c3, g3, A6, c6, g6, hP, hI6, by rw [List.length_append, Hm.out]; simp, by rw [List.length_append, Hm.out]; simp, hF⟩
        clear hA6 hf6 hg6 hI6 hP hF Q4 Q3 Q2 Q1 hf3 hg3 hf2 hf4
        go_wp2_with fail
        exact ⟨⟨k + 1, by go_num, hlt, hH⟩, by simp [intOf]; omega⟩
      · obtain ⟨r1, r2, p1, p2, b1, b2⟩ := Classical.not_not.1 hbad
        have hok : Hid (StOk ⟨rate, per, burst, burst, 0⟩) := show BkOk rate per burst burst 0 by constructor <;> omega
        clear hbad
        go_wp2_with fail
        generalize hwx : wr.alloc (.cells #[.int .i64 rate, .int .i64 per, .int .i64 burst] 23) = wx at hfx hbx ⊢
        refine (new_ok wx rate per burst r1 r2 p1 p2 b1 b2).mono ?_
        rintro r wB ⟨rfl, hbB, hfB, hsB⟩
        obtain ⟨p', hp'⟩ : ∃ p', wx.heap.size = p' := ⟨_, rfl⟩
        rw [hp'] at hbB hsB ⊢
        have hpn : wr.heap.size ≤ p' := by rw [← hp']; exact hfx.size
        have y0 : wB.cell? ⟨wr.heap.size, 0, none⟩ = some (.int .i64 rate) := (hbx.fr hfB id).cell' rfl
        have y1 : wB.cell? ⟨wr.heap.size, 1, none⟩ = some (.int .i64 per) := (hbx.fr hfB id).cell' rfl
        have y2 : wB.cell? ⟨wr.heap.size, 2, none⟩ = some (.int .i64 burst) := (hbx.fr hfB id).cell' rfl
        clear hp' hwx w0 w1 d0 d1 d2
        go_wp2_with fail
        refine (rnew_ok wB rate per burst r1 r2 p1 p2 b1 b2).mono ?_
        rintro r wC ⟨rfl, hrC, hfC, hsC⟩
        obtain ⟨q', hq'⟩ : ∃ q', wB.heap.size = q' := ⟨_, rfl⟩
        rw [hq'] at hrC hsC ⊢
        have hqn : wr.heap.size ≤ q' := by rw [← hq']; have := hfx.size; have := hfB.size; omega
        clear hq' y0 y1 y2
        have hfxC := (hfx.trans hfB).trans hfC
        have hbC := hbB.fr hfC id
        have Q1 := hQ.out.fr0 hfxC
        have w0 : wC.cell? ⟨w.heap.size, 0, none⟩ = some (.slice A1 k c1) := Q1.bl.cell' rfl
        go_wp2_with (first | (at_builtin; go_loud (refine wpList_append_ow _ rfl _ _ 44 rfl 25 j0 (.pointer none) 1 8 Try.underlying44 hj hj0 hj1 hj2 rfl (by decide) _ _ _ _ _ rfl (Q1.o1.fr (S := fun _ => False) ((Fr.refl _ _).alloc _) (fun _ _ => id)) _ _ _ [.pointer (some ⟨p', 0, none⟩)] rfl (Sl.oneAt (by simp)) (by intro u hu; simp at hu; subst hu; rfl) (by unfold maxLen; omega) (by omega) ?_)) | go_in)
        intro A3 c3 w3 g3 hA3 hf3 hg3
        obtain ⟨Q2, hf2, hbl3⟩ := Q1.more1 (by have := hfxC.size; omega) ((Fr.refl _ _).alloc _) hA3 hf3 (hg3.imp_right fun ⟨b, e, h⟩ => ⟨b, e, by first | omega | (simp at h; omega) | simpa using h⟩)
        have z0 := hbl3.free 0
        have d0 : w3.cell? ⟨w.heap.size, 0, none⟩ = some (.slice A1 k c1) := hbl3.cell' rfl
        have d1 : w3.cell? ⟨w.heap.size, 1, none⟩ = some (.slice A2 k c2) := hbl3.cell' rfl
        have e1 : (w3.setCell ⟨w.heap.size, 0, none⟩ (.slice A3 (k + 1) c3)).cell? ⟨w.heap.size, 1, none⟩ = some (.slice A2 k c2) := Q2.bl.cell' rfl
        have hI4 := (hI.fr hfxC (fun _ => id)).frA hf2 (Q1.apart1 (by decide) (by decide)) (Q1.apart1 (by decide) (by decide))
        have hb4 := hbC.frA hf2 (Q1.apart1 (by decide) (by decide))
        have hr4 := hrC.frA hf2 (Q1.apart1 (by decide) (by decide))
        have HA3 := hide hA3
        clear hA3
        have Q3 := Q2
        go_wp2_with (first | (at_builtin; go_loud (refine wpList_append_ow _ rfl _ _ 45 rfl 50 q0 (.pointer none) 1 8 Try.underlying45 hq hq0 hq1 hq2 rfl (by decide) _ _ _ _ _ rfl (Q3.o2.fr (S := fun _ => False) ((Fr.refl _ _).alloc _) (fun _ _ => id)) _ _ _ [.pointer (some ⟨q', 0, none⟩)] rfl (Sl.oneAt (by simp)) (by intro u hu; simp at hu; subst hu; rfl) (by unfold maxLen; omega) (by omega) ?_)) | go_in)
        intro A6 c6 w6 g6 hA6 hf6 hg6
        obtain ⟨Q4, hf4, hbl6⟩ := Q3.more2 (by have := hfxC.size; have := hf2.size; omega) ((Fr.refl _ _).alloc _) hA6 hf6 (hg6.imp_right fun ⟨b, e, h⟩ => ⟨b, e, by first | omega | (simp at h; omega) | simpa using h⟩)
        have z6 := hbl6.free 1
        have y0 : w6.cell? ⟨w.heap.size, 0, none⟩ = some (.slice A3 (k + 1) c3) := hbl6.cell' rfl
        have y1 : w6.cell? ⟨w.heap.size, 1, none⟩ = some (.slice A2 k c2) := hbl6.cell' rfl
        have hP : WP w.heap.size w.heap.size (L ++ [some (p', q')]) A3 c3 g3 A6 c6 g6 (w6.setCell ⟨w.heap.size, 1, none⟩ (.slice A6 (k + 1) c6)) := WQ.toP (m := k + 1) (by rw [List.map_append, List.map_append]; exact Q4) (by rw [List.length_append, Hm.out]; rfl)
        have hI6 := (hI4.frA hf4 (Q3.apart2 (by decide) (by decide)) (Q3.apart2 (by decide) (by decide))).more (pq := (p', q')) (s := ⟨rate, per, burst, burst, 0⟩) (hb4.frA hf4 (Q3.apart2 (by decide) (by decide))) (hr4.frA hf4 (Q3.apart2 (by decide) (by decide)))
          hok.out (fun x hx => by have h1 := (hold.out x hx).1; have h2 := (hold.out x hx).2; refine ⟨?_, ?_⟩ <;> (simp only; omega)) (by refine ⟨?_, ?_⟩ <;> (simp only; omega))
        have hF := ((hfr.trans (hfxC.weak _)).comp hf2 (fun i _ e => Q1.old1 i e)).comp hf4 (fun i _ e => Q3.old2 i e)
        have hH : Held w.heap.size w.heap.size w (w6.setCell ⟨w.heap.size, 1, none⟩ (.slice A6 (k + 1) c6)) (k + 1) (k + 1) := ⟨L ++ [some (p', q')], upd σ p' ⟨rate, per, burst, burst, 0⟩, A3, c3, g3, A6, c6, g6, hP, hI6, by rw [List.length_append, Hm.out]; simp, by rw [List.length_append, Hm.out]; simp, hF⟩
        clear hA6 hf6 hg6 hI6 hP hF Q4 Q3 Q2 Q1 hf3 hg3 hf2 hf4 hI4 hb4 hr4 hbC hrC hbB
        go_wp2_with fail
        exact ⟨⟨k + 1, by go_num, hlt, hH⟩, by simp [intOf]; omega⟩
    · obtain rfl : k = ns := by omega
      clear hS
      have Q1 := hQ.out
      go_wp2_with (first | (at_builtin; go_loud (refine wpList_append_ow _ rfl _ _ 44 rfl 25 j0 (.pointer none) 1 8 Try.underlying44 hj hj0 hj1 hj2 rfl (by decide) _ _ _ _ _ rfl (Q1.o1.fr (S := fun _ => False) ((Fr.refl _ _).alloc _) (fun _ _ => id)) _ _ _ [.pointer none] rfl (Sl.oneAt (by simp)) (by intro u hu; simp at hu; subst hu; rfl) (by unfold maxLen; omega) (by omega) ?_)) | go_in)
      intro A3 c3 w3 g3 hA3 hf3 hg3
      obtain ⟨Q2, hf2, hbl3⟩ := Q1.more1 (by omega) ((Fr.refl _ _).alloc _) hA3 hf3 (hg3.imp_right fun ⟨b, e, h⟩ => ⟨b, e, by first | omega | (simp at h; omega) | simpa using h⟩)
      have z0 := hbl3.free 0
      have d0 : w3.cell? ⟨w.heap.size, 0, none⟩ = some (.slice A1 k c1) := hbl3.cell' rfl
      have d1 : w3.cell? ⟨w.heap.size, 1, none⟩ = some (.slice A2 k c2) := hbl3.cell' rfl
      have e1 : (w3.setCell ⟨w.heap.size, 0, none⟩ (.slice A3 (k + 1) c3)).cell? ⟨w.heap.size, 1, none⟩ = some (.slice A2 k c2) := Q2.bl.cell' rfl
      have HA3 := hide hA3
      clear hA3
      have Q3 := Q2
      go_wp2_with (first | (at_builtin; go_loud (refine wpList_append_ow _ rfl _ _ 45 rfl 50 q0 (.pointer none) 1 8 Try.underlying45 hq hq0 hq1 hq2 rfl (by decide) _ _ _ _ _ rfl (Q3.o2.fr (S := fun _ => False) ((Fr.refl _ _).alloc _) (fun _ _ => id)) _ _ _ [.pointer none] rfl (Sl.oneAt (by simp)) (by intro u hu; simp at hu; subst hu; rfl) (by unfold maxLen; omega) (by omega) ?_)) | go_in)
      intro A6 c6 w6 g6 hA6 hf6 hg6
      obtain ⟨Q4, hf4, hbl6⟩ := Q3.more2 (by have := hf2.size; omega) ((Fr.refl _ _).alloc _) hA6 hf6 (hg6.imp_right fun ⟨b, e, h⟩ => ⟨b, e, by first | omega | (simp at h; omega) | simpa using h⟩)
      have z6 := hbl6.free 1
      have y0 : w6.cell? ⟨w.heap.size, 0, none⟩ = some (.slice A3 (k + 1) c3) := hbl6.cell' rfl
      have y1 : w6.cell? ⟨w.heap.size, 1, none⟩ = some (.slice A2 k c2) := hbl6.cell' rfl
      have hP : WP w.heap.size w.heap.size (L ++ [none]) A3 c3 g3 A6 c6 g6 (w6.setCell ⟨w.heap.size, 1, none⟩ (.slice A6 (k + 1) c6)) := WQ.toP (m := k + 1) (by rw [List.map_append, List.map_append]; exact Q4) (by rw [List.length_append, Hm.out]; rfl)
      have hI6 := ((hI.frA hf2 (Q1.apart1 (by decide) (by decide)) (Q1.apart1 (by decide) (by decide))).frA hf4 (Q3.apart2 (by decide) (by decide)) (Q3.apart2 (by decide) (by decide))).moreN
      have hF := (hfr.comp hf2 (fun i _ e => Q1.old1 i e)).comp hf4 (fun i _ e => Q3.old2 i e)
      have hH : Held w.heap.size w.heap.size w (w6.setCell ⟨w.heap.size, 1, none⟩ (.slice A6 (k + 1) c6)) 1 20 := ⟨L ++ [none], σ, A3, c3, g3, A6, c6, g6, hP, hI6, by rw [List.length_append, Hm.out]; simp, by rw [List.length_append, Hm.out]; simp; omega, hF⟩
      clear hA6 hf6 hg6 hI6 hP hF Q4 Q3 Q2 Q1 hf3 hg3 hf2 hf4 hI hW hfr w0 w1 hwb hsr e1
      go_wp2_with fail
      generalize w6.setCell ⟨w.heap.size, 1, none⟩ (.slice A6 (k + 1) c6) = w7 at hH ⊢
      clear z0 d0 d1 hbl3 z6 y0 y1 hbl6 HA3
      go_loopw [12] (fun i wr => ∃ k : Nat, i = .int .i64 (k : Int) ∧ k ≤ n ∧ Held w.heap.size w.heap.size w wr 1 20) (fun i _ => n - (intOf i).toNat)
      case atStart => exact ⟨0, rfl, Nat.zero_le _, hH⟩
      case round =>
        obtain ⟨j, rfl, hjn, L, σ, A1, c1, g1, A2, c2, g2, hW, hI, hL1, hL2, hfr⟩ := hrel
        by_cases hlt2 : j < n
        · obtain ⟨b, o, rfl, hbB, hcs⟩ := hs (by omega)
          have hc : ∀ i, i < 4 → wr.cell? ⟨b, o + j * 4 + i, none⟩ = some (f j i) := fun i hi =>
            (hfr.cell (p := ⟨b, o + j * 4 + i, none⟩) hbB (by simp; omega)).trans (hcs j i hlt2 hi)
          have d0 : wr.cell? ⟨b, o + j * 4, none⟩ = some (.int .i64 (kd j)) := by rw [← h0 j hlt2]; exact hc 0 (by omega)
          have d1 : wr.cell? ⟨b, o + j * 4 + 1, none⟩ = some (.int .i64 (wh j)) := by rw [← h1 j hlt2]; exact hc 1 (by omega)
          have d2 : wr.cell? ⟨b, o + j * 4 + 2, none⟩ = some (.int .i64 (nn j)) := by rw [← h2 j hlt2]; exact hc 2 (by omega)
          have d3 : wr.cell? ⟨b, o + j * 4 + 3, none⟩ = some (.slice (AL j) (nl j) (cl j)) := by rw [← h3 j hlt2]; exact hc 3 (by omega)
          have hAL := (h4 j hlt2).2.fr hfr (Nat.le_refl _) (fun x hx => by omega)
          have hcall := does_any hW hI hL1 hL2 hfr.size (kd j) (wh j) (nn j) (AL j) (nl j) (cl j) (h4 j hlt2).1 (kl j) hAL
          clear hs hcs hc h0 h1 h2 h3 h4 hAL
          go_wp2_with fail
          refine hcall.mono ?_
          rintro r w2 ⟨rfl, L', σ', B1, d1', e1', B2, d2', e2', hW', hI', hL1', hL2', hfr'⟩
          go_wp2_with fail
          exact ⟨⟨j + 1, by go_num, hlt2, L', σ', B1, d1', e1', B2, d2', e2', hW', hI', hL1', hL2', hfr.trans hfr'⟩, by simp [intOf]; omega⟩
        · obtain rfl : j = n := by omega
          obtain ⟨m, hm⟩ : ∃ m, L.length = m := ⟨_, rfl⟩
          have Hm2 := hide hm
          rw [hm] at hL1 hL2
          have hQ2 := hide (hW.toQ hm)
          clear hm hs h0 h1 h2 h3 h4 hW
          go_wp2_with fail
          go_loopw [14] (fun i w' => ∃ k : Nat, i = .int .i64 (k : Int) ∧ k ≤ m ∧ Fr (fun _ => False) wr w') (fun i _ => m - (intOf i).toNat)
          case atStart => exact ⟨0, rfl, Nat.zero_le _, Fr.refl _ _⟩
          case round =>
            rename_i w8 _
            obtain ⟨j, rfl, hjm, hf8⟩ := hrel
            have Q := hQ2.out.fr0 hf8
            have hI8 := hI.fr hf8 (fun _ => id)
            have hF8 := hfr.trans (hf8.weak _)
            have w0 : wr.cell? ⟨w.heap.size, 0, none⟩ = some (.slice A1 m c1) := Q.bl.cell' rfl
            have w1 : wr.cell? ⟨w.heap.size, 1, none⟩ = some (.slice A2 m c2) := Q.bl.cell' rfl
            by_cases hlt3 : j < m
            · obtain ⟨e, he⟩ : ∃ e, L[j]? = some e := ⟨_, List.getElem?_eq_getElem (by rw [Hm2.out]; exact hlt3)⟩
              obtain ⟨b1, o1, rfl, -, cB, -⟩ := Q.o1.look (j := j) (u := ptr Prod.fst e) (by rw [List.getElem?_map, he]; rfl)
              obtain ⟨b2, o2, rfl, -, cM, -⟩ := Q.o2.look (j := j) (u := ptr Prod.snd e) (by rw [List.getElem?_map, he]; rfl)
              have he' : e ∈ L := List.mem_of_getElem? he
              have He := hide he
              clear he
              have i0 : (0 : Int) ≤ (j : Int) := by omega
              go_wp2_with fail
              refine region_tail 14 (by kernel_rfl) (by kernel_rfl) ?_
              intro w9 Hw9 hcw9 hzw9 hsw9
              simp only [List.take_succ_cons, List.take_zero, List.drop_succ_cons, List.drop_zero]
              repeat still_step
              refine wpStill_nil ?_
              go_wp2_with fail
              have hf9 : Fr (fun _ => False) wr w9 := by rw [Hw9.out]; exact (Fr.refl _ _).drew
              refine (told_ent w9 L σ e he' (hI8.b.fr hf9 (fun _ _ => id)) (hI8.m.fr hf9 (fun _ _ => id))).mono ?_
              rintro r w10 ⟨rfl, hf10⟩
              go_wp2_with fail
              exact ⟨⟨j + 1, by go_num, hlt3, (hf8.trans hf9).trans hf10⟩, by simp [intOf]; omega⟩
            · obtain rfl : j = m := by omega
              go_wp2_with fail
              refine (all_any _ 1 _ 1 1 [none] σ rfl (by omega) (by omega) (Sl.oneAt (by simp)) (fun x hx => by simp at hx) (by rintro b - - ⟨pq, hp, -⟩; simp at hp)).mono ?_
              rintro r w9 ⟨rfl, -, hf9⟩
              have e1 : (allR 1 0 σ [none]).1 = 0 := rfl
              have e2 : (allR 1 0 σ [none]).2 = 1 := rfl
              rw [e1, e2]
              clear e1 e2
              go_wp2_with fail
              refine (unmade_any _ 1).mono ?_
              rintro r w10 ⟨rfl, hf10⟩
              go_wp2_with fail
              go_ret
              exact ⟨rfl, (((hF8.alloc _).comp hf9 (fun i _ e => by obtain ⟨pq, hp, -⟩ := e; simp at hp)).trans (hf10.weak _)).toBelow (Nat.le_refl _) (fun x hx => by omega)⟩
end Go.Proofs.Ytgogagapapdlgaa
