/-
  A disk and a Still of the law's own; known.
-/
import Derived.Test.YtchajbiloaiekaaSlb
namespace Go.Proofs.Ytchajbiloaiekaa
open Go.RowKit
set_option linter.unusedVariables false
/-- A disk and a Still over it, made since w0. -/
structure KW (w0 w : World) (q p fr n t0 t1 N : Nat) (F : Nat → Prop) (s : DS) (B : Nat) : Prop where
  di : DI w p N F s
  st : SAt w q p fr n t0 t1
  nF : ∀ k, F k → w0.heap.size ≤ k
  nq : w0.heap.size ≤ q
  fz : s.fuse = -1
  row : s.row = []
  lt : ∀ k, k < N → ∀ x ∈ s.told k, x < 256
  fr_ : Fr (fun _ => False) w0 w
  hq : ¬ F q
  wr : s.wr ≤ B
  sy : s.sy ≤ B
theorem saveT_lt {T : Nat → List Nat} {b t N : Nat} {pic : List Nat} (h : ∀ k, k < N → ∀ x ∈ T k, x < 256) (hp : ∀ x ∈ pic, x < 256) : ∀ k, k < N → ∀ x ∈ saveT T b t pic k, x < 256 := by
  intro k hk x hx
  unfold saveT at hx
  split at hx
  · exact headN_lt t pic x hx
  · unfold laidT at hx
    split at hx
    · unfold sectN at hx
      rcases List.mem_append.1 hx with hx | hx
      · exact hp x (List.mem_of_mem_drop (List.mem_of_mem_take hx))
      · simp [zeros] at hx; omega
    · exact h k hk x hx
section
variable {w0 w w' : World} {q p fr n t0 t1 N B : Nat} {F : Nat → Prop} {s : DS}
theorem KW.quiet (h : KW w0 w q p fr n t0 t1 N F s B) (hf : Fr (fun _ => False) w w') : KW w0 w' q p fr n t0 t1 N F s B :=
  ⟨h.di.fr hf (fun _ _ => id), h.st.fr hf id, h.nF, h.nq, h.fz, h.row, h.lt, h.fr_.trans hf, h.hq, h.wr, h.sy⟩
/-- A block of the call's own is turned. -/
theorem KW.far {b : Nat} (h : KW w0 w q p fr n t0 t1 N F s B) (hf : Fr (fun x => x = b) w w') (hb : ¬ F b) (hq : q ≠ b) (hw : w0.heap.size ≤ b) : KW w0 w' q p fr n t0 t1 N F s B :=
  ⟨h.di.fr hf (fun k hk e => hb (e ▸ hk)), h.st.fr hf hq, h.nF, h.nq, h.fz, h.row, h.lt, h.fr_.comp hf (fun i hi e => by have e2 : i = b := e; omega), h.hq, h.wr, h.sy⟩
theorem KW.opened {e : Ending} (hd : DI w p N F s) (hF : ∀ k, F k → w0.heap.size ≤ k) (hfr : Fr (fun _ => False) w0 w) (hf : s.fuse = -1) (hr : s.row = []) (hlt : ∀ k, k < N → ∀ x ∈ s.told k, x < 256) (hw : s.wr ≤ B) (hy : s.sy ≤ B) (ho : OpenOut w s.told p fr n e w') :
    ∃ q A c g, e = .returned (.tuple #[.pointer (some ⟨q, 0, none⟩), .slice A (openP s.told fr n).length c, .int .i64 0]) ∧ KW w0 w' q p fr n (standsN s.told fr n 0).2 (standsN s.told fr n 1).2 N F s B ∧ Ow w' tU8 1 A (openP s.told fr n).length c ((openP s.told fr n).map bn) g ∧ (∀ b, g = some b → w.heap.size ≤ b) ∧ Fr (fun _ => False) w w' ∧ w.heap.size ≤ q := by
  obtain ⟨q, A, c, g, e1, h1, h2, h3, h4, h5⟩ := ho
  have := hfr.size
  exact ⟨q, A, c, g, e1, ⟨hd.fr h5 (fun _ _ => id), h1, hF, by omega, hf, hr, hlt, hfr.trans h5, fun e => by have := hd.lt e; omega, hw, hy⟩, h2, h3, h5, h4⟩
theorem KW.saved {pic : List Nat} {e : Ending} (h : KW w0 w q p fr n t0 t1 N F s B) (hp : ∀ x ∈ pic, x < 256) (ho : SaveOut w q p fr n t0 t1 N F s pic e w') :
    e = .returned (.int .i64 0) ∧ ∃ F' s', KW w0 w' q p fr n (if (max t0 t1 + 1) % 2 = 0 then max t0 t1 + 1 else t0) (if (max t0 t1 + 1) % 2 = 1 then max t0 t1 + 1 else t1) N F' s' (B + 70000) ∧ (∀ k, k < N → s'.told k = saveT s.told (fr + (max t0 t1 + 1) % 2 * n) (max t0 t1 + 1) pic k) ∧ Fr (fun x => F x ∨ x = q) w w' ∧ ∀ k, k < w.heap.size → F' k → F k := by
  obtain ⟨e1, F', s', h1, h2, h3, h4, h5, h6, h7, h8, h9⟩ := ho
  have hsz := h.fr_.size
  have hql : q < w.heap.size := Bl.lt h.st
  have := h.wr
  have := h.sy
  exact ⟨e1, F', s', ⟨h1, h5, fun k hk => by
    rcases Nat.lt_or_ge k w.heap.size with h0 | h0
    · exact h.nF k (h6 k h0 hk)
    · omega, h.nq, h2, h3, fun k hk x hx => by
      rw [h4 k hk] at hx
      exact saveT_lt h.lt hp k hk x hx, h.fr_.comp h7 (fun i hi e => by
      rcases e with e | e
      · have := h.nF i e; omega
      · have := h.nq; omega), fun e => h.hq (h6 q hql e), by omega, by omega⟩, h4, h7, h6⟩
theorem newS_told {k : Nat} (hk : k < N) : (newS N).told k = zeros 64 := by
  rw [told_sf k rfl]
  unfold sec newS zeros
  have hh := Nat.mul_le_mul_right 64 (show k + 1 ≤ N by omega)
  simp only [List.drop_replicate, List.take_replicate]
  congr 1
  omega
theorem newS_lt : ∀ k, k < N → ∀ x ∈ (newS N).told k, x < 256 := fun k hk x hx => by
  rw [newS_told hk] at hx
  simp [zeros] at hx; omega
end
/-- A blank disk holds no picture. -/
theorem blank_stands {N fr n k : Nat} (h : fr + k * n < N) : standsN (newS N).told fr n k = ([], 0) := standsN_blank (newS_told h)
theorem blank_open {N fr n : Nat} (h0 : fr + 0 * n < N) (h1 : fr + 1 * n < N) : openP (newS N).told fr n = [] := by unfold openP; rw [blank_stands h0, blank_stands h1]; rfl
theorem known_head : (headN 1 [7, 8, 9])[0]? = some 83 ∧ (headN 1 [7, 8, 9])[8]? = some 1 ∧ (headN 1 [7, 8, 9])[12]? = some 3 ∧ (headN 1 [7, 8, 9])[63]? = some 76 := by decide +kernel
set_option maxHeartbeats 4000000 in
set_option maxRecDepth 20000 in
theorem known_any (w : World) : Calls Try.prog 6 #[] w fun e w' => e = .returned (.bool true) ∧ Fr (fun _ => False) w w' := by
  go_enter Try.func6, Try.ntmps6
  go_wp2_with fail
  refine (new_ok w 7 (by omega) (by omega)).mono ?_
  rintro e w1 h1
  obtain ⟨p, F, rfl, hd⟩ := DN.of h1
  have H1 := hide hd
  clear h1 hd
  go_wp2_with fail
  refine (num12_any _ _).mono ?_
  rintro e w' ⟨rfl, rfl⟩
  have hop := open_any (fr := 1) (n := 3) H1.out.di rfl (by omega) (by omega) newS_lt
  go_wp2_with fail
  refine hop.mono ?_
  rintro e w2 ho
  obtain ⟨q, A, c, g, rfl, hK, hO, hg, hf2, hqn⟩ := KW.opened (B := 10) H1.out.di H1.out.new H1.out.fr rfl rfl newS_lt (Nat.zero_le _) (Nat.zero_le _) ho
  rw [blank_stands (by omega), blank_stands (by omega)] at hK
  rw [blank_open (by omega) (by omega)] at hO ⊢
  have HK := hide hK
  clear hop ho hK hO hg hf2 hqn H1
  go_wp2_with fail
  refine (num12_any _ _).mono ?_
  rintro e w' ⟨rfl, rfl⟩
  have hf3 : Fr (fun _ => False) w2 (w2.alloc (.cells #[.int .u8 7, .int .u8 8, .int .u8 9] 5)) := (Fr.refl _ _).alloc _
  have hK3 := HK.out.quiet hf3
  have hS3 : Sl (w2.alloc (.cells #[.int .u8 7, .int .u8 8, .int .u8 9] 5)) 1 (some ⟨w2.heap.size, 0, none⟩) 3 (([7, 8, 9] : List Nat).map bn) := Sl.row w2 (([7, 8, 9] : List Nat).map bn) tU8 1 3 rfl
  have hsv := save_any hK3.st hK3.di hK3.fz hK3.row (by omega) (by omega) (some ⟨w2.heap.size, 0, none⟩) 3 3 [7, 8, 9] (by decide) rfl (by omega) (by omega) hS3 (fun b ⟨o, e⟩ hb => by cases e; have := HK.out.di.lt hb; omega) hK3.hq (by decide) (by have := hK3.wr; omega) (by have := hK3.sy; omega)
  have HK3 := hide hK3
  clear hf3 hK3 hS3 HK
  go_wp2_with fail
  refine hsv.mono ?_
  rintro e w4 ho
  obtain ⟨rfl, F4, s4, hK4, hT, -, -⟩ := HK3.out.saved (by decide) ho
  have hK4' : KW w w4 q p 1 3 0 1 7 F4 s4 (10 + 70000) := hK4
  have hT4 : s4.told 4 = headN 1 [7, 8, 9] := by
    rw [hT 4 (by omega)]
    show saveT (newS 7).told 4 1 [7, 8, 9] 4 = _
    unfold saveT
    rw [if_pos rfl]
  have htu : Calls Try.prog 15 #[.pointer (some ⟨q, 0, none⟩)] w4 fun e w' => e = .returned (.int .i64 1) ∧ Fr (fun _ => False) w4 w' := turn_any hK4'.st
  have HK4 := hide (And.intro hK4' hT4)
  clear hsv ho hK4 hT hK4' hT4 HK3
  go_wp2_with fail
  refine (num12_any _ _).mono ?_
  rintro e w' ⟨rfl, rfl⟩
  go_wp2_with fail
  refine htu.mono ?_
  rintro e w5 ⟨rfl, hf5⟩
  have hK5 := HK4.out.1.quiet hf5
  obtain ⟨r1, r2⟩ := readS_at (s := s4) (n := 7) (k := 4) (by rw [hK5.fz]; omega) (by omega)
  have hrd := read_any hK5.di ((4 : Nat) : Int)
  rw [r1, r2, HK4.out.2] at hrd
  have HK5 := hide hK5
  clear htu hf5 hK5 r1 r2
  go_wp2_with fail
  refine hrd.mono ?_
  rintro e w6 ⟨⟨A6, g6, e6, rfl, hO6, hg6⟩, hf6⟩
  have hln := headN_len 1 [7, 8, 9]
  obtain ⟨k0, k8, k12, k63⟩ := known_head
  obtain ⟨b6, o6, rfl, -, x0, -⟩ := hO6.look (j := 0) (u := .int .u8 83) (by rw [List.getElem?_map, k0]; rfl)
  obtain ⟨b6', o6', e6', -, x8, -⟩ := hO6.look (j := 8) (u := .int .u8 1) (by rw [List.getElem?_map, k8]; rfl)
  cases e6'
  obtain ⟨b6', o6', e6', -, x12, -⟩ := hO6.look (j := 12) (u := .int .u8 3) (by rw [List.getElem?_map, k12]; rfl)
  cases e6'
  obtain ⟨b6', o6', e6', -, x63, -⟩ := hO6.look (j := 63) (u := .int .u8 76) (by rw [List.getElem?_map, k63]; rfl)
  cases e6'
  rw [hln]
  rw [Nat.add_zero] at x0
  have HF := hide (HK5.out.fr_.trans hf6)
  clear hrd hO6 hg6 hf6 k0 k8 k12 k63 hln
  go_wp2_with fail
  refine (num12_any _ _).mono ?_
  rintro e w' ⟨rfl, rfl⟩
  go_wp2_with fail
  go_ret
  exact ⟨rfl, HF.out⟩
end Go.Proofs.Ytchajbiloaiekaa
