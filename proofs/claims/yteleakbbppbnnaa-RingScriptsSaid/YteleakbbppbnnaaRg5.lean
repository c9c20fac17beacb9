/-
  ring.Ring[int]: Push.
-/
import Derived.Test.YteleakbbppbnnaaRg4
namespace Go.Proofs.Yteleakbbppbnnaa
open Go.RowKit
set_option linter.unusedVariables false

/-- One thing more. -/
def RS.push (s : RS) (x : Int) : RS := ⟨s.room, s.first, s.vals.set ((s.first + s.xs.length) % s.vals.length) x, s.xs ++ [x]⟩
theorem RS.push_ok {s : RS} (h : s.Ok) (h0 : s.xs.length < s.vals.length) (x : Int) : (s.push x).Ok := by
  have hl2 := h.l2
  have hf := h.f
  refine ⟨h.r1, h.r2, ?_, ?_, ?_, fun i hi => ?_⟩
  · show (s.xs ++ [x]).length ≤ (s.vals.set _ x).length
    rw [List.length_append, List.length_set]; exact h0
  · show (s.vals.set _ x).length ≤ s.room
    rw [List.length_set]; exact hl2
  · show s.first = 0 ∨ s.first < (s.vals.set _ x).length
    rw [List.length_set]; exact hf
  · have hi' : i < s.xs.length + 1 := by
      have : i < (s.xs ++ [x]).length := hi
      rw [List.length_append] at this; exact this
    have hn : 0 < s.vals.length := by omega
    show (s.vals.set ((s.first + s.xs.length) % s.vals.length) x)[(s.first + i) % (s.vals.set ((s.first + s.xs.length) % s.vals.length) x).length]? = (s.xs ++ [x])[i]?
    rw [List.length_set]
    by_cases he : i = s.xs.length
    · subst he
      rw [List.getElem?_set_self (Nat.mod_lt _ hn), List.getElem?_append_right (Nat.le_refl _), Nat.sub_self]
      rfl
    · have hne : (s.first + s.xs.length) % s.vals.length ≠ (s.first + i) % s.vals.length := by
        intro e
        have hfl : s.first < s.vals.length := by omega
        by_cases h1 : s.first + s.xs.length < s.vals.length
        · rw [Nat.mod_eq_of_lt h1, Nat.mod_eq_of_lt (by omega)] at e; omega
        · rw [Nat.mod_eq_sub_mod (by omega), Nat.mod_eq_of_lt (by omega)] at e
          by_cases h2 : s.first + i < s.vals.length
          · rw [Nat.mod_eq_of_lt h2] at e; omega
          · rw [Nat.mod_eq_sub_mod (by omega), Nat.mod_eq_of_lt (by omega)] at e; omega
      rw [List.getElem?_set_ne hne, h.at_ i (by omega), List.getElem?_append_left (by omega)]
/-- The first j things are pushed. -/
def Pushing (w : World) (p : Nat) (C : Option Addr) (cc : Nat) (g : Option Nat) (s : RS) (l : List Int) (m : Nat) (i : Value) (wr : World) : Prop :=
  ∃ (j : Nat) (s' : RS), i = .int .i64 (j : Int) ∧ j ≤ m ∧ s'.room = s.room ∧ s'.xs = s.xs ++ l.take j ∧ s'.vals.length = s.vals.length ∧ RingAt wr p C cc g s' ∧ Fr (foot p g) w wr
set_option maxHeartbeats 2000000 in
set_option maxRecDepth 4000 in
theorem push_ok {p : Nat} {g : Option Nat} {room : Nat} {xs : List Int} (w : World) (h : RI w p g room xs) (A : Option Addr) (m c : Nat) (l : List Int) (hl : Sl w 1 A m (l.map iv))
    (hap : 0 < m → ∀ b, (∃ o, A = some ⟨b, o, none⟩) → b < w.heap.size → ¬ foot p g b) (hfit : xs.length + m ≤ room) :
    Calls Try.prog 9 #[.pointer (some ⟨p, 0, none⟩), .slice A m c] w fun e w' => e = .returned (.int .i64 0) ∧ ROut w p g room (xs ++ l) w' := by
  obtain ⟨C, cc, s, rfl, rfl, h⟩ := h
  have hbl := h.bl
  have b3 := h.ok.r2
  have hml : l.length = m := by have := hl.1; simpa using this
  obtain ⟨nx, hnx⟩ : ∃ nx, s.xs.length = nx := ⟨_, rfl⟩
  obtain ⟨rm, hrm⟩ : ∃ rm, s.room = rm := ⟨_, rfl⟩
  rw [hnx, hrm] at hbl
  rw [hrm] at b3
  rw [hnx, hrm] at hfit
  have Hnx := hide hnx
  have Hrm := hide hrm
  have H := hide h
  clear hnx hrm h
  have c1 : w.cell? ⟨p, 1, none⟩ = some (.int .i64 (rm : Int)) := hbl.cell' rfl
  have c3 : w.cell? ⟨p, 3, none⟩ = some (.int .i64 (nx : Int)) := hbl.cell' rfl
  have i2 : IntKind.i64.wrap ((rm : Int) - (nx : Int)) = (rm : Int) - (nx : Int) := IntWalk.i64_in _ (by omega)
  have i3 : ¬ (rm : Int) - (nx : Int) < (m : Int) := by omega
  clear hbl
  go_enter Try.func9, Try.ntmps9
  go_wp2_with fail
  go_quiet (fail)
  go_wp2_with fail
  have hN : Fr (fun _ => False) w (w.drewN nq) := (Fr.refl _ _).drewN nq
  have HR := H.out.fr hN id (fun _ _ => id)
  refine (fit_any _ HR m (by rw [Hnx.out, Hrm.out]; exact hfit)).mono ?_
  rintro e w1 ⟨rfl, C1, cc1, g1, s1, e1, e2, e3, h1, f1, k1⟩
  clear HR c1 c3 i3
  have hl1 : Sl w1 1 A m (l.map iv) := by
    have hs0 : Sl (w.drewN nq) 1 A m (l.map iv) := hl.fr (B := 0) hN (fun _ _ _ => id)
    by_cases hm0 : 0 < m
    · exact hs0.fr (B := 0) f1 (hap hm0)
    · exact ⟨hs0.1, fun h => absurd h hm0⟩
  go_wp2_with fail
  go_loopw [29] (fun i wr => Pushing w1 p C1 cc1 g1 s1 l m i wr) (fun i _ => m - (intOf i).toNat)
  case atStart => exact ⟨0, s1, rfl, Nat.zero_le _, rfl, by simp, rfl, h1, Fr.refl _ _⟩
  case round =>
    obtain ⟨j, s2, rfl, hj, y1, y2, y3, h2, f2⟩ := hrel
    by_cases hlt : j < m
    · obtain ⟨v, hv⟩ : ∃ v, l[j]? = some v := ⟨_, List.getElem?_eq_getElem (by omega)⟩
      obtain ⟨bl, ol, rfl, hcl0⟩ := hl.at_ (j := j) (u := .int .i64 v) (by rw [List.getElem?_map, hv]; rfl)
      have hbl0 := World.block_lt_of_cell? w _ hcl0
      have hnf : ¬ foot p g bl := hap (by omega) bl ⟨ol, rfl⟩ hbl0
      have hnf1 : ¬ foot p g1 bl := fun e => hnf (foot_new (room := 0) (xs := []) f1 k1 bl hbl0 e)
      have hcl : wr.cell? ⟨bl, ol + j, none⟩ = some (.int .i64 v) := by
        have h3 := (f1.cell (p := ⟨bl, ol + j, none⟩) hbl0 hnf).trans hcl0
        exact (f2.cell (p := ⟨bl, ol + j, none⟩) (Nat.lt_of_lt_of_le hbl0 f1.size) hnf1).trans h3
      have hlen : s2.xs.length < s2.vals.length := by rw [y2, y3, e2, List.length_append, List.length_take]; omega
      obtain ⟨k, hk⟩ : ∃ k, (s2.first + s2.xs.length) % s2.vals.length = k := ⟨_, rfl⟩
      have hkl : k < s2.vals.length := by rw [← hk]; exact Nat.mod_lt _ (by omega)
      obtain ⟨y, hy⟩ : ∃ y, s2.vals[k]? = some y := ⟨_, List.getElem?_eq_getElem hkl⟩
      obtain ⟨b, o, rfl, hg, hc, hz⟩ := h2.ow.look (j := k) (u := .int .i64 y) (by rw [List.getElem?_map, hy]; rfl)
      have hbp : p ≠ b := fun e => by have := h2.ne; rw [hg, e] at this; exact this rfl
      have hbp2 := hbp.symm
      have hpush := hide (RS.push_ok h2.ok hlen v)
      have q1 := h2.ok.l2
      have q2 := h2.ok.r2
      have q3 := h2.ok.f
      have how := hide h2.ow
      have hbl := h2.bl
      obtain ⟨nc, hnc⟩ : ∃ nc, s2.vals.length = nc := ⟨_, rfl⟩
      obtain ⟨n2, hn2⟩ : ∃ n2, s2.xs.length = n2 := ⟨_, rfl⟩
      obtain ⟨f, hf⟩ : ∃ f, s2.first = f := ⟨_, rfl⟩
      obtain ⟨rm2, hrm2⟩ : ∃ rm, s2.room = rm := ⟨_, rfl⟩
      rw [hnc, hf, hn2, hrm2] at hbl
      rw [hnc] at hkl q1 q3 hk hlen
      rw [hf] at q3 hk
      rw [hrm2] at q1 q2
      rw [hn2] at hk hlen
      have Hnc := hide hnc
      have Hn2 := hide hn2
      have Hf := hide hf
      have Hrm2 := hide hrm2
      have Hg := hide hg
      have Hk := hide hk
      have H2 := hide h2
      have Hv := hide hv
      clear hnc hn2 hf hrm2 hg hk h2 hy hv
      have d0 : wr.cell? ⟨p, 0, none⟩ = some (.slice (some ⟨b, o, none⟩) nc cc1) := hbl.cell' rfl
      have d3 : wr.cell? ⟨p, 3, none⟩ = some (.int .i64 (n2 : Int)) := hbl.cell' rfl
      have i1 : (0 : Int) ≤ (k : Int) := by omega
      have i4 : (k : Int) < (nc : Int) := by omega
      have i5 : (0 : Int) ≤ (j : Int) := by omega
      have i6 : (j : Int) < (m : Int) := by omega
      go_wp2_with fail
      go_region_held3 (fun w' => w'.cell? ⟨p, 0, none⟩ = some (.slice (some ⟨b, o, none⟩) nc cc1) ∧ w'.cell? ⟨p, 3, none⟩ = some (.int .i64 (n2 : Int))) (go_keep)
        ((go_at_call 23; refine (place_fr _ n2 (by exact hbl) (by omega) (by omega) (by omega) (by omega) k Hk.out).mono ?_; rintro e w4 ⟨rfl, hf4⟩; have k0 := (hf4.cell (World.block_lt_of_cell? wr _ d0) id).trans d0; have k1 := (hf4.cell (World.block_lt_of_cell? wr _ d3) id).trans d3; have k2 := (hf4.frozen (World.block_lt_of_cell? wr _ hc) id).trans hz; have k3 := (hf4.cell (World.block_lt_of_cell? wr _ hc) id).trans hc))
      have hN4 : Fr (fun _ => False) wr w4 := (Fr.drew (by exact Fr.refl _ _)).trans hf4
      have hbl5 : Bl (w4.setCell ⟨b, o + k, none⟩ (.int .i64 v)) p tRing #[.slice (some ⟨b, o, none⟩) nc cc1, .int .i64 (rm2 : Int), .int .i64 (f : Int), .int .i64 (n2 : Int)] := (hbl.fr hN4 id).far hbp _
      have hO5 := hide ((how.out.fr hN4 (fun _ _ => id)).put (j := k) (by rw [Hnc.out]; omega) (.int .i64 v))
      have hF5 : Fr (foot p g1) wr (w4.setCell ⟨b, o + k, none⟩ (.int .i64 v)) := (hN4.weak _).setIn (.inl (.inr Hg.out.symm)) _
      generalize w4.setCell ⟨b, o + k, none⟩ (.int .i64 v) = w5 at hbl5 hO5 hF5 ⊢
      have d5 : w5.cell? ⟨p, 3, none⟩ = some (.int .i64 (n2 : Int)) := hbl5.cell' rfl
      have z5 := hbl5.free 3
      clear k0 k1 k2 k3 d0 d3 hc hz
      go_wp2_with fail
      have hn3 : ((n2 : Int) + 1) = ((n2 + 1 : Nat) : Int) := by omega
      rw [hn3]
      have hF6 : Fr (· = p) w5 (w5.setCell ⟨p, 3, none⟩ (.int .i64 ((n2 + 1 : Nat) : Int))) := (Fr.refl _ _).setAt _
      refine ⟨⟨j + 1, s2.push v, by go_num, hlt, y1, ?_, ?_, ⟨?_, ?_, hpush.out⟩, f2.trans (hF5.trans (hF6.mono fun k _ e => .inl e))⟩, by simp [intOf]; omega⟩
      · show s2.xs ++ [v] = _
        rw [y2, List.append_assoc, List.take_add_one, Hv.out]; rfl
      · show (s2.vals.set _ v).length = _
        rw [List.length_set, y3]
      · show Bl _ p tRing #[.slice (some ⟨b, o, none⟩) (s2.vals.set _ v).length cc1, .int .i64 (s2.room : Int), .int .i64 (s2.first : Int), .int .i64 ((s2.xs ++ [v]).length : Int)]
        rw [List.length_set, List.length_append, Hnc.out, Hrm2.out, Hf.out, Hn2.out]
        exact hbl5.set 3 _
      · have h7 := hO5.out.fr hF6 (fun b' e e' => hbp2 (by rw [Hg.out] at e; cases e; exact e'))
        show Ow _ 3 1 (some ⟨b, o, none⟩) (s2.vals.set ((s2.first + s2.xs.length) % s2.vals.length) v).length cc1 ((s2.vals.set ((s2.first + s2.xs.length) % s2.vals.length) v).map iv) g1
        rw [List.length_set, List.map_set, Hf.out, Hn2.out, Hnc.out, Hk.out]
        rw [Hnc.out] at h7
        exact h7
    · obtain rfl : j = m := by omega
      go_wp2_with fail
      go_ret
      refine ⟨rfl, ?_⟩
      refine ROut.trans (w1 := w1) (g1 := g1) (xs := s.xs) ((hN.weak _).trans f1) k1 ⟨g1, ⟨C1, cc1, s2, y1.trans e1, ?_, h2⟩, f2, .inl rfl⟩
      rw [y2, e2, List.take_of_length_le (by omega)]
set_option maxHeartbeats 1000000 in
theorem push_full {p : Nat} {g : Option Nat} {room : Nat} {xs : List Int} (w : World) (h : RI w p g room xs) (A : Option Addr) (m c : Nat) (hfit : ¬ xs.length + m ≤ room) :
    Calls Try.prog 9 #[.pointer (some ⟨p, 0, none⟩), .slice A m c] w fun e w' => e = .returned (.int .i64 100) ∧ Fr (fun _ => False) w w' := by
  have hb := h.bounds
  obtain ⟨C, cc, s, rfl, rfl, h⟩ := h
  have hbl := h.bl
  obtain ⟨nx, hnx⟩ : ∃ nx, s.xs.length = nx := ⟨_, rfl⟩
  obtain ⟨rm, hrm⟩ : ∃ rm, s.room = rm := ⟨_, rfl⟩
  rw [hnx, hrm] at hbl hb
  rw [hnx, hrm] at hfit
  clear hnx hrm h
  have c1 : w.cell? ⟨p, 1, none⟩ = some (.int .i64 (rm : Int)) := hbl.cell' rfl
  have c3 : w.cell? ⟨p, 3, none⟩ = some (.int .i64 (nx : Int)) := hbl.cell' rfl
  have i2 : IntKind.i64.wrap ((rm : Int) - (nx : Int)) = (rm : Int) - (nx : Int) := IntWalk.i64_in _ (by omega)
  have i3 : (rm : Int) - (nx : Int) < (m : Int) := by omega
  clear hbl
  go_enter Try.func9, Try.ntmps9
  go_wp2_with fail
  go_quiet (fail)
  go_wp2_with fail
  go_ret
  exact ⟨rfl, (Fr.refl _ _).drewN nq⟩
end Go.Proofs.Yteleakbbppbnnaa
