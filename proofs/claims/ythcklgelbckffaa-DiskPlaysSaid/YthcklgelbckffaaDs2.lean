/-
  DiskPlays: crashes.
-/
import Derived.Test.YthcklgelbckffaaDs1
namespace Go.Proofs.Ythcklgelbckffaa
open Go.RowKit
set_option linter.unusedVariables false
set_option linter.unusedSimpArgs false
theorem infoBool : (Try.prog.info? 4).map (fun i => (i.zero, i.size, i.bytes)) = some (some (.bool false), 1, 1) := by kernel_rfl
def bv (b : Bool) : Value := .bool b
theorem bv_one (xs : List Bool) : ∀ u ∈ xs.map Value.bool, u.oneCell' = true := by
  intro u hu; obtain ⟨_, _, rfl⟩ := List.mem_map.1 hu; rfl
theorem bool_get {xs : List Bool} {k : Nat} (h : k < xs.length) : (xs.map Value.bool)[k]? = some (.bool (xs.getD k false)) := by
  simp [List.getElem?_eq_getElem h, List.getD]
/-- The first j are turned over. -/
def flip (xs : List Bool) (j : Nat) : List Bool := (xs.take j).map (!·) ++ xs.drop j
theorem flip_len (xs : List Bool) {j : Nat} (h : j ≤ xs.length) : (flip xs j).length = xs.length := by
  unfold flip; rw [List.length_append, List.length_map, List.length_take, List.length_drop]; omega
theorem flip_at (xs : List Bool) {j i : Nat} (h : j ≤ i) (hi : i < xs.length) : (flip xs j).getD i false = xs.getD i false := by
  unfold flip
  rw [List.getD_eq_getElem?_getD, List.getElem?_append_right (by rw [List.length_map, List.length_take]; omega), List.length_map, List.length_take, List.getElem?_drop, List.getD_eq_getElem?_getD]
  congr 2; omega
theorem flip_succ (xs : List Bool) {j : Nat} (h : j < xs.length) : (flip xs j).set j (!(xs.getD j false)) = flip xs (j + 1) := by
  unfold flip
  have e : xs.getD j false = xs[j] := by rw [List.getD_eq_getElem?_getD, List.getElem?_eq_getElem h]; rfl
  apply List.ext_getElem?
  intro i
  by_cases h1 : i = j
  · subst h1
    rw [List.getElem?_set_self (by rw [List.length_append, List.length_map, List.length_take, List.length_drop]; omega), List.getElem?_append_left (by rw [List.length_map, List.length_take]; omega), List.getElem?_map, List.getElem?_take_of_lt (by omega), List.getElem?_eq_getElem h, e]; rfl
  · rw [List.getElem?_set_ne (by omega)]
    by_cases h2 : i < j
    · rw [List.getElem?_append_left (by rw [List.length_map, List.length_take]; omega), List.getElem?_append_left (by rw [List.length_map, List.length_take]; omega), List.getElem?_map, List.getElem?_map, List.getElem?_take_of_lt h2, List.getElem?_take_of_lt (by omega)]
    · rw [List.getElem?_append_right (by rw [List.length_map, List.length_take]; omega), List.getElem?_append_right (by rw [List.length_map, List.length_take]; omega), List.length_map, List.length_map, List.length_take, List.length_take, List.getElem?_drop, List.getElem?_drop]
      congr 1; omega
/-- Two crashes, or two of nil disks. -/
def Twos (W w : World) (dv rv : Value) (F G : Nat → Prop) (s : DS) (n : Nat) : Prop :=
  (∃ p q, dv = .pointer (some ⟨p, 0, none⟩) ∧ rv = .pointer (some ⟨q, 0, none⟩) ∧ Two W w p q n F G s s) ∨ (dv = .pointer none ∧ rv = .pointer none ∧ W.heap.size ≤ w.heap.size ∧ Fr (fun _ => False) W w ∧ (∀ k, ¬ F k) ∧ (∀ k, ¬ G k))
def TwosOut (W w : World) (dv rv : Value) (F G : Nat → Prop) (s1 : DS) (n : Nat) (w' : World) : Prop :=
  ∃ F' G', Twos W w' dv rv F' G' s1 n ∧ Fr (fun k => F k ∨ G k) w w' ∧ ∀ k, k < w.heap.size → (F' k ∨ G' k) → (F k ∨ G k)
section
variable {W w w' : World} {dv rv : Value} {F G : Nat → Prop} {s s1 : DS} {n : Nat}
theorem Twos.fr (h : Twos W w dv rv F G s n) : Fr (fun _ => False) W w := by
  rcases h with ⟨p, q, _, _, h⟩ | ⟨_, _, _, h, _⟩
  · exact h.dn.fr
  · exact h
theorem Twos.lt (h : Twos W w dv rv F G s n) {k : Nat} (hk : F k ∨ G k) : k < w.heap.size := by
  rcases h with ⟨p, q, _, _, h⟩ | ⟨_, _, _, _, h1, h2⟩
  · rcases hk with hk | hk
    · exact h.dn.di.lt hk
    · exact h.rn.di.lt hk
  · rcases hk with hk | hk
    · exact absurd hk (h1 k)
    · exact absurd hk (h2 k)
theorem Twos.new (h : Twos W w dv rv F G s n) {k : Nat} (hk : F k ∨ G k) : W.heap.size ≤ k := by
  rcases h with ⟨p, q, _, _, h⟩ | ⟨_, _, _, _, h1, h2⟩
  · rcases hk with hk | hk
    · exact h.dn.new k hk
    · exact h.rn.new k hk
  · rcases hk with hk | hk
    · exact absurd hk (h1 k)
    · exact absurd hk (h2 k)
theorem Twos.turn (h : Twos W w dv rv F G s n) {S : Nat → Prop} (hf : Fr S w w') (h1 : ∀ k, S k → ¬ F k ∧ ¬ G k) (h3 : ∀ k, S k → W.heap.size ≤ k) : Twos W w' dv rv F G s n := by
  rcases h with ⟨p, q, e1, e2, h⟩ | ⟨e1, e2, hs, hfr, h4, h5⟩
  · exact .inl ⟨p, q, e1, e2, h.turn hf (fun k hk => (h1 k hk).1) (fun k hk => (h1 k hk).2) h3⟩
  · exact .inr ⟨e1, e2, Nat.le_trans hs hf.size, hfr.comp hf (fun i hi e => by have := h3 i e; omega), h4, h5⟩
theorem Twos.step (h : Twos W w dv rv F G s n) (hf : Fr (fun _ => False) w w') : Twos W w' dv rv F G s n := h.turn hf (fun _ h => h.elim) (fun _ h => h.elim)
theorem TwosOut.quiet (h : Twos W w dv rv F G s n) (hf : Fr (fun _ => False) w w') : TwosOut W w dv rv F G s n w' :=
  ⟨F, G, h.step hf, hf.weak _, fun _ _ h => h⟩
theorem Twos.apart (h : Twos W w dv rv F G s n) {A : Option Addr} {m : Nat} {xs : List Value} (hS : Sl W 1 A m xs) : 0 < m → ∀ b, (∃ o, A = some ⟨b, o, none⟩) → ¬ (F b ∨ G b) := by
  rintro hm b ⟨o, rfl⟩ hF
  have hl := hS.1
  obtain ⟨b', o', e, c⟩ := hS.at_ (List.getElem?_eq_getElem (show 0 < xs.length by omega))
  cases e
  have h1 := World.block_lt_of_cell? W _ c
  have h2 := h.new hF
  simp only at h1
  omega
end
set_option maxHeartbeats 8000000 in
set_option maxRecDepth 8000 in
theorem crashes_any {W w : World} {p q n : Nat} {F G : Nat → Prop} {s : DS} (h : Two W w p q n F G s s) (op : OpD) (hO : OpIs W op) :
    Calls Try.prog 40 #[.pointer (some ⟨p, 0, none⟩), .pointer (some ⟨q, 0, none⟩), .agg op.cells.toArray] w fun e w' => e = .returned (.bool true) ∧ TOut W w p q n F G (s.crash op.kk op.tn op.ct) w' := by
  obtain ⟨i0, hi, hz0, hz1, hz2⟩ := info_parts infoBool
  obtain ⟨who, kd, nn, DA, dn, dc, dd, KA, kn, kc, kk, tn, ct⟩ := op
  have hk3 : kn ≤ 140737488351232 := hO.k3
  have hk1 : kn = kk.length := hO.k1
  have HO0 := hide hO
  have H := hide h
  have Hk1 := hide hk1
  have HK1 : Hid (Sl w 1 KA kn (kk.map .bool)) := hO.k4.below h.dn.fr (fun _ _ => id)
  have hapK := hide (Twos.apart (.inl ⟨p, q, rfl, rfl, h⟩) hO.k4)
  have hW := h.dn.fr.size
  clear hO h hk1
  show Calls Try.prog 40 #[.pointer (some ⟨p, 0, none⟩), .pointer (some ⟨q, 0, none⟩), .agg #[.int .i64 who, .int .i64 kd, .int .i64 nn, .slice DA dn dc, .slice KA kn kc, .int .i64 tn, .int .i64 ct]] w fun e w' => e = .returned (.bool true) ∧ TOut W w p q n F G (s.crash kk tn ct) w'
  go_enter Try.func40, Try.ntmps40
  go_wp2_with (at_builtin; refine wpList_append_ow _ rfl _ _ 24 rfl 4 i0 (.bool false) 1 1 Try.underlying24 hi hz0 hz1 hz2 rfl (by decide) _ _ _ _ _ rfl (Ow.nil_ _ _ _) _ _ _ _ rfl (HK1.out.below (S := fun _ => False) ((Fr.refl _ _).alloc _) (fun _ _ => id)) (bv_one _) (by unfold maxLen; omega) (by omega) ?_)
  intro A1 c1 w1 g1 hO1 hf1 hg1
  obtain ⟨bx, hbx⟩ : ∃ bx, w.heap.size = bx := ⟨_, rfl⟩
  have hf01 : Fr (fun _ => False) w w1 := ((Fr.refl _ _).alloc _).trans (hf1.mono fun x _ e => by cases e)
  have hB1 : Bl w1 bx 61 #[.int .i64 who, .int .i64 kd, .int .i64 nn, .slice DA dn dc, .slice KA kn kc, .int .i64 tn, .int .i64 ct] := by
    rw [← hbx]; exact (Bl.new w 61 _).fr hf1 (fun e => by cases e)
  have hg1' : ∀ b, g1 = some b → bx + 1 ≤ b := by
    rintro b rfl
    rcases hg1 with e | ⟨b', e, h⟩
    · cases e
    · cases e; rw [← hbx]; simpa using h
  have HO : Hid (Ow w1 4 1 A1 kn c1 (kk.map .bool) g1) := by
    have := hO1; first | exact this | (simp at this; exact this)
  rw [hbx]
  have HB1 := hide hB1
  have Hg1 := hide hg1'
  have Hf01 := hide hf01
  clear hO1 hf1 hg1 hf01 hB1 hg1'
  go_wp2_with (at_builtin; refine wpList_append_ow _ rfl _ _ 24 rfl 4 i0 (.bool false) 1 1 Try.underlying24 hi hz0 hz1 hz2 rfl (by decide) _ _ _ _ _ rfl (HO.out.fr (S := fun _ => False) ((Fr.refl _ _).alloc _) (fun _ _ => id)) _ _ _ _ rfl (Sl.row _ [.bool true, .bool false, .bool true] _ 1 3 rfl) (by intro u hu; simp at hu; rcases hu with rfl | rfl | rfl <;> rfl) (by unfold maxLen; omega) (by omega) ?_)
  intro A2 c2 w2 g2 hO2 hf2 hg2
  have hf12 : Fr (fun x => some x = g1) w1 w2 := ((Fr.refl _ _).alloc _).trans hf2
  have hB2 := HB1.out.fr hf12 (fun e => by have := Hg1.out bx e.symm; omega)
  have hf02 : Fr (fun _ => False) w w2 := Hf01.out.comp hf12 (fun i hi e => by have := Hg1.out i e.symm; omega)
  obtain ⟨hl2, h0 | ⟨b2, o2, cur2, rfl, rfl, hrest2⟩⟩ := id hO2
  · exact absurd h0.2.1 (by omega)
  have hb2 : bx + 1 ≤ b2 := by
    rcases hg2 with e | ⟨b', e, h⟩
    · exact Hg1.out b2 e.symm
    · cases e; have h1 := Hf01.out.size; have h2 := HB1.out.lt; omega
  have hcap := hO2.cap
  have hc1 : kn ≤ c2 := by have := hcap.1; omega
  have hc2 : c2 ≤ 9223372036854775807 := by have := hcap.2; unfold maxLen at this; exact this
  have HO2 : Hid (Ow w2 4 1 (some ⟨b2, o2, none⟩) (kn + 3) c2 ((kk ++ [true, false, true]).map .bool) (some b2)) := by rw [List.map_append]; exact hO2
  have HB2 := hide hB2
  have Hf02 := hide hf02
  have H2 := hide (H.out.step hf02)
  have hxF : ¬ F bx := fun e => by have := H.out.dn.di.lt e; omega
  have hxG : ¬ G bx := fun e => by have := H.out.rn.di.lt e; omega
  have hbF : ¬ F b2 := fun e => by have := H.out.dn.di.lt e; omega
  have hbG : ¬ G b2 := fun e => by have := H.out.rn.di.lt e; omega
  have HxF := hide hxF
  have HxG := hide hxG
  have HbF := hide hbF
  have HbG := hide hbG
  have x4 : w2.cell? ⟨bx, 4, none⟩ = some (.slice KA kn kc) := hB2.cell' rfl
  have x5 : w2.cell? ⟨bx, 5, none⟩ = some (.int .i64 tn) := hB2.cell' rfl
  have x6 : w2.cell? ⟨bx, 6, none⟩ = some (.int .i64 ct) := hB2.cell' rfl
  clear hO2 hf2 hg2 hf12 hB2 hf02 hl2 hrest2 hcap hxF hxG hbF hbG HO HB1 Hg1 Hf01
  go_wp2_with fail
  refine (rcrash_any H2.out.rn.di KA kn kc kk Hk1.out (HK1.out.below Hf02.out (fun _ _ => id)) tn ct (fun h0 b hb hG => hapK.out h0 b hb (.inr hG))).mono ?_
  rintro e w3 ⟨rfl, hro⟩
  obtain ⟨G', hT3, hf3, hG3⟩ := H2.out.rOut hro
  have hB3 := HB2.out.fr hf3 HxG.out
  have hO3 := HO2.out.fr hf3 (fun b hb => by cases hb; exact HbG.out)
  have hbG' : ¬ G' b2 := fun e => HbG.out (hG3 b2 (HO2.out.lt b2 rfl) e)
  have HT3 := hide hT3
  have HB3 := hide hB3
  have HO3 := hide hO3
  have Hf3 := hide hf3
  have HG3 := hide hG3
  have HbG' := hide hbG'
  have y4 : w3.cell? ⟨bx, 4, none⟩ = some (.slice KA kn kc) := hB3.cell' rfl
  have y5 : w3.cell? ⟨bx, 5, none⟩ = some (.int .i64 tn) := hB3.cell' rfl
  have y6 : w3.cell? ⟨bx, 6, none⟩ = some (.int .i64 ct) := hB3.cell' rfl
  clear hro hT3 hB3 hO3 hf3 hG3 hbG' x4 x5 x6 H2 HB2 HO2
  go_wp2_with fail
  have hin : Sl w3 1 (some ⟨b2, o2, none⟩) kn (kk.map .bool) := by
    have := (HO3.out.take (k := kn) (by omega)).sl
    rwa [Nat.mul_one, List.map_append, List.take_left' (by rw [List.length_map]; exact Hk1.out.symm)] at this
  refine (crash_arg HT3.out.dn.di (some ⟨b2, o2, none⟩) kn c2 kk Hk1.out hin tn ct (fun h0 b hb hF => by obtain ⟨o, e⟩ := hb; cases e; exact HbF.out hF)).mono ?_
  rintro e w4 ⟨rfl, hdo⟩
  obtain ⟨F', hT4, hf4, hF4⟩ := HT3.out.dOut hdo
  have hB4 := HB3.out.fr hf4 HxF.out
  have hO4 := HO3.out.fr hf4 (fun b hb => by cases hb; exact HbF.out)
  have hbF' : ¬ F' b2 := fun e => HbF.out (hF4 b2 (HO3.out.lt b2 rfl) e)
  have hf34 : Fr (fun k => F k ∨ G k) w w4 := ((Hf02.out.weak _).trans (Hf3.out.mono fun x _ e => .inr e)).trans (hf4.mono fun x _ e => .inl e)
  have hback : ∀ k, k < w.heap.size → (F' k ∨ G' k) → (F k ∨ G k) := fun k hk e => by
    have h1 := Hf02.out.size
    have h2 := Hf3.out.size
    rcases e with e | e
    · exact .inl (hF4 k (by omega) e)
    · exact .inr (HG3.out k (by omega) e)
  have HT4 := hide hT4
  have HB4 := hide hB4
  have HO4 := hide hO4
  have Hf34 := hide hf34
  have Hback := hide hback
  have HbF' := hide hbF'
  clear hdo hT4 hB4 hO4 hf4 hF4 hbF' hf34 hback hin y4 y5 y6 HT3 HB3 HO3 Hf3 HG3
  have hx2 : ¬ bx = b2 := by omega
  go_wp2_with fail
  go_loopw [9] (fun v wr => ∃ j : Nat, j ≤ kn ∧ v = .int .i64 j ∧ Hid (Ow wr 4 1 (some ⟨b2, o2, none⟩) (kn + 3) c2 ((flip kk j ++ [true, false, true]).map .bool) (some b2)) ∧ Hid (Fr (fun x => x = b2) w4 wr)) (fun v _ => kn - (intOf v).toNat)
  case atStart => exact ⟨0, Nat.zero_le _, rfl, by have e : flip kk 0 = kk := by { unfold flip; simp }; rw [e]; exact HO4.out, Fr.refl _ _⟩
  case round =>
    obtain ⟨w5, rfl⟩ : ∃ w5, w5 = wr := ⟨_, rfl⟩
    obtain ⟨j, hj, rfl, HO5, Hf5⟩ := hrel
    have hB5 := HB4.out.fr Hf5.out hx2
    have v4 : w5.cell? ⟨bx, 4, none⟩ = some (.slice KA kn kc) := hB5.cell' rfl
    have hfl := flip_len kk (j := j) (by rw [← Hk1.out]; exact hj)
    by_cases hlt : j < kn
    · have hjk : j < kk.length := by rw [← Hk1.out]; exact hlt
      have hget : (flip kk j ++ [true, false, true]).getD j false = kk.getD j false := by
        rw [List.getD_eq_getElem?_getD, List.getElem?_append_left (by omega), ← List.getD_eq_getElem?_getD]
        exact flip_at kk (Nat.le_refl _) hjk
      obtain ⟨b', o', e1, -, ca, za⟩ := HO5.out.look (bool_get (xs := flip kk j ++ [true, false, true]) (k := j) (by rw [List.length_append]; omega))
      cases e1
      rw [hget] at ca
      obtain ⟨kb, ko, rfl, ckw⟩ := HK1.out.at_ (bool_get (xs := kk) (k := j) hjk)
      have hkb : kb < w.heap.size := World.block_lt_of_cell? w _ ckw
      have hkFG : ¬ (F kb ∨ G kb) := hapK.out (by omega) kb ⟨ko, rfl⟩
      have hkb2 : ¬ kb = b2 := by omega
      have ck := (Hf5.out.cell (p := ⟨kb, ko + j, none⟩) (by have := World.block_lt_of_cell? w4 _ ((Hf34.out.cell (p := ⟨kb, ko + j, none⟩) hkb hkFG).trans ckw); exact this) hkb2).trans ((Hf34.out.cell (p := ⟨kb, ko + j, none⟩) hkb hkFG).trans ckw)
      obtain ⟨v, hv⟩ : ∃ v, kk.getD j false = v := ⟨_, rfl⟩
      rw [hv] at ca ck
      have hset : (flip kk j ++ [true, false, true]).set j (!v) = flip kk (j + 1) ++ [true, false, true] := by
        rw [List.set_append_left _ _ (by omega), ← hv, flip_succ kk hjk]
      have Hset := hide hset
      have i0 : (0 : Int) ≤ (j : Int) := by omega
      have i1 : (j : Int) < (kn : Int) := by omega
      clear hB5 hfl hjk hget ckw hkb hkFG hkb2 hv hset
      go_wp2_with fail
      go_quiet (fail)
      go_wp2_with fail
      refine ⟨⟨j + 1, by omega, by go_num, ?_, ?_⟩, by simp [intOf]; omega⟩
      · have hO6 := HO5.out.fr (S := fun _ => False) (w' := w5.drewN nq) ((Fr.refl _ _).drewN _) (fun _ _ => id)
        have := hO6.put (j := j) (by omega) (.bool (!v))
        rw [← List.map_set, Hset.out] at this
        exact this
      · exact (Hf5.out.drewN _).setIn (.inl rfl) _
    · obtain rfl : kn = j := by omega
      have hlen : (flip kk kn ++ [true, false, true]).length = kn + 3 := by rw [List.length_append, hfl, ← Hk1.out]; rfl
      have hg0 : ∀ i, i < 3 → (flip kk kn ++ [true, false, true]).getD (kn + i) false = [true, false, true].getD i false := fun i hi => by
        rw [List.getD_eq_getElem?_getD, List.getElem?_append_right (by rw [hfl, ← Hk1.out]; omega), List.getD_eq_getElem?_getD]
        congr 2; rw [hfl, ← Hk1.out]; omega
      obtain ⟨b', o', e1, -, ca, -⟩ := HO5.out.look (bool_get (xs := flip kk kn ++ [true, false, true]) (k := kn + 0) (by omega))
      cases e1
      obtain ⟨b', o', e1, -, cb, -⟩ := HO5.out.look (bool_get (xs := flip kk kn ++ [true, false, true]) (k := kn + 1) (by omega))
      cases e1
      obtain ⟨b', o', e1, -, cc, -⟩ := HO5.out.look (bool_get (xs := flip kk kn ++ [true, false, true]) (k := kn + 2) (by omega))
      cases e1
      rw [hg0 0 (by omega)] at ca
      rw [hg0 1 (by omega)] at cb
      rw [hg0 2 (by omega)] at cc
      rw [Nat.add_zero] at ca
      simp only [List.getD_cons_zero, List.getD_cons_succ] at ca cb cc
      have q1 : IntKind.i64.wrap ((kn : Int) + 1) = ((kn + 1 : Nat) : Int) := by rw [IntWalk.i64_in _ (by omega)]; omega
      have q2 : IntKind.i64.wrap ((kn : Int) + 2) = ((kn + 2 : Nat) : Int) := by rw [IntWalk.i64_in _ (by omega)]; omega
      have i0 : (0 : Int) ≤ (kn : Int) := by omega
      have i1 : (kn : Int) < ((kn + 3 : Nat) : Int) := by omega
      have i2 : (0 : Int) ≤ ((kn + 1 : Nat) : Int) := by omega
      have i3 : ((kn + 1 : Nat) : Int) < ((kn + 3 : Nat) : Int) := by omega
      have i4 : (0 : Int) ≤ ((kn + 2 : Nat) : Int) := by omega
      have i5 : ((kn + 2 : Nat) : Int) < ((kn + 3 : Nat) : Int) := by omega
      have n1 : kn < kn + 3 := by omega
      have n2 : kn + 1 < kn + 3 := by omega
      have n3 : kn + 2 < kn + 3 := by omega
      clear hlen hg0 hfl hB5 hlt hj
      go_wp2_with fail
      go_ret
      have hT := HT4.out.turn Hf5.out (fun k hk => by rw [hk]; exact HbF'.out) (fun k hk => by rw [hk]; exact fun e => HbG'.out e) (fun k hk => by rw [hk]; omega)
      exact ⟨rfl, F', G', hT, Hf34.out.comp Hf5.out (fun i hi e => by omega), Hback.out⟩
end Go.Proofs.Ythcklgelbckffaa
