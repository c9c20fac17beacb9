/-
  bazaar/ring.Ring[bazaar/drr.job[int]]: Push.
-/
import Derived.Test.YtanfhmebjgmdpaaRq4i
namespace Go.Proofs.Ytanfhmebjgmdpaa.Qi
open Go.RowKit
set_option linter.unusedVariables false
attribute [local go_sem ↓] storeJ_

abbrev ROut := QOut (X := X) tRing tJob 2 enc
/-- The first j things are pushed. -/
def Pushing (w : World) (p : Nat) (C : Option Addr) (cc : Nat) (g : Option Nat) (s : QS X) (l : List X) (m : Nat) (i : Value) (wr : World) : Prop :=
  ∃ (j : Nat) (s' : QS X), i = .int .i64 (j : Int) ∧ j ≤ m ∧ s'.room = s.room ∧ s'.xs = s.xs ++ l.take j ∧ s'.vals.length = s.vals.length ∧ RingAt wr p C cc g s' ∧ Fr (qfoot p g) w wr
set_option maxHeartbeats 2000000 in
set_option maxRecDepth 10000 in
attribute [-go_sem] Go.Instr.loadAt in
theorem push_ok {p : Nat} {g : Option Nat} {room : Nat} {xs : List X} (w : World) (h : RI w p g room xs) (A : Option Addr) (m c : Nat) (l : List X) (hl : Sl w 2 A m (cellsOf enc l))
    (hap : 0 < m → ∀ b, (∃ o, A = some ⟨b, o, none⟩) → b < w.heap.size → ¬ qfoot p g b) (hfit : xs.length + m ≤ room) :
    Calls Try.prog 37 #[.pointer (some ⟨p, 0, none⟩), .slice A m c] w fun e w' => e = .returned (.int .i64 0) ∧ ROut w p g room (xs ++ l) w' := by
  obtain ⟨C, cc, s, rfl, rfl, h⟩ := h
  have hbl := h.bl
  have b3 := h.ok.r2
  have hml : l.length = m := by have := hl.1; rw [cellsOf_length enc_len] at this; omega
  obtain ⟨nx, hnx⟩ : ∃ nx, s.xs.length = nx := ⟨_, rfl⟩
  obtain ⟨rm, hrm⟩ : ∃ rm, s.room = rm := ⟨_, rfl⟩
  rw [hnx, hrm] at hbl
  rw [hrm] at b3
  rw [hnx, hrm] at hfit
  have Hnx := hide hnx
  have Hrm := hide hrm
  have H := hide h
  clear hnx hrm h
  have L1 : ∀ q, (Instr.loadAt 3 (.pointer (some ⟨p, 1, none⟩))).run Try.prog (w.drewN q) = .ok (.int .i64 (rm : Int)) (w.drewN q) := fun q => run_loadAt_int ((hbl.drewN q).cell' rfl)
  have L3 : ∀ q, (Instr.loadAt 3 (.pointer (some ⟨p, 3, none⟩))).run Try.prog (w.drewN q) = .ok (.int .i64 (nx : Int)) (w.drewN q) := fun q => run_loadAt_int ((hbl.drewN q).cell' rfl)
  have i2 : IntKind.i64.wrap ((rm : Int) - (nx : Int)) = (rm : Int) - (nx : Int) := IntWalk.i64_in _ (by omega)
  have i3 : ¬ (rm : Int) - (nx : Int) < (m : Int) := by omega
  clear hbl
  go_enter Try.func37, Try.ntmps37
  go_wp2_with fail
  go_quiet (fail)
  go_wp2_with fail
  have hN : Fr (fun _ => False) w (w.drewN nq) := (Fr.refl _ _).drewN nq
  have HR := H.out.fr hN id (fun _ _ => id)
  refine (fit_any _ HR m (by rw [Hnx.out, Hrm.out]; exact hfit)).mono ?_
  rintro e w1 ⟨rfl, C1, cc1, g1, s1, e1, e2, e3, h1, f1, k1⟩
  clear HR L1 L3 i3
  have hl1 : Hid (Sl w1 2 A m (cellsOf enc l)) := by
    have hs0 : Sl (w.drewN nq) 2 A m (cellsOf enc l) := hl.fr (B := 0) hN (fun _ _ _ => id)
    by_cases hm0 : 0 < m
    · exact hs0.fr (B := 0) f1 (hap hm0)
    · exact ⟨hs0.1, fun h => absurd h hm0⟩
  go_wp2_with fail
  go_loopw [29] (fun i wr => Pushing w1 p C1 cc1 g1 s1 l m i wr) (fun i _ => m - (intOf i).toNat)
  case atStart => exact ⟨0, s1, rfl, Nat.zero_le _, rfl, by simp, rfl, h1, Fr.refl _ _⟩
  case round =>
    obtain ⟨j, s2, rfl, hj, y1, y2, y3, h2, f2⟩ := hrel
    by_cases hlt : j < m
    · obtain ⟨v, hv⟩ : ∃ v, l[j]? = some v := ⟨_, List.getElem?_eq_getElem (by omega)⟩
      have hapm := hap (by omega)
      have hlw : Sl wr 2 A m (cellsOf enc l) := hl1.out.fr (B := 0) f2 (fun b hb hbw e => by
        obtain ⟨o, rfl⟩ := hb
        obtain ⟨b', o', hA, hc⟩ := hl.2 (by omega)
        cases hA
        obtain ⟨u, hu⟩ : ∃ u, (cellsOf enc l)[0]? = some u := ⟨_, List.getElem?_eq_getElem (by rw [hl.1]; omega)⟩
        have hbl0 : b < w.heap.size := World.block_lt_of_cell? w _ (hc 0 u hu)
        exact hapm b ⟨o, rfl⟩ hbl0 (qfoot_new k1 b hbl0 e))
      obtain ⟨bl, ol, rfl, -⟩ := hlw.2 (by omega)
      have hlen : s2.xs.length < s2.vals.length := by rw [y2, y3, e2, List.length_append, List.length_take]; omega
      obtain ⟨k, hk⟩ : ∃ k, (s2.first + s2.xs.length) % s2.vals.length = k := ⟨_, rfl⟩
      have hkl : k < s2.vals.length := by rw [← hk]; exact Nat.mod_lt _ (by omega)
      obtain ⟨y, hy⟩ : ∃ y, s2.vals[k]? = some y := ⟨_, List.getElem?_eq_getElem hkl⟩
      obtain ⟨b, o, cur, rfl, hg, -⟩ := h2.ow.row enc_len hy rfl
      have hbp : p ≠ b := fun e => by have := h2.ne ne_types; rw [hg, e] at this; exact this rfl
      have hpush := hide (QS.push_ok h2.ok hlen v)
      have q1 := h2.ok.l2
      have q2 := h2.ok.r2
      have q3 := h2.ok.f
      have how := hide h2.ow
      have hbl := h2.bl
      obtain ⟨nc, hnc⟩ : ∃ nc, s2.vals.length = nc := ⟨_, rfl⟩
      obtain ⟨n2, hn2⟩ : ∃ n2, s2.xs.length = n2 := ⟨_, rfl⟩
      obtain ⟨f, hf⟩ : ∃ f, s2.first = f := ⟨_, rfl⟩
      obtain ⟨rm2, hrm2⟩ : ∃ rm, s2.room = rm := ⟨_, rfl⟩
      rw [hnc, hf, hn2, hrm2] at hbl
      rw [hnc] at hkl q1 q3 hk hlen how
      rw [hf] at q3 hk
      rw [hrm2] at q1 q2
      rw [hn2] at hk hlen
      have Hnc := hide hnc
      have Hn2 := hide hn2
      have Hf := hide hf
      have Hrm2 := hide hrm2
      have Hg := hide hg
      have Hk := hide hk
      have H2 := hide h2
      have Hv := hide hv
      clear hnc hn2 hf hrm2 hg hk h2 hy hv
      have hld : (Instr.loadAt 99 (.pointer (some ⟨bl, ol + j * 2, none⟩))).run Try.prog wr = .ok (.agg (enc v).toArray) wr := hlw.load enc_len Hv.out Try.underlying99 rfl infoJob (by decide)
      have kst := (Bl.new wr tJob (enc zeroX).toArray).storeIn (P := Try.prog) (ty := tJob) v (enc_len v) (enc_one v) rfl infoJob
      have HBx := (Bl.new wr tJob (enc zeroX).toArray).setRow (enc v).toArray
      have HFx : Hid (Fr (fun _ => False) wr ((wr.alloc (.cells (enc zeroX).toArray tJob)).setRow wr.heap.size (enc v).toArray)) := Fr.setRow ((Fr.refl _ _).alloc _) (.inr (Nat.le_refl _)) _
      obtain ⟨wx, hwx⟩ : ∃ wx, (wr.alloc (.cells (enc zeroX).toArray tJob)).setRow wr.heap.size (enc v).toArray = wx := ⟨_, rfl⟩
      rw [hwx] at kst HBx HFx
      have kst' : storeIn Try.prog tJob (.pointer (some ⟨wr.heap.size, 0, none⟩)) (.agg (enc v).toArray) (wr.alloc (.cells #[.int .i64 0, .int .i64 0] 99)) = .ok () wx := kst
      clear kst hwx
      have hblx := hbl.fr HFx.out id
      have howx := hide (how.out.fr HFx.out (fun _ _ => id))
      have hall0 : ∀ w', Fr (fun x => x = b) wx w' → (Instr.loadAt 133 (.pointer (some ⟨p, 0, none⟩))).run Try.prog w' = .ok (.slice (some ⟨b, o, none⟩) nc cc1) w' := fun w' hf => run_loadAt_slice ((hblx.fr hf hbp).cell' rfl)
      have hall3 : ∀ w', Fr (fun x => x = b) wx w' → (Instr.loadAt 3 (.pointer (some ⟨p, 3, none⟩))).run Try.prog w' = .ok (.int .i64 (n2 : Int)) w' := fun w' hf => run_loadAt_int ((hblx.fr hf hbp).cell' rfl)
      have hbx : wr.heap.size ≠ b := fun e => by have := how.out.lt b Hg.out; omega
      have hallx : ∀ w', Fr (fun x => x = b) wx w' → (Instr.loadAt 99 (.pointer (some ⟨wr.heap.size, 0, none⟩))).run Try.prog w' = .ok (.agg (enc v).toArray) w' := fun w' hf => (HBx.fr hf hbx).loadIn (P := Try.prog) (ty := tJob) v (enc_len _) Try.underlying99 rfl infoJob
      have hF0 : Fr (fun x => x = b) wx wx := Fr.refl _ _
      have i1 : (0 : Int) ≤ (k : Int) := by omega
      have i4 : (k : Int) < (nc : Int) := by omega
      have i5 : (0 : Int) ≤ (j : Int) := by omega
      have i6 : (j : Int) < (m : Int) := by omega
      go_wp2_with fail
      clear hld kst'
      go_region_held3 (fun w' => Fr (fun x => x = b) wx w') (first | assumption | exact Fr.drew (by assumption))
        ((go_at_call 64; refine (place_fr _ n2 (by exact hblx) (by omega) (by omega) (by omega) (by omega) k Hk.out).mono ?_; rintro e w4 ⟨rfl, hf4⟩; have kf4 : Fr (fun _ => False) wx w4 := (Fr.drew (by exact Fr.refl _ _)).trans hf4; have kf5 : Fr (fun x => x = b) wx w4 := kf4.weak _; obtain ⟨ws, ks, hO5, hF5⟩ := (howx.out.fr kf4 (fun _ _ => id)).storeIn (P := Try.prog) (ty := tJob) enc_len enc_one hkl Hnc.out v infoJob; have ks2 : Fr (fun x => x = b) wx ws := kf5.trans hF5))
      have hbl5 := hblx.fr ks2 hbp
      have HO5 := hide hO5
      have hFs : Fr (qfoot p g1) wr ws := (HFx.out.weak _).trans (ks2.mono fun x _ e => .inr (by rw [e]; exact Hg.out.symm))
      have L5 : (Instr.loadAt 3 (.pointer (some ⟨p, 3, none⟩))).run Try.prog ws = .ok (.int .i64 (n2 : Int)) ws := run_loadAt_int (hbl5.cell' rfl)
      have d5 : ws.cell? ⟨p, 3, none⟩ = some (.int .i64 (n2 : Int)) := hbl5.cell' rfl
      have z5 := hbl5.free 3
      clear hall0 hall3 hallx hO5 ks
      go_wp2_with fail
      have hj1 : ((j : Int) + 1) = ((j + 1 : Nat) : Int) := by omega
      have hbl6 := hbl5.set 3 (.int .i64 ((n2 : Int) + 1))
      have hF6 : Fr (· = p) ws (ws.setCell ⟨p, 3, none⟩ (.int .i64 ((n2 : Int) + 1))) := (Fr.refl _ _).setAt _
      refine ⟨⟨j + 1, s2.push v, by go_num, by omega, y1, ?_, ?_, ⟨?_, ?_, hpush.out⟩, f2.trans (hFs.trans (hF6.mono fun k _ e => .inl e))⟩, by simp [intOf]; omega⟩
      · show s2.xs ++ [v] = _
        rw [y2, List.append_assoc, List.take_add_one, Hv.out]; rfl
      · show (s2.vals.set _ v).length = _
        rw [List.length_set, y3]
      · show Bl _ p tRing #[.slice (some ⟨b, o, none⟩) (s2.vals.set ((s2.first + s2.xs.length) % s2.vals.length) v).length cc1, .int .i64 (s2.room : Int), .int .i64 (s2.first : Int), .int .i64 ((s2.xs ++ [v]).length : Int)]
        rw [List.length_set, List.length_append, Hnc.out, Hn2.out, Hf.out, Hrm2.out]
        exact hbl6
      · have h6 := HO5.out.fr hF6 (fun b' e e' => hbp (by rw [Hg.out] at e; cases e; exact e'.symm))
        show Ow _ tJob 2 (some ⟨b, o, none⟩) (s2.vals.set ((s2.first + s2.xs.length) % s2.vals.length) v).length cc1 (cellsOf enc (s2.vals.set ((s2.first + s2.xs.length) % s2.vals.length) v)) g1
        rw [List.length_set, Hnc.out, Hn2.out, Hf.out, Hk.out]
        exact h6
    · obtain rfl : j = m := by omega
      go_wp2_with fail
      go_ret
      refine ⟨rfl, g1, ⟨C1, cc1, s2, y1.trans e1, ?_, h2⟩, (hN.weak _).trans (f1.comp f2 (qfoot_new k1)), k1⟩
      rw [y2, e2, List.take_of_length_le (by omega)]
set_option maxHeartbeats 2000000 in
theorem push_full {p : Nat} {g : Option Nat} {room : Nat} {xs : List X} (w : World) (h : RI w p g room xs) (A : Option Addr) (m c : Nat) (hfit : ¬ xs.length + m ≤ room) :
    Calls Try.prog 37 #[.pointer (some ⟨p, 0, none⟩), .slice A m c] w fun e w' => e = .returned (.int .i64 100) ∧ Fr (fun _ => False) w w' := by
  have hb := h.bounds
  obtain ⟨C, cc, s, rfl, rfl, h⟩ := h
  have hbl := h.bl
  obtain ⟨nx, hnx⟩ : ∃ nx, s.xs.length = nx := ⟨_, rfl⟩
  obtain ⟨rm, hrm⟩ : ∃ rm, s.room = rm := ⟨_, rfl⟩
  rw [hnx, hrm] at hbl hb
  rw [hnx, hrm] at hfit
  clear hnx hrm h
  have c1 : w.cell? ⟨p, 1, none⟩ = some (.int .i64 (rm : Int)) := hbl.cell' rfl
  have c3 : w.cell? ⟨p, 3, none⟩ = some (.int .i64 (nx : Int)) := hbl.cell' rfl
  have i2 : IntKind.i64.wrap ((rm : Int) - (nx : Int)) = (rm : Int) - (nx : Int) := IntWalk.i64_in _ (by omega)
  have i3 : (rm : Int) - (nx : Int) < (m : Int) := by omega
  clear hbl
  go_enter Try.func37, Try.ntmps37
  go_wp2_with fail
  go_quiet (fail)
  go_wp2_with fail
  go_ret
  exact ⟨rfl, (Fr.refl _ _).drewN nq⟩
end Go.Proofs.Ytanfhmebjgmdpaa.Qi
