/-
  disk.Disk: Sync.
-/
import Derived.Test.YtchajbiloaiekaaDk4
namespace Go.Proofs.Ytchajbiloaiekaa
open Go.RowKit
set_option linter.unusedVariables false
set_option linter.unusedSimpArgs false
/-- A sector is written over. -/
def putSec (sf : List Nat) (k : Nat) (d : List Nat) : List Nat := sf.take (k * 64) ++ d ++ sf.drop (k * 64 + 64)
theorem putSec_len {sf : List Nat} {k n : Nat} {d : List Nat} (h : sf.length = n * 64) (hk : k < n) (hd : d.length = 64) : (putSec sf k d).length = n * 64 := by
  unfold putSec
  rw [List.length_append, List.length_append, List.length_take, List.length_drop]
  omega
def laidAll (sf : List Nat) (row : List (Nat × List Nat)) : List Nat := row.foldl (fun f r => putSec f r.1 r.2) sf
theorem laidAll_len {n : Nat} : ∀ (row : List (Nat × List Nat)) (sf : List Nat), sf.length = n * 64 → (∀ r ∈ row, r.1 < n ∧ r.2.length = 64) → (laidAll sf row).length = n * 64
  | [], sf, h, _ => h
  | r :: row, sf, h, hr => by
    unfold laidAll
    rw [List.foldl_cons]
    exact laidAll_len row _ (putSec_len h (hr r (List.mem_cons_self ..)).1 (hr r (List.mem_cons_self ..)).2) (fun r h => hr r (List.mem_cons_of_mem _ h))
theorem laidAll_snoc (sf : List Nat) (row : List (Nat × List Nat)) (k : Nat) (r : Nat × List Nat) (h : row[k]? = some r) : laidAll sf (row.take (k + 1)) = putSec (laidAll sf (row.take k)) r.1 r.2 := by
  unfold laidAll
  rw [List.take_add_one, h, List.foldl_append]
  rfl
theorem Ow.setRow {w : World} {e : TypeId} {size n c b o : Nat} {xs : List Value} {g : Option Nat} (h : Ow w e size (some ⟨b, o, none⟩) n c xs g) (m : Nat) (vs : List Value) (hm : m + vs.length ≤ n * size) :
    Ow (w.setCells b (o + m) vs) e size (some ⟨b, o, none⟩) n c (xs.take m ++ vs ++ xs.drop (m + vs.length)) g := by
  obtain ⟨h0, h1⟩ := h
  refine ⟨by rw [List.length_append, List.length_append, List.length_take, List.length_drop]; omega, ?_⟩
  rcases h1 with ⟨h1, _⟩ | ⟨b', o', cur, hA, hg, hh, h2, h3, h4, h5⟩
  · cases h1
  · cases hA
    have hs := Nat.mul_le_mul_right size h3
    obtain ⟨cur', a1, a2, a3, a4⟩ := heap_setCells b vs (o + m) w cur e hh (fun _ _ => trivial)
    refine .inr ⟨b, o, cur', rfl, hg, a1, by omega, h3, h4, fun i hi => ?_⟩
    by_cases hi1 : i < m
    · rw [a3 _ (.inl (by omega)), h5 i hi, List.append_assoc, List.getElem?_append_left (by rw [List.length_take]; omega), List.getElem?_take_of_lt hi1]
    · by_cases hi2 : i < m + vs.length
      · have := a4 (by omega) (i - m) _ (List.getElem?_eq_getElem (by omega))
        rw [show o + m + (i - m) = o + i by omega] at this
        rw [this, List.append_assoc, List.getElem?_append_right (by rw [List.length_take]; omega), List.getElem?_append_left (by rw [List.length_take]; omega), List.length_take, Nat.min_eq_left (by omega), List.getElem?_eq_getElem (by omega)]
      · rw [a3 _ (.inr (by omega)), h5 i hi, List.getElem?_append_right (by rw [List.length_append, List.length_take]; omega), List.length_append, List.length_take, Nat.min_eq_left (by omega), List.getElem?_drop, show m + vs.length + (i - (m + vs.length)) = i by omega]
theorem putSec_map (sf : List Nat) (k : Nat) (d : List Nat) (hd : d.length = 64) : (putSec sf k d).map bn = (sf.map bn).take (k * 64) ++ d.map bn ++ (sf.map bn).drop (k * 64 + (d.map bn).length) := by
  unfold putSec
  rw [List.length_map, hd, List.map_append, List.map_append, List.map_take, List.map_drop]
/-- What Sync answers, and what the disk is behind it. -/
def syncN (s : DS) : Int := if s.fuse = 0 then 80 else 0
def DS.sync (s : DS) : DS := { s with sf := laidAll s.sf s.row, row := [], sy := s.sy + 1, fuse := spend s.fuse }
/-- The disk's sectors in the midst of a Sync. -/
structure SyncAt (w : World) (n : Nat) (SA : Option Addr) (sc : Nat) (gs : Option Nat) (s : DS) (j : Nat) (wr : World) : Prop where
  ow : Ow wr tSec 64 SA n sc ((laidAll s.sf (s.row.take j)).map bn) gs
  fr : Fr (fun k => gs = some k) w wr
theorem DAt.laid {w w' : World} {p n : Nat} {SA : Option Addr} {sc : Nat} {gs : Option Nat} {RA : Option Addr} {rc : Nat} {gr : Option Nat} {mb : Nat} {s : DS} (h : DAt w p n SA sc gs RA rc gr mb s) {sf' : List Nat} (hO : Ow w' tSec 64 SA n sc (sf'.map bn) gs) (hl : sf'.length = n * 64) (hf : Fr (fun k => gs = some k) w w') :
    DAt w' p n SA sc gs RA rc gr mb { s with sf := sf' } :=
  ⟨h.bl.fr hf h.nps, hO, h.rows.fr hf (fun b e e' => h.nsr e' e), h.last.fr hf h.nms, ⟨h.ok.n1, h.ok.n2, hl, h.ok.row, h.ok.f1, h.ok.f2, h.ok.c1, h.ok.c2, h.ok.c3⟩⟩
theorem DAt.count {w : World} {p n : Nat} {SA : Option Addr} {sc : Nat} {gs : Option Nat} {RA : Option Addr} {rc : Nat} {gr : Option Nat} {mb : Nat} {s : DS} (h : DAt w p n SA sc gs RA rc gr mb s) (hs : s.sy < 8000000000000000000) :
    DAt (w.setCell ⟨p, 5, none⟩ (.int .i64 ((s.sy : Int) + 1))) p n SA sc gs RA rc gr mb { s with sy := s.sy + 1 } := by
  have hF : Fr (· = p) w (w.setCell ⟨p, 5, none⟩ (.int .i64 ((s.sy : Int) + 1))) := (Fr.refl _ _).setAt _
  refine ⟨?_, h.safe.fr hF (fun b e e' => h.nps (by rw [e, e'])), h.rows.fr hF (fun b e e' => h.npr (by rw [e, e'])), h.last.fr hF h.nmp, ⟨h.ok.n1, h.ok.n2, h.ok.len, h.ok.row, h.ok.f1, h.ok.f2, h.ok.c1, h.ok.c2, ?_⟩⟩
  · have := h.bl.set 5 (.int .i64 ((s.sy : Int) + 1))
    simpa using this
  · show s.sy + 1 ≤ _
    omega
theorem opstill_loadS {a : Act} {w : World} {K : Act → Prop} {dd : Option Tmp} {x : Operand} {ty : TypeId} {ps : String} {af : Array Edge} {gu : Option (Nat × Bool)} :
    Oper.still Try.prog { dst := dd, op := .load 67 x, type := ty, pos := ps, after := af, guard := gu } a w K = Oper.stillUpon Try.prog { dst := dd, op := .load 67 x, type := ty, pos := ps, after := af, guard := gu } a w K ((loadIn Try.prog 67 (a.eval x) w).andThen fun v w => .ok (.value v) w) := by
  unfold Oper.still loadIn
  simp only [execOp, Sem.run_bind, Sem.run_pure]
attribute [local go_sem ↓] opstill_loadS opwp_loadS opwp_loadW opwp_storeS opwp_storeW opwp_allocS opwp_allocW
attribute [local go_sem] loadS_eq loadW_eq storeS_row storeW_row allocS_eq allocW_eq mayNewS mayNewW setNewS setNewW mayNewC setNewC
theorem sync_bad {w : World} {p n : Nat} {F : Nat → Prop} {s : DS} (h : DI w p n F s) (hf : s.fuse = 0) :
    Calls Try.prog 32 #[.pointer (some ⟨p, 0, none⟩)] w fun e w' => e = .returned (.int .i64 80) ∧ w = w' := by
  have ha := asked_any h
  unfold askN at ha
  rw [if_pos hf] at ha
  clear h
  go_enter Try.func32, Try.ntmps32
  go_wp2_with fail
  refine ha.mono ?_
  rintro e w' ⟨rfl, rfl⟩
  go_wp2_with fail
  go_ret
  exact ⟨rfl, rfl⟩
set_option maxHeartbeats 2000000 in
set_option maxRecDepth 4000 in
theorem sync_ok {w : World} {p n : Nat} {F : Nat → Prop} {s : DS} (h : DI w p n F s) (hf : s.fuse ≠ 0) (hs : s.sy < 8000000000000000000) :
    Calls Try.prog 32 #[.pointer (some ⟨p, 0, none⟩)] w fun e w' => e = .returned (.int .i64 0) ∧ DOut w p n F s.sync w' := by
  have ha := asked_any h
  unfold askN at ha
  rw [if_neg hf] at ha
  obtain ⟨SA, sc, gs, RA, rc, gr, mb, h, rfl⟩ := h
  have hn2 := h.ok.n2
  have c1 : w.cell? ⟨p, 1, none⟩ = some (.slice RA s.row.length rc) := h.bl.cell' rfl
  obtain ⟨m, hm⟩ : ∃ m, s.row.length = m := ⟨_, rfl⟩
  have hm63 := h.ok.c1
  have hm64 := h.ok.c2
  rw [hm] at c1 hm63
  have H := hide h
  have HA := hide ha
  have Hm := hide hm
  have Hf := hide hf
  clear h ha hm hf
  go_enter Try.func32, Try.ntmps32
  go_wp2_with fail
  refine HA.out.mono ?_
  rintro e w' ⟨rfl, rfl⟩
  go_wp2_with fail
  go_loopw [16] (fun i wr => ∃ j : Nat, j ≤ m ∧ i = .int .i64 (j : Int) ∧ Hid (SyncAt w n SA sc gs s j wr)) (fun i _ => m - (intOf i).toNat)
  case atStart => exact ⟨0, Nat.zero_le _, rfl, ⟨H.out.safe, Fr.refl _ _⟩⟩
  case round =>
    obtain ⟨j, hj, rfl, hS⟩ := hrel
    by_cases hlt : j < m
    · have hjl : j < s.row.length := by rw [Hm.out]; exact hlt
      obtain ⟨r, hr⟩ : ∃ r, s.row[j]? = some r := ⟨_, List.getElem?_eq_getElem hjl⟩
      have hrow := H.out.rows
      rw [Hm.out] at hrow
      obtain ⟨b2, o2, rfl, rfl, -, hr2⟩ := row_at hrow (fun r hr => (H.out.ok.row r hr).2) j r hr
      obtain ⟨hk, hd⟩ := H.out.ok.row r (List.mem_of_getElem? hr)
      obtain ⟨k, d⟩ := r
      simp only at hk hd
      have hb2 : b2 < w.heap.size := H.out.rows.lt b2 rfl
      have f1 := hS.out.fr
      have hg2 : ¬ gs = some b2 := fun e => H.out.nsr e rfl
      have hh1 : HasRow wr b2 (o2 + j * 65) 65 := ((HasRow.of hr2 (wcells_len hd)).fr (by omega) f1 hg2).1
      have hh2 : rowAt wr b2 (o2 + j * 65) 65 = .int .i64 (k : Int) :: d.map bn := ((HasRow.of hr2 (wcells_len hd)).fr (by omega) f1 hg2).2.trans (rowAt_of (cs := wcells (k, d)) hr2 (wcells_len hd))
      obtain ⟨b, o, rfl, rfl, -, -, ht⟩ := safe_at hS.out.ow k hk
      have c0 : wr.cell? ⟨p, 0, none⟩ = some (.slice (some ⟨b, o, none⟩) n sc) := (f1.cell (World.block_lt_of_cell? w _ (H.out.bl.cell' (i := 0) rfl)) H.out.nps).trans (H.out.bl.cell' rfl)
      have hone := bn_one d
      have hr65 : Row65 (.int .i64 (k : Int) :: d.map bn) := ⟨by simp [hd], by
        intro u hu
        rcases List.mem_cons.1 hu with rfl | hu
        · rfl
        · exact hone u hu⟩
      have hr64 : Row64 (d.map bn) := ⟨by simpa using hd, hone⟩
      obtain ⟨ds, hds⟩ : ∃ ds, d.map bn = ds := ⟨_, rfl⟩
      rw [hds] at hh2 hr65 hr64
      have i0 : (0 : Int) ≤ (j : Int) := by omega
      have i1 : (j : Int) < (m : Int) := by omega
      have i2 : (0 : Int) ≤ (k : Int) := by omega
      have i3 : (k : Int) < (n : Int) := by omega
      have Hd := hide hds
      have Hr := hide hr
      have Hf1 := hide f1
      have Hdl := hide hd
      have hnb : Bl (wr.alloc (.cells (.int .i64 (k : Int) :: ds).toArray 70)) wr.heap.size 70 (.int .i64 (k : Int) :: ds).toArray := Bl.new _ _ _
      have fa : Fr (fun _ => False) wr (wr.alloc (.cells (.int .i64 (k : Int) :: ds).toArray 70)) := Fr.alloc (Fr.refl (fun _ => False) wr) _
      have gr0 : (wr.alloc (.cells (.int .i64 (k : Int) :: ds).toArray 70)).rangeAt wr.heap.size 1 ds := fun j v hv => by
        rw [hnb.cell, Nat.add_comm]; simpa using hv
      have g0 : (wr.alloc (.cells (.int .i64 (k : Int) :: ds).toArray 70)).cell? ⟨wr.heap.size, 0, none⟩ = some (.int .i64 (k : Int)) := hnb.cell' rfl
      have c0a := (fa.cell (World.block_lt_of_cell? wr _ c0) id).trans c0
      have gm : MayRow (wr.alloc (.cells (.int .i64 (k : Int) :: ds).toArray 70)) b (o + k * 64) 64 := fun j hj => by
        obtain ⟨q1, q2⟩ := ht j hj
        obtain ⟨u, hu⟩ := Option.isSome_iff_exists.1 q1
        have hlt := World.block_lt_of_cell? wr _ hu
        exact ⟨by rw [fa.cell (p := ⟨b, o + k * 64 + j, none⟩) hlt id]; exact q1, by rw [fa.frozen (p := ⟨b, o + k * 64 + j, none⟩) hlt id]; exact q2⟩
      have hwj : IntKind.i64.wrap ((j : Int) + 1) = ((j + 1 : Nat) : Int) := by rw [IntWalk.i64_in _ (by omega)]; omega
      clear hjl hrow hr2 hone hds hr f1 hd hn2 hm63 hm64 c1 c0
      go_wp2_with fail
      refine region_tail 9 (by kernel_rfl) (by kernel_rfl) ?_
      intro w1 Hw1 hcw1 hzw1 hsw1
      have k1 : HasRow w1 wr.heap.size 1 64 := by rw [Hw1.out]; exact HasRow.of gr0 hr64.1
      have k2 : rowAt w1 wr.heap.size 1 64 = ds := by rw [Hw1.out]; exact rowAt_of gr0 hr64.1
      have k3 : w1.cell? ⟨wr.heap.size, 0, none⟩ = some (.int .i64 (k : Int)) := (hcw1 _).trans g0
      have k4 := (hcw1 _).trans c0a
      have k5 : MayRow w1 b (o + k * 64) 64 := by rw [Hw1.out]; exact gm
      clear hcw1 hzw1 hsw1 gm c0a g0 gr0 fa hnb
      simp only [List.take_succ_cons, List.take_zero, List.drop_succ_cons, List.drop_zero]
      repeat still_step
      refine wpStill_nil ?_
      go_wp2_with fail
      refine ⟨⟨j + 1, by omega, rfl, ?_⟩, by simp [intOf]; omega⟩
      have hO : Ow w1 tSec 64 (some ⟨b, o, none⟩) n sc ((laidAll s.sf (s.row.take j)).map bn) (some b) := by
        rw [Hw1.out]
        exact hS.out.ow.fr (S := fun _ => False) (Fr.drew (Fr.alloc (Fr.refl (fun _ => False) wr) _)) (fun _ _ => id)
      have hll := hO.1
      have hdl := Hdl.out
      refine ⟨?_, ?_⟩
      · rw [laidAll_snoc _ _ _ _ Hr.out, putSec_map _ _ _ hdl, Hd.out]
        refine hO.setRow (k * 64) ds ?_
        rw [hr64.1]
        have := Nat.mul_le_mul_right 64 (show k + 1 ≤ n by omega)
        omega
      · have q1 : Fr (fun k => some b = some k) wr w1 := by rw [Hw1.out]; exact Fr.drew (Fr.alloc (Fr.refl _ wr) _)
        exact (Hf1.out.trans q1).trans ((fr_setCells b ds _ w1).mono fun x _ e => by rw [e])
    · obtain rfl : j = m := by omega
      have hL : DAt wr p n SA sc gs RA rc gr mb { s with sf := laidAll s.sf s.row } := by
        have := hS.out.ow
        rw [← Hm.out, List.take_length] at this
        exact H.out.laid this (laidAll_len _ _ H.out.ok.len H.out.ok.row) hS.out.fr
      have hFr := hide hS.out.fr
      have hsz := hS.out.fr.size
      clear hS
      go_wp2_with fail
      refine (rest_any hL).mono ?_
      rintro e w2 ⟨rfl, hR, hf2⟩
      have HR := hide hR
      have Hf2 := hide hf2
      have c5 : w2.cell? ⟨p, 5, none⟩ = some (.int .i64 (s.sy : Int)) := hR.bl.cell' rfl
      have z5 := hR.bl.free 5
      have hwrap : IntKind.i64.wrap ((s.sy : Int) + 1) = (s.sy : Int) + 1 := IntWalk.i64_in _ (by omega)
      clear hR hf2 hL
      go_wp2_with fail
      have hC := HR.out.count (s := { s with sf := laidAll s.sf s.row, row := [] }) hs
      refine (act_any hC).mono ?_
      rintro e w3 ⟨rfl, hA, hf3⟩
      have HA3 := hide hA
      have Hf3 := hide hf3
      clear hA hf3 hC
      go_wp2_with fail
      go_ret
      have hsz2 := Hf2.out.size
      have f12 : Fr (dfoot p gs gr mb) w w2 := (hFr.out.mono fun x _ e => .inr (.inl e)).trans (Hf2.out.mono fun x _ e => e.elim (fun e => .inl e) (fun e => .inr (.inr (.inr e))))
      have f3 : Fr (dfoot p gs gr mb) w2 (w2.setCell ⟨p, 5, none⟩ (.int .i64 ((s.sy : Int) + 1))) := ((Fr.refl (fun k => k = p) w2).setAt _).mono fun x _ e => .inl e
      have f4 : Fr (dfoot p gs gr mb) (w2.setCell ⟨p, 5, none⟩ (.int .i64 ((s.sy : Int) + 1))) w3 := Hf3.out.mono fun x _ e => .inl e
      have f5 := (f12.trans f3).trans f4
      have e5 : DI w3 p n (dfoot p gs none mb) s.sync := ⟨SA, sc, gs, none, 0, none, mb, HA3.out, rfl⟩
      refine ⟨rfl, _, e5, f5, ?_⟩
      rintro x hx (e | e | e | e)
      · exact .inl e
      · exact .inr (.inl e)
      · cases e
      · exact .inr (.inr (.inr e))
#print axioms sync_ok
end Go.Proofs.Ytchajbiloaiekaa
