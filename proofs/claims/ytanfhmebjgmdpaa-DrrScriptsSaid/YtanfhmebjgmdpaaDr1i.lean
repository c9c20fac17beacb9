/-
  bazaar/drr.Drr[int]: line, open, Len, Cost, Deficit, Add.
-/
import Derived.Test.YtanfhmebjgmdpaaRq5i
import Derived.Test.YtanfhmebjgmdpaaDr0
namespace Go.Proofs.Ytanfhmebjgmdpaa.Qi
open Go.RowKit
set_option linter.unusedVariables false
attribute [local go_sem ↓] storeJ_

abbrev tDrr : TypeId := 94
abbrev tLine : TypeId := 101
abbrev TT : DT := ⟨tDrr, tLine, tRing, tJob⟩
theorem TT_ok : TT.Ok := ⟨by decide, by decide, by decide, by decide, by decide, by decide⟩
def xc (x : X) : Int := x.2
def tv (x : X) : Value := .int .i64 x.1
abbrev DrrAt := DrAt (X := X) TT 2 enc xc
section
variable {d L : Nat} {D : Int} {s : DS X}
set_option maxHeartbeats 400000 in
theorem line_in (w : World) (h : DrrAt w d L D s) (i : Nat) (hi : i < s.lines.length) :
    Calls Try.prog 62 #[.pointer (some ⟨d, 0, none⟩), .int .i64 (i : Int)] w fun e w' => e = .returned (.pointer (some ⟨L, i * 3, none⟩)) ∧ w = w' := by
  have hbl := h.bl
  have hn := h.ok.n2
  obtain ⟨n, hn0⟩ : ∃ n, s.lines.length = n := ⟨_, rfl⟩
  rw [hn0] at hbl hi hn
  have c1 : w.cell? ⟨d, 1, none⟩ = some (.slice (some ⟨L, 0, none⟩) n n) := hbl.cell' rfl
  have i1 : ¬ (i : Int) < 0 := by omega
  have i2 : ¬ (n : Int) ≤ (i : Int) := by omega
  have i3 : (0 : Int) ≤ (i : Int) := by omega
  have i4 : (i : Int) < (n : Int) := by omega
  clear hn0 h hbl
  go_enter Try.func62, Try.ntmps62
  go_wp2
  go_ret
  exact ⟨by simp, rfl⟩
set_option maxHeartbeats 400000 in
theorem line_out (w : World) (h : DrrAt w d L D s) (q : Int) (hq : q < 0 ∨ (s.lines.length : Int) ≤ q) :
    Calls Try.prog 62 #[.pointer (some ⟨d, 0, none⟩), .int .i64 q] w fun e w' => e = .returned (.pointer none) ∧ w = w' := by
  have hbl := h.bl
  obtain ⟨n, hn0⟩ : ∃ n, s.lines.length = n := ⟨_, rfl⟩
  rw [hn0] at hbl hq
  have c1 : w.cell? ⟨d, 1, none⟩ = some (.slice (some ⟨L, 0, none⟩) n n) := hbl.cell' rfl
  clear hn0 h hbl
  by_cases h0 : q < 0
  · go_enter Try.func62, Try.ntmps62
    go_wp2
    go_ret
    exact ⟨rfl, rfl⟩
  · have h1 : (n : Int) ≤ q := by omega
    clear hq
    go_enter Try.func62, Try.ntmps62
    go_wp2
    go_ret
    exact ⟨rfl, rfl⟩
theorem line_nil (w : World) (q : Int) : Calls Try.prog 62 #[.pointer none, .int .i64 q] w fun e w' => e = .returned (.pointer none) ∧ w = w' := by
  go_enter Try.func62, Try.ntmps62
  go_wp2
  go_ret
  exact ⟨rfl, rfl⟩
/-- What open answers: the line's place, and the error. -/
def openN (s : DS X) (q : Int) : Int := if s.busy then 162 else if q < 0 ∨ (s.lines.length : Int) ≤ q then 2 else 0
set_option maxHeartbeats 400000 in
theorem open_ok (w : World) (h : DrrAt w d L D s) (i : Nat) (hi : i < s.lines.length) (hb : s.busy = false) :
    Calls Try.prog 36 #[.pointer (some ⟨d, 0, none⟩), .int .i64 (i : Int)] w fun e w' => e = .returned (.tuple #[.pointer (some ⟨L, i * 3, none⟩), .int .i64 0]) ∧ w = w' := by
  have hl := line_in w h i hi
  have hbl := h.bl
  rw [hb] at hbl
  have c2 : w.cell? ⟨d, 2, none⟩ = some (.bool false) := hbl.cell' rfl
  clear hbl hb hi h
  go_enter Try.func36, Try.ntmps36
  go_wp2_with fail
  refine hl.mono ?_
  rintro e w' ⟨rfl, rfl⟩
  go_wp2_with fail
  go_ret2
  exact ⟨rfl, rfl⟩
set_option maxHeartbeats 400000 in
theorem open_no (w : World) (h : DrrAt w d L D s) (q : Int) (hq : openN s q ≠ 0) :
    Calls Try.prog 36 #[.pointer (some ⟨d, 0, none⟩), .int .i64 q] w fun e w' => e = .returned (.tuple #[.pointer none, .int .i64 (openN s q)]) ∧ w = w' := by
  have hbl := h.bl
  unfold openN at hq ⊢
  cases hb : s.busy with
  | true =>
    rw [hb] at hbl
    rw [if_pos rfl]
    have c2 : w.cell? ⟨d, 2, none⟩ = some (.bool true) := hbl.cell' rfl
    clear hbl hb h hq
    go_enter Try.func36, Try.ntmps36
    go_wp2_with fail
    go_ret2
    exact ⟨rfl, rfl⟩
  | false =>
    rw [hb] at hbl
    rw [if_neg (by simp)]
    by_cases h1 : q < 0 ∨ (s.lines.length : Int) ≤ q
    · rw [if_pos h1]
      have hl := line_out w h q h1
      have c2 : w.cell? ⟨d, 2, none⟩ = some (.bool false) := hbl.cell' rfl
      clear hbl hb h hq h1
      go_enter Try.func36, Try.ntmps36
      go_wp2_with fail
      refine hl.mono ?_
      rintro e w' ⟨rfl, rfl⟩
      go_wp2_with fail
      go_ret2
      exact ⟨rfl, rfl⟩
    · rw [hb, if_neg h1] at hq; simp at hq
theorem open_nil (w : World) (q : Int) : Calls Try.prog 36 #[.pointer none, .int .i64 q] w fun e w' => e = .returned (.tuple #[.pointer none, .int .i64 1]) ∧ w = w' := by
  go_enter Try.func36, Try.ntmps36
  go_wp2_with fail
  go_ret2
  exact ⟨rfl, rfl⟩
set_option maxHeartbeats 400000 in
theorem Len_in (w : World) (h : DrrAt w d L D s) (i : Nat) (l : LN X) (hl : s.lines[i]? = some l) :
    Calls Try.prog 43 #[.pointer (some ⟨d, 0, none⟩), .int .i64 (i : Int)] w fun e w' => e = .returned (.int .i64 (l.things.length : Int)) ∧ w = w' := by
  have hln := line_in w h i (List.getElem?_eq_some_iff.1 hl).1
  have c0 := (h.cellp hl).1
  have hL := lenR_any w (h.ring l (List.mem_of_getElem? hl))
  clear h hl
  go_enter Try.func43, Try.ntmps43
  go_wp2_with fail
  refine hln.mono ?_
  rintro e w' ⟨rfl, rfl⟩
  go_wp2_with fail
  refine hL.mono ?_
  rintro e w' ⟨rfl, rfl⟩
  go_wp2_with fail
  go_ret
  exact ⟨rfl, rfl⟩
set_option maxHeartbeats 400000 in
theorem Len_out (w : World) (h : DrrAt w d L D s) (q : Int) (hq : q < 0 ∨ (s.lines.length : Int) ≤ q) :
    Calls Try.prog 43 #[.pointer (some ⟨d, 0, none⟩), .int .i64 q] w fun e w' => e = .returned (.int .i64 0) ∧ w = w' := by
  have hln := line_out w h q hq
  clear h hq
  go_enter Try.func43, Try.ntmps43
  go_wp2_with fail
  refine hln.mono ?_
  rintro e w' ⟨rfl, rfl⟩
  go_wp2_with fail
  go_ret
  exact ⟨rfl, rfl⟩
theorem Len_nil (w : World) (q : Int) : Calls Try.prog 43 #[.pointer none, .int .i64 q] w fun e w' => e = .returned (.int .i64 0) ∧ w = w' := by
  have hln := line_nil w q
  go_enter Try.func43, Try.ntmps43
  go_wp2_with fail
  refine hln.mono ?_
  rintro e w' ⟨rfl, rfl⟩
  go_wp2_with fail
  go_ret
  exact ⟨rfl, rfl⟩
set_option maxHeartbeats 400000 in
theorem Deficit_in (w : World) (h : DrrAt w d L D s) (i : Nat) (l : LN X) (hl : s.lines[i]? = some l) :
    Calls Try.prog 47 #[.pointer (some ⟨d, 0, none⟩), .int .i64 (i : Int)] w fun e w' => e = .returned (.int .i64 l.df) ∧ w = w' := by
  have hln := line_in w h i (List.getElem?_eq_some_iff.1 hl).1
  have c1 := (h.cellp hl).2.1
  clear h hl
  go_enter Try.func47, Try.ntmps47
  go_wp2_with fail
  refine hln.mono ?_
  rintro e w' ⟨rfl, rfl⟩
  go_wp2_with fail
  go_ret
  exact ⟨rfl, rfl⟩
set_option maxHeartbeats 400000 in
theorem Deficit_out (w : World) (h : DrrAt w d L D s) (q : Int) (hq : q < 0 ∨ (s.lines.length : Int) ≤ q) :
    Calls Try.prog 47 #[.pointer (some ⟨d, 0, none⟩), .int .i64 q] w fun e w' => e = .returned (.int .i64 0) ∧ w = w' := by
  have hln := line_out w h q hq
  clear h hq
  go_enter Try.func47, Try.ntmps47
  go_wp2_with fail
  refine hln.mono ?_
  rintro e w' ⟨rfl, rfl⟩
  go_wp2_with fail
  go_ret
  exact ⟨rfl, rfl⟩
theorem Deficit_nil (w : World) (q : Int) : Calls Try.prog 47 #[.pointer none, .int .i64 q] w fun e w' => e = .returned (.int .i64 0) ∧ w = w' := by
  have hln := line_nil w q
  go_enter Try.func47, Try.ntmps47
  go_wp2_with fail
  refine hln.mono ?_
  rintro e w' ⟨rfl, rfl⟩
  go_wp2_with fail
  go_ret
  exact ⟨rfl, rfl⟩
set_option maxHeartbeats 400000 in
theorem Cost_in (w : World) (h : DrrAt w d L D s) (i : Nat) (l : LN X) (hl : s.lines[i]? = some l) :
    Calls Try.prog 45 #[.pointer (some ⟨d, 0, none⟩), .int .i64 (i : Int)] w fun e w' => e = .returned (.int .i64 (csum xc l.things)) ∧ w = w' := by
  have hln := line_in w h i (List.getElem?_eq_some_iff.1 hl).1
  have c1 := (h.cellp hl).2.2
  clear h hl
  go_enter Try.func45, Try.ntmps45
  go_wp2_with fail
  refine hln.mono ?_
  rintro e w' ⟨rfl, rfl⟩
  go_wp2_with fail
  go_ret
  exact ⟨rfl, rfl⟩
set_option maxHeartbeats 400000 in
theorem Cost_out (w : World) (h : DrrAt w d L D s) (q : Int) (hq : q < 0 ∨ (s.lines.length : Int) ≤ q) :
    Calls Try.prog 45 #[.pointer (some ⟨d, 0, none⟩), .int .i64 q] w fun e w' => e = .returned (.int .i64 0) ∧ w = w' := by
  have hln := line_out w h q hq
  clear h hq
  go_enter Try.func45, Try.ntmps45
  go_wp2_with fail
  refine hln.mono ?_
  rintro e w' ⟨rfl, rfl⟩
  go_wp2_with fail
  go_ret
  exact ⟨rfl, rfl⟩
theorem Cost_nil (w : World) (q : Int) : Calls Try.prog 45 #[.pointer none, .int .i64 q] w fun e w' => e = .returned (.int .i64 0) ∧ w = w' := by
  have hln := line_nil w q
  go_enter Try.func45, Try.ntmps45
  go_wp2_with fail
  refine hln.mono ?_
  rintro e w' ⟨rfl, rfl⟩
  go_wp2_with fail
  go_ret
  exact ⟨rfl, rfl⟩
/-- What Add answers. -/
def addN (s : DS X) (q c : Int) : Int := if openN s q ≠ 0 then openN s q else if c < 1 ∨ 8 < c then 160 else match s.lines[q.toNat]? with | none => 0 | some l => if s.room ≤ l.things.length then 161 else 0
/-- .. and makes of the server. -/
def AddOut (w : World) (d L : Nat) (D : Int) (s : DS X) (i : Nat) (l : LN X) (x : X) (w' : World) : Prop :=
  ∃ g', DrrAt w' d L D (s.put i { l with things := l.things ++ [x], g := g' }) ∧ Fr (drfoot d L s) w w' ∧ (g' = l.g ∨ ∃ b, g' = some b ∧ w.heap.size ≤ b)
set_option maxHeartbeats 1000000 in
theorem Add_no (w : World) (h : DrrAt w d L D s) (q c : Int) (x : X) (hq : openN s q ≠ 0) :
    Calls Try.prog 16 #[.pointer (some ⟨d, 0, none⟩), .int .i64 q, .int .i64 c, tv x] w fun e w' => e = .returned (.int .i64 (openN s q)) ∧ Fr (fun _ => False) w w' := by
  have ho := open_no w h q hq
  obtain ⟨n, hn⟩ : ∃ n, openN s q = n := ⟨_, rfl⟩
  rw [hn] at ho hq ⊢
  have h1 : (n == 0) = false := by simpa using hq
  have h2 : (n != 0) = true := by simpa using hq
  clear h hn hq
  unfold tv
  go_enter Try.func16, Try.ntmps16
  go_wp2_with fail
  refine ho.mono ?_
  rintro e w' ⟨rfl, rfl⟩
  go_wp2_with fail
  go_ret
  exact ⟨rfl, Fr.refl _ _⟩
set_option maxHeartbeats 1000000 in
theorem Add_cost (w : World) (h : DrrAt w d L D s) (i : Nat) (c : Int) (x : X) (hi : i < s.lines.length) (hb : s.busy = false) (hc : c < 1 ∨ 8 < c) :
    Calls Try.prog 16 #[.pointer (some ⟨d, 0, none⟩), .int .i64 (i : Int), .int .i64 c, tv x] w fun e w' => e = .returned (.int .i64 160) ∧ Fr (fun _ => False) w w' := by
  have ho := open_ok w h i hi hb
  clear h hi hb
  unfold tv
  by_cases h1 : c < 1
  · clear hc
    go_enter Try.func16, Try.ntmps16
    go_wp2_with fail
    refine ho.mono ?_
    rintro e w' ⟨rfl, rfl⟩
    go_wp2_with fail
    go_ret
    exact ⟨rfl, Fr.refl _ _⟩
  · have h2 : 8 < c := by omega
    clear hc
    go_enter Try.func16, Try.ntmps16
    go_wp2_with fail
    refine ho.mono ?_
    rintro e w' ⟨rfl, rfl⟩
    go_wp2_with fail
    go_ret
    exact ⟨rfl, Fr.refl _ _⟩
theorem Sl_one (w : World) (x : X) : Sl (w.alloc (.cells (enc x).toArray tJob)) 2 (some ⟨w.heap.size, 0, none⟩) 1 (cellsOf enc [x]) :=
  ⟨by rw [cellsOf_length enc_len]; rfl, fun _ => ⟨_, 0, rfl, fun j u hu => by
    rw [Nat.zero_add, cellsOf_one] at *
    exact (Bl.new w tJob (enc x).toArray).cell' (by simpa using hu)⟩⟩
set_option maxHeartbeats 1000000 in
set_option maxRecDepth 20000 in
theorem Add_full (w : World) (h : DrrAt w d L D s) (i : Nat) (l : LN X) (x : X) (hl : s.lines[i]? = some l) (hb : s.busy = false) (hc : 1 ≤ x.2 ∧ x.2 ≤ 8) (hf : s.room ≤ l.things.length) :
    Calls Try.prog 16 #[.pointer (some ⟨d, 0, none⟩), .int .i64 (i : Int), .int .i64 x.2, tv x] w fun e w' => e = .returned (.int .i64 161) ∧ Fr (fun _ => False) w w' := by
  have hi : i < s.lines.length := (List.getElem?_eq_some_iff.1 hl).1
  have hm := List.mem_of_getElem? hl
  have ho := open_ok w h i hi hb
  have hP : Hid (∀ w1, Fr (fun _ => False) w w1 → ∀ A c, Calls Try.prog 37 #[.pointer (some ⟨l.p, 0, none⟩), .slice A 1 c] w1 fun e w' => e = .returned (.int .i64 100) ∧ Fr (fun _ => False) w1 w') := fun w1 hf1 A c => push_full w1 ((h.ring l hm).fr hf1 (fun _ _ => id)) A 1 c (by omega)
  have c0 := (h.cellp hl).1
  have h1 : ¬ x.2 < 1 := by omega
  have h2 : ¬ 8 < x.2 := by omega
  clear h hi hb hf hm hc
  unfold tv
  go_enter Try.func16, Try.ntmps16
  go_wp2_with fail
  refine ho.mono ?_
  rintro e w' ⟨rfl, rfl⟩
  go_wp2_with fail
  refine (hP.out _ (Fr.alloc (Fr.refl _ _) _) _ _).mono ?_
  rintro e w2 ⟨rfl, hf2⟩
  go_wp2_with fail
  go_ret
  exact ⟨rfl, ((Fr.refl _ _).alloc _).trans hf2⟩
set_option maxHeartbeats 1000000 in
set_option maxRecDepth 20000 in
theorem Add_ok (w : World) (h : DrrAt w d L D s) (i : Nat) (l : LN X) (x : X) (hl : s.lines[i]? = some l) (hb : s.busy = false) (hc : 1 ≤ x.2 ∧ x.2 ≤ 8) (hf : l.things.length < s.room) :
    Calls Try.prog 16 #[.pointer (some ⟨d, 0, none⟩), .int .i64 (i : Int), .int .i64 x.2, tv x] w fun e w' => e = .returned (.int .i64 0) ∧ AddOut w d L D s i l x w' := by
  have hi : i < s.lines.length := (List.getElem?_eq_some_iff.1 hl).1
  have hm := List.mem_of_getElem? hl
  have ho := open_ok w h i hi hb
  have hP : Hid (∀ w1, Fr (fun _ => False) w w1 → Calls Try.prog 37 #[.pointer (some ⟨l.p, 0, none⟩), .slice (some ⟨w1.heap.size, 0, none⟩) 1 1] (w1.alloc (.cells (enc x).toArray tJob)) fun e w' => e = .returned (.int .i64 0) ∧ ROut (w1.alloc (.cells (enc x).toArray tJob)) l.p l.g s.room (l.things ++ [x]) w') := fun w1 hf1 =>
    push_ok (w1.alloc (.cells (enc x).toArray tJob)) ((h.ring l hm).fr (hf1.alloc _) (fun _ _ => id)) _ 1 1 [x] (Sl_one w1 x) (fun _ b hb hbl hq => by
      obtain ⟨o, e⟩ := hb
      cases e
      have := (h.ring l hm).lt hq
      have := hf1.size
      omega) (by omega)
  have H := hide h
  have Hl := hide hl
  have Hm := hide hm
  have c0 := (h.cellp hl).1
  have hbd := csum_bd' (cost := xc) l.things (h.ok.co l hm)
  have hrb := (h.ring l hm).bounds
  have hLr := h.Lring TT_ok hm
  have h1 : ¬ x.2 < 1 := by omega
  have h2 : ¬ 8 < x.2 := by omega
  have Hc := hide hc
  have hce : Hid (csum xc (l.things ++ [x]) = csum xc l.things + x.2) := by show _ = _; rw [csum_append]; simp [csum, xc]
  have iw : IntKind.i64.wrap (csum xc l.things + x.2) = csum xc l.things + x.2 := IntWalk.i64_in _ (by omega)
  obtain ⟨cs, hcs⟩ : ∃ cs, csum xc l.things = cs := ⟨_, rfl⟩
  rw [hcs] at iw hce
  have Hcs := hide hcs
  have fin : Hid (∀ (w1 w2 : World), Fr (fun _ => False) w w1 → ROut (w1.alloc (.cells (enc x).toArray tJob)) l.p l.g s.room (l.things ++ [x]) w2 →
      w2.cell? ⟨L, i * 3 + 2, none⟩ = some (.int .i64 cs) ∧ w2.frozen? ⟨L, i * 3 + 2, none⟩ = false ∧ AddOut w d L D s i l x (w2.setCell ⟨L, i * 3 + 2, none⟩ (.int .i64 (cs + x.2)))) := by
    rintro w1 w2 hf1 ⟨g', hI, hf2, hg⟩
    have h := H.out
    have hF2 : Fr (qfoot l.p l.g) w w2 := ((hf1.alloc _).weak _).trans hf2
    have hls2 := h.ls.fr hF2 hLr
    have hF3 : Fr (fun x => x = L) w2 (w2.setCell ⟨L, i * 3 + 2, none⟩ (.int .i64 (cs + x.2))) := (Fr.refl _ _).setAt _
    have hF : Fr (fun x => qfoot l.p l.g x ∨ x = L) w (w2.setCell ⟨L, i * 3 + 2, none⟩ (.int .i64 (cs + x.2))) := (hF2.mono fun x _ e => .inl e).trans (hF3.mono fun x _ e => .inr e)
    have hg2 : g' = l.g ∨ ∃ b, g' = some b ∧ w.heap.size ≤ b := hg.imp id fun ⟨b, e, hb⟩ => ⟨b, e, by have := hf1.size; simp at hb; omega⟩
    refine ⟨?_, hls2.free _, g', h.turn TT_ok Hl.out _ hF rfl (fun y hy => ?_) ?_ ?_ ?_ (h.ok.df l Hm.out), hF.mono fun y _ e => ?_, hg2⟩
    · have h3 := cellsOf_at (enc := lcells xc) (lcells_len xc) s.lines i l Hl.out 2 (by omega)
      refine hls2.cell' ?_
      rw [List.getElem?_toArray, h3, ← Hcs.out]; rfl
    · rcases hy with rfl | hy
      · exact .inl (.inl rfl)
      · rcases hg2 with e | ⟨b, e, hb⟩
        · exact .inl (.inr (hy.trans e))
        · exact .inr (by have h5 : some y = some b := hy.trans e; cases h5; exact hb)
    · refine hI.fr hF3 (fun b hb e => ?_)
      subst e
      rcases hb with rfl | hb
      · exact hLr (.inl rfl)
      · rcases hg2 with e | ⟨b', e, hb'⟩
        · exact hLr (.inr (hb.trans e))
        · have h5 : some b = some b' := hb.trans e
          cases h5
          have := h.ls.lt; omega
    · rw [← lset2 s.lines i l { l with things := l.things ++ [x], g := g' } Hl.out rfl rfl]
      show Bl _ L tLine ((cellsOf (lcells xc) s.lines).toArray.setIfInBounds (i * 3 + 2) (.int .i64 (csum xc (l.things ++ [x]))))
      rw [hce.out]
      exact hls2.set _ _
    · intro y hy
      rcases List.mem_append.1 hy with hy | hy
      · exact h.ok.co l Hm.out y hy
      · rw [List.mem_singleton] at hy; subst hy; exact Hc.out
    · rcases e with e | e
      · exact .inr (.inr ⟨l, Hm.out, e⟩)
      · exact .inr (.inl e)
  have hBr : Hid (¬ qfoot l.p l.g w.heap.size) := fun e => by have := (H.out.ring l Hm.out).lt e; omega
  clear hLr
  clear h hi hb hf hm hc hcs hl hrb hbd
  unfold tv
  go_enter Try.func16, Try.ntmps16
  go_wp2_with fail
  refine ho.mono ?_
  rintro e w' ⟨rfl, rfl⟩
  go_wp2_with fail
  refine (hP.out w (Fr.refl _ _)).mono ?_
  rintro e w2 ⟨rfl, hr⟩
  obtain ⟨d2, z2, ha⟩ := fin.out w w2 (Fr.refl _ _) hr
  have Ha := hide ha
  clear ha hr
  go_wp2_with fail
  go_ret
  exact ⟨rfl, Ha.out⟩
end
end Go.Proofs.Ytanfhmebjgmdpaa.Qi
