/-
  Texts merged into one, to keep the claim small: DxB.
-/
import Derived.Test.YtanfhmebjgmdpaaMe28
import Derived.Test.YtanfhmebjgmdpaaMe31
/-
  A server beside the document's (Like): what both tell; within a turn of a round.
-/
namespace Go.Proofs.Ytanfhmebjgmdpaa.Qi
open Go.RowKit Go.Shelf
set_option linter.unusedVariables false
/-- What a queue holds, and its deficit. -/
def con (l : LN (Int × Int)) : List (Int × Int) × Int := (l.things, l.df)
def conD (l : DQ) : List (Int × Int) × Int := (l.things, l.df)
/-- The server holds what the document's holds. -/
structure Like (s : DS (Int × Int)) (r : DR) : Prop where
  quantum : s.quantum = r.quantum
  room : s.room = r.room
  lines : s.lines.map con = r.lines.map conD
theorem Like.len {s : DS (Int × Int)} {r : DR} (h : Like s r) : s.lines.length = r.lines.length := by
  have := congrArg List.length h.lines
  simpa using this
theorem Like.get {s : DS (Int × Int)} {r : DR} (h : Like s r) {i : Nat} {l : LN (Int × Int)} (hl : s.lines[i]? = some l) : ∃ m, r.lines[i]? = some m ∧ m.things = l.things ∧ m.df = l.df := by
  have h1 := congrArg (fun L => L[i]?) h.lines
  simp only [List.getElem?_map, hl, Option.map_some] at h1
  cases h2 : r.lines[i]? with
  | none => rw [h2] at h1; cases h1
  | some m =>
    rw [h2] at h1
    have h3 : con l = conD m := Option.some.inj h1
    exact ⟨m, rfl, (congrArg Prod.fst h3).symm, (congrArg Prod.snd h3).symm⟩
def lenQ (s : DS (Int × Int)) (q : Int) : Int := if 0 ≤ q ∧ q < (s.lines.length : Int) then ((s.lines[q.toNat]?.map fun l => (l.things.length : Int)).getD 0) else 0
def dfQ (s : DS (Int × Int)) (q : Int) : Int := if 0 ≤ q ∧ q < (s.lines.length : Int) then ((s.lines[q.toNat]?.map fun l => l.df).getD 0) else 0
def costQ (s : DS (Int × Int)) (q : Int) : Int := if 0 ≤ q ∧ q < (s.lines.length : Int) then ((s.lines[q.toNat]?.map fun l => csum xc l.things).getD 0) else 0
section
variable {d L : Nat} {D : Int} {s : DS (Int × Int)} {q : Nat} {b : DB} {r : DR}
theorem line_of {s : DS (Int × Int)} {i : Int} (h : 0 ≤ i ∧ i < (s.lines.length : Int)) : ∃ (j : Nat) (l : LN (Int × Int)), i = (j : Int) ∧ s.lines[j]? = some l ∧ s.lines[i.toNat]? = some l := by
  obtain ⟨j, rfl⟩ := Int.eq_ofNat_of_zero_le h.1
  have hj : j < s.lines.length := by omega
  exact ⟨j, _, rfl, List.getElem?_eq_getElem hj, List.getElem?_eq_getElem hj⟩
theorem dLen_any (w : World) (h : DrrAt w d L D s) (i : Int) : Calls Try.prog 43 #[.pointer (some ⟨d, 0, none⟩), .int .i64 i] w fun e w' => e = .returned (.int .i64 (lenQ s i)) ∧ w = w' := by
  unfold lenQ
  by_cases hi : 0 ≤ i ∧ i < (s.lines.length : Int)
  · obtain ⟨j, l, e, h1, h2⟩ := line_of hi
    rw [if_pos hi, h2, e]
    exact Len_in w h j l h1
  · rw [if_neg hi]
    exact Len_out w h i (by omega)
theorem mLen_any (w : World) (h : DAt w q b r) (hk : Like s r) (i : Int) : Calls Try.prog 44 #[.pointer (some ⟨q, 0, none⟩), .int .i64 i] w fun e w' => e = .returned (.int .i64 (lenQ s i)) ∧ w = w' := by
  unfold lenQ
  by_cases hi : 0 ≤ i ∧ i < (s.lines.length : Int)
  · obtain ⟨j, l, e, h1, h2⟩ := line_of hi
    obtain ⟨m, h3, h4, h5⟩ := hk.get h1
    rw [if_pos hi, h2, e]
    have := rLen_in w h j m h3
    rw [h4] at this
    exact this
  · rw [if_neg hi]
    exact rLen_out w h i (by rw [← hk.len]; omega)
theorem dDef_any (w : World) (h : DrrAt w d L D s) (i : Int) : Calls Try.prog 47 #[.pointer (some ⟨d, 0, none⟩), .int .i64 i] w fun e w' => e = .returned (.int .i64 (dfQ s i)) ∧ w = w' := by
  unfold dfQ
  by_cases hi : 0 ≤ i ∧ i < (s.lines.length : Int)
  · obtain ⟨j, l, e, h1, h2⟩ := line_of hi
    rw [if_pos hi, h2, e]
    exact Deficit_in w h j l h1
  · rw [if_neg hi]
    exact Deficit_out w h i (by omega)
theorem mDef_any (w : World) (h : DAt w q b r) (hk : Like s r) (i : Int) : Calls Try.prog 48 #[.pointer (some ⟨q, 0, none⟩), .int .i64 i] w fun e w' => e = .returned (.int .i64 (dfQ s i)) ∧ w = w' := by
  unfold dfQ
  by_cases hi : 0 ≤ i ∧ i < (s.lines.length : Int)
  · obtain ⟨j, l, e, h1, h2⟩ := line_of hi
    obtain ⟨m, h3, h4, h5⟩ := hk.get h1
    rw [if_pos hi, h2, e]
    have := rDeficit_in w h j m h3
    rw [h5] at this
    exact this
  · rw [if_neg hi]
    exact rDeficit_out w h i (by rw [← hk.len]; omega)
theorem dCost_any (w : World) (h : DrrAt w d L D s) (i : Int) : Calls Try.prog 45 #[.pointer (some ⟨d, 0, none⟩), .int .i64 i] w fun e w' => e = .returned (.int .i64 (costQ s i)) ∧ w = w' := by
  unfold costQ
  by_cases hi : 0 ≤ i ∧ i < (s.lines.length : Int)
  · obtain ⟨j, l, e, h1, h2⟩ := line_of hi
    rw [if_pos hi, h2, e]
    exact Cost_in w h j l h1
  · rw [if_neg hi]
    exact Cost_out w h i (by omega)
theorem mCost_any (w : World) (h : DAt w q b r) (hd : DrrAt w d L D s) (hk : Like s r) (i : Int) : Calls Try.prog 46 #[.pointer (some ⟨q, 0, none⟩), .int .i64 i] w fun e w' => e = .returned (.int .i64 (costQ s i)) ∧ Fr (fun _ => False) w w' := by
  unfold costQ
  by_cases hi : 0 ≤ i ∧ i < (s.lines.length : Int)
  · obtain ⟨j, l, e, h1, h2⟩ := line_of hi
    obtain ⟨m, h3, h4, h5⟩ := hk.get h1
    rw [if_pos hi, h2, e]
    have hm := List.mem_of_getElem? h1
    have hb := (hd.ring l hm).bounds
    have := rCost_in w h j m h3 (by rw [h4]; exact hd.ok.co l hm) (by rw [h4]; omega)
    rw [h4] at this
    exact this
  · rw [if_neg hi]
    refine (rCost_out w h i (by rw [← hk.len]; omega)).mono ?_
    rintro e w' ⟨rfl, rfl⟩
    exact ⟨rfl, Fr.refl _ _⟩
theorem same_none (w : World) : Calls Try.prog 18 #[.slice none 0 0, .slice none 0 0] w fun e w' => e = .returned (.bool true) ∧ w = w' := by
  go_enter Try.func18, Try.ntmps18
  go_wp2_with fail
  go_loopw [5] (fun i wr => i = .int .i64 0 ∧ wr = w) (fun _ _ => 0)
  case atStart => exact ⟨rfl, rfl⟩
  case round =>
    obtain ⟨rfl, rfl⟩ := hrel
    go_wp2_with fail
    go_ret
    exact ⟨rfl, rfl⟩
set_option maxHeartbeats 4000000 in
set_option maxRecDepth 100000 in
theorem turn_any (w : World) (h : DrrAt w d L D s) (hb : s.busy = true) (hm : DAt w q b r) (hr : 0 ≤ r.at_) (hk : Like s r) (kd wh qu co x mo : Int) :
    Calls Try.prog 73 #[.pointer (some ⟨d, 0, none⟩), .pointer (some ⟨q, 0, none⟩), .agg #[.int .i64 kd, .int .i64 wh, .int .i64 qu, .int .i64 co, .int .i64 x, .int .i64 mo]] w fun e w' => e = .returned (.bool true) ∧ Fr (fun _ => False) w w' := by
  have ho : openN s qu = 162 := by unfold openN; rw [hb]; rfl
  have hod : openD r qu = 162 := if_pos hr
  have H := hide h
  have HM := hide hm
  have Hk := hide hk
  have Ho := hide (And.intro ho (And.intro hod hb))
  obtain ⟨n1, hn1⟩ : ∃ n, lenQ s qu = n := ⟨_, rfl⟩
  obtain ⟨n2, hn2⟩ : ∃ n, dfQ s qu = n := ⟨_, rfl⟩
  have Hn := hide (And.intro hn1 hn2)
  clear h hb hm hr hk ho hod hn1 hn2
  go_enter Try.func73, Try.ntmps73
  go_wp2_with fail
  have hob := Bl.new w 35 #[.int .i64 kd, .int .i64 wh, .int .i64 qu, .int .i64 co, .int .i64 x, .int .i64 mo]
  have hf0 := (Fr.refl (fun _ => False) w).alloc (.cells #[.int .i64 kd, .int .i64 wh, .int .i64 qu, .int .i64 co, .int .i64 x, .int .i64 mo] 35)
  generalize hw0 : w.alloc (.cells #[.int .i64 kd, .int .i64 wh, .int .i64 qu, .int .i64 co, .int .i64 x, .int .i64 mo] 35) = w0 at hob hf0 ⊢
  clear hw0
  have h1 := Add_no w0 (H.out.quiet hf0) qu co (x, 0) (by rw [Ho.out.1]; decide)
  rw [Ho.out.1] at h1
  refine h1.mono ?_
  rintro e w1 ⟨rfl, hf1⟩
  have hob1 := hob.fr hf1 id
  have c2 : w1.cell? ⟨w.heap.size, 2, none⟩ = some (.int .i64 qu) := hob1.cell' rfl
  have c3 : w1.cell? ⟨w.heap.size, 3, none⟩ = some (.int .i64 co) := hob1.cell' rfl
  have c4 : w1.cell? ⟨w.heap.size, 4, none⟩ = some (.int .i64 x) := hob1.cell' rfl
  clear h1
  go_wp2_with fail
  have h2 := rAdd_no w1 (HM.out.quiet (hf0.trans hf1)) qu co x (by rw [Ho.out.2.1]; decide)
  rw [Ho.out.2.1] at h2
  refine h2.mono ?_
  rintro e w2 ⟨rfl, rfl⟩
  clear h2
  go_wp2_with fail
  have h3 := Drop_no w1 (H.out.quiet (hf0.trans hf1)) qu (by rw [Ho.out.1]; decide)
  rw [Ho.out.1] at h3
  refine h3.mono ?_
  rintro e w3 ⟨rfl, hf3⟩
  have hf03 := (hf0.trans hf1).trans hf3
  have hob3 := hob1.fr hf3 id
  have c2 : w3.cell? ⟨w.heap.size, 2, none⟩ = some (.int .i64 qu) := hob3.cell' rfl
  clear h3
  go_wp2_with fail
  have h4 := rDrop_no w3 (HM.out.quiet hf03) qu (by rw [Ho.out.2.1]; decide)
  rw [Ho.out.2.1] at h4
  refine h4.mono ?_
  rintro e w4 ⟨rfl, rfl⟩
  clear h4
  go_wp2_with fail
  refine (inner_busy w3 (H.out.quiet hf03) Ho.out.2.2).mono ?_
  rintro e w5 ⟨rfl, hf5⟩
  have hf05 := hf03.trans hf5
  have hob5 := hob3.fr hf5 id
  go_wp2_with fail
  have c2 : w5.cell? ⟨w.heap.size, 2, none⟩ = some (.int .i64 qu) := hob5.cell' rfl
  have k1 : ∀ nn, Calls Try.prog 43 #[.pointer (some ⟨d, 0, none⟩), .int .i64 qu] (w5.drewN nn) fun e w' => e = .returned (.int .i64 n1) ∧ w5.drewN nn = w' := fun nn => by
    have k := dLen_any (w5.drewN nn) (H.out.quiet (hf05.drewN nn)) qu
    rw [Hn.out.1] at k; exact k
  have k2 : ∀ nn, Calls Try.prog 44 #[.pointer (some ⟨q, 0, none⟩), .int .i64 qu] (w5.drewN nn) fun e w' => e = .returned (.int .i64 n1) ∧ w5.drewN nn = w' := fun nn => by
    have k := mLen_any (w5.drewN nn) (HM.out.quiet (hf05.drewN nn)) Hk.out qu
    rw [Hn.out.1] at k; exact k
  have k3 : ∀ nn, Calls Try.prog 47 #[.pointer (some ⟨d, 0, none⟩), .int .i64 qu] (w5.drewN nn) fun e w' => e = .returned (.int .i64 n2) ∧ w5.drewN nn = w' := fun nn => by
    have k := dDef_any (w5.drewN nn) (H.out.quiet (hf05.drewN nn)) qu
    rw [Hn.out.2] at k; exact k
  have k4 : ∀ nn, Calls Try.prog 48 #[.pointer (some ⟨q, 0, none⟩), .int .i64 qu] (w5.drewN nn) fun e w' => e = .returned (.int .i64 n2) ∧ w5.drewN nn = w' := fun nn => by
    have k := mDef_any (w5.drewN nn) (HM.out.quiet (hf05.drewN nn)) Hk.out qu
    rw [Hn.out.2] at k; exact k
  have bb1 : (n1 == n1) = true := by simp
  have bb2 : (n2 == n2) = true := by simp
  go_quiet (first
    | (go_at_call 18; exact quiet_left (same_none _))
    | (go_at_call 43; exact quiet_left (k1 _))
    | (go_at_call 44; exact quiet_left (k2 _))
    | (go_at_call 47; exact quiet_left (k3 _))
    | (go_at_call 48; exact quiet_left (k4 _)))
  go_wp2_with fail
  go_ret
  exact ⟨rfl, hf05.drewN nq⟩
end
end Go.Proofs.Ytanfhmebjgmdpaa.Qi
