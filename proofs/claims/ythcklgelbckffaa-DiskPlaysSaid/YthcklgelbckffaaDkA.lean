/-
  The law's helpers of chapter 08: same, over, lent, kept, num.
-/
import Derived.Test.YthcklgelbckffaaDk7
namespace Go.Proofs.Ythcklgelbckffaa
open Go.RowKit
set_option linter.unusedVariables false

theorem Sl.one (w : World) (v : Value) (t : TypeId) : Sl (w.alloc (.cells #[v] t)) 1 (some ⟨w.heap.size, 0, none⟩) 1 [v] :=
  ⟨by simp, fun _ => ⟨w.heap.size, 0, rfl, fun j u hu => by
    have h := (Bl.new w t #[v]).cell j
    simp only [Nat.zero_add]
    rw [h]; simpa using hu⟩⟩
/-! append where the block's own type may be another one (an array's). -/
section
variable {P : Program} (w : World)
/-- append, whatever the destination (nil, with room or without) and whatever the source. -/
theorem run_append_ob (t ty e : TypeId) (i : TypeInfo) (z : Value) (size bytes : Nat) (ht : P.underlying t = some (.slice e)) (hi : P.info? e = some i) (hz : i.zero = some z)
    (hsize : i.size = size) (hby : i.bytes = bytes) (hzs : z.cells.size = size) (hsz : 0 < size)
    (A : Option Addr) (n c : Nat) (xs : List Value) (g : Option Nat) (e0 : TypeId) (hown : Ow w e0 size A n c xs g)
    (A' : Option Addr) (m c' : Nat) (news : List Value) (hsrc : Sl w size A' m news) (h1 : ∀ u ∈ news, u.oneCell' = true)
    (h63 : n + m ≤ maxLen) (hbytes : (n + m) * bytes ≤ 140737488355328) :
    ∃ A2 c2 w2 g2 e2, (Builtin.append_ #[t, t] ty #[.slice A n c, .slice A' m c']).run P w = .ok (.slice A2 (n + m) c2) w2 ∧ Ow w2 e2 size A2 (n + m) c2 (xs ++ news) g2 ∧ Fr (fun k => some k = g) w w2 ∧ (g2 = g ∨ ∃ b, g2 = some b ∧ w.heap.size ≤ b) := by
  have hlx := hown.1
  have hln := hsrc.1
  by_cases hm : m = 0
  · subst hm
    have hn : news = [] := List.eq_nil_of_length_eq_zero (by simpa using hln)
    subst hn
    have hcap := hown.cap
    refine ⟨A, c, w, g, e0, ?_, by simpa using hown, Fr.refl _ _, .inl rfl⟩
    cases A <;> cases A' <;> simp [Builtin.append_, run_underlying ht, sizeOf, typeInfo, hi, Builtin.lenOf, Builtin.firstCells, hcap.1, storeCells, loadCells, loadCellsFrom]
  · obtain ⟨b', o', rfl, hc'⟩ := hsrc.2 (by omega)
    have hnews : ∀ j u, news[j]? = some u → w.cell? ((⟨b', o', none⟩ : Addr).add j) = some u := fun j u hu => by rw [Addr.add_lit]; exact hc' j u hu
    rcases hown.2 with ⟨rfl, rfl, rfl, rfl⟩ | ⟨b, o, cur, rfl, rfl, hh, h2, h3, h4, h5⟩
    · obtain rfl : xs = [] := List.eq_nil_of_length_eq_zero (by simpa using hlx)
      obtain ⟨v', w', hrun, r1, r2, _⟩ := run_append_own (P := P) w w.heap.size t ty e i z size bytes ht hi hz hsize hby hzs hsz (.slice none 0 0) 0 [] (World.ownsRow_nil w _ e size) ⟨b', o', none⟩ m c' news hln hnews h1 h63 hbytes (Nat.le_refl _)
      obtain ⟨A2, c2, g2, rfl, ho, hb⟩ := Ow.ofOwns r1
      refine ⟨A2, c2, w', g2, e, hrun, ho, (Fr.ofGrown r2).mono fun k hk e => by simp [Value.ownBlock] at e, ?_⟩
      cases g2 with
      | none => exact .inl rfl
      | some x => exact .inr ⟨x, rfl, hb x rfl⟩
    · by_cases hr : n + m ≤ c
      · have hlast : o + n * size + news.length ≤ cur.size := by
          have := Nat.mul_le_mul_right size hr
          rw [Nat.add_mul] at this; omega
        have hrun := run_append_room_cells (P := P) w t ty e i ht hi b o n c ⟨b', o', none⟩ m c' news (by rw [hsize]; exact hln) hnews h1 hr
          (fun j hj => by rw [hsize]; simp [World.cell?, hh]; omega) (fun j hj => by simp [World.frozen?, hh])
        rw [hsize] at hrun
        obtain ⟨cur', a1, a2, a3, a4⟩ := heap_setCells b news (o + n * size) w cur e0 hh (fun _ _ => trivial)
        refine ⟨_, _, _, _, e0, hrun, ⟨by rw [List.length_append, hlx, hln, Nat.add_mul], .inr ⟨b, o, cur', rfl, rfl, a1, by rw [a2]; exact h2, hr, h4, fun j hj => ?_⟩⟩, (fr_setCells b news _ w).mono fun k _ e => by rw [e], .inl rfl⟩
        by_cases hjn : j < n * size
        · rw [a3 _ (.inl (by omega)), h5 j hjn, List.getElem?_append_left (by omega)]
        · have hjm : j - n * size < news.length := by rw [hln]; rw [Nat.add_mul] at hj; omega
          have := a4 hlast (j - n * size) _ (List.getElem?_eq_getElem hjm)
          rw [show o + n * size + (j - n * size) = o + j by omega] at this
          rw [this, List.getElem?_append_right (by omega), hlx, List.getElem?_eq_getElem hjm]
      · obtain ⟨v', w', hrun, r1, r2⟩ := run_append_arg_grows (P := P) w t ty e i z size bytes ht hi hz hsize hby hzs hsz ⟨b, o, none⟩ n c xs hlx (fun j u hu => by
            rw [Addr.add_lit]
            have hj : j < n * size := by rw [← hlx]; exact (List.getElem?_eq_some_iff.1 hu).1
            simp [World.cell?, hh, h5 j hj, hu]) ⟨b', o', none⟩ m c' news hln hnews (by omega) h63 hbytes
        obtain ⟨A2, c2, g2, rfl, ho, hb⟩ := Ow.ofOwns r1
        refine ⟨A2, c2, w', g2, e, hrun, ho, (Fr.ofGrown r2).mono fun k hk e => by simp at e, ?_⟩
        rcases ho.2 with ⟨_, h0, _⟩ | ⟨bb, oo, cc, _, rfl, _⟩
        · omega
        · exact .inr ⟨bb, rfl, hb bb rfl⟩

theorem wpList_append_ob {ops : Array Oper} {rest : List Oper} {o : Oper} {a : Act} {Q : Exit → Act → World → Prop} (hgd : o.guard = none) (s x : Operand) (t : TypeId)
    (ho : o.op = .call { callee := .builtin .append, args := #[s, x], argTypes := #[t, t] })
    (e : TypeId) (i : TypeInfo) (z : Value) (size bytes : Nat) (ht : P.underlying t = some (.slice e)) (hi : P.info? e = some i) (hz : i.zero = some z)
    (hsize : i.size = size) (hby : i.bytes = bytes) (hzs : z.cells.size = size) (hsz : 0 < size)
    (A : Option Addr) (n c : Nat) (xs : List Value) (g : Option Nat) (hs : a.eval s = .slice A n c) (e0 : TypeId) (hown : Ow w e0 size A n c xs g)
    (A' : Option Addr) (m c' : Nat) (news : List Value) (hx : a.eval x = .slice A' m c') (hsrc : Sl w size A' m news) (h1 : ∀ u ∈ news, u.oneCell' = true)
    (h63 : n + m ≤ maxLen) (hbytes : (n + m) * bytes ≤ 140737488355328)
    (h : ∀ A2 c2 w2 g2 e2, Ow w2 e2 size A2 (n + m) c2 (xs ++ news) g2 → Fr (fun k => some k = g) w w2 → (g2 = g ∨ ∃ b, g2 = some b ∧ w.heap.size ≤ b) → wpList P ops Q rest (a.put o.dst (.slice A2 (n + m) c2)) w2) : wpList P ops Q (o :: rest) a w := by
  refine wpList_plain hgd fun K hK => ?_
  obtain ⟨A2, c2, w2, g2, e2, hrun, h2, h3, h4⟩ := run_append_ob (P := P) w t o.type e i z size bytes ht hi hz hsize hby hzs hsz A n c xs g e0 hown A' m c' news hsrc h1 h63 hbytes
  unfold Oper.wp execOp
  simp only [ho, resolve, invoke, builtin, Sem.run_bind, Sem.run_pure, Result.andThen_ok, List.map_toArray, List.map_cons, List.map_nil, hs, hx, hrun]
  exact hK _ _ (h A2 c2 w2 g2 e2 h2 h3 h4)
end
set_option maxHeartbeats 1000000 in
set_option maxRecDepth 4000 in
/-- over writes into the slice's own block alone. -/
theorem over_any (w : World) (xs : List Nat) (A : Option Addr) (n c : Nat) (g : Option Nat) {e0 : TypeId} (hO : Ow w e0 1 A n c (xs.map bn) g) (hcap : n ≤ 140737488355000) :
    Calls Try.prog 24 #[.slice A n c] w fun e w' => e = .returned (.tuple #[]) ∧ Fr (fun k => some k = g) w w' := by
  obtain ⟨i0, hi, hz0, hz1, hz2⟩ := info_parts infoU8
  go_enter Try.func24, Try.ntmps24
  go_wp2_with fail
  go_loopw [2] (fun i wr => ∃ (k : Nat) (ys : List Nat), k ≤ n ∧ i = .int .i64 k ∧ Ow wr e0 1 A n c (ys.map bn) g ∧ Fr (fun k => some k = g) w wr) (fun i _ => n - (intOf i).toNat)
  case atStart => exact ⟨0, xs, Nat.zero_le _, rfl, hO, Fr.refl _ _⟩
  case round =>
    obtain ⟨k, ys, hk, rfl, hO, hf⟩ := hrel
    by_cases hlt : k < n
    · have hl : ys.length = n := by have := hO.1; simpa using this
      have hu := bn_get (xs := ys) (k := k) (by omega)
      obtain ⟨b, o, rfl, rfl, c0, z0⟩ := hO.look hu
      have Hl := hide hl
      have Hu := hide hu
      clear hl hu
      go_wp2_with fail
      refine ⟨⟨k + 1, ys.set k ((ys.getD k 0 + 91) % 256), by omega, by go_num, ?_, ?_⟩, by simp [intOf]; omega⟩
      · have := hO.put (j := k) (by omega) (bn ((ys.getD k 0 + 91) % 256))
        rw [← List.map_set] at this
        have e : bn ((ys.getD k 0 + 91) % 256) = .int .u8 (IntKind.u8.wrap (((ys.getD k 0 : Nat) : Int) + 91)) := by rw [IntKind.wrap_u8]; simp [bn]
        rw [e] at this
        exact this
      · exact hf.setIn (.inl rfl) _
    · go_wp2_with fail
      go_loopw [0, 3] (fun v i wr => ∃ (m : Nat) (ys : List Nat) (A : Option Addr) (c : Nat) (g' : Option Nat) (e1 : TypeId), m ≤ 70 ∧ v = .slice A (n + m) c ∧ i = .int .i64 m ∧ Ow wr e1 1 A (n + m) c (ys.map bn) g' ∧ (g' = g ∨ ∃ b, g' = some b ∧ w.heap.size ≤ b) ∧ Fr (fun k => some k = g) w wr) (fun _ i _ => 70 - (intOf i).toNat)
      case atStart => exact ⟨0, ys, A, c, g, e0, by omega, rfl, rfl, hO, .inl rfl, hf⟩
      case round =>
        clear hO hf
        obtain ⟨m, zs, A2, c2, g2, e1, hm, rfl, rfl, hO, hg, hf⟩ := hrel
        by_cases hlt : m < 70
        · go_wp2_with (at_builtin; refine wpList_append_ob _ rfl _ _ 34 rfl 5 i0 (.int .u8 0) 1 1 Try.underlying34 hi hz0 hz1 hz2 rfl (by decide) _ _ _ _ _ rfl _ (hO.fr ((Fr.refl _ _).alloc _) (fun _ _ => id)) _ _ _ _ rfl (Sl.one _ _ _) (bn_one [_]) (by unfold maxLen; omega) (by omega) ?_)
          intro A3 c3 w3 g3 e3 hO3 hf3 hg3
          go_wp2_with fail
          refine ⟨⟨m + 1, zs ++ [77], A3, c3, g3, e3, by omega, rfl, by go_num, by rw [← Nat.add_assoc]; simpa [bn] using hO3, ?_, ?_⟩, by simp [intOf]; omega⟩
          · have := hf.size
            rcases hg3 with rfl | ⟨b, rfl, hb⟩
            · exact hg
            · exact .inr ⟨b, rfl, by omega⟩
          · refine (hf.alloc _).comp hf3 fun i hi e => ?_
            rcases hg with rfl | ⟨b, rfl, hb⟩
            · exact e
            · cases e; omega
        · go_wp2_with fail
          go_end0
          exact ⟨rfl, hf⟩

/-- The marks behind a slice that is lent. -/
def marks (k : Nat) : List Nat := (List.range k).map (201 + ·)
theorem marks_succ (k : Nat) : marks (k + 1) = marks k ++ [201 + k] := by simp [marks, List.range_succ]
theorem marks_len (k : Nat) : (marks k).length = k := by simp [marks]
/-- Behind lent: the bytes xs in memory of their own, the marks behind them. -/
def Lent (w : World) (A : Option Addr) (n c : Nat) (xs : List Nat) (g : Nat) : Prop := Ow w 5 1 A (n + 5) c ((xs ++ marks 5).map bn) (some g)
def LentPost (n : Nat) (xs : List Nat) (w : World) (e : Ending) (w' : World) : Prop :=
  ∃ A c g, e = .returned (.slice A n c) ∧ Lent w' A n c xs g ∧ w.heap.size ≤ g ∧ Fr (fun _ => False) w w'

set_option maxHeartbeats 1000000 in
set_option maxRecDepth 4000 in
theorem lent_any (w : World) (xs : List Nat) (A : Option Addr) (n c : Nat) (hn : n ≤ 140737488355000) (hA : Sl w 1 A n (xs.map bn)) :
    Calls Try.prog 13 #[.slice A n c] w (LentPost n xs w) := by
  obtain ⟨i0, hi, hz0, hz1, hz2⟩ := info_parts infoU8
  go_enter Try.func13, Try.ntmps13
  go_wp2_with (at_builtin; refine wpList_append_ow _ rfl _ _ 34 rfl 5 i0 (.int .u8 0) 1 1 Try.underlying34 hi hz0 hz1 hz2 rfl (by decide) _ _ _ _ _ rfl (Ow.nil_ _ _ _) _ _ _ _ rfl hA (bn_one _) (by unfold maxLen; omega) (by omega) ?_)
  intro A1 c1 w1 g1 hO1 hf1 hg1
  go_wp2_with fail
  go_loopw [3, 4] (fun v i wr => ∃ (m : Nat) (A : Option Addr) (c : Nat) (g' : Option Nat), m ≤ 5 ∧ v = .slice A (n + m) c ∧ i = .int .i64 m ∧ Ow wr 5 1 A (n + m) c ((xs ++ marks m).map bn) g' ∧ (∀ b, g' = some b → w.heap.size ≤ b) ∧ Fr (fun _ => False) w wr) (fun _ i _ => 5 - (intOf i).toNat)
  case atStart =>
    refine ⟨0, A1, c1, g1, by omega, rfl, rfl, by simpa [marks] using hO1, fun b hb => ?_, hf1.mono fun k hk e => by cases e⟩
    rcases hg1 with rfl | ⟨b', rfl, h⟩
    · cases hb
    · cases hb; exact h
  case round =>
    clear hO1 hf1 hg1
    obtain ⟨m, A2, c2, g2, hm, rfl, rfl, hO, hg, hf⟩ := hrel
    by_cases hlt : m < 5
    · go_wp2_with (at_builtin; refine wpList_append_ow _ rfl _ _ 34 rfl 5 i0 (.int .u8 0) 1 1 Try.underlying34 hi hz0 hz1 hz2 rfl (by decide) _ _ _ _ _ rfl (hO.fr ((Fr.refl _ _).alloc _) (fun _ _ => id)) _ _ _ _ rfl (Sl.one _ _ _) (bn_one [_]) (by unfold maxLen; omega) (by omega) ?_)
      intro A3 c3 w3 g3 hO3 hf3 hg3
      go_wp2_with fail
      refine ⟨⟨m + 1, A3, c3, g3, by omega, rfl, by go_num, ?_, ?_, ?_⟩, by simp [intOf]; omega⟩
      · rw [← Nat.add_assoc, marks_succ, ← List.append_assoc, List.map_append]
        have e : List.map bn [201 + m] = [Value.int .u8 (201 + (m : Int))] := by simp [bn]
        rw [e]; simpa [List.map_append] using hO3
      · intro b hb
        have := hf.size
        rcases hg3 with rfl | ⟨b', rfl, h⟩
        · exact hg b hb
        · cases hb; omega
      · exact (hf.alloc _).comp hf3 fun i hi e => by have := hg i e.symm; omega
    · obtain rfl : m = 5 := by omega
      have hcc := hO.cap
      have hc1 := hcc.1
      have hc2 : c2 ≤ 9223372036854775807 := by have := hcc.2; unfold maxLen at this; exact this
      clear hcc
      go_wp2_with fail
      go_ret
      obtain ⟨hl, ⟨_, h0, _⟩ | ⟨b, o, cur, hA2, rfl, r⟩⟩ := id hO
      · omega
      · exact ⟨A2, c2, b, rfl, hO, hg b rfl, hf⟩

theorem num_any (w : World) (x : Int) : Calls Try.prog 10 #[.int .i64 x] w fun e w' => e = .returned (.int .i64 x) ∧ w = w' := by
  go_enter Try.func10, Try.ntmps10
  go_wp2
  go_ret
  exact ⟨rfl, rfl⟩
theorem fr_of_drewN {w w' : World} (h : ∃ m, w' = w.drewN m) : Fr (fun _ => False) w w' := by obtain ⟨m, rfl⟩ := h; exact (Fr.refl _ _).drewN _

theorem quiet_ex {P : Program} {f : FuncId} {args : Array Value} {w : World} {n : Nat} {v : Value}
    (h : Calls P f args (w.drewN n) fun e w' => e = .returned v ∧ ∃ m, w' = (w.drewN n).drewN m) : Calls P f args (w.drewN n) fun e w'' => e = .returned v ∧ ∃ m, w'' = w.drewN m := Calls.quiet_of h

set_option maxHeartbeats 1000000 in
set_option maxRecDepth 4000 in
/-- same, where the bytes are the same: true. -/
theorem same_q (w : World) (xs : List Nat) (A B : Option Addr) (c d : Nat) (n : Nat) (hn : n = xs.length) (h63 : n ≤ 9223372036854775806) (hA : Sl w 1 A n (xs.map bn)) (hB : Sl w 1 B n (xs.map bn)) :
    Calls Try.prog 21 #[.slice A n c, .slice B n d] w fun e w' => e = .returned (.bool true) ∧ ∃ m, w' = w.drewN m := by
  have Hn := hide hn
  clear hn
  go_enter Try.func21, Try.ntmps21
  go_wp2_with fail
  go_loopw [5] (fun i wr => ∃ (k m : Nat), k ≤ n ∧ i = .int .i64 k ∧ Hid (wr = w.drewN m)) (fun i _ => n - (intOf i).toNat)
  case atStart => exact ⟨0, 0, Nat.zero_le _, rfl, rfl⟩
  case round =>
    obtain ⟨k, m, hk, rfl, hw⟩ := hrel
    obtain rfl := hw.out
    clear hw
    by_cases hlt : k < n
    · have hu := bn_get (xs := xs) (k := k) (by rw [← Hn.out]; exact hlt)
      obtain ⟨b, o, rfl, ca⟩ := hA.at_ hu
      obtain ⟨b', o', rfl, cb⟩ := hB.at_ hu
      clear hA hB hu
      have i0 : (0 : Int) ≤ (k : Int) := by omega
      have i1 : (k : Int) < (n : Int) := by omega
      go_wp2_with fail
      go_quiet (fail)
      go_wp2_with fail
      exact ⟨⟨k + 1, _, by omega, by go_num, rfl⟩, by simp [intOf]; omega⟩
    · go_wp2_with fail
      go_ret
      exact ⟨rfl, _, rfl⟩


set_option maxHeartbeats 1000000 in
set_option maxRecDepth 4000 in
theorem kept_q (w : World) (xs : List Nat) (A B : Option Addr) (n c d : Nat) (g : Nat) (hn : n ≤ 140737488355000) (hl : n = xs.length) (hL : Lent w A n c xs g) (hB : Sl w 1 B n (xs.map bn)) :
    Calls Try.prog 28 #[.slice A n c, .slice B n d] w fun e w' => e = .returned (.bool true) ∧ ∃ m, w' = w.drewN m := by
  have hS : Sl w 1 A n (xs.map bn) := by
    have := (hL.take (k := n) (by omega)).sl
    rwa [Nat.mul_one, List.map_append, List.take_left' (by simp [hl])] at this
  have hcap := hL.cap
  have hc1 := hcap.1
  have hc2 : c ≤ 9223372036854775807 := by have := hcap.2; unfold maxLen at this; exact this
  clear hcap
  have Hl := hide hl
  clear hl
  go_enter Try.func28, Try.ntmps28
  go_wp2_with fail
  refine (same_q w xs A B c d n Hl.out (by omega) hS hB).mono ?_
  rintro e w1 ⟨rfl, hf0⟩
  have hf := hide hf0
  clear hf0
  go_wp2_with fail
  go_loopw [6] (fun i wr => ∃ (k : Nat), k ≤ 5 ∧ i = .int .i64 k ∧ Hid (∃ m, wr = w.drewN m)) (fun i _ => 5 - (intOf i).toNat)
  case atStart => exact ⟨0, by omega, rfl, hf⟩
  case round =>
    obtain ⟨k, hk, rfl, hfr⟩ := hrel
    by_cases hlt : k < 5
    · have hu : ((xs ++ marks 5).map bn)[n + k]? = some (.int .u8 (201 + (k : Int))) := by
        have hl := Hl.out
        rw [List.getElem?_map, List.getElem?_append_right (by omega), hl, Nat.add_sub_cancel_left]
        simp [marks, hlt, bn]
      obtain ⟨b, o, rfl, hgb, c0, -⟩ := (by obtain ⟨m, e⟩ := hfr.out; rw [e]; exact hL : Lent wr A n c xs g).look hu
      clear hu hgb
      go_wp2_with fail
      exact ⟨⟨k + 1, by omega, by go_num, hfr⟩, by simp [intOf]; omega⟩
    · go_wp2_with fail
      go_ret
      exact ⟨rfl, hfr.out⟩

/-- A sector of one byte. -/
def FullPost (b : Nat) (w : World) (e : Ending) (w' : World) : Prop :=
  ∃ A c g, e = .returned (.slice A 64 c) ∧ Ow w' 5 1 A 64 c ((List.replicate 64 b).map bn) (some g) ∧ w.heap.size ≤ g ∧ Fr (fun _ => False) w w'
set_option maxHeartbeats 1000000 in
set_option maxRecDepth 4000 in
theorem full_any (w : World) (b : Nat) : Calls Try.prog 31 #[.int .u8 (b : Int)] w (FullPost b w) := by
  obtain ⟨i0, hi, hz0, hz1, hz2⟩ := info_parts infoU8
  go_enter Try.func31, Try.ntmps31
  go_wp2_with fail
  go_loopw [3, 4] (fun v i wr => ∃ (m : Nat) (A : Option Addr) (c : Nat) (g' : Option Nat), m ≤ 64 ∧ v = .slice A m c ∧ i = .int .i64 m ∧ Ow wr 5 1 A m c ((List.replicate m b).map bn) g' ∧ (∀ b, g' = some b → w.heap.size ≤ b) ∧ Fr (fun _ => False) w wr) (fun _ i _ => 64 - (intOf i).toNat)
  case atStart => exact ⟨0, none, 0, none, by omega, rfl, rfl, Ow.nil_ _ _ _, fun b hb => (by cases hb), Fr.refl _ _⟩
  case round =>
    obtain ⟨m, A2, c2, g2, hm, rfl, rfl, hO, hg, hf⟩ := hrel
    by_cases hlt : m < 64
    · go_wp2_with (at_builtin; refine wpList_append_ow _ rfl _ _ 34 rfl 5 i0 (.int .u8 0) 1 1 Try.underlying34 hi hz0 hz1 hz2 rfl (by decide) _ _ _ _ _ rfl (hO.fr ((Fr.refl _ _).alloc _) (fun _ _ => id)) _ _ _ _ rfl (Sl.one _ _ _) (bn_one [_]) (by unfold maxLen; omega) (by omega) ?_)
      intro A3 c3 w3 g3 hO3 hf3 hg3
      go_wp2_with fail
      refine ⟨⟨m + 1, A3, c3, g3, by omega, rfl, by go_num, ?_, ?_, ?_⟩, by simp [intOf]; omega⟩
      · rw [List.replicate_succ', List.map_append, List.map_replicate]
        exact hO3
      · intro b hb
        have := hf.size
        rcases hg3 with rfl | ⟨b', rfl, h⟩
        · exact hg b hb
        · cases hb; omega
      · exact (hf.alloc _).comp hf3 fun i hi e => by have := hg i e.symm; omega
    · obtain rfl : m = 64 := by omega
      go_wp2_with fail
      go_ret
      obtain ⟨hl, ⟨_, h0, _⟩ | ⟨b, o, cur, hA2, rfl, r⟩⟩ := id hO
      · omega
      · exact ⟨A2, c2, b, rfl, hO, hg b rfl, hf⟩
end Go.Proofs.Ythcklgelbckffaa

