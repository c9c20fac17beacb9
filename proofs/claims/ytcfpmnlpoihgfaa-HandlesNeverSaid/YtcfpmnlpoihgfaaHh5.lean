/-
  handles.Table[int]: what a table holds (TAt); Left, Len, Add.
-/
import Derived.Test.YtcfpmnlpoihgfaaHh4
import Derived.Test.YtcfpmnlpoihgfaaHp1
namespace Go.Proofs.Ytcfpmnlpoihgfaa
open Go.RowKit
set_option linter.unusedVariables false
set_option linter.unusedSimpArgs false
abbrev tTab : TypeId := 78
abbrev tCel : TypeId := 83
/-- A table: of each place its thing, its turn, is it taken; the free places; most, len, left. -/
structure TS where
  cells : List (Int × Nat × Bool)
  free : List Nat
  most : Nat
  len : Nat
  left : Nat
def tcell (x : Int × Nat × Bool) : List Value := [.int .i64 x.1, .int .i64 (x.2.1 : Int), .bool x.2.2]
def tcells (l : List (Int × Nat × Bool)) : List Value := l.flatMap tcell
theorem tcells_len : ∀ l, (tcells l).length = l.length * 3
  | [] => rfl
  | x :: l => by
    have := tcells_len l
    show (tcell x ++ tcells l).length = _
    rw [List.length_append, this, List.length_cons]; simp [tcell]; omega
theorem tcells_at : ∀ (l : List (Int × Nat × Bool)) (i : Nat) (x : Int × Nat × Bool), l[i]? = some x → (tcells l)[i * 3]? = some (.int .i64 x.1) ∧ (tcells l)[i * 3 + 1]? = some (.int .i64 (x.2.1 : Int)) ∧ (tcells l)[i * 3 + 2]? = some (.bool x.2.2)
  | [], i, x, h => by simp at h
  | y :: l, 0, x, h => by simp at h; subst h; exact ⟨rfl, rfl, rfl⟩
  | y :: l, i + 1, x, h => by
    have ih := tcells_at l i x (by simpa using h)
    rw [show (i + 1) * 3 = i * 3 + 3 by omega]
    exact ih
theorem tcells_set : ∀ (l : List (Int × Nat × Bool)) (i : Nat) (x : Int × Nat × Bool), tcells (l.set i x) = (((tcells l).set (i * 3) (.int .i64 x.1)).set (i * 3 + 1) (.int .i64 (x.2.1 : Int))).set (i * 3 + 2) (.bool x.2.2)
  | [], i, x => by simp [tcells]
  | y :: l, 0, x => rfl
  | y :: l, i + 1, x => by
    have ih := tcells_set l i x
    rw [show (i + 1) * 3 = i * 3 + 3 by omega]
    show tcell y ++ tcells (l.set i x) = _
    rw [ih]; rfl
structure TS.Ok (s : TS) (room : Nat) : Prop where
  r1 : room ≤ 65536
  m1 : s.most ≤ 4294967296
  len : s.cells.length = room
  turn : ∀ x ∈ s.cells, x.2.1 ≤ s.most
  heap : HeapN s.free s.free.length
  nodup : s.free.Nodup
  fre : ∀ at_ ∈ s.free, ∃ x, s.cells[at_]? = some x ∧ x.2.1 < s.most ∧ x.2.2 = false
  fl : s.free.length ≤ room
  l1 : s.len ≤ 9000000000000000000
  l2 : s.left ≤ 9000000000000000000
structure TAt (w : World) (p room : Nat) (CA : Option Addr) (cc : Nat) (gc : Option Nat) (FA : Option Addr) (fc : Nat) (gf : Option Nat) (s : TS) : Prop where
  bl : Bl w p tTab #[.int .i64 (s.most : Int), .slice CA room cc, .slice FA s.free.length fc, .int .i64 (s.len : Int), .int .i64 (s.left : Int)]
  ow : Ow w tCel 3 CA room cc (tcells s.cells) gc
  fr : Ow w 3 1 FA s.free.length fc (s.free.map ix) gf
  ok : s.Ok room
theorem Ow.typ {w : World} {e : TypeId} {size n c : Nat} {A : Option Addr} {xs : List Value} {b : Nat} (h : Ow w e size A n c xs (some b)) : ∃ cs, Bl w b e cs := by
  rcases h.2 with ⟨_, _, _, h⟩ | ⟨b', o, cur, hA, hg, hh, _⟩
  · cases h
  · cases hg; exact ⟨cur, hh⟩
def tfoot (p : Nat) (gc gf : Option Nat) (k : Nat) : Prop := k = p ∨ gc = some k ∨ gf = some k
section
variable {w w' : World} {p room : Nat} {CA : Option Addr} {cc : Nat} {gc : Option Nat} {FA : Option Addr} {fc : Nat} {gf : Option Nat} {s : TS}
theorem TAt.step {S : Nat → Prop} (h : TAt w p room CA cc gc FA fc gf s) (hf : Fr S w w') (hS : ∀ k, tfoot p gc gf k → ¬ S k) : TAt w' p room CA cc gc FA fc gf s :=
  ⟨h.bl.fr hf (hS p (.inl rfl)), h.ow.fr hf (fun b hb => hS b (.inr (.inl hb))), h.fr.fr hf (fun b hb => hS b (.inr (.inr hb))), h.ok⟩
theorem TAt.lt (h : TAt w p room CA cc gc FA fc gf s) {k : Nat} (hk : tfoot p gc gf k) : k < w.heap.size := by
  rcases hk with rfl | hk | hk
  · exact h.bl.lt
  · exact h.ow.lt k hk
  · exact h.fr.lt k hk
theorem TAt.npc (h : TAt w p room CA cc gc FA fc gf s) : gc ≠ some p := by
  intro e
  have h1 := h.ow
  rw [e] at h1
  obtain ⟨cs, hc⟩ := h1.typ
  exact absurd (h.bl.same hc).2 (by decide)
theorem TAt.npf (h : TAt w p room CA cc gc FA fc gf s) : gf ≠ some p := by
  intro e
  have h1 := h.fr
  rw [e] at h1
  obtain ⟨cs, hc⟩ := h1.typ
  exact absurd (h.bl.same hc).2 (by decide)
theorem TAt.ncf (h : TAt w p room CA cc gc FA fc gf s) {b : Nat} (e : gc = some b) : gf ≠ some b := by
  intro e2
  have h1 := h.ow; have h2 := h.fr
  rw [e] at h1; rw [e2] at h2
  obtain ⟨cs, hc⟩ := h1.typ
  obtain ⟨ds, hd⟩ := h2.typ
  exact absurd (hc.same hd).2 (by decide)
theorem TAt.fat (h : TAt w p room CA cc gc FA fc gf s) : FAt w p FA s.free.length fc gf s.free :=
  ⟨h.bl.cell' rfl, h.bl.free 2, h.fr, h.npf⟩
end
def TI (w : World) (p room : Nat) (F : Nat → Prop) (s : TS) : Prop := ∃ CA cc gc FA fc gf, TAt w p room CA cc gc FA fc gf s ∧ F = tfoot p gc gf
def TOut (w : World) (p room : Nat) (F : Nat → Prop) (s : TS) (w' : World) : Prop := ∃ F', TI w' p room F' s ∧ Fr F w w' ∧ ∀ k, k < w.heap.size → F' k → F k
theorem TI.step {w w' : World} {p room : Nat} {F : Nat → Prop} {s : TS} {S : Nat → Prop} (h : TI w p room F s) (hf : Fr S w w') (hS : ∀ k, F k → ¬ S k) : TI w' p room F s := by
  obtain ⟨CA, cc, gc, FA, fc, gf, h, rfl⟩ := h
  exact ⟨CA, cc, gc, FA, fc, gf, h.step hf hS, rfl⟩
theorem TI.ok {w : World} {p room : Nat} {F : Nat → Prop} {s : TS} (h : TI w p room F s) : s.Ok room := by
  obtain ⟨CA, cc, gc, FA, fc, gf, h, rfl⟩ := h; exact h.ok
theorem left_any {w : World} {p room : Nat} {F : Nat → Prop} {s : TS} (h : TI w p room F s) :
    Calls Try.prog 10 #[.pointer (some ⟨p, 0, none⟩)] w fun e w' => e = .returned (.int .i64 (s.left : Int)) ∧ w = w' := by
  obtain ⟨CA, cc, gc, FA, fc, gf, h, rfl⟩ := h
  have c4 : w.cell? ⟨p, 4, none⟩ = some (.int .i64 (s.left : Int)) := h.bl.cell' rfl
  clear h
  go_enter Try.func10, Try.ntmps10
  go_wp2
  go_ret
  exact ⟨rfl, rfl⟩
theorem tlen_any {w : World} {p room : Nat} {F : Nat → Prop} {s : TS} (h : TI w p room F s) :
    Calls Try.prog 14 #[.pointer (some ⟨p, 0, none⟩)] w fun e w' => e = .returned (.int .i64 (s.len : Int)) ∧ w = w' := by
  obtain ⟨CA, cc, gc, FA, fc, gf, h, rfl⟩ := h
  have c3 : w.cell? ⟨p, 3, none⟩ = some (.int .i64 (s.len : Int)) := h.bl.cell' rfl
  clear h
  go_enter Try.func14, Try.ntmps14
  go_wp2
  go_ret
  exact ⟨rfl, rfl⟩
theorem add_full {w : World} {p room : Nat} {F : Nat → Prop} {s : TS} (h : TI w p room F s) (x : Int) (hf : s.free = []) :
    Calls Try.prog 11 #[.pointer (some ⟨p, 0, none⟩), .int .i64 x] w fun e w' => e = .returned (.tuple #[.int .i64 0, .int .i64 71]) ∧ w = w' := by
  obtain ⟨CA, cc, gc, FA, fc, gf, h, rfl⟩ := h
  have c2 : w.cell? ⟨p, 2, none⟩ = some (.slice FA s.free.length fc) := h.bl.cell' rfl
  rw [hf] at c2
  clear h
  go_enter Try.func11, Try.ntmps11
  go_wp2_with fail
  go_ret2
  exact ⟨rfl, rfl⟩
theorem assert_i (x : Int) (w : World) : (Instr.typeAssert (.iface 3 (.int .i64 x)) 20 3 false).run Try.prog w = .ok (.int .i64 x) w := by kernel_rfl
attribute [local go_sem] assert_i
/-- A place is given out. -/
structure Added (s : TS) (x : Int) (at_ : Nat) (tu : Nat) (ys : List Nat) : Prop where
  mem : at_ ∈ s.free
  perm : (at_ :: ys).Perm s.free
  least : ∀ y ∈ ys, at_ ≤ y
  heap : HeapN ys ys.length
  old : ∃ th, s.cells[at_]? = some (th, tu, false) ∧ tu < s.most
def TS.add (s : TS) (x : Int) (at_ tu : Nat) (ys : List Nat) : TS := { s with cells := s.cells.set at_ (x, tu + 1, true), free := ys, len := s.len + 1, left := s.left - 1 }
def AddPost (w : World) (p room : Nat) (F : Nat → Prop) (s : TS) (x : Int) (e : Ending) (w' : World) : Prop :=
  ∃ (at_ tu : Nat) (ys : List Nat), e = .returned (.tuple #[.int .i64 (((tu + 1) * 65536 + at_ : Nat) : Int), .int .i64 0]) ∧ Added s x at_ tu ys ∧ TOut w p room F (s.add x at_ tu ys) w'
theorem add_okk {s : TS} {room : Nat} (h : s.Ok room) {x : Int} {at_ tu : Nat} {ys : List Nat} (ha : Added s x at_ tu ys) (hl : s.len < 8000000000000000000) : (s.add x at_ tu ys).Ok room := by
  obtain ⟨th, hc, htm⟩ := ha.old
  have hnd : (at_ :: ys).Nodup := ha.perm.nodup_iff.2 h.nodup
  have hlen := ha.perm.length_eq
  refine ⟨h.r1, h.m1, by show (s.cells.set _ _).length = _; rw [List.length_set]; exact h.len, fun y hy => ?_, ha.heap, (List.nodup_cons.1 hnd).2, fun z hz => ?_, ?_, by show s.len + 1 ≤ _; omega, by show s.left - 1 ≤ _; have := h.l2; omega⟩
  · rcases List.mem_or_eq_of_mem_set hy with hy | rfl
    · exact h.turn y hy
    · exact htm
  · have hz2 : z ∈ s.free := ha.perm.mem_iff.1 (List.mem_cons_of_mem _ hz)
    obtain ⟨y, h1, h2, h3⟩ := h.fre z hz2
    have hne : at_ ≠ z := fun e => (List.nodup_cons.1 hnd).1 (by rw [e]; exact hz)
    exact ⟨y, by show (s.cells.set _ _)[z]? = _; rw [List.getElem?_set_ne hne]; exact h1, h2, h3⟩
  · show ys.length ≤ room
    have := h.fl
    rw [List.length_cons] at hlen
    omega
/-- Three stores into a place. -/
theorem three_put {w : World} {room cc cb co : Nat} {l : List (Int × Nat × Bool)} {g : Option Nat} (h : Ow w tCel 3 (some ⟨cb, co, none⟩) room cc (tcells l) g) {i : Nat} (hi : i < room) (x : Int × Nat × Bool) :
    Ow (((w.setCell ⟨cb, co + i * 3, none⟩ (.int .i64 x.1)).setCell ⟨cb, co + i * 3 + 2, none⟩ (.bool x.2.2)).setCell ⟨cb, co + i * 3 + 1, none⟩ (.int .i64 (x.2.1 : Int))) tCel 3 (some ⟨cb, co, none⟩) room cc (tcells (l.set i x)) g := by
  have h1 := ((h.put (j := i * 3) (by omega) (.int .i64 x.1)).put (j := i * 3 + 2) (by omega) (.bool x.2.2)).put (j := i * 3 + 1) (by omega) (.int .i64 (x.2.1 : Int))
  rw [tcells_set, List.set_comm _ _ (show i * 3 + 1 ≠ i * 3 + 2 by omega)]
  rw [← Nat.add_assoc, ← Nat.add_assoc] at h1
  exact h1
set_option maxHeartbeats 2000000 in
set_option maxRecDepth 8000 in
theorem add_ok {w : World} {p room : Nat} {F : Nat → Prop} {s : TS} (h : TI w p room F s) (x : Int) (hf : s.free ≠ []) (hl : s.len < 8000000000000000000) (hlf : 1 ≤ s.left) :
    Calls Try.prog 11 #[.pointer (some ⟨p, 0, none⟩), .int .i64 x] w (AddPost w p room F s x) := by
  obtain ⟨CA, cc, gc, FA, fc, gf, h, rfl⟩ := h
  have c2 : w.cell? ⟨p, 2, none⟩ = some (.slice FA s.free.length fc) := h.bl.cell' rfl
  obtain ⟨n, hn⟩ : ∃ n, s.free.length = n := ⟨_, rfl⟩
  have hn0 : 1 ≤ n := by rw [← hn]; exact Nat.pos_of_ne_zero (fun e => hf (List.length_eq_zero_iff.1 e))
  have hn2 : n ≤ 65536 := by rw [← hn]; exact Nat.le_trans h.ok.fl h.ok.r1
  have H := hide h
  have hpop := pop_any h.fat (by omega) (by omega) h.ok.heap
  rw [hn] at c2 hpop
  have Hpop := hide hpop
  have Hn := hide hn
  have i0 : ¬ (n : Int) = 0 := by omega
  clear h hf hn hpop
  go_enter Try.func11, Try.ntmps11
  go_wp2_with fail
  refine Hpop.out.mono ?_
  rintro e w2 ⟨at_, ys, w3, rfl, hP⟩
  have hmem : at_ ∈ s.free := hP.perm.mem_iff.1 (List.mem_cons_self ..)
  obtain ⟨⟨th, tu, tk⟩, hcel, htu, htk⟩ := H.out.ok.fre at_ hmem
  simp only at htu htk
  subst htk
  have hat : at_ < room := by rw [← H.out.ok.len]; exact (List.getElem?_eq_some_iff.1 hcel).1
  have hr1 := H.out.ok.r1
  have hm1 := H.out.ok.m1
  have hF2 : Fr (fun x => x = p) w3 w2 := by rw [hP.eq]; exact (Fr.refl _ _).setAt _
  have hbl2 : Bl w2 p tTab #[.int .i64 (s.most : Int), .slice CA room cc, .slice FA (n - 1) fc, .int .i64 (s.len : Int), .int .i64 (s.left : Int)] := by
    have := (H.out.bl.fr hP.fr H.out.npf).set 2 (.slice FA (n - 1) fc)
    rw [hP.eq]
    simpa using this
  have how2 : Ow w2 tCel 3 CA room cc (tcells s.cells) gc := (H.out.ow.fr hP.fr (fun b hb e => H.out.ncf hb e)).fr hF2 (fun b hb e => H.out.npc (by rw [hb, e]))
  obtain ⟨t0, t1, t2⟩ := tcells_at s.cells at_ _ hcel
  obtain ⟨cb, co, rfl, rfl, k0, z0⟩ := how2.look t0
  obtain ⟨b', o', e1, -, k1, z1⟩ := how2.look t1
  cases e1
  obtain ⟨b', o', e1, -, k2, z2⟩ := how2.look t2
  cases e1
  rw [← Nat.add_assoc] at k1 z1 k2 z2
  have hcp : ¬ cb = p := fun e => H.out.npc (by rw [e])
  have hpc : ¬ p = cb := fun e => hcp e.symm
  have p1 : w2.cell? ⟨p, 1, none⟩ = some (.slice (some ⟨cb, co, none⟩) room cc) := hbl2.cell' rfl
  have p3 : w2.cell? ⟨p, 3, none⟩ = some (.int .i64 (s.len : Int)) := hbl2.cell' rfl
  have p4 : w2.cell? ⟨p, 4, none⟩ = some (.int .i64 (s.left : Int)) := hbl2.cell' rfl
  have f3 := hbl2.free 3
  have f4 := hbl2.free 4
  have q1 : IntKind.i64.wrap ((tu : Int) + 1) = (tu : Int) + 1 := IntWalk.i64_in _ (by omega)
  have q2 : IntKind.i64.wrap ((s.len : Int) + 1) = (s.len : Int) + 1 := IntWalk.i64_in _ (by omega)
  have hl2 := H.out.ok.l2
  have q3 : IntKind.i64.wrap ((s.left : Int) - 1) = (s.left : Int) - 1 := IntWalk.i64_in _ (by omega)
  have q4 : IntKind.i64.wrap (((tu : Int) + 1) * 65536) = ((tu : Int) + 1) * 65536 := IntWalk.i64_in _ (by omega)
  have q5 : IntKind.i64.wrap (((tu : Int) + 1) * 65536 + (at_ : Int)) = (((tu + 1) * 65536 + at_ : Nat) : Int) := by rw [IntWalk.i64_in _ (by omega)]; omega
  have i1 : (0 : Int) ≤ (at_ : Int) := by omega
  have i2 : (at_ : Int) < (room : Int) := by omega
  have HP := hide hP
  have Hbl2 := hide hbl2
  have How2 := hide how2
  have Hcel := hide hcel
  have Hmem := hide hmem
  have Htu := hide htu
  clear hP hbl2 how2 hcel hmem hF2 t0 t1 t2 htu hm1 hr1 hl2
  go_wp2_with fail
  go_ret2
  have hys : ys.length = n - 1 := by have := HP.out.ow.1; simpa using this
  have hadd : Added s x at_ tu ys := ⟨Hmem.out, HP.out.perm, HP.out.least, by rw [hys]; exact HP.out.heap, th, Hcel.out, Htu.out⟩
  refine ⟨at_, tu, ys, rfl, hadd, tfoot p (some cb) gf, ⟨some ⟨cb, co, none⟩, cc, some cb, FA, fc, gf, ⟨?_, ?_, ?_, add_okk H.out.ok hadd hl⟩, rfl⟩, ?_, fun _ _ h => h⟩
  · have e1 : ((s.left - 1 : Nat) : Int) = (s.left : Int) - 1 := by omega
    show Bl _ _ _ #[.int .i64 (s.most : Int), .slice (some ⟨cb, co, none⟩) room cc, .slice FA ys.length fc, .int .i64 ((s.len + 1 : Nat) : Int), .int .i64 ((s.left - 1 : Nat) : Int)]
    rw [hys, e1]
    have := (((Hbl2.out.far (p := ⟨cb, co + at_ * 3, none⟩) hpc (.int .i64 x)).far (p := ⟨cb, co + at_ * 3 + 2, none⟩) hpc (.bool true)).far (p := ⟨cb, co + at_ * 3 + 1, none⟩) hpc (.int .i64 ((tu : Int) + 1))).set 3 (.int .i64 ((s.len : Int) + 1)) |>.set 4 (.int .i64 ((s.left : Int) - 1))
    simpa using this
  · have h1 := three_put How2.out hat (x, tu + 1, true)
    exact h1.fr (S := fun k => k = p) (((Fr.refl _ _).setAt _).setAt _) (fun b hb e => by cases hb; exact hcp e)
  · show Ow _ _ _ _ ys.length _ _ _
    have h1 := HP.out.ow
    rw [hys]
    refine h1.fr (S := fun k => k = cb ∨ k = p) (((((((Fr.refl (fun k => k = cb ∨ k = p) w2).setIn (.inl (.inl rfl)) _).setIn (.inl (.inl rfl)) _).setIn (.inl (.inl rfl)) _).setIn (.inl (.inr rfl)) _).setIn (.inl (.inr rfl)) _)) (fun b hb e => ?_)
    rcases e with rfl | rfl
    · exact H.out.ncf rfl hb
    · exact H.out.npf hb
  · have f1 : Fr (tfoot p (some cb) gf) w w2 := (HP.out.fr.mono fun k _ e => (.inr (.inr e) : tfoot p (some cb) gf k)).trans (by rw [HP.out.eq]; exact (Fr.refl (tfoot p (some cb) gf) w3).setIn (.inl (.inl rfl)) _)
    exact ((((f1.setIn (.inl (.inr (.inl rfl))) _).setIn (.inl (.inr (.inl rfl))) _).setIn (.inl (.inr (.inl rfl))) _).setIn (.inl (.inl rfl)) _).setIn (.inl (.inl rfl)) _
end Go.Proofs.Ytcfpmnlpoihgfaa
