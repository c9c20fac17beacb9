/-
  Texts merged into one, to keep the claim small: DxP, DxQ, DxR, DxS.
-/
import Derived.Test.YtanfhmebjgmdpaaMe40
section
/-
  DrrScripts: a fresh server beside the document's.
-/
namespace Go.Proofs.Ytanfhmebjgmdpaa.Qi
open Go.RowKit Go.Shelf
set_option linter.unusedVariables false
theorem EOk.fresh {w w1 w2 w3 : World} {n room qu d L q : Nat} {D : Int} {s : DS (Int × Int)} {b : DB} (hm : Made w n room qu d L s w1) (hf1 : Fr (fun _ => False) w1 w2) (hd : DAt w3 q b (DR.fresh n room qu)) (hf2 : Fr (fun _ => False) w2 w3)
    (hq : ∀ x, dfoot q b (DR.fresh n room qu) x → w2.heap.size ≤ x) (hD : 0 ≤ D) (hD2 : D ≤ 4611686018427387904) :
    EOk w3 D ⟨d, L, s, q, b, DR.fresh n room qu⟩ ∧ (∀ x, (⟨d, L, s, q, b, DR.fresh n room qu⟩ : EE).foot x → w.heap.size ≤ x) ∧ Fr (fun _ => False) w w3 := by
  obtain ⟨m1, m2, m3, m4, m5, m6, m7, m8⟩ := hm
  have z1 := m7.size
  have z2 := hf1.size
  have h1 := m1 D hD hD2
  refine ⟨⟨(h1.quiet hf1).quiet hf2, m4, hd, rfl, ⟨by rw [m2]; rfl, by rw [m3]; rfl, ?_⟩, fun x hx e => ?_⟩, fun x hx => ?_, (m7.trans hf1).trans hf2⟩
  · apply List.ext_getElem?
    intro i
    show (s.lines.map con)[i]? = ((List.replicate n DQ.none_).map conD)[i]?
    simp only [List.getElem?_map, List.getElem?_replicate]
    by_cases hi : i < n
    · have hl : i < s.lines.length := by omega
      rw [List.getElem?_eq_getElem hl, if_pos hi]
      have := m6 _ (List.getElem_mem hl)
      show some (con _) = some (conD _)
      unfold con
      rw [this.1, this.2]; rfl
    · rw [List.getElem?_eq_none (by omega), if_neg hi]; rfl
  · have := h1.lt hx
    have := hq x e
    omega
  · rcases hx with e | e
    · exact m8 x e
    · have := hq x e; omega
set_option maxHeartbeats 2000000 in
theorem New_bad (w : World) (n room qu : Int) (h : n < 1 ∨ 1024 < n ∨ room < 1 ∨ 65536 < room ∨ qu < 8 ∨ 1024 < qu) :
    Calls Try.prog 15 #[.int .i64 n, .int .i64 room, .int .i64 qu] w fun e w' => e = .returned (.tuple #[.pointer none, .int .i64 2]) ∧ w = w' := by
  by_cases h1 : n < 1
  · clear h
    go_enter Try.func15, Try.ntmps15
    go_wp2_with fail
    go_ret2
    exact ⟨rfl, rfl⟩
  by_cases h2 : 1024 < n
  · clear h
    go_enter Try.func15, Try.ntmps15
    go_wp2_with fail
    go_ret2
    exact ⟨rfl, rfl⟩
  by_cases h3 : room < 1
  · clear h
    go_enter Try.func15, Try.ntmps15
    go_wp2_with fail
    go_ret2
    exact ⟨rfl, rfl⟩
  by_cases h4 : 65536 < room
  · clear h
    go_enter Try.func15, Try.ntmps15
    go_wp2_with fail
    go_ret2
    exact ⟨rfl, rfl⟩
  by_cases h5 : qu < 8
  · clear h
    go_enter Try.func15, Try.ntmps15
    go_wp2_with fail
    go_ret2
    exact ⟨rfl, rfl⟩
  have h6 : 1024 < qu := by omega
  clear h
  go_enter Try.func15, Try.ntmps15
  go_wp2_with fail
  go_ret2
  exact ⟨rfl, rfl⟩
/-- What New refuses, or the numbers of a shape. -/
theorem shape_cases (a b c : Int) : (a < 1 ∨ 1024 < a ∨ b < 1 ∨ 65536 < b ∨ c < 8 ∨ 1024 < c) ∨ ∃ n r k : Nat, a = (n : Int) ∧ b = (r : Int) ∧ c = (k : Int) ∧ 1 ≤ n ∧ n ≤ 1024 ∧ 1 ≤ r ∧ r ≤ 65536 ∧ 8 ≤ k ∧ k ≤ 1024 := by
  by_cases h : a < 1 ∨ 1024 < a ∨ b < 1 ∨ 65536 < b ∨ c < 8 ∨ 1024 < c
  · exact .inl h
  · exact .inr ⟨a.toNat, b.toNat, c.toNat, by omega, by omega, by omega, by omega, by omega, by omega, by omega, by omega, by omega⟩
end Go.Proofs.Ytanfhmebjgmdpaa.Qi
end

section
/-
  DrrScripts: round.
-/
namespace Go.Proofs.Ytanfhmebjgmdpaa.Qi
open Go.RowKit Go.Shelf
set_option linter.unusedVariables false
theorem round_any (w : World) (k n : Int) (n1 : 1 ≤ n) (n2 : n ≤ 4611686018427387904) :
    Calls Try.prog 9 #[.int .i64 k, .int .i64 n] w fun e w' => e = .returned (.int .i64 (k % n)) ∧ w = w' := by
  have h0 := Int.emod_nonneg k (show n ≠ 0 by omega)
  have h1 := Int.emod_lt_of_pos k (show 0 < n by omega)
  have tb : k.tmod n = k % n ∨ (k.tmod n = k % n - n) := by
    rw [Int.tmod_eq_emod]; split
    · exact .inl (by omega)
    · exact .inr (by omega)
  by_cases hk : 0 ≤ k.tmod n
  · have e1 : k.tmod n = k % n := by omega
    clear tb
    go_enter Try.func9, Try.ntmps9
    go_wp2
    go_ret
    exact ⟨rfl, rfl⟩
  · have e2 : -n ≤ k.tmod n := by omega
    have e1 : Hid (k % n = k.tmod n + n) := show k % n = k.tmod n + n by omega
    clear tb
    go_enter Try.func9, Try.ntmps9
    go_wp2
    go_ret
    exact ⟨by rw [e1.out]; rfl, rfl⟩
theorem round_nat (w : World) (wh : Int) (m k : Nat) (h1 : 1 ≤ m) (h2 : m ≤ 1000) (hk : wh % (m : Int) = (k : Int)) :
    Calls Try.prog 9 #[.int .i64 wh, .int .i64 (m : Int)] w fun e w' => e = .returned (.int .i64 (k : Int)) ∧ w = w' := by
  rw [← hk]; exact round_any w wh m (by omega) (by omega)
end Go.Proofs.Ytanfhmebjgmdpaa.Qi
end

section
/-
  DrrScripts: does of an entry of the rows.
-/
namespace Go.Proofs.Ytanfhmebjgmdpaa.Qi
open Go.RowKit Go.Shelf
set_option linter.unusedVariables false
/-- Behind a step: the rows of pointers are the same, the blocks of N are no foot. -/
def Stepped (B0 : Nat) (N : Nat → Prop) (w : World) (D : Int) (Ls : List (Option EE)) (w' : World) : Prop :=
  ∃ Ls', EW B0 w' (D + 1024) Ls' ∧ Ls'.map ptrD = Ls.map ptrD ∧ Ls'.map ptrM = Ls.map ptrM ∧ (∀ a, some a ∈ Ls' → ∀ x, a.foot x → ¬ N x) ∧ Fr (fun x => ¬ N x) w w'
theorem does_ent {B0 : Nat} {w : World} {D : Int} {Ls : List (Option EE)} {N : Nat → Prop} {i : Nat} {e : Option EE} (h : EW B0 w D Ls) (hB : B0 ≤ w.heap.size) (hD : 0 ≤ D) (hD2 : D + 4096 ≤ 4611686018427387904) (hN : ∀ x, N x → x < w.heap.size) (hn : ∀ a, some a ∈ Ls → ∀ x, a.foot x → ¬ N x) (hi : Ls[i]? = some e) (kd wh qu co x mo : Int) :
    Calls Try.prog 20 #[ptrD e, ptrM e, .agg #[.int .i64 kd, .int .i64 wh, .int .i64 qu, .int .i64 co, .int .i64 x, .int .i64 mo]] w fun r w' => r = .returned (.bool true) ∧ Stepped B0 N w D Ls w' := by
  cases e with
  | none =>
    refine (does_none w kd wh qu co x mo).mono ?_
    rintro r w' ⟨rfl, hf⟩
    exact ⟨rfl, Ls, (h.quiet hf).up (by omega), rfl, rfl, hn, hf.weak _⟩
  | some a =>
    have hk := h.ok a (List.mem_of_getElem? hi)
    refine (does_any w hk.dr hk.bz hk.dm hk.at_ hk.like hk.ap hD hD2 kd wh qu co x mo).mono ?_
    rintro r w' ⟨rfl, ho⟩
    obtain ⟨hf, a', e1, e2, hg, hw⟩ := h.step hB hD2 hi ho
    have hlt : i < Ls.length := (List.getElem?_eq_some_iff.1 hi).1
    have hs : ∀ (f : Option EE → Value), f (some a') = f (some a) → (Ls.set i (some a')).map f = Ls.map f := fun f hf => by
      rw [List.map_set, hf]
      apply List.ext_getElem?
      intro j
      by_cases hj : i = j
      · subst hj
        rw [List.getElem?_set_self (by simpa using hlt), List.getElem?_map, hi]; rfl
      · rw [List.getElem?_set_ne hj]
    refine ⟨rfl, _, hw, hs ptrD (by simp only [ptrD, e1]), hs ptrM (by simp only [ptrM, e2]), fun c hc y hy hNy => ?_, hf.mono fun y _ hy => hn a (List.mem_of_getElem? hi) y hy⟩
    rcases List.mem_or_eq_of_mem_set hc with hc | hc
    · exact hn c hc y hy hNy
    · cases hc
      rcases hg y hy with hy | hy
      · exact hn a (List.mem_of_getElem? hi) y hy hNy
      · have := hN y hNy; omega
end Go.Proofs.Ytanfhmebjgmdpaa.Qi
end

section
/-
  drr.Drr[string]'s zero value: Add, Len, a round of it.
-/
namespace Go.Proofs.Ytanfhmebjgmdpaa.Qi
open Go.RowKit Go.Shelf
set_option linter.unusedVariables false
attribute [local go_sem] Oper.semAt_some
abbrev tZD : TypeId := 67
abbrev tZP : TypeId := 111
def zcells : Array Value := #[.int .i64 0, .slice none 0 0, .bool false]
section
variable {z : Nat} {w : World}
theorem zline (hz : Bl w z tZD zcells) : Calls Try.prog 56 #[.pointer (some ⟨z, 0, none⟩), .int .i64 0] w fun e w' => e = .returned (.pointer none) ∧ w = w' := by
  have c1 : w.cell? ⟨z, 1, none⟩ = some (.slice none 0 0) := hz.cell' rfl
  clear hz
  go_enter Try.func56, Try.ntmps56
  go_wp2
  go_ret
  exact ⟨rfl, rfl⟩
theorem zopen (hz : Bl w z tZD zcells) : Calls Try.prog 54 #[.pointer (some ⟨z, 0, none⟩), .int .i64 0] w fun e w' => e = .returned (.tuple #[.pointer none, .int .i64 2]) ∧ w = w' := by
  have c2 : w.cell? ⟨z, 2, none⟩ = some (.bool false) := hz.cell' rfl
  have hl := zline hz
  clear hz
  go_enter Try.func54, Try.ntmps54
  go_wp2_with fail
  refine hl.mono ?_
  rintro e w' ⟨rfl, rfl⟩
  go_wp2_with fail
  go_ret2
  exact ⟨rfl, rfl⟩
theorem zlen (hz : Bl w z tZD zcells) : Calls Try.prog 23 #[.pointer (some ⟨z, 0, none⟩), .int .i64 0] w fun e w' => e = .returned (.int .i64 0) ∧ w = w' := by
  have hl := zline hz
  clear hz
  go_enter Try.func23, Try.ntmps23
  go_wp2_with fail
  refine hl.mono ?_
  rintro e w' ⟨rfl, rfl⟩
  go_wp2_with fail
  go_ret
  exact ⟨rfl, rfl⟩
theorem zadd (hz : Bl w z tZD zcells) (s : Value) (hs : ∃ x, s = .string x) : Calls Try.prog 22 #[.pointer (some ⟨z, 0, none⟩), .int .i64 0, .int .i64 1, s] w fun e w' => e = .returned (.int .i64 2) ∧ Fr (fun _ => False) w w' := by
  obtain ⟨x, rfl⟩ := hs
  have hl := zopen hz
  clear hz
  go_enter Try.func22, Try.ntmps22
  go_wp2_with fail
  refine hl.mono ?_
  rintro e w' ⟨rfl, rfl⟩
  go_wp2_with fail
  go_ret
  exact ⟨rfl, Fr.refl _ _⟩
theorem zround (w : World) : Calls Try.prog 21 #[.pointer (some ⟨z, 0, none⟩)] w fun e w' => e = .returned (.func (.func 50) #[] #[.pointer (some ⟨w.heap.size, 0, none⟩)]) ∧ w.alloc (.cells #[.pointer (some ⟨z, 0, none⟩)] tZP) = w' := by
  go_enter Try.func21, Try.ntmps21
  go_wp2
  go_ret
  exact ⟨rfl, rfl⟩
set_option maxHeartbeats 1000000 in
theorem zunbusy {bx d : Nat} (w : World) (u : FrameMode) (m : Nat) (cb : w.cell? ⟨bx, 0, none⟩ = some (.pointer (some ⟨d, 0, none⟩))) (c2 : ∃ v, w.cell? ⟨d, 2, none⟩ = some v) (z2 : w.frozen? ⟨d, 2, none⟩ = false) :
    CallsDIn Fence.wide m Try.prog 51 #[.pointer (some ⟨bx, 0, none⟩)] u w fun e u' w' => u' = u ∧ (e = .returned (.tuple #[]) ∧ w.setCell ⟨d, 2, none⟩ (.bool false) = w') := by
  obtain ⟨v, c2⟩ := c2
  refine callsDIn_of_wp Try.func51 rfl trivial ?_ rfl
  simp only [Try.ntmps51, List.size_toArray, List.length_cons, List.length_nil, Nat.reduceAdd, Nat.reduceSub, Array.replicate_succ, Array.replicate_zero, List.push_toArray, List.append_toArray, List.nil_append, List.cons_append]
  refine wpIn_wide.2 ?_
  go_wp2_with fail
  go_end0
  exact ⟨rfl, rfl⟩
theorem zleave {bx d : Nat} (m : Nat) (tmps : Array Value) (w : World) (R : Ending → World → Prop) (cb : w.cell? ⟨bx, 0, none⟩ = some (.pointer (some ⟨d, 0, none⟩))) (c2 : ∃ v, w.cell? ⟨d, 2, none⟩ = some v) (z2 : w.frozen? ⟨d, 2, none⟩ = false)
    (h : R (.returned (.tuple #[])) (w.setCell ⟨d, 2, none⟩ (.bool false))) :
    LeavesIn Fence.wide m Try.prog Try.f50 tmps R [{ target := .fn (.func 51) #[.pointer (some ⟨bx, 0, none⟩)], args := #[] }] .returning w := by
  refine ⟨by simp, (fun h => by cases h), .func 51, #[.pointer (some ⟨bx, 0, none⟩)], 51, #[.pointer (some ⟨bx, 0, none⟩)], rfl, by simp [invoke, go_sem], fun g hg => trivial, ?_⟩
  obtain ⟨hF, hc⟩ := zunbusy w .returning (m - 1) cb c2 z2
  refine ⟨hF, fun c cs hm hr => ?_⟩
  obtain ⟨e, u', w', fr, ⟨rfl, rfl, rfl⟩, h2⟩ := hc c cs hm hr
  have hl : LeavesIn Fence.wide m Try.prog Try.f50 tmps R [] (settle .returning) (w.setCell ⟨d, 2, none⟩ (.bool false)) := ⟨_, results_none rfl _ _ _, h⟩
  exact ⟨.returned (.tuple #[]), .returning, w.setCell ⟨d, 2, none⟩ (.bool false), fr, hl, h2⟩
/-- What is yielded (never). -/
def encZ (_ : Unit) : Array Value := #[.int .i64 0, .string { data := #[] }]
def ZH (bx d : Nat) (_ : Unit) (W : World) : Prop := Bl W bx tZP #[.pointer (some ⟨d, 0, none⟩)] ∧ Bl W d tZD zcells
set_option maxHeartbeats 2000000 in
set_option maxRecDepth 100000 in
theorem zround_seq (m : Nat) (hm : 1 ≤ m) (bx d : Nat) :
    SeqJ (σ := Unit) (α := Unit) Fence.wide m Try.prog 50 #[.pointer (some ⟨bx, 0, none⟩)] encZ (ZH bx d) (fun _ _ => True) (fun _ W _ W' => ZH bx d () W' ∧ Fr (fun x => x = d) W W') (fun _ _ => False) (fun _ _ _ => False) (fun _ _ _ => False) (fun _ _ _ _ => False) () (fun _ => True) (fun _ => False) := fun l J Jx W hJH hJxH hT hLT hY h0 => by
  obtain ⟨hbx, hd⟩ := hJH _ _ h0
  have hbd : bx ≠ d := hbx.apart hd (by decide)
  have cb : W.cell? ⟨bx, 0, none⟩ = some (.pointer (some ⟨d, 0, none⟩)) := hbx.cell' rfl
  have c1 : W.cell? ⟨d, 1, none⟩ = some (.slice none 0 0) := hd.cell' rfl
  have c2 : W.cell? ⟨d, 2, none⟩ = some (.bool false) := hd.cell' rfl
  have z2 := hd.free 2
  have hF : Fr (fun x => x = d) W ((W.setCell ⟨d, 2, none⟩ (.bool true)).setCell ⟨d, 2, none⟩ (.bool false)) := ((Fr.refl _ _).setAt _).setAt _
  have hd1 := hd.set 2 (.bool true)
  have hd2 : Bl ((W.setCell ⟨d, 2, none⟩ (.bool true)).setCell ⟨d, 2, none⟩ (.bool false)) d tZD zcells := by simpa [zcells] using hd1.set 2 (.bool false)
  have hJ2 : J () ((W.setCell ⟨d, 2, none⟩ (.bool true)).setCell ⟨d, 2, none⟩ (.bool false)) := hT _ _ _ _ h0 ⟨⟨hbx.fr hF hbd, hd2⟩, hF⟩
  have hl := zleave (bx := bx) (d := d) m
  have hb1 : Bl (W.setCell ⟨d, 2, none⟩ (.bool true)) bx tZP #[.pointer (some ⟨d, 0, none⟩)] := hbx.far hbd _
  have HJ := hide hJ2
  have H1 := hide (And.intro hb1 hd1)
  have hbd2 := hbd.symm
  clear hJ2 hF hd1 hd2 hb1 hbx hd hY h0 hT hJH
  refine callsIn_of_wp_defers Try.func50 rfl trivial ?_ rfl
  simp only [Try.ntmps50, List.size_toArray, List.length_cons, List.length_nil, Nat.reduceAdd, Nat.reduceSub, Array.replicate_succ, Array.replicate_zero, List.push_toArray, List.append_toArray, List.nil_append, List.cons_append]
  refine wpIn_wide.2 ?_
  go_wp2_with fail
  generalize hw1 : W.setCell ⟨d, 2, none⟩ (.bool true) = w1 at HJ H1 ⊢
  clear hw1 cb c1 c2 z2
  have e1 : w1.cell? ⟨d, 1, none⟩ = some (.slice none 0 0) := H1.out.2.cell' rfl
  have eb : w1.cell? ⟨bx, 0, none⟩ = some (.pointer (some ⟨d, 0, none⟩)) := H1.out.1.cell' rfl
  go_loopw [24] (fun i wr => i = .int .i64 0 ∧ wr = w1) (fun _ _ => 0)
  case atStart => exact ⟨rfl, rfl⟩
  case round =>
    obtain ⟨rfl, rfl⟩ := hrel
    go_wp2_with fail
    exact hl _ _ _ (H1.out.1.cell' rfl) ⟨_, H1.out.2.cell' rfl⟩ (H1.out.2.free 2) ⟨⟨_, rfl⟩, .inl ⟨(), trivial, HJ.out⟩⟩
end
end Go.Proofs.Ytanfhmebjgmdpaa.Qi
end
