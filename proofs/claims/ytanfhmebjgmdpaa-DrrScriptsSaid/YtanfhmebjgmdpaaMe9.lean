/-
  Texts merged into one, to keep the claim small: Dx2, Reg.
-/
import Derived.Test.YtanfhmebjgmdpaaDx1
import Derived.Test.YtanfhmebjgmdpaaOwn
import Derived.Test.YtanfhmebjgmdpaaRows
import Derived.WalkLawsBesides
import Derived.WalkSpells
import Derived.Deep.QuietTactic
import Derived.BigQuiet
import Derived.Deep.RegionHeld3
import Derived.Deep.DeepCutAuto
import Derived.Deep.DrawnRows
import Derived.Deep.AppendLies
section
/-
  bazaarref16.Drr: is, open, Len, Deficit, Begin, End.
-/
namespace Go.Proofs.Ytanfhmebjgmdpaa
open Go.RowKit
set_option linter.unusedVariables false
section
variable {q : Nat} {b : DB} {s : DR}
def openD (s : DR) (q : Int) : Int := if 0 ≤ s.at_ then 162 else if q < 0 ∨ (s.lines.length : Int) ≤ q then 2 else 0
theorem ris_any (w : World) (h : DAt w q b s) (i : Int) :
    Calls Try.prog 68 #[.pointer (some ⟨q, 0, none⟩), .int .i64 i] w fun e w' => e = .returned (.bool (decide (0 ≤ i ∧ i < (s.lines.length : Int)))) ∧ w = w' := by
  have hbl := h.bl
  unfold dcells at hbl
  obtain ⟨n, hn⟩ : ∃ n, s.lines.length = n := ⟨_, rfl⟩
  rw [hn] at hbl ⊢
  have c0 : w.cell? ⟨q, 0, none⟩ = some (.int .i64 (n : Int)) := hbl.cell' rfl
  clear hbl hn h
  by_cases h1 : 0 ≤ i ∧ i < (n : Int)
  · rw [decide_eq_true h1]
    obtain ⟨h2, h3⟩ := h1
    go_enter Try.func68, Try.ntmps68
    go_wp2
    go_ret
    exact ⟨rfl, rfl⟩
  · rw [decide_eq_false h1]
    by_cases h2 : 0 ≤ i
    · have h3 : ¬ i < (n : Int) := fun h => h1 ⟨h2, h⟩
      clear h1
      go_enter Try.func68, Try.ntmps68
      go_wp2
      go_ret
      exact ⟨rfl, rfl⟩
    · clear h1
      go_enter Try.func68, Try.ntmps68
      go_wp2
      go_ret
      exact ⟨rfl, rfl⟩
theorem ris_nil (w : World) (i : Int) : Calls Try.prog 68 #[.pointer none, .int .i64 i] w fun e w' => e = .returned (.bool false) ∧ w = w' := by
  go_enter Try.func68, Try.ntmps68
  go_wp2
  go_ret
  exact ⟨rfl, rfl⟩
theorem ropen_any (w : World) (h : DAt w q b s) (i : Int) :
    Calls Try.prog 67 #[.pointer (some ⟨q, 0, none⟩), .int .i64 i] w fun e w' => e = .returned (.int .i64 (openD s i)) ∧ w = w' := by
  have hi := ris_any w h i
  have hbl := h.bl
  unfold dcells at hbl
  obtain ⟨a, ha⟩ : ∃ a, s.at_ = a := ⟨_, rfl⟩
  unfold openD
  rw [ha] at hbl ⊢
  have c6 : w.cell? ⟨q, 6, none⟩ = some (.int .i64 a) := hbl.cell' rfl
  clear hbl ha h
  by_cases h0 : 0 ≤ a
  · rw [if_pos h0]
    clear hi
    go_enter Try.func67, Try.ntmps67
    go_wp2_with fail
    go_ret
    exact ⟨rfl, rfl⟩
  · rw [if_neg h0]
    by_cases h1 : i < 0 ∨ (s.lines.length : Int) ≤ i
    · rw [if_pos h1]
      rw [decide_eq_false (by omega)] at hi
      clear h1
      go_enter Try.func67, Try.ntmps67
      go_wp2_with fail
      refine hi.mono ?_
      rintro e w' ⟨rfl, rfl⟩
      go_wp2_with fail
      go_ret
      exact ⟨rfl, rfl⟩
    · rw [if_neg h1]
      rw [decide_eq_true (by omega)] at hi
      clear h1
      go_enter Try.func67, Try.ntmps67
      go_wp2_with fail
      refine hi.mono ?_
      rintro e w' ⟨rfl, rfl⟩
      go_wp2_with fail
      go_ret
      exact ⟨rfl, rfl⟩
theorem ropen_nil (w : World) (i : Int) : Calls Try.prog 67 #[.pointer none, .int .i64 i] w fun e w' => e = .returned (.int .i64 1) ∧ w = w' := by
  go_enter Try.func67, Try.ntmps67
  go_wp2_with fail
  go_ret
  exact ⟨rfl, rfl⟩
/-- The head of a line's list of things. -/
theorem DAt.tlook {w : World} (h : DAt w q b s) {i : Nat} {l : DQ} (hl : s.lines[i]? = some l) : ∃ x o, b.tA = some ⟨x, o, none⟩ ∧ b.tg = some x ∧ w.cell? ⟨x, o + i, none⟩ = some (.slice l.tA l.things.length l.tc) ∧ w.frozen? ⟨x, o + i, none⟩ = false :=
  h.ot.look (j := i) (u := thdr l) (by rw [List.getElem?_map, hl]; rfl)
theorem DAt.clook {w : World} (h : DAt w q b s) {i : Nat} {l : DQ} (hl : s.lines[i]? = some l) : ∃ x o, b.cA = some ⟨x, o, none⟩ ∧ b.cg = some x ∧ w.cell? ⟨x, o + i, none⟩ = some (.slice l.cA l.things.length l.cc) ∧ w.frozen? ⟨x, o + i, none⟩ = false :=
  h.oc.look (j := i) (u := chdr l) (by rw [List.getElem?_map, hl]; rfl)
theorem DAt.dlook {w : World} (h : DAt w q b s) {i : Nat} {l : DQ} (hl : s.lines[i]? = some l) : ∃ x o, b.dA = some ⟨x, o, none⟩ ∧ b.dg = some x ∧ w.cell? ⟨x, o + i, none⟩ = some (.int .i64 l.df) ∧ w.frozen? ⟨x, o + i, none⟩ = false :=
  h.od.look (j := i) (u := iv_ l.df) (by rw [List.getElem?_map, hl]; rfl)
theorem rLen_in (w : World) (h : DAt w q b s) (i : Nat) (l : DQ) (hl : s.lines[i]? = some l) :
    Calls Try.prog 44 #[.pointer (some ⟨q, 0, none⟩), .int .i64 (i : Int)] w fun e w' => e = .returned (.int .i64 (l.things.length : Int)) ∧ w = w' := by
  have hlt : i < s.lines.length := (List.getElem?_eq_some_iff.1 hl).1
  have hi := ris_any w h i
  rw [decide_eq_true (by omega)] at hi
  have hbl := h.bl
  obtain ⟨x, o, e1, -, hc, -⟩ := h.tlook hl
  unfold dcells at hbl
  obtain ⟨n, hn⟩ : ∃ n, s.lines.length = n := ⟨_, rfl⟩
  obtain ⟨m, hm⟩ : ∃ m, l.things.length = m := ⟨_, rfl⟩
  rw [hn, e1] at hbl
  rw [hm] at hc ⊢
  rw [hn] at hlt
  have c3 : w.cell? ⟨q, 3, none⟩ = some (.slice (some ⟨x, o, none⟩) n b.tc) := hbl.cell' rfl
  have i1 : (0 : Int) ≤ (i : Int) := by omega
  have i2 : (i : Int) < (n : Int) := by omega
  clear hbl hn hm hl h e1
  go_enter Try.func44, Try.ntmps44
  go_wp2_with fail
  refine hi.mono ?_
  rintro e w' ⟨rfl, rfl⟩
  go_wp2_with fail
  go_ret
  exact ⟨rfl, rfl⟩
theorem rLen_out (w : World) (h : DAt w q b s) (i : Int) (ho : i < 0 ∨ (s.lines.length : Int) ≤ i) :
    Calls Try.prog 44 #[.pointer (some ⟨q, 0, none⟩), .int .i64 i] w fun e w' => e = .returned (.int .i64 0) ∧ w = w' := by
  have hi := ris_any w h i
  rw [decide_eq_false (by omega)] at hi
  clear ho h
  go_enter Try.func44, Try.ntmps44
  go_wp2_with fail
  refine hi.mono ?_
  rintro e w' ⟨rfl, rfl⟩
  go_wp2_with fail
  go_ret
  exact ⟨rfl, rfl⟩
theorem rLen_nil (w : World) (i : Int) : Calls Try.prog 44 #[.pointer none, .int .i64 i] w fun e w' => e = .returned (.int .i64 0) ∧ w = w' := by
  go_enter Try.func44, Try.ntmps44
  go_wp2_with fail
  refine (ris_nil w i).mono ?_
  rintro e w' ⟨rfl, rfl⟩
  go_wp2_with fail
  go_ret
  exact ⟨rfl, rfl⟩
theorem rDeficit_in (w : World) (h : DAt w q b s) (i : Nat) (l : DQ) (hl : s.lines[i]? = some l) :
    Calls Try.prog 48 #[.pointer (some ⟨q, 0, none⟩), .int .i64 (i : Int)] w fun e w' => e = .returned (.int .i64 l.df) ∧ w = w' := by
  have hlt : i < s.lines.length := (List.getElem?_eq_some_iff.1 hl).1
  have hi := ris_any w h i
  rw [decide_eq_true (by omega)] at hi
  have hbl := h.bl
  obtain ⟨x, o, e1, -, hc, -⟩ := h.dlook hl
  unfold dcells at hbl
  obtain ⟨n, hn⟩ : ∃ n, s.lines.length = n := ⟨_, rfl⟩
  obtain ⟨m, hm⟩ : ∃ m, l.df = m := ⟨_, rfl⟩
  rw [hn, e1] at hbl
  rw [hm] at hc ⊢
  rw [hn] at hlt
  have c5 : w.cell? ⟨q, 5, none⟩ = some (.slice (some ⟨x, o, none⟩) n b.dc) := hbl.cell' rfl
  have i1 : (0 : Int) ≤ (i : Int) := by omega
  have i2 : (i : Int) < (n : Int) := by omega
  clear hbl hn hm hl h e1
  go_enter Try.func48, Try.ntmps48
  go_wp2_with fail
  refine hi.mono ?_
  rintro e w' ⟨rfl, rfl⟩
  go_wp2_with fail
  go_ret
  exact ⟨rfl, rfl⟩
theorem rDeficit_out (w : World) (h : DAt w q b s) (i : Int) (ho : i < 0 ∨ (s.lines.length : Int) ≤ i) :
    Calls Try.prog 48 #[.pointer (some ⟨q, 0, none⟩), .int .i64 i] w fun e w' => e = .returned (.int .i64 0) ∧ w = w' := by
  have hi := ris_any w h i
  rw [decide_eq_false (by omega)] at hi
  clear ho h
  go_enter Try.func48, Try.ntmps48
  go_wp2_with fail
  refine hi.mono ?_
  rintro e w' ⟨rfl, rfl⟩
  go_wp2_with fail
  go_ret
  exact ⟨rfl, rfl⟩
theorem rDeficit_nil (w : World) (i : Int) : Calls Try.prog 48 #[.pointer none, .int .i64 i] w fun e w' => e = .returned (.int .i64 0) ∧ w = w' := by
  go_enter Try.func48, Try.ntmps48
  go_wp2_with fail
  refine (ris_nil w i).mono ?_
  rintro e w' ⟨rfl, rfl⟩
  go_wp2_with fail
  go_ret
  exact ⟨rfl, rfl⟩
theorem Begin_ok (w : World) (h : DAt w q b s) (h0 : s.at_ = -1) :
    Calls Try.prog 69 #[.pointer (some ⟨q, 0, none⟩)] w fun e w' => e = .returned (.bool true) ∧ DAt w' q b { s with at_ := 0, vis := false } ∧ Fr (fun x => x = q) w w' := by
  have hbl := h.bl
  have H := hide h
  unfold dcells at hbl
  rw [h0] at hbl
  have c6 : w.cell? ⟨q, 6, none⟩ = some (.int .i64 (-1)) := hbl.cell' rfl
  have z := hbl.free
  have z6 := hbl.free 6
  have z7 := hbl.free 7
  have c7 : w.cell? ⟨q, 7, none⟩ = some (.bool s.vis) := hbl.cell' rfl
  have hF : Fr (fun x => x = q) w ((w.setCell ⟨q, 6, none⟩ (.int .i64 0)).setCell ⟨q, 7, none⟩ (.bool false)) := ((Fr.refl _ _).setAt _).setAt _
  have hO := hide (And.intro (H.out.mark 0 false (by have := (hbl.set 6 (.int .i64 0)).set 7 (.bool false); simpa [dcells] using this) hF) hF)
  clear hbl h h0 z hF
  go_enter Try.func69, Try.ntmps69
  go_wp2_with fail
  go_ret
  exact ⟨rfl, hO.out.1, hO.out.2⟩
theorem Begin_nil (w : World) : Calls Try.prog 69 #[.pointer none] w fun e w' => e = .returned (.bool false) ∧ w = w' := by
  go_enter Try.func69, Try.ntmps69
  go_wp2_with fail
  go_ret
  exact ⟨rfl, rfl⟩
theorem End_any (w : World) (h : DAt w q b s) :
    Calls Try.prog 74 #[.pointer (some ⟨q, 0, none⟩)] w fun e w' => e = .returned (.tuple #[]) ∧ DAt w' q b { s with at_ := -1 } ∧ Fr (fun x => x = q) w w' := by
  have hbl := h.bl
  have H := hide h
  unfold dcells at hbl
  have c6 : w.cell? ⟨q, 6, none⟩ = some (.int .i64 s.at_) := hbl.cell' rfl
  have z6 := hbl.free 6
  have hF : Fr (fun x => x = q) w (w.setCell ⟨q, 6, none⟩ (.int .i64 (-1))) := (Fr.refl _ _).setAt _
  have hO := hide (And.intro (H.out.mark (-1) s.vis (by have := hbl.set 6 (.int .i64 (-1)); simpa [dcells] using this) hF) hF)
  clear hbl h hF
  go_enter Try.func74, Try.ntmps74
  go_wp2_with fail
  refine bodyPost_end (results_none rfl _ _ _) rfl ?_
  exact ⟨rfl, hO.out.1, hO.out.2⟩
end
end Go.Proofs.Ytanfhmebjgmdpaa
end

section
/-
  append by Ow at a step of a region that draws its order.
-/
namespace Go.Proofs.Ytanfhmebjgmdpaa
open Go.RowKit
set_option linter.unusedVariables false
section
variable {P : Program} (w : World)
theorem wp_append_ow {o : Oper} {a : Act} {K : Act → World → Prop} {Q : Exit → Act → World → Prop} (s x : Operand) (t : TypeId)
    (ho : o.op = .call { callee := .builtin .append, args := #[s, x], argTypes := #[t, t] })
    (e : TypeId) (i : TypeInfo) (z : Value) (size bytes : Nat) (ht : P.underlying t = some (.slice e)) (hi : P.info? e = some i) (hz : i.zero = some z)
    (hsize : i.size = size) (hby : i.bytes = bytes) (hzs : z.cells.size = size) (hsz : 0 < size)
    (A : Option Addr) (n c : Nat) (xs : List Value) (g : Option Nat) (hs : a.eval s = .slice A n c) (hown : Ow w e size A n c xs g)
    (A' : Option Addr) (m c' : Nat) (news : List Value) (hx : a.eval x = .slice A' m c') (hsrc : Sl w size A' m news) (h1 : ∀ u ∈ news, u.oneCell' = true)
    (h63 : n + m ≤ maxLen) (hbytes : (n + m) * bytes ≤ 140737488355328)
    (h : ∀ A2 c2 w2 g2, Ow w2 e size A2 (n + m) c2 (xs ++ news) g2 → Fr (fun k => some k = g) w w2 → (g2 = g ∨ ∃ b, g2 = some b ∧ w.heap.size ≤ b) → K (a.put o.dst (.slice A2 (n + m) c2)) w2) : o.wp P a w K Q := by
  obtain ⟨A2, c2, w2, g2, hrun, h2, h3, h4⟩ := run_append_ow (P := P) w t o.type e i z size bytes ht hi hz hsize hby hzs hsz A n c xs g hown A' m c' news hsrc h1 h63 hbytes
  unfold Oper.wp execOp
  simp only [ho, resolve, invoke, builtin, Sem.run_bind, Sem.run_pure, Result.andThen_ok, List.map_toArray, List.map_cons, List.map_nil, hs, hx, hrun]
  exact h A2 c2 w2 g2 h2 h3 h4
theorem step_append_ow {ops : Array Oper} {o : Oper} {a : Act} {K : Act → World → Prop} {Q : Exit → Act → World → Prop} {E : Prop} (hgd : o.guard = none) (s x : Operand) (t : TypeId)
    (ho : o.op = .call { callee := .builtin .append, args := #[s, x], argTypes := #[t, t] })
    (e : TypeId) (i : TypeInfo) (z : Value) (size bytes : Nat) (ht : P.underlying t = some (.slice e)) (hi : P.info? e = some i) (hz : i.zero = some z)
    (hsize : i.size = size) (hby : i.bytes = bytes) (hzs : z.cells.size = size) (hsz : 0 < size)
    (A : Option Addr) (n c : Nat) (xs : List Value) (g : Option Nat) (hs : a.eval s = .slice A n c) (hown : Ow w e size A n c xs g)
    (A' : Option Addr) (m c' : Nat) (news : List Value) (hx : a.eval x = .slice A' m c') (hsrc : Sl w size A' m news) (h1 : ∀ u ∈ news, u.oneCell' = true)
    (h63 : n + m ≤ maxLen) (hbytes : (n + m) * bytes ≤ 140737488355328)
    (h : ∀ A2 c2 w2 g2, Ow w2 e size A2 (n + m) c2 (xs ++ news) g2 → Fr (fun k => some k = g) w w2 → (g2 = g ∨ ∃ b, g2 = some b ∧ w.heap.size ≤ b) → K (a.put o.dst (.slice A2 (n + m) c2)) w2) :
    if Region.wanted o (yielded ops a.tmps) = true then Oper.wp P o a w K Q else E := by
  have hw : Region.wanted o (yielded ops a.tmps) = true := by simp [Region.wanted, hgd]
  rw [if_pos hw]
  exact wp_append_ow w s x t ho e i z size bytes ht hi hz hsize hby hzs hsz A n c xs g hs hown A' m c' news hx hsrc h1 h63 hbytes h
end
end Go.Proofs.Ytanfhmebjgmdpaa
end
