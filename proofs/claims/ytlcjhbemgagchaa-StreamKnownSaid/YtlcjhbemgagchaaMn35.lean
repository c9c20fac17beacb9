/-
  Texts merged into one, to keep the claim small: Su3, Su4.
-/
import Derived.Test.YtlcjhbemgagchaaMn32
import Derived.Test.YtlcjhbemgagchaaMc20
import Derived.Test.YtlcjhbemgagchaaMc34
section
/-
  stream: New, length, body, Waiting, Deaf. (printed by pr_su3.py)
-/
namespace Go.Proofs.Ytlcjhbemgagchaa
open Go.RowKit
set_option linter.unusedVariables false
attribute [local go_sem ↓] storeP_ storeC_ loadP_ loadC_
theorem run_store_fn (P : Program) (w : World) (a : Addr) (f : Fn) (x y : Array Value) (m : Mode) : (store a (.func f x y) m).run P w = match w.cell? a with
      | some _ => if w.frozen? a then .halt (.unsupported (.unsafePointer "a write to bytes that a string shares")) w else .ok () (w.setCell a (.func f x y))
      | none => match w.farStore P a (.func f x y) (m == .atomic) with
        | .ok (w', _) => .ok () w'
        | .error h => .halt h w := run_store P w a _ m rfl
theorem run_store_nf (P : Program) (w : World) (a : Addr) (m : Mode) : (store a .nilFunc m).run P w = match w.cell? a with
      | some _ => if w.frozen? a then .halt (.unsupported (.unsafePointer "a write to bytes that a string shares")) w else .ok () (w.setCell a .nilFunc)
      | none => match w.farStore P a .nilFunc (m == .atomic) with
        | .ok (w', _) => .ok () w'
        | .error h => .halt h w := run_store P w a _ m rfl
attribute [local go_sem] run_store_fn run_store_nf
/-- A stream's cells. -/
def StB (w : World) (p : Nat) (SL : Value) (want taken : Nat) (f : Value) (deaf : Bool) : Prop := Bl w p tStm #[SL, .int .i64 (want : Int), .int .i64 (taken : Int), f, .bool deaf]
theorem StB.fr {w w' : World} {p : Nat} {SL : Value} {want taken : Nat} {f : Value} {deaf : Bool} {S : Nat → Prop} (h : StB w p SL want taken f deaf) (hf : Fr S w w') (h1 : ¬ S p) : StB w' p SL want taken f deaf := Bl.fr h hf h1
def fnL (p : Nat) : Value := .func (.func 52) #[.pointer (some ⟨p, 0, none⟩)] #[]
def fnB (p : Nat) : Value := .func (.func 100) #[.pointer (some ⟨p, 0, none⟩)] #[]
set_option maxHeartbeats 1000000 in
set_option maxRecDepth 4000 in
theorem newS_any (w : World) : Calls Try.prog 24 #[] w fun e w' => e = .returned (.pointer (some ⟨w.heap.size, 0, none⟩)) ∧ StAt w' w.heap.size [] 3 0 (fnL w.heap.size) false none 0 none ∧ Fr (fun _ => False) w w' := by
  have hB := Bl.new w tStm #[.slice none 0 0, .int .i64 3, .int .i64 0, .nilFunc, .bool false]
  have c3 := hB.cell' (i := 3) rfl
  have z3 := hB.free 3
  go_enter Try.func24, Try.ntmps24
  go_wp2_with fail
  go_ret
  exact ⟨rfl, ⟨Bl.new _ _ _, Ow.nil_ _ _ _⟩, (Fr.refl _ _).alloc _⟩
set_option maxHeartbeats 1000000 in
set_option maxRecDepth 8000 in
theorem length_any (w : World) (p : Nat) (SL : Value) (want taken : Nat) (h : StB w p SL want taken (fnL p) false)
    (bs : List Nat) (A : Option Addr) (n c : Nat) (h3 : 3 ≤ n) (hA : Sl w 1 A n (bs.map bn)) (hb : ∀ x ∈ bs, x < 256) :
    Calls Try.prog 52 #[.pointer (some ⟨p, 0, none⟩), .slice A n c] w fun e w' =>
      (512 < longS bs ∧ e = .returned (.tuple #[.agg (pcells PC.no).toArray, .bool true]) ∧ StB w' p SL want taken .nilFunc true ∧ Fr (fun x => x = p) w w') ∨
      (longS bs ≤ 512 ∧ e = .returned (.tuple #[.agg (pcells ⟨zeroC, 0⟩).toArray, .bool false]) ∧ StB w' p SL (longS bs) 3 (fnB p) false ∧ Fr (fun x => x = p) w w') := by
  have hal : Fr (fun _ => False) w (w.alloc (.cells #[.int .i64 0, .int .i64 0, .string ⟨#[]⟩, .int .i64 0, .int .u64 0, .int .i64 0, .int .i64 0, .int .i64 0, .int .i64 0, .int .i64 0, .int .u64 0, .int .u64 0, .slice none 0 0, .int .i64 0, .int .i64 0, .int .i64 0, .int .i64 0, .int .i64 0, .int .i64 0, .int .u64 0, .int .u64 0, .int .u64 0, .int .i64 0, .slice none 0 0, .int .i64 0] tPc)) := (Fr.refl _ _).alloc _
  have hlg := long_any (w.alloc (.cells #[.int .i64 0, .int .i64 0, .string ⟨#[]⟩, .int .i64 0, .int .u64 0, .int .i64 0, .int .i64 0, .int .i64 0, .int .i64 0, .int .i64 0, .int .u64 0, .int .u64 0, .slice none 0 0, .int .i64 0, .int .i64 0, .int .i64 0, .int .i64 0, .int .i64 0, .int .i64 0, .int .u64 0, .int .u64 0, .int .u64 0, .int .i64 0, .slice none 0 0, .int .i64 0] tPc)) bs A n c h3 (hA.below hal (fun _ _ => id)) hb
  have hS := h.fr hal id
  have hpl : p < w.heap.size := Bl.lt h
  have hP := Bl.new w tPc #[.int .i64 0, .int .i64 0, .string ⟨#[]⟩, .int .i64 0, .int .u64 0, .int .i64 0, .int .i64 0, .int .i64 0, .int .i64 0, .int .i64 0, .int .u64 0, .int .u64 0, .slice none 0 0, .int .i64 0, .int .i64 0, .int .i64 0, .int .i64 0, .int .i64 0, .int .i64 0, .int .u64 0, .int .u64 0, .int .u64 0, .int .i64 0, .slice none 0 0, .int .i64 0]
  obtain ⟨L, hL⟩ : ∃ L, longS bs = L := ⟨_, rfl⟩
  rw [hL] at hlg ⊢
  have H := hide (And.intro hS (And.intro hP hal))
  clear hA hb h hL hS hP hal
  obtain ⟨w0, hw0⟩ : ∃ w0, w.alloc (.cells #[.int .i64 0, .int .i64 0, .string ⟨#[]⟩, .int .i64 0, .int .u64 0, .int .i64 0, .int .i64 0, .int .i64 0, .int .i64 0, .int .i64 0, .int .u64 0, .int .u64 0, .slice none 0 0, .int .i64 0, .int .i64 0, .int .i64 0, .int .i64 0, .int .i64 0, .int .i64 0, .int .u64 0, .int .u64 0, .int .u64 0, .int .i64 0, .slice none 0 0, .int .i64 0] tPc) = w0 := ⟨_, rfl⟩
  rw [hw0] at hlg H
  go_enter Try.func52, Try.ntmps52
  go_wp2_with fail
  (try rw [show w.alloc (.cells #[.int .i64 0, .int .i64 0, .string ⟨#[]⟩, .int .i64 0, .int .u64 0, .int .i64 0, .int .i64 0, .int .i64 0, .int .i64 0, .int .i64 0, .int .u64 0, .int .u64 0, .slice none 0 0, .int .i64 0, .int .i64 0, .int .i64 0, .int .i64 0, .int .i64 0, .int .i64 0, .int .u64 0, .int .u64 0, .int .u64 0, .int .i64 0, .slice none 0 0, .int .i64 0] 79) = w0 from hw0])
  clear hw0
  refine hlg.mono ?_
  rintro e w' ⟨rfl, m, rfl⟩
  obtain ⟨hS, hP, hal⟩ := H.out
  have hf1 : Fr (fun _ => False) w0 (w0.drewN m) := (Fr.refl _ _).drewN m
  obtain ⟨w1, hw1⟩ : ∃ w1, w0.drewN m = w1 := ⟨_, rfl⟩
  rw [hw1] at hf1 ⊢
  have hS1 := hS.fr hf1 id
  have hP1 := hP.fr hf1 id
  have hF1 := hal.trans hf1
  clear hw1 hlg hS hP hal hf1 H
  by_cases hc : 512 < L
  · have b1 : (512 : Int) < (L : Int) := by omega
    have hb3 := (Bl.set hS1 3 .nilFunc).set 4 (.bool true)
    have hF3 : Fr (fun x => x = p) w1 ((w1.setCell ⟨p, 3, none⟩ .nilFunc).setCell ⟨p, 4, none⟩ (.bool true)) := ((Fr.refl _ _).setAt _).setAt _
    have hP3 := hP1.fr hF3 (by omega)
    have kp : In.storeIn Try.prog 79 (.pointer (some ⟨w.heap.size, 0, none⟩)) (.agg #[.int .i64 0, .int .i64 0, .string ⟨#[]⟩, .int .i64 0, .int .u64 0, .int .i64 0, .int .i64 0, .int .i64 0, .int .i64 0, .int .i64 0, .int .u64 0, .int .u64 0, .slice none 0 0, .int .i64 0, .int .i64 0, .int .i64 0, .int .i64 0, .int .i64 0, .int .i64 0, .int .u64 0, .int .u64 0, .int .u64 0, .int .i64 0, .slice none 0 0, .int .i64 290]) ((w1.setCell ⟨p, 3, none⟩ .nilFunc).setCell ⟨p, 4, none⟩ (.bool true)) = .ok () (((w1.setCell ⟨p, 3, none⟩ .nilFunc).setCell ⟨p, 4, none⟩ (.bool true)).setRow w.heap.size #[.int .i64 0, .int .i64 0, .string ⟨#[]⟩, .int .i64 0, .int .u64 0, .int .i64 0, .int .i64 0, .int .i64 0, .int .i64 0, .int .i64 0, .int .u64 0, .int .u64 0, .slice none 0 0, .int .i64 0, .int .i64 0, .int .i64 0, .int .i64 0, .int .i64 0, .int .i64 0, .int .u64 0, .int .u64 0, .int .u64 0, .int .i64 0, .slice none 0 0, .int .i64 290]) := putP hP3 rfl PC.no
    have c3 := Bl.cell' hS1 (i := 3) rfl
    have c4 := Bl.cell' hS1 (i := 4) rfl
    have z3 := Bl.free hS1 3
    have z4 := Bl.free hS1 4
    have HX := hide (And.intro hS1 (And.intro hb3 (And.intro hF3 (And.intro hP3 hF1))))
    clear hS1 hb3 hF3 hP3 hF1 hP1
    go_wp2_with fail
    obtain ⟨hS1, hb3, hF3, hP3, hF1⟩ := HX.out
    have hF4 : Fr (fun x => x = w.heap.size) ((w1.setCell ⟨p, 3, none⟩ .nilFunc).setCell ⟨p, 4, none⟩ (.bool true)) (((w1.setCell ⟨p, 3, none⟩ .nilFunc).setCell ⟨p, 4, none⟩ (.bool true)).setRow w.heap.size #[.int .i64 0, .int .i64 0, .string ⟨#[]⟩, .int .i64 0, .int .u64 0, .int .i64 0, .int .i64 0, .int .i64 0, .int .i64 0, .int .i64 0, .int .u64 0, .int .u64 0, .slice none 0 0, .int .i64 0, .int .i64 0, .int .i64 0, .int .i64 0, .int .i64 0, .int .i64 0, .int .u64 0, .int .u64 0, .int .u64 0, .int .i64 0, .slice none 0 0, .int .i64 290]) := Fr.row _
    refine bodyPost_ret (In.results_row_tmp rfl _ _ w.heap.size tPc #[.int .i64 0, .int .i64 0, .string ⟨#[]⟩, .int .i64 0, .int .u64 0, .int .i64 0, .int .i64 0, .int .i64 0, .int .i64 0, .int .i64 0, .int .u64 0, .int .u64 0, .slice none 0 0, .int .i64 0, .int .i64 0, .int .i64 0, .int .i64 0, .int .i64 0, .int .i64 0, .int .u64 0, .int .u64 0, .int .u64 0, .int .i64 0, .slice none 0 0, .int .i64 290] (0, 0) _ rfl (hP3.setRow #[.int .i64 0, .int .i64 0, .string ⟨#[]⟩, .int .i64 0, .int .u64 0, .int .i64 0, .int .i64 0, .int .i64 0, .int .i64 0, .int .i64 0, .int .u64 0, .int .u64 0, .slice none 0 0, .int .i64 0, .int .i64 0, .int .i64 0, .int .i64 0, .int .i64 0, .int .i64 0, .int .u64 0, .int .u64 0, .int .u64 0, .int .i64 0, .slice none 0 0, .int .i64 290]) Try.underlying79 rfl infoPc) rfl ?_
    refine .inl ⟨hc, rfl, hb3.fr hF4 (by omega), ((hF1.weak _).trans hF3).comp hF4 fun i hi e => by omega⟩
  · have b1 : ¬ (512 : Int) < (L : Int) := by omega
    have hb3 := ((Bl.set hS1 1 (.int .i64 (L : Int))).set 2 (.int .i64 3)).set 3 (fnB p)
    have hF3 : Fr (fun x => x = p) w1 (((w1.setCell ⟨p, 1, none⟩ (.int .i64 (L : Int))).setCell ⟨p, 2, none⟩ (.int .i64 3)).setCell ⟨p, 3, none⟩ (.func (.func 100) #[.pointer (some ⟨p, 0, none⟩)] #[])) := (((Fr.refl _ _).setAt _).setAt _).setAt _
    have hP3 := hP1.fr hF3 (by omega)
    have kp : In.storeIn Try.prog 79 (.pointer (some ⟨w.heap.size, 0, none⟩)) (.agg #[.int .i64 0, .int .i64 0, .string ⟨#[]⟩, .int .i64 0, .int .u64 0, .int .i64 0, .int .i64 0, .int .i64 0, .int .i64 0, .int .i64 0, .int .u64 0, .int .u64 0, .slice none 0 0, .int .i64 0, .int .i64 0, .int .i64 0, .int .i64 0, .int .i64 0, .int .i64 0, .int .u64 0, .int .u64 0, .int .u64 0, .int .i64 0, .slice none 0 0, .int .i64 0]) (((w1.setCell ⟨p, 1, none⟩ (.int .i64 (L : Int))).setCell ⟨p, 2, none⟩ (.int .i64 3)).setCell ⟨p, 3, none⟩ (.func (.func 100) #[.pointer (some ⟨p, 0, none⟩)] #[])) = .ok () ((((w1.setCell ⟨p, 1, none⟩ (.int .i64 (L : Int))).setCell ⟨p, 2, none⟩ (.int .i64 3)).setCell ⟨p, 3, none⟩ (.func (.func 100) #[.pointer (some ⟨p, 0, none⟩)] #[])).setRow w.heap.size #[.int .i64 0, .int .i64 0, .string ⟨#[]⟩, .int .i64 0, .int .u64 0, .int .i64 0, .int .i64 0, .int .i64 0, .int .i64 0, .int .i64 0, .int .u64 0, .int .u64 0, .slice none 0 0, .int .i64 0, .int .i64 0, .int .i64 0, .int .i64 0, .int .i64 0, .int .i64 0, .int .u64 0, .int .u64 0, .int .u64 0, .int .i64 0, .slice none 0 0, .int .i64 0]) := putP hP3 rfl ⟨zeroC, 0⟩
    have c1 := Bl.cell' hS1 (i := 1) rfl
    have c2 := Bl.cell' hS1 (i := 2) rfl
    have c3 := Bl.cell' hS1 (i := 3) rfl
    have z1 := Bl.free hS1 1
    have z2 := Bl.free hS1 2
    have z3 := Bl.free hS1 3
    have HX := hide (And.intro hS1 (And.intro hb3 (And.intro hF3 (And.intro hP3 hF1))))
    clear hS1 hb3 hF3 hP3 hF1 hP1
    go_wp2_with fail
    obtain ⟨hS1, hb3, hF3, hP3, hF1⟩ := HX.out
    have hF4 := Fr.row (w := ((w1.setCell ⟨p, 1, none⟩ (.int .i64 (L : Int))).setCell ⟨p, 2, none⟩ (.int .i64 3)).setCell ⟨p, 3, none⟩ (.func (.func 100) #[.pointer (some ⟨p, 0, none⟩)] #[])) (g := w.heap.size) #[.int .i64 0, .int .i64 0, .string ⟨#[]⟩, .int .i64 0, .int .u64 0, .int .i64 0, .int .i64 0, .int .i64 0, .int .i64 0, .int .i64 0, .int .u64 0, .int .u64 0, .slice none 0 0, .int .i64 0, .int .i64 0, .int .i64 0, .int .i64 0, .int .i64 0, .int .i64 0, .int .u64 0, .int .u64 0, .int .u64 0, .int .i64 0, .slice none 0 0, .int .i64 0]
    refine bodyPost_ret (In.results_row_tmp rfl _ _ w.heap.size tPc #[.int .i64 0, .int .i64 0, .string ⟨#[]⟩, .int .i64 0, .int .u64 0, .int .i64 0, .int .i64 0, .int .i64 0, .int .i64 0, .int .i64 0, .int .u64 0, .int .u64 0, .slice none 0 0, .int .i64 0, .int .i64 0, .int .i64 0, .int .i64 0, .int .i64 0, .int .i64 0, .int .u64 0, .int .u64 0, .int .u64 0, .int .i64 0, .slice none 0 0, .int .i64 0] (0, 0) _ rfl (hP3.setRow #[.int .i64 0, .int .i64 0, .string ⟨#[]⟩, .int .i64 0, .int .u64 0, .int .i64 0, .int .i64 0, .int .i64 0, .int .i64 0, .int .i64 0, .int .u64 0, .int .u64 0, .slice none 0 0, .int .i64 0, .int .i64 0, .int .i64 0, .int .i64 0, .int .i64 0, .int .i64 0, .int .u64 0, .int .u64 0, .int .u64 0, .int .i64 0, .slice none 0 0, .int .i64 0]) Try.underlying79 rfl infoPc) rfl ?_
    refine .inr ⟨by omega, rfl, hb3.fr hF4 (by omega), ((hF1.weak _).trans hF3).comp hF4 fun i hi e => by omega⟩
/-- Decode of any bytes. -/
theorem Decode_any (w : World) (bs : List Nat) (A : Option Addr) (n c : Nat) (hl : n = bs.length) (hn : n ≤ 140737488355000) (h256 : ∀ x ∈ bs, x < 256) (hS : Sl w 1 A n (bs.map bn)) : Calls Try.prog 132 #[.slice A n c] w (DecPost bs w) :=
  Decode_of w bs A n c hl hn h256 hS fun w1 q hq => command_any w1 q hq
/-- Decode's answer: the command, in memory of its own; or nothing. -/
def DecN (bs : List Nat) (w : World) (e : Ending) (w' : World) : Prop := ∃ (q : KC) (er : Nat), e = .returned (.tuple #[.agg #[.int .i64 q.id, .int .i64 q.kind, .string (strOf q.name), .int .i64 q.to_, .int .u64 (q.co : Int), .int .i64 q.item, .int .i64 q.num, .int .i64 q.of_, .int .i64 q.e.acc, .int .i64 q.e.item, .int .u64 (q.e.co : Int), .int .u64 (q.e.pr : Int), .slice q.e.A q.e.n q.e.c, .int .i64 q.k.num, .int .i64 q.k.kind, .int .i64 q.k.by_, .int .i64 q.k.dl, .int .i64 q.k.to_, .int .i64 q.k.want, .int .u64 (q.k.pr : Int), .int .u64 (q.k.rs : Int), .int .u64 (q.k.st : Int), .int .i64 q.k.of_, .slice q.k.A q.k.n q.k.c], .int .i64 (er : Int)]) ∧ Hid (KVer bs q (er : Int)) ∧ Hid (KOwn w w' q) ∧ Fr (fun _ => False) w w'
theorem DecPost.n {bs : List Nat} {w w' : World} {e : Ending} (h : DecPost bs w e w') : DecN bs w e w' := by
  rcases h with ⟨h1, rfl, hf⟩ | ⟨h1, h2, rfl, hf⟩ | ⟨h1, c, h2, rfl, h3, hf⟩
  · exact ⟨zeroC, 3, rfl, .inl ⟨h1, rfl, rfl⟩, zeroC_own _ _, hf⟩
  · exact ⟨zeroC, 270, rfl, .inr (.inl ⟨h1, h2, rfl, rfl⟩), zeroC_own _ _, hf⟩
  · exact ⟨c, 0, rfl, .inr (.inr ⟨h1, rfl, h2⟩), h3, hf⟩
set_option maxHeartbeats 2000000 in
set_option maxRecDepth 8000 in
theorem body_any (w : World) (p : Nat) (SL : Value) (want taken : Nat) (h : StB w p SL want taken (fnB p) false)
    (bs : List Nat) (A : Option Addr) (n c : Nat) (hn : n = bs.length) (hn5 : n ≤ 512) (hA : Sl w 1 A n (bs.map bn)) (hap : ∀ b o, A = some ⟨b, o, none⟩ → b ≠ p) (hb : ∀ x ∈ bs, x < 256) :
    Calls Try.prog 100 #[.pointer (some ⟨p, 0, none⟩), .slice A n c] w fun e w' => ∃ (P : PC) (q : KC) (er : Int), KVer bs q er ∧ ((er ≠ 0 ∧ P = PC.no) ∨ (er = 0 ∧ P = ⟨q, 0⟩)) ∧
      e = .returned (.tuple #[.agg (pcells P).toArray, .bool true]) ∧ StB w' p SL 3 0 (fnL p) false ∧ KOwn w w' P.c ∧ Fr (fun x => x = p) w w' := by
  have hpl : p < w.heap.size := Bl.lt h
  obtain ⟨w0, hw0⟩ : ∃ w0, w.alloc (.cells #[.int .i64 0, .int .i64 0, .string ⟨#[]⟩, .int .i64 0, .int .u64 0, .int .i64 0, .int .i64 0, .int .i64 0, .int .i64 0, .int .i64 0, .int .u64 0, .int .u64 0, .slice none 0 0, .int .i64 0, .int .i64 0, .int .i64 0, .int .i64 0, .int .i64 0, .int .i64 0, .int .u64 0, .int .u64 0, .int .u64 0, .int .i64 0, .slice none 0 0, .int .i64 0] tPc) = w0 := ⟨_, rfl⟩
  have hF0 : Fr (fun _ => False) w w0 := by rw [← hw0]; exact (Fr.refl _ _).alloc _
  have hP0 : Bl w0 w.heap.size tPc #[.int .i64 0, .int .i64 0, .string ⟨#[]⟩, .int .i64 0, .int .u64 0, .int .i64 0, .int .i64 0, .int .i64 0, .int .i64 0, .int .i64 0, .int .u64 0, .int .u64 0, .slice none 0 0, .int .i64 0, .int .i64 0, .int .i64 0, .int .i64 0, .int .i64 0, .int .i64 0, .int .u64 0, .int .u64 0, .int .u64 0, .int .i64 0, .slice none 0 0, .int .i64 0] := by rw [← hw0]; exact Bl.new _ _ _
  have hS0 := h.fr hF0 id
  have hA0 := hA.below hF0 (fun _ _ => id)
  have c1 := Bl.cell' hS0 (i := 1) rfl
  have c2 := Bl.cell' hS0 (i := 2) rfl
  have c3 := Bl.cell' hS0 (i := 3) rfl
  have z1 := Bl.free hS0 1
  have z2 := Bl.free hS0 2
  have z3 := Bl.free hS0 3
  obtain ⟨w1, hw1⟩ : ∃ w1, ((w0.setCell ⟨p, 1, none⟩ (.int .i64 3)).setCell ⟨p, 2, none⟩ (.int .i64 0)).setCell ⟨p, 3, none⟩ (.func (.func 52) #[.pointer (some ⟨p, 0, none⟩)] #[]) = w1 := ⟨_, rfl⟩
  have hF1 : Fr (fun x => x = p) w0 w1 := by rw [← hw1]; exact (((Fr.refl _ _).setAt _).setAt _).setAt _
  have hS1 : StB w1 p SL 3 0 (fnL p) false := by rw [← hw1]; exact ((Bl.set hS0 1 (.int .i64 3)).set 2 (.int .i64 0)).set 3 (fnL p)
  have hP1 := hP0.fr hF1 (by omega)
  have hA1 := hA0.fr (B := 0) hF1 (fun b ⟨o, e⟩ _ => hap b o e)
  have hdec := Decode_any w1 bs A n c hn (by omega) hb hA1
  have H := hide (And.intro hS1 (And.intro hP1 (And.intro hF0 hF1)))
  clear hA hA0 hA1 hb h hn hap hP0 hS0 hS1 hP1 hF0 hF1
  go_enter Try.func100, Try.ntmps100
  go_wp2_with fail
  (try rw [show w.alloc (.cells #[.int .i64 0, .int .i64 0, .string ⟨#[]⟩, .int .i64 0, .int .u64 0, .int .i64 0, .int .i64 0, .int .i64 0, .int .i64 0, .int .i64 0, .int .u64 0, .int .u64 0, .slice none 0 0, .int .i64 0, .int .i64 0, .int .i64 0, .int .i64 0, .int .i64 0, .int .i64 0, .int .u64 0, .int .u64 0, .int .u64 0, .int .i64 0, .slice none 0 0, .int .i64 0] 79) = w0 from hw0])
  clear hw0
  go_wp2_with fail
  (try rw [hw1])
  clear hw1 c1 c2 c3 z1 z2 z3
  refine hdec.mono ?_
  intro v w2 hp
  obtain ⟨q, er, rfl, hV, hQ, hf2⟩ := hp.n
  clear hp hdec
  obtain ⟨w3, hw3⟩ : ∃ w3, (w2.alloc (.cells #[.int .i64 0, .int .i64 0, .string ⟨#[]⟩, .int .i64 0, .int .u64 0, .int .i64 0, .int .i64 0, .int .i64 0, .int .i64 0, .int .i64 0, .int .u64 0, .int .u64 0, .slice none 0 0, .int .i64 0, .int .i64 0, .int .i64 0, .int .i64 0, .int .i64 0, .int .i64 0, .int .u64 0, .int .u64 0, .int .u64 0, .int .i64 0, .slice none 0 0] tCm)).setRow w2.heap.size (ccells q).toArray = w3 := ⟨_, rfl⟩
  have kc : In.storeIn Try.prog 31 (.pointer (some ⟨w2.heap.size, 0, none⟩)) (.agg #[.int .i64 q.id, .int .i64 q.kind, .string (strOf q.name), .int .i64 q.to_, .int .u64 (q.co : Int), .int .i64 q.item, .int .i64 q.num, .int .i64 q.of_, .int .i64 q.e.acc, .int .i64 q.e.item, .int .u64 (q.e.co : Int), .int .u64 (q.e.pr : Int), .slice q.e.A q.e.n q.e.c, .int .i64 q.k.num, .int .i64 q.k.kind, .int .i64 q.k.by_, .int .i64 q.k.dl, .int .i64 q.k.to_, .int .i64 q.k.want, .int .u64 (q.k.pr : Int), .int .u64 (q.k.rs : Int), .int .u64 (q.k.st : Int), .int .i64 q.k.of_, .slice q.k.A q.k.n q.k.c]) (w2.alloc (.cells #[.int .i64 0, .int .i64 0, .string ⟨#[]⟩, .int .i64 0, .int .u64 0, .int .i64 0, .int .i64 0, .int .i64 0, .int .i64 0, .int .i64 0, .int .u64 0, .int .u64 0, .slice none 0 0, .int .i64 0, .int .i64 0, .int .i64 0, .int .i64 0, .int .i64 0, .int .i64 0, .int .u64 0, .int .u64 0, .int .u64 0, .int .i64 0, .slice none 0 0] 31)) = .ok () w3 := by rw [← hw3]; exact putC (Bl.new w2 tCm #[.int .i64 0, .int .i64 0, .string ⟨#[]⟩, .int .i64 0, .int .u64 0, .int .i64 0, .int .i64 0, .int .i64 0, .int .i64 0, .int .i64 0, .int .u64 0, .int .u64 0, .slice none 0 0, .int .i64 0, .int .i64 0, .int .i64 0, .int .i64 0, .int .i64 0, .int .i64 0, .int .u64 0, .int .u64 0, .int .u64 0, .int .i64 0, .slice none 0 0]) rfl q
  have hC3 : Bl w3 w2.heap.size tCm (ccells q).toArray := by rw [← hw3]; exact (Bl.new w2 tCm #[.int .i64 0, .int .i64 0, .string ⟨#[]⟩, .int .i64 0, .int .u64 0, .int .i64 0, .int .i64 0, .int .i64 0, .int .i64 0, .int .i64 0, .int .u64 0, .int .u64 0, .slice none 0 0, .int .i64 0, .int .i64 0, .int .i64 0, .int .i64 0, .int .i64 0, .int .i64 0, .int .u64 0, .int .u64 0, .int .u64 0, .int .i64 0, .slice none 0 0]).setRow _
  have hF3 : Fr (fun _ => False) w2 w3 := by rw [← hw3]; exact Fr.setRow ((Fr.refl _ _).alloc _) (.inr (Nat.le_refl _)) _
  have lc : In.loadIn Try.prog 31 (.pointer (some ⟨w2.heap.size, 0, none⟩)) w3 = .ok (.agg #[.int .i64 q.id, .int .i64 q.kind, .string (strOf q.name), .int .i64 q.to_, .int .u64 (q.co : Int), .int .i64 q.item, .int .i64 q.num, .int .i64 q.of_, .int .i64 q.e.acc, .int .i64 q.e.item, .int .u64 (q.e.co : Int), .int .u64 (q.e.pr : Int), .slice q.e.A q.e.n q.e.c, .int .i64 q.k.num, .int .i64 q.k.kind, .int .i64 q.k.by_, .int .i64 q.k.dl, .int .i64 q.k.to_, .int .i64 q.k.want, .int .u64 (q.k.pr : Int), .int .u64 (q.k.rs : Int), .int .u64 (q.k.st : Int), .int .i64 q.k.of_, .slice q.k.A q.k.n q.k.c]) w3 := getC hC3
  obtain ⟨hS1, hP1, hF0, hF1⟩ := H.out
  have hF13 := hf2.trans hF3
  have hS3 := hS1.fr hF13 id
  have hP3 := hP1.fr hF13 id
  have hQ3 := hQ.out.quiet hF3
  have hw1s : w.heap.size ≤ w1.heap.size := Nat.le_trans hF0.size hF1.size
  have fin : ∀ (cs : Array Value), StB (w3.setRow w.heap.size cs) p SL 3 0 (fnL p) false ∧ Fr (fun x => x = p) w (w3.setRow w.heap.size cs) ∧ Fr (fun x => x = w.heap.size) w3 (w3.setRow w.heap.size cs) := fun cs => by
    have hF4 : Fr (fun x => x = w.heap.size) w3 (w3.setRow w.heap.size cs) := Fr.row _
    exact ⟨hS3.fr hF4 (by omega), (((hF0.weak _).trans hF1).trans (hF13.weak _)).comp hF4 fun i hi e => by omega, hF4⟩
  have FIN := hide fin
  by_cases her : er = 0
  · subst her
    have kp : In.storeIn Try.prog 79 (.pointer (some ⟨w.heap.size, 0, none⟩)) (.agg #[.int .i64 q.id, .int .i64 q.kind, .string (strOf q.name), .int .i64 q.to_, .int .u64 (q.co : Int), .int .i64 q.item, .int .i64 q.num, .int .i64 q.of_, .int .i64 q.e.acc, .int .i64 q.e.item, .int .u64 (q.e.co : Int), .int .u64 (q.e.pr : Int), .slice q.e.A q.e.n q.e.c, .int .i64 q.k.num, .int .i64 q.k.kind, .int .i64 q.k.by_, .int .i64 q.k.dl, .int .i64 q.k.to_, .int .i64 q.k.want, .int .u64 (q.k.pr : Int), .int .u64 (q.k.rs : Int), .int .u64 (q.k.st : Int), .int .i64 q.k.of_, .slice q.k.A q.k.n q.k.c, .int .i64 0]) w3 = .ok () (w3.setRow w.heap.size #[.int .i64 q.id, .int .i64 q.kind, .string (strOf q.name), .int .i64 q.to_, .int .u64 (q.co : Int), .int .i64 q.item, .int .i64 q.num, .int .i64 q.of_, .int .i64 q.e.acc, .int .i64 q.e.item, .int .u64 (q.e.co : Int), .int .u64 (q.e.pr : Int), .slice q.e.A q.e.n q.e.c, .int .i64 q.k.num, .int .i64 q.k.kind, .int .i64 q.k.by_, .int .i64 q.k.dl, .int .i64 q.k.to_, .int .i64 q.k.want, .int .u64 (q.k.pr : Int), .int .u64 (q.k.rs : Int), .int .u64 (q.k.st : Int), .int .i64 q.k.of_, .slice q.k.A q.k.n q.k.c, .int .i64 0]) := putP hP3 rfl ⟨q, 0⟩
    have HP3 := hide hP3
    have HQ3 := hide hQ3
    clear hS1 hP1 hF0 hF1 hF13 hS3 hP3 hQ3 fin hC3 hF3 hf2 hw3 H
    go_wp2_with fail
    refine bodyPost_ret (In.results_row_tmp rfl _ _ w.heap.size tPc #[.int .i64 q.id, .int .i64 q.kind, .string (strOf q.name), .int .i64 q.to_, .int .u64 (q.co : Int), .int .i64 q.item, .int .i64 q.num, .int .i64 q.of_, .int .i64 q.e.acc, .int .i64 q.e.item, .int .u64 (q.e.co : Int), .int .u64 (q.e.pr : Int), .slice q.e.A q.e.n q.e.c, .int .i64 q.k.num, .int .i64 q.k.kind, .int .i64 q.k.by_, .int .i64 q.k.dl, .int .i64 q.k.to_, .int .i64 q.k.want, .int .u64 (q.k.pr : Int), .int .u64 (q.k.rs : Int), .int .u64 (q.k.st : Int), .int .i64 q.k.of_, .slice q.k.A q.k.n q.k.c, .int .i64 0] (0, 0) _ rfl (HP3.out.setRow _) Try.underlying79 rfl infoPc) rfl ?_
    obtain ⟨f1, f2, f3⟩ := FIN.out #[.int .i64 q.id, .int .i64 q.kind, .string (strOf q.name), .int .i64 q.to_, .int .u64 (q.co : Int), .int .i64 q.item, .int .i64 q.num, .int .i64 q.of_, .int .i64 q.e.acc, .int .i64 q.e.item, .int .u64 (q.e.co : Int), .int .u64 (q.e.pr : Int), .slice q.e.A q.e.n q.e.c, .int .i64 q.k.num, .int .i64 q.k.kind, .int .i64 q.k.by_, .int .i64 q.k.dl, .int .i64 q.k.to_, .int .i64 q.k.want, .int .u64 (q.k.pr : Int), .int .u64 (q.k.rs : Int), .int .u64 (q.k.st : Int), .int .i64 q.k.of_, .slice q.k.A q.k.n q.k.c, .int .i64 0]
    refine ⟨⟨q, 0⟩, q, 0, hV.out, .inr ⟨rfl, rfl⟩, rfl, f1, ?_, f2⟩
    refine (HQ3.out.base hw1s).frt f3 (fun x hx e => ?_) (fun x hx e => ?_)
    · subst e; exact absurd (hx.same HP3.out.typed) (by decide)
    · subst e; exact absurd (hx.same HP3.out.typed) (by decide)
  · have b4 : ¬ (er : Int) = 0 := by omega
    have kp : In.storeIn Try.prog 79 (.pointer (some ⟨w.heap.size, 0, none⟩)) (.agg #[.int .i64 0, .int .i64 0, .string ⟨#[]⟩, .int .i64 0, .int .u64 0, .int .i64 0, .int .i64 0, .int .i64 0, .int .i64 0, .int .i64 0, .int .u64 0, .int .u64 0, .slice none 0 0, .int .i64 0, .int .i64 0, .int .i64 0, .int .i64 0, .int .i64 0, .int .i64 0, .int .u64 0, .int .u64 0, .int .u64 0, .int .i64 0, .slice none 0 0, .int .i64 290]) w3 = .ok () (w3.setRow w.heap.size #[.int .i64 0, .int .i64 0, .string ⟨#[]⟩, .int .i64 0, .int .u64 0, .int .i64 0, .int .i64 0, .int .i64 0, .int .i64 0, .int .i64 0, .int .u64 0, .int .u64 0, .slice none 0 0, .int .i64 0, .int .i64 0, .int .i64 0, .int .i64 0, .int .i64 0, .int .i64 0, .int .u64 0, .int .u64 0, .int .u64 0, .int .i64 0, .slice none 0 0, .int .i64 290]) := putP hP3 rfl PC.no
    have HP3 := hide hP3
    clear hS1 hP1 hF0 hF1 hF13 hS3 hP3 hQ3 fin hC3 hF3 hf2 hw3 H lc
    go_wp2_with fail
    refine bodyPost_ret (In.results_row_tmp rfl _ _ w.heap.size tPc #[.int .i64 0, .int .i64 0, .string ⟨#[]⟩, .int .i64 0, .int .u64 0, .int .i64 0, .int .i64 0, .int .i64 0, .int .i64 0, .int .i64 0, .int .u64 0, .int .u64 0, .slice none 0 0, .int .i64 0, .int .i64 0, .int .i64 0, .int .i64 0, .int .i64 0, .int .i64 0, .int .u64 0, .int .u64 0, .int .u64 0, .int .i64 0, .slice none 0 0, .int .i64 290] (0, 0) _ rfl (HP3.out.setRow _) Try.underlying79 rfl infoPc) rfl ?_
    obtain ⟨f1, f2, f3⟩ := FIN.out #[.int .i64 0, .int .i64 0, .string ⟨#[]⟩, .int .i64 0, .int .u64 0, .int .i64 0, .int .i64 0, .int .i64 0, .int .i64 0, .int .i64 0, .int .u64 0, .int .u64 0, .slice none 0 0, .int .i64 0, .int .i64 0, .int .i64 0, .int .i64 0, .int .i64 0, .int .i64 0, .int .u64 0, .int .u64 0, .int .u64 0, .int .i64 0, .slice none 0 0, .int .i64 290]
    exact ⟨PC.no, q, er, hV.out, .inl ⟨b4, rfl⟩, rfl, f1, zeroC_own _ _, f2⟩
end Go.Proofs.Ytlcjhbemgagchaa
end

section
/-
  stream: a stream's state (StM); Clone, Clip; slices of one's own, cut.
-/
namespace Go.Proofs.Ytlcjhbemgagchaa
open Go.RowKit
set_option linter.unusedVariables false
theorem Ow.tail {w : World} {e : TypeId} {n c b o : Nat} {xs : List Value} {g : Option Nat} (h : Ow w e 1 (some ⟨b, o, none⟩) n c xs g) {k : Nat} (hk : k ≤ n) : Ow w e 1 (some ⟨b, o + k, none⟩) (n - k) (c - k) (xs.drop k) g := by
  have hl := h.1
  rcases h.2 with ⟨h0, _⟩ | ⟨b', o', cur, hA, hg, hh, h1, h2, h3, h4⟩
  · cases h0
  · cases hA
    refine ⟨by simp; omega, .inr ⟨b, o + k, cur, rfl, hg, hh, by omega, by omega, by omega, fun j hj => ?_⟩⟩
    rw [List.getElem?_drop, Nat.add_assoc]
    exact h4 (k + j) (by omega)
theorem Ow.zero {w : World} {e : TypeId} {n c b o : Nat} {xs : List Value} {g : Option Nat} (h : Ow w e 1 (some ⟨b, o, none⟩) n c xs g) : Ow w e 1 (some ⟨b, o, none⟩) 0 0 [] g := by
  rcases h.2 with ⟨h0, _⟩ | ⟨b', o', cur, hA, hg, hh, h1, h2, h3, h4⟩
  · cases h0
  · cases hA
    exact ⟨rfl, .inr ⟨b, o, cur, rfl, hg, hh, by omega, Nat.le_refl _, by unfold maxLen; omega, fun j hj => by omega⟩⟩
/-- What a stream is, that was fed T, whose last whole frame ends at u. -/
structure StF (w : World) (p : Nat) (T : List Nat) (u : Nat) (d : Bool) (sg : Option Nat) (ln : List Nat) (want taken : Nat) (f : Value) (SA : Option Addr) (sc : Nat) : Prop where
  bl : StB w p (.slice SA ln.length sc) want taken f d
  ow : Ow w 5 1 SA ln.length sc (ln.map bn) sg
  md : (d = true ∧ f = .nilFunc ∧ ln = []) ∨ (d = false ∧ T.length < u + 3 ∧ u ≤ T.length ∧ ln = T.drop u ∧ want = 3 ∧ taken = 0 ∧ f = fnL p) ∨
    (d = false ∧ u + 3 ≤ T.length ∧ longS (T.drop u) ≤ 512 ∧ ln = T.drop (u + 3) ∧ want = longS (T.drop u) ∧ taken = 3 ∧ f = fnB p ∧ ∃ b o, SA = some ⟨b, o, none⟩)
def StM (w : World) (p : Nat) (T : List Nat) (u : Nat) (d : Bool) (sg : Option Nat) : Prop := ∃ ln want taken f SA sc, StF w p T u d sg ln want taken f SA sc
theorem StM.fr {w w' : World} {p : Nat} {T : List Nat} {u : Nat} {d : Bool} {sg : Option Nat} {S : Nat → Prop} (h : StM w p T u d sg) (hf : Fr S w w') (h1 : ¬ S p) (h2 : ∀ x, sg = some x → ¬ S x) : StM w' p T u d sg := by
  obtain ⟨ln, want, taken, f, SA, sc, h⟩ := h
  exact ⟨ln, want, taken, f, SA, sc, h.bl.fr hf h1, h.ow.fr hf h2, h.md⟩
theorem StM.typed {w : World} {p : Nat} {T : List Nat} {u : Nat} {d : Bool} {sg : Option Nat} (h : StM w p T u d sg) : Typed w p tStm ∧ ∀ x, sg = some x → Typed w x 5 := by
  obtain ⟨ln, want, taken, f, SA, sc, h⟩ := h
  exact ⟨Bl.typed h.bl, fun x e => h.ow.typed x e⟩
theorem clipP_any (w : World) (A : Option Addr) (n c : Nat) (hn : n ≤ c) (hc : c ≤ maxLen) :
    Calls Try.prog 55 #[.slice A n c] w fun e w' => e = .returned (.slice A n n) ∧ w = w' := by
  unfold maxLen at hc
  go_enter Try.func55, Try.ntmps55
  go_wp2
  go_ret
  exact ⟨rfl, rfl⟩
set_option maxHeartbeats 1000000 in
set_option maxRecDepth 4000 in
theorem clone8_any (w : World) (xs : List Nat) (A : Option Addr) (n c : Nat) (hn : n = xs.length) (hb : n ≤ 140737488355000) (hA : Sl w 1 A n (xs.map bn)) :
    Calls Try.prog 54 #[.slice A n c] w fun e w' => ∃ (B : Option Addr) (d : Nat) (g : Option Nat), e = .returned (.slice B n d) ∧ Ow w' 5 1 B n d (xs.map bn) g ∧ (∀ x, g = some x → w.heap.size ≤ x) ∧ ((∃ b o, A = some ⟨b, o, none⟩) → ∃ b o, B = some ⟨b, o, none⟩) ∧ Fr (fun _ => False) w w' := by
  obtain ⟨i0, hi, hz0, hz1, hz2⟩ := info_parts info5
  cases A with
  | none =>
    have h0 : n = 0 := by
      rcases Nat.eq_zero_or_pos n with h | h
      · exact h
      · obtain ⟨b, o, e, -⟩ := hA.2 h; cases e
    have hx : xs = [] := List.eq_nil_of_length_eq_zero (by omega)
    subst hx h0
    have hq : (binOp .eql 22 (.slice none 0 c) (.slice none 0 0)).run Try.prog w = .ok (.bool true) w := by kernel_rfl
    clear hA hn
    go_enter Try.func54, Try.ntmps54
    go_wp2_with fail
    go_ret
    exact ⟨none, 0, none, rfl, Ow.nil_ _ _ _, (fun x e => by cases e), (fun ⟨b, o, e⟩ => by cases e), Fr.refl _ _⟩
  | some a =>
    have hO := Ow.made w 5 1 0 0 #[] [] rfl (Nat.le_refl _) (by unfold maxLen; omega) rfl
    have hA' := hA.below (w' := w.alloc (.cells #[] 5)) ((Fr.refl (fun _ => False) _).alloc _) (fun _ _ => id)
    have hq : (binOp .eql 22 (.slice (some a) n c) (.slice none 0 0)).run Try.prog w = .ok (.bool false) w := by kernel_rfl
    clear hA hn
    go_enter Try.func54, Try.ntmps54
    go_wp2_with (at_builtin; go_loud (refine wpList_append_ow _ rfl _ _ 22 rfl 5 i0 (.int .u8 0) 1 1 Try.underlying22 hi hz0 hz1 hz2 rfl (by decide) _ _ _ _ _ rfl hO _ _ _ _ rfl hA' (bn_one _) (by unfold maxLen; omega) (by omega) ?_))
    intro A1 c1 w1 g1 hO1 hf1 hg1
    have hnew : ∀ b, g1 = some b → w.heap.size ≤ b := fun b hb => by
      rcases hg1 with rfl | ⟨b', rfl, h⟩
      · cases hb; exact Nat.le_refl _
      · cases hb; first | omega | (simp at h; omega)
    have hF : Fr (fun _ => False) w w1 := ((Fr.refl (fun _ => False) w).alloc _).comp hf1 fun i hi e => by cases e; omega
    have hO1' : Ow w1 5 1 A1 n c1 (xs.map bn) g1 := by simpa using hO1
    have hsm : ∃ b o, A1 = some ⟨b, o, none⟩ := by
      rcases hg1 with e | ⟨b, e, -⟩
      · rw [e] at hO1'
        obtain ⟨o, h⟩ := hO1'.addr_of
        exact ⟨_, o, h⟩
      · rw [e] at hO1'
        obtain ⟨o, h⟩ := hO1'.addr_of
        exact ⟨_, o, h⟩
    have HO := hide hO1'
    clear hO1 hO1' hf1 hg1 hO hA'
    go_wp2_with fail
    go_ret
    exact ⟨A1, c1, g1, by simp, HO.out, hnew, fun _ => hsm, hF⟩
end Go.Proofs.Ytlcjhbemgagchaa
end
