/-
  Texts merged into one, to keep the claim small: Pr4, TlvU2.
-/
import Derived.Test.YtahhecendjfenaaMr36
import Derived.Test.YtahhecendjfenaaMr22
import Derived.Test.YtahhecendjfenaaMr29
section
/-
  proto: reply (may it be?). (printed by pr_reply.py)
-/
namespace Go.Proofs.Ytahhecendjfenaa
open Go.RowKit
set_option linter.unusedVariables false
set_option linter.unusedSimpArgs false
set_option maxHeartbeats 4000000 in
set_option maxRecDepth 8000 in
theorem reply_any (w : World) (r : RR) (h : r.at_ w) :
    Calls Try.prog 33 #[.agg #[.int .i64 r.id, .int .i64 r.err, .int .i64 r.num, .int .u64 (r.co : Int), .slice r.A r.n r.c, .string (strOf r.txt), .int .u32 (r.bits : Int), .int .i64 r.k.num, .int .i64 r.k.kind, .int .i64 r.k.by_, .int .i64 r.k.dl, .int .i64 r.k.to_, .int .i64 r.k.want, .int .u64 (r.k.pr : Int), .int .u64 (r.k.rs : Int), .int .u64 (r.k.st : Int), .int .i64 r.k.of_, .slice r.k.A r.k.n r.k.c]] w fun e w' => e = .returned (.bool r.ok) ∧ Fr (fun _ => False) w w' := by
  have hlen : r.n = r.items.length := h.sl.ilen
  have hle := h.le
  have HAt := hide h
  obtain ⟨id, err, num, co, A, n, c, items, txt, bits, k⟩ := r
  simp only at hlen hle HAt ⊢
  obtain ⟨str, hstr⟩ : ∃ str, strOf txt = str := ⟨_, rfl⟩
  obtain ⟨sl, hsl⟩ : ∃ sl, txt.length = sl := ⟨_, rfl⟩
  have hsz : str.size = sl := by rw [← hstr, ← hsl]; exact strOf_size txt
  rw [hstr]
  have Hlen := hide hlen
  have Hsl := hide hsl
  have HK : Hid (∀ w1, Fr (fun _ => False) w w1 → Calls Try.prog 72 #[.agg #[.int .i64 k.num, .int .i64 k.kind, .int .i64 k.by_, .int .i64 k.dl, .int .i64 k.to_, .int .i64 k.want, .int .u64 (k.pr : Int), .int .u64 (k.rs : Int), .int .u64 (k.st : Int), .int .i64 k.of_, .slice k.A k.n k.c]] w1 fun e w' => e = .returned (.bool k.ok) ∧ Fr (fun _ => False) w1 w') := fun w1 hf => contract_any w1 k (HAt.out.k.quiet hf)
  have HI : Hid (∀ w1, Fr (fun _ => False) w w1 → Calls Try.prog 71 #[.slice A n c] w1 fun e w' => e = .returned (.bool (okL items)) ∧ w1 = w') := fun w1 hf => numbers_any w1 items A n c hle (HAt.out.sl.quiet hf)
  have HN := hide (fun b (hb : okL [num] = b) => numbers_lit (w.alloc (.cells #[.int .i64 id, .int .i64 err, .int .i64 num, .int .u64 (co : Int), .slice A n c, .string str, .int .u32 (bits : Int), .int .i64 k.num, .int .i64 k.kind, .int .i64 k.by_, .int .i64 k.dl, .int .i64 k.to_, .int .i64 k.want, .int .u64 (k.pr : Int), .int .u64 (k.rs : Int), .int .u64 (k.st : Int), .int .i64 k.of_, .slice k.A k.n k.c] 30)) [num] (w.heap.size + 1) 1 (by simp) rfl (by omega) #[.int .i64 num] rfl hb)
  clear hlen hsl hstr h
  by_cases h0 : 0 ≤ id
  rotate_left
  · skip
    have P0 : Hid (decide ((0 : Int) ≤ id) = false) := decide_eq_false h0
    have d0 : decide ((0 : Int) ≤ id) = false := P0.out
    clear h0
    have hr : Hid (RR.ok ⟨id, err, num, co, A, n, c, items, txt, bits, k⟩ = false) := by
      show RR.ok _ = _
      unfold RR.ok
      simp only [P0.out, Bool.and_true, Bool.true_and, Bool.and_false, Bool.false_and]
    go_enter Try.func33, Try.ntmps33
    go_wp2_with fail
    go_ret
    exact ⟨by rw [hr.out]; rfl, (Fr.refl _ _).alloc _⟩
  have P0 : Hid (decide ((0 : Int) ≤ id) = true) := decide_eq_true h0
  have d0 : decide ((0 : Int) ≤ id) = true := P0.out
  by_cases h1 : id ≤ 4294967295
  rotate_left
  · skip
    have P1 : Hid (decide (id ≤ (4294967295 : Int)) = false) := decide_eq_false h1
    have d1 : decide (id ≤ (4294967295 : Int)) = false := P1.out
    clear h1
    have hr : Hid (RR.ok ⟨id, err, num, co, A, n, c, items, txt, bits, k⟩ = false) := by
      show RR.ok _ = _
      unfold RR.ok
      simp only [P1.out, Bool.and_true, Bool.true_and, Bool.and_false, Bool.false_and]
    go_enter Try.func33, Try.ntmps33
    go_wp2_with fail
    go_ret
    exact ⟨by rw [hr.out]; rfl, (Fr.refl _ _).alloc _⟩
  have P1 : Hid (decide (id ≤ (4294967295 : Int)) = true) := decide_eq_true h1
  have d1 : decide (id ≤ (4294967295 : Int)) = true := P1.out
  by_cases h2 : 0 ≤ err
  rotate_left
  · skip
    have P2 : Hid (decide ((0 : Int) ≤ err) = false) := decide_eq_false h2
    have d2 : decide ((0 : Int) ≤ err) = false := P2.out
    clear h2
    have hr : Hid (RR.ok ⟨id, err, num, co, A, n, c, items, txt, bits, k⟩ = false) := by
      show RR.ok _ = _
      unfold RR.ok
      simp only [P2.out, Bool.and_true, Bool.true_and, Bool.and_false, Bool.false_and]
    go_enter Try.func33, Try.ntmps33
    go_wp2_with fail
    go_ret
    exact ⟨by rw [hr.out]; rfl, (Fr.refl _ _).alloc _⟩
  have P2 : Hid (decide ((0 : Int) ≤ err) = true) := decide_eq_true h2
  have d2 : decide ((0 : Int) ≤ err) = true := P2.out
  by_cases h3 : err ≤ 999
  rotate_left
  · skip
    have P3 : Hid (decide (err ≤ (999 : Int)) = false) := decide_eq_false h3
    have d3 : decide (err ≤ (999 : Int)) = false := P3.out
    clear h3
    have hr : Hid (RR.ok ⟨id, err, num, co, A, n, c, items, txt, bits, k⟩ = false) := by
      show RR.ok _ = _
      unfold RR.ok
      simp only [P3.out, Bool.and_true, Bool.true_and, Bool.and_false, Bool.false_and]
    go_enter Try.func33, Try.ntmps33
    go_wp2_with fail
    go_ret
    exact ⟨by rw [hr.out]; rfl, (Fr.refl _ _).alloc _⟩
  have P3 : Hid (decide (err ≤ (999 : Int)) = true) := decide_eq_true h3
  have d3 : decide (err ≤ (999 : Int)) = true := P3.out
  by_cases h4 : (sl : Int) ≤ 128
  rotate_left
  · skip
    have P4 : Hid (decide (txt.length ≤ 128) = false) := decide_eq_false (by have := (Hsl.out : txt.length = sl); omega)
    have d4 : decide ((sl : Int) ≤ 128) = false := decide_eq_false (by omega)
    have e4 : decide (sl ≤ 128) = false := decide_eq_false (by omega)
    clear h4
    have hr : Hid (RR.ok ⟨id, err, num, co, A, n, c, items, txt, bits, k⟩ = false) := by
      show RR.ok _ = _
      unfold RR.ok
      simp only [P4.out, Bool.and_true, Bool.true_and, Bool.and_false, Bool.false_and]
    go_enter Try.func33, Try.ntmps33
    go_wp2_with fail
    go_ret
    exact ⟨by rw [hr.out]; rfl, (Fr.refl _ _).alloc _⟩
  have P4 : Hid (decide (txt.length ≤ 128) = true) := decide_eq_true (by have := (Hsl.out : txt.length = sl); omega)
  have d4 : decide ((sl : Int) ≤ 128) = true := decide_eq_true (by omega)
  have e4 : decide (sl ≤ 128) = true := decide_eq_true (by omega)
  clear h4
  cases h5 : okL [num] with
  | false =>
    have P5 := hide h5
    have hr : Hid (RR.ok ⟨id, err, num, co, A, n, c, items, txt, bits, k⟩ = false) := by
      show RR.ok _ = _
      unfold RR.ok
      simp only [P5.out, Bool.and_true, Bool.true_and, Bool.and_false, Bool.false_and]
    go_enter Try.func33, Try.ntmps33
    go_wp2_with fail
    refine (HN.out _ h5).mono ?_
    rintro e w' ⟨rfl, rfl⟩
    go_wp2_with fail
    go_ret
    exact ⟨by rw [hr.out]; rfl, ((Fr.refl _ _).alloc _).alloc _⟩
  | true =>
    have P5 := hide h5
    by_cases h6 : (n : Int) ≤ 512
    rotate_left
    · skip
      have P6 : Hid (decide (items.length ≤ 512) = false) := decide_eq_false (by have := (Hlen.out : n = items.length); omega)
      have d6 : decide ((n : Int) ≤ 512) = false := decide_eq_false (by omega)
      have e6 : decide (n ≤ 512) = false := decide_eq_false (by omega)
      clear h6
      have hr : Hid (RR.ok ⟨id, err, num, co, A, n, c, items, txt, bits, k⟩ = false) := by
        show RR.ok _ = _
        unfold RR.ok
        simp only [P6.out, Bool.and_true, Bool.true_and, Bool.and_false, Bool.false_and]
      go_enter Try.func33, Try.ntmps33
      go_wp2_with fail
      refine (HN.out _ h5).mono ?_
      rintro e w' ⟨rfl, rfl⟩
      go_wp2_with fail
      go_ret
      exact ⟨by rw [hr.out]; rfl, ((Fr.refl _ _).alloc _).alloc _⟩
    have P6 : Hid (decide (items.length ≤ 512) = true) := decide_eq_true (by have := (Hlen.out : n = items.length); omega)
    have d6 : decide ((n : Int) ≤ 512) = true := decide_eq_true (by omega)
    have e6 : decide (n ≤ 512) = true := decide_eq_true (by omega)
    clear h6
    cases h7 : okL items with
    | false =>
      have P7 := hide h7
      have hr : Hid (RR.ok ⟨id, err, num, co, A, n, c, items, txt, bits, k⟩ = false) := by
        show RR.ok _ = _
        unfold RR.ok
        simp only [P7.out, Bool.and_true, Bool.true_and, Bool.and_false, Bool.false_and]
      go_enter Try.func33, Try.ntmps33
      go_wp2_with fail
      refine (HN.out _ h5).mono ?_
      rintro e w' ⟨rfl, rfl⟩
      go_wp2_with fail
      refine (HI.out _ (((Fr.refl _ _).alloc _).alloc _)).mono ?_
      rw [h7]
      rintro e w' ⟨rfl, rfl⟩
      go_wp2_with fail
      go_ret
      exact ⟨by rw [hr.out]; rfl, ((Fr.refl _ _).alloc _).alloc _⟩
    | true =>
      have P7 := hide h7
      cases h8 : CR.ok k with
      | false =>
        have P8 := hide h8
        have hr : Hid (RR.ok ⟨id, err, num, co, A, n, c, items, txt, bits, k⟩ = false) := by
          show RR.ok _ = _
          unfold RR.ok
          simp only [P8.out, Bool.and_true, Bool.true_and, Bool.and_false, Bool.false_and]
        go_enter Try.func33, Try.ntmps33
        go_wp2_with fail
        refine (HN.out _ h5).mono ?_
        rintro e w' ⟨rfl, rfl⟩
        go_wp2_with fail
        refine (HI.out _ (((Fr.refl _ _).alloc _).alloc _)).mono ?_
        rw [h7]
        rintro e w' ⟨rfl, rfl⟩
        go_wp2_with fail
        refine (HK.out _ (((Fr.refl _ _).alloc _).alloc _)).mono ?_
        rw [h8]
        rintro e w' ⟨rfl, hf⟩
        have HF := hide ((((Fr.refl (fun _ => False) w).alloc _).alloc _).trans hf)
        clear hf
        go_wp2_with fail
        go_ret
        exact ⟨by rw [hr.out]; rfl, HF.out⟩
      | true =>
        have P8 := hide h8
        have hr : Hid (RR.ok ⟨id, err, num, co, A, n, c, items, txt, bits, k⟩ = true) := by
          show RR.ok _ = _
          unfold RR.ok
          simp only [P0.out, P1.out, P2.out, P3.out, P4.out, P5.out, P6.out, P7.out, P8.out, Bool.and_true, Bool.true_and, Bool.and_false, Bool.false_and]
        go_enter Try.func33, Try.ntmps33
        go_wp2_with fail
        refine (HN.out _ h5).mono ?_
        rintro e w' ⟨rfl, rfl⟩
        go_wp2_with fail
        refine (HI.out _ (((Fr.refl _ _).alloc _).alloc _)).mono ?_
        rw [h7]
        rintro e w' ⟨rfl, rfl⟩
        go_wp2_with fail
        refine (HK.out _ (((Fr.refl _ _).alloc _).alloc _)).mono ?_
        rw [h8]
        rintro e w' ⟨rfl, hf⟩
        have HF := hide ((((Fr.refl (fun _ => False) w).alloc _).alloc _).trans hf)
        clear hf
        go_wp2_with fail
        go_ret
        exact ⟨by rw [hr.out]; rfl, HF.out⟩
end Go.Proofs.Ytahhecendjfenaa
end

section
/-
  put (of TlvBack): what it puts into a writer. Fault, of a reader whose block alone is known.
-/
namespace Go.Proofs.Ytahhecendjfenaa
open Go.RowKit
set_option linter.unusedVariables false
set_option linter.unusedSimpArgs false

abbrev tWr : TypeId := 72
theorem Fr.fresh {S : Nat → Prop} {w w' : World} (h : Fr S w w') (hS : ∀ k, S k → w.heap.size ≤ k) : Fr (fun _ => False) w w' := h.mono fun k hk hs => by have := hS k hs; omega
theorem OOut.go {o : Option WO} {s s2 : WS} {w w1 : World} {f : FuncId} {args : Value → Array Value} {E : Ending} (h : OOut tWr o s w w1) (k : ∀ o1, wptr o1 = wptr o → TAt w1 tWr o1 s → (∀ b, foot o1 b → foot o b ∨ w.heap.size ≤ b) → Calls Try.prog f (args (wptr o1)) w1 fun e w2 => e = E ∧ OOut tWr o1 s2 w1 w2) :
    Calls Try.prog f (args (wptr o)) w1 fun e w2 => e = E ∧ OOut tWr o s2 w w2 := by
  obtain ⟨o1, hp, hT, hft, hf⟩ := h
  have h2 := k o1 hp hT hft
  rw [hp] at h2
  refine h2.mono ?_
  rintro e w2 ⟨rfl, o2, hp2, hT2, hft2, hf2⟩
  refine ⟨rfl, o2, hp2.trans hp, hT2, fun b hb => ?_, hf.comp hf2 fun i hi hb => ?_⟩
  · rcases hft2 b hb with h | h
    · exact hft b h
    · exact .inr (Nat.le_trans hf.size h)
  · rcases hft i hb with h | h
    · exact h
    · omega
theorem OOut.quiet {o : Option WO} {s : WS} {w w1 w2 : World} (h : OOut tWr o s w w1) (hf : Fr (fun _ => False) w1 w2) : OOut tWr o s w w2 := by
  obtain ⟨o1, hp, hT, hft, h1⟩ := h
  exact ⟨o1, hp, hT.quiet hf, hft, h1.trans (hf.weak _)⟩
def inL (n : Nat) (s : List Nat) : List Fd := [(1, Nv n), (2, s)]
def rbOf (n : Nat) (s : List Nat) : List Nat := putAll (live (inL n s))
def l0 (n : Nat) (s raw : List Nat) (xss : List (List Nat)) : List Fd := [(2, Nv n), (3, s), (4, raw), (5, listAll xss), (6, listAll [rbOf n s, rbOf n s])]
theorem inL_asc (n : Nat) (s : List Nat) : Asc 0 (inL n s) := by simp [inL, Asc]
theorem l0_asc (n : Nat) (s raw : List Nat) (xss : List (List Nat)) : Asc 0 (l0 n s raw xss) := by simp [l0, Asc]
theorem inL_U {n : Nat} {s : List Nat} (hn : n < U64) (hs : s.length ≤ 10000) : ∀ f ∈ inL n s, f.2.length < U64 := by
  have := Nv_le hn
  intro f hf
  simp only [inL, List.mem_cons, List.mem_nil_iff, or_false] at hf
  unfold U64
  rcases hf with rfl | rfl <;> simp only <;> omega
theorem rb_len {n : Nat} {s : List Nat} (hn : n < U64) (hs : s.length ≤ 10000) : (rbOf n s).length ≤ 10032 := by
  have h := putAll_live_le (inL n s) (inL_U hn hs)
  have := Nv_le hn
  simp only [inL, List.map_cons, List.map_nil, List.sum_cons, List.sum_nil] at h
  show (putAll (live (inL n s))).length ≤ _
  have h2 : (putAll (live (inL n s))).length = (putAll (live [(1, Nv n), (2, s)])).length := rfl
  omega
theorem rb_fresh {n : Nat} {s : List Nat} (hn : n < U64) (hs : s.length ≤ 10000) : (WS.fresh.puts (inL n s)).form = rbOf n s ∧ (WS.fresh.puts (inL n s)).e = 0 := by
  have := puts_fresh (inL_asc n s) (by have := rb_len hn hs; unfold rbOf at this; omega)
  unfold WS.form
  rw [if_pos this.2]
  exact this
theorem short_len10 {n : Nat} (h : n ≤ 100000) : (short n).length ≤ 10 := (short_le (by unfold U64; omega)).2
theorem listAll2_len {b : List Nat} (h : b.length ≤ 10032) : (listAll [b, b]).length ≤ 20084 := by
  have := short_len10 (n := b.length) (by omega)
  simp only [listAll, List.flatMap_cons, List.flatMap_nil, List.length_append, List.length_nil]
  omega
end Go.Proofs.Ytahhecendjfenaa
end
