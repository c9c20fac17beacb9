/-
  Texts merged into one, to keep the claim small: Pr4, TlvU2, Pr5.
-/
import Derived.Test.YtlcjhbemgagchaaMf29
import Derived.Test.YtlcjhbemgagchaaMf15
import Derived.Test.YtlcjhbemgagchaaMf21
import Derived.Test.YtlcjhbemgagchaaMf22
section
/-
  proto: reply (may it be?). (printed by pr_reply.py)
-/
namespace Go.Proofs.Ytlcjhbemgagchaa
open Go.RowKit
set_option linter.unusedVariables false
set_option linter.unusedSimpArgs false
set_option maxHeartbeats 4000000 in
set_option maxRecDepth 8000 in
theorem reply_any (w : World) (r : RR) (h : r.at_ w) :
    Calls Try.prog 82 #[.agg #[.int .i64 r.id, .int .i64 r.err, .int .i64 r.num, .int .u64 (r.co : Int), .slice r.A r.n r.c, .string (strOf r.txt), .int .u32 (r.bits : Int), .int .i64 r.k.num, .int .i64 r.k.kind, .int .i64 r.k.by_, .int .i64 r.k.dl, .int .i64 r.k.to_, .int .i64 r.k.want, .int .u64 (r.k.pr : Int), .int .u64 (r.k.rs : Int), .int .u64 (r.k.st : Int), .int .i64 r.k.of_, .slice r.k.A r.k.n r.k.c]] w fun e w' => e = .returned (.bool r.ok) ∧ Fr (fun _ => False) w w' := by
  have hlen : r.n = r.items.length := h.sl.ilen
  have hle := h.le
  have HAt := hide h
  obtain ⟨id, err, num, co, A, n, c, items, txt, bits, k⟩ := r
  simp only at hlen hle HAt ⊢
  obtain ⟨str, hstr⟩ : ∃ str, strOf txt = str := ⟨_, rfl⟩
  obtain ⟨sl, hsl⟩ : ∃ sl, txt.length = sl := ⟨_, rfl⟩
  have hsz : str.size = sl := by rw [← hstr, ← hsl]; exact strOf_size txt
  rw [hstr]
  have Hlen := hide hlen
  have Hsl := hide hsl
  have HK : Hid (∀ w1, Fr (fun _ => False) w w1 → Calls Try.prog 106 #[.agg #[.int .i64 k.num, .int .i64 k.kind, .int .i64 k.by_, .int .i64 k.dl, .int .i64 k.to_, .int .i64 k.want, .int .u64 (k.pr : Int), .int .u64 (k.rs : Int), .int .u64 (k.st : Int), .int .i64 k.of_, .slice k.A k.n k.c]] w1 fun e w' => e = .returned (.bool k.ok) ∧ Fr (fun _ => False) w1 w') := fun w1 hf => contract_any w1 k (HAt.out.k.quiet hf)
  have HI : Hid (∀ w1, Fr (fun _ => False) w w1 → Calls Try.prog 104 #[.slice A n c] w1 fun e w' => e = .returned (.bool (okL items)) ∧ w1 = w') := fun w1 hf => numbers_any w1 items A n c hle (HAt.out.sl.quiet hf)
  have HN := hide (fun b (hb : okL [num] = b) => numbers_lit (w.alloc (.cells #[.int .i64 id, .int .i64 err, .int .i64 num, .int .u64 (co : Int), .slice A n c, .string str, .int .u32 (bits : Int), .int .i64 k.num, .int .i64 k.kind, .int .i64 k.by_, .int .i64 k.dl, .int .i64 k.to_, .int .i64 k.want, .int .u64 (k.pr : Int), .int .u64 (k.rs : Int), .int .u64 (k.st : Int), .int .i64 k.of_, .slice k.A k.n k.c] 35)) [num] (w.heap.size + 1) 1 (by simp) rfl (by omega) #[.int .i64 num] rfl hb)
  clear hlen hsl hstr h
  by_cases h0 : 0 ≤ id
  rotate_left
  · skip
    have P0 : Hid (decide ((0 : Int) ≤ id) = false) := decide_eq_false h0
    have d0 : decide ((0 : Int) ≤ id) = false := P0.out
    clear h0
    have hr : Hid (RR.ok ⟨id, err, num, co, A, n, c, items, txt, bits, k⟩ = false) := by
      show RR.ok _ = _
      unfold RR.ok
      simp only [P0.out, Bool.and_true, Bool.true_and, Bool.and_false, Bool.false_and]
    go_enter Try.func82, Try.ntmps82
    go_wp2_with fail
    go_ret
    exact ⟨by rw [hr.out]; rfl, (Fr.refl _ _).alloc _⟩
  have P0 : Hid (decide ((0 : Int) ≤ id) = true) := decide_eq_true h0
  have d0 : decide ((0 : Int) ≤ id) = true := P0.out
  by_cases h1 : id ≤ 4294967295
  rotate_left
  · skip
    have P1 : Hid (decide (id ≤ (4294967295 : Int)) = false) := decide_eq_false h1
    have d1 : decide (id ≤ (4294967295 : Int)) = false := P1.out
    clear h1
    have hr : Hid (RR.ok ⟨id, err, num, co, A, n, c, items, txt, bits, k⟩ = false) := by
      show RR.ok _ = _
      unfold RR.ok
      simp only [P1.out, Bool.and_true, Bool.true_and, Bool.and_false, Bool.false_and]
    go_enter Try.func82, Try.ntmps82
    go_wp2_with fail
    go_ret
    exact ⟨by rw [hr.out]; rfl, (Fr.refl _ _).alloc _⟩
  have P1 : Hid (decide (id ≤ (4294967295 : Int)) = true) := decide_eq_true h1
  have d1 : decide (id ≤ (4294967295 : Int)) = true := P1.out
  by_cases h2 : 0 ≤ err
  rotate_left
  · skip
    have P2 : Hid (decide ((0 : Int) ≤ err) = false) := decide_eq_false h2
    have d2 : decide ((0 : Int) ≤ err) = false := P2.out
    clear h2
    have hr : Hid (RR.ok ⟨id, err, num, co, A, n, c, items, txt, bits, k⟩ = false) := by
      show RR.ok _ = _
      unfold RR.ok
      simp only [P2.out, Bool.and_true, Bool.true_and, Bool.and_false, Bool.false_and]
    go_enter Try.func82, Try.ntmps82
    go_wp2_with fail
    go_ret
    exact ⟨by rw [hr.out]; rfl, (Fr.refl _ _).alloc _⟩
  have P2 : Hid (decide ((0 : Int) ≤ err) = true) := decide_eq_true h2
  have d2 : decide ((0 : Int) ≤ err) = true := P2.out
  by_cases h3 : err ≤ 999
  rotate_left
  · skip
    have P3 : Hid (decide (err ≤ (999 : Int)) = false) := decide_eq_false h3
    have d3 : decide (err ≤ (999 : Int)) = false := P3.out
    clear h3
    have hr : Hid (RR.ok ⟨id, err, num, co, A, n, c, items, txt, bits, k⟩ = false) := by
      show RR.ok _ = _
      unfold RR.ok
      simp only [P3.out, Bool.and_true, Bool.true_and, Bool.and_false, Bool.false_and]
    go_enter Try.func82, Try.ntmps82
    go_wp2_with fail
    go_ret
    exact ⟨by rw [hr.out]; rfl, (Fr.refl _ _).alloc _⟩
  have P3 : Hid (decide (err ≤ (999 : Int)) = true) := decide_eq_true h3
  have d3 : decide (err ≤ (999 : Int)) = true := P3.out
  by_cases h4 : (sl : Int) ≤ 128
  rotate_left
  · skip
    have P4 : Hid (decide (txt.length ≤ 128) = false) := decide_eq_false (by have := (Hsl.out : txt.length = sl); omega)
    have d4 : decide ((sl : Int) ≤ 128) = false := decide_eq_false (by omega)
    have e4 : decide (sl ≤ 128) = false := decide_eq_false (by omega)
    clear h4
    have hr : Hid (RR.ok ⟨id, err, num, co, A, n, c, items, txt, bits, k⟩ = false) := by
      show RR.ok _ = _
      unfold RR.ok
      simp only [P4.out, Bool.and_true, Bool.true_and, Bool.and_false, Bool.false_and]
    go_enter Try.func82, Try.ntmps82
    go_wp2_with fail
    go_ret
    exact ⟨by rw [hr.out]; rfl, (Fr.refl _ _).alloc _⟩
  have P4 : Hid (decide (txt.length ≤ 128) = true) := decide_eq_true (by have := (Hsl.out : txt.length = sl); omega)
  have d4 : decide ((sl : Int) ≤ 128) = true := decide_eq_true (by omega)
  have e4 : decide (sl ≤ 128) = true := decide_eq_true (by omega)
  clear h4
  cases h5 : okL [num] with
  | false =>
    have P5 := hide h5
    have hr : Hid (RR.ok ⟨id, err, num, co, A, n, c, items, txt, bits, k⟩ = false) := by
      show RR.ok _ = _
      unfold RR.ok
      simp only [P5.out, Bool.and_true, Bool.true_and, Bool.and_false, Bool.false_and]
    go_enter Try.func82, Try.ntmps82
    go_wp2_with fail
    refine (HN.out _ h5).mono ?_
    rintro e w' ⟨rfl, rfl⟩
    go_wp2_with fail
    go_ret
    exact ⟨by rw [hr.out]; rfl, ((Fr.refl _ _).alloc _).alloc _⟩
  | true =>
    have P5 := hide h5
    by_cases h6 : (n : Int) ≤ 512
    rotate_left
    · skip
      have P6 : Hid (decide (items.length ≤ 512) = false) := decide_eq_false (by have := (Hlen.out : n = items.length); omega)
      have d6 : decide ((n : Int) ≤ 512) = false := decide_eq_false (by omega)
      have e6 : decide (n ≤ 512) = false := decide_eq_false (by omega)
      clear h6
      have hr : Hid (RR.ok ⟨id, err, num, co, A, n, c, items, txt, bits, k⟩ = false) := by
        show RR.ok _ = _
        unfold RR.ok
        simp only [P6.out, Bool.and_true, Bool.true_and, Bool.and_false, Bool.false_and]
      go_enter Try.func82, Try.ntmps82
      go_wp2_with fail
      refine (HN.out _ h5).mono ?_
      rintro e w' ⟨rfl, rfl⟩
      go_wp2_with fail
      go_ret
      exact ⟨by rw [hr.out]; rfl, ((Fr.refl _ _).alloc _).alloc _⟩
    have P6 : Hid (decide (items.length ≤ 512) = true) := decide_eq_true (by have := (Hlen.out : n = items.length); omega)
    have d6 : decide ((n : Int) ≤ 512) = true := decide_eq_true (by omega)
    have e6 : decide (n ≤ 512) = true := decide_eq_true (by omega)
    clear h6
    cases h7 : okL items with
    | false =>
      have P7 := hide h7
      have hr : Hid (RR.ok ⟨id, err, num, co, A, n, c, items, txt, bits, k⟩ = false) := by
        show RR.ok _ = _
        unfold RR.ok
        simp only [P7.out, Bool.and_true, Bool.true_and, Bool.and_false, Bool.false_and]
      go_enter Try.func82, Try.ntmps82
      go_wp2_with fail
      refine (HN.out _ h5).mono ?_
      rintro e w' ⟨rfl, rfl⟩
      go_wp2_with fail
      refine (HI.out _ (((Fr.refl _ _).alloc _).alloc _)).mono ?_
      rw [h7]
      rintro e w' ⟨rfl, rfl⟩
      go_wp2_with fail
      go_ret
      exact ⟨by rw [hr.out]; rfl, ((Fr.refl _ _).alloc _).alloc _⟩
    | true =>
      have P7 := hide h7
      cases h8 : CR.ok k with
      | false =>
        have P8 := hide h8
        have hr : Hid (RR.ok ⟨id, err, num, co, A, n, c, items, txt, bits, k⟩ = false) := by
          show RR.ok _ = _
          unfold RR.ok
          simp only [P8.out, Bool.and_true, Bool.true_and, Bool.and_false, Bool.false_and]
        go_enter Try.func82, Try.ntmps82
        go_wp2_with fail
        refine (HN.out _ h5).mono ?_
        rintro e w' ⟨rfl, rfl⟩
        go_wp2_with fail
        refine (HI.out _ (((Fr.refl _ _).alloc _).alloc _)).mono ?_
        rw [h7]
        rintro e w' ⟨rfl, rfl⟩
        go_wp2_with fail
        refine (HK.out _ (((Fr.refl _ _).alloc _).alloc _)).mono ?_
        rw [h8]
        rintro e w' ⟨rfl, hf⟩
        have HF := hide ((((Fr.refl (fun _ => False) w).alloc _).alloc _).trans hf)
        clear hf
        go_wp2_with fail
        go_ret
        exact ⟨by rw [hr.out]; rfl, HF.out⟩
      | true =>
        have P8 := hide h8
        have hr : Hid (RR.ok ⟨id, err, num, co, A, n, c, items, txt, bits, k⟩ = true) := by
          show RR.ok _ = _
          unfold RR.ok
          simp only [P0.out, P1.out, P2.out, P3.out, P4.out, P5.out, P6.out, P7.out, P8.out, Bool.and_true, Bool.true_and, Bool.and_false, Bool.false_and]
        go_enter Try.func82, Try.ntmps82
        go_wp2_with fail
        refine (HN.out _ h5).mono ?_
        rintro e w' ⟨rfl, rfl⟩
        go_wp2_with fail
        refine (HI.out _ (((Fr.refl _ _).alloc _).alloc _)).mono ?_
        rw [h7]
        rintro e w' ⟨rfl, rfl⟩
        go_wp2_with fail
        refine (HK.out _ (((Fr.refl _ _).alloc _).alloc _)).mono ?_
        rw [h8]
        rintro e w' ⟨rfl, hf⟩
        have HF := hide ((((Fr.refl (fun _ => False) w).alloc _).alloc _).trans hf)
        clear hf
        go_wp2_with fail
        go_ret
        exact ⟨by rw [hr.out]; rfl, HF.out⟩
end Go.Proofs.Ytlcjhbemgagchaa
end

section
/-
  put (of TlvBack): what it puts into a writer. Fault, of a reader whose block alone is known.
-/
namespace Go.Proofs.Ytlcjhbemgagchaa
open Go.RowKit
set_option linter.unusedVariables false
set_option linter.unusedSimpArgs false

abbrev tWr : TypeId := 110
theorem Fr.fresh {S : Nat → Prop} {w w' : World} (h : Fr S w w') (hS : ∀ k, S k → w.heap.size ≤ k) : Fr (fun _ => False) w w' := h.mono fun k hk hs => by have := hS k hs; omega
theorem OOut.go {o : Option WO} {s s2 : WS} {w w1 : World} {f : FuncId} {args : Value → Array Value} {E : Ending} (h : OOut tWr o s w w1) (k : ∀ o1, wptr o1 = wptr o → TAt w1 tWr o1 s → (∀ b, foot o1 b → foot o b ∨ w.heap.size ≤ b) → Calls Try.prog f (args (wptr o1)) w1 fun e w2 => e = E ∧ OOut tWr o1 s2 w1 w2) :
    Calls Try.prog f (args (wptr o)) w1 fun e w2 => e = E ∧ OOut tWr o s2 w w2 := by
  obtain ⟨o1, hp, hT, hft, hf⟩ := h
  have h2 := k o1 hp hT hft
  rw [hp] at h2
  refine h2.mono ?_
  rintro e w2 ⟨rfl, o2, hp2, hT2, hft2, hf2⟩
  refine ⟨rfl, o2, hp2.trans hp, hT2, fun b hb => ?_, hf.comp hf2 fun i hi hb => ?_⟩
  · rcases hft2 b hb with h | h
    · exact hft b h
    · exact .inr (Nat.le_trans hf.size h)
  · rcases hft i hb with h | h
    · exact h
    · omega
theorem OOut.quiet {o : Option WO} {s : WS} {w w1 w2 : World} (h : OOut tWr o s w w1) (hf : Fr (fun _ => False) w1 w2) : OOut tWr o s w w2 := by
  obtain ⟨o1, hp, hT, hft, h1⟩ := h
  exact ⟨o1, hp, hT.quiet hf, hft, h1.trans (hf.weak _)⟩
def inL (n : Nat) (s : List Nat) : List Fd := [(1, Nv n), (2, s)]
def rbOf (n : Nat) (s : List Nat) : List Nat := putAll (live (inL n s))
def l0 (n : Nat) (s raw : List Nat) (xss : List (List Nat)) : List Fd := [(2, Nv n), (3, s), (4, raw), (5, listAll xss), (6, listAll [rbOf n s, rbOf n s])]
theorem inL_asc (n : Nat) (s : List Nat) : Asc 0 (inL n s) := by simp [inL, Asc]
theorem l0_asc (n : Nat) (s raw : List Nat) (xss : List (List Nat)) : Asc 0 (l0 n s raw xss) := by simp [l0, Asc]
theorem inL_U {n : Nat} {s : List Nat} (hn : n < U64) (hs : s.length ≤ 10000) : ∀ f ∈ inL n s, f.2.length < U64 := by
  have := Nv_le hn
  intro f hf
  simp only [inL, List.mem_cons, List.mem_nil_iff, or_false] at hf
  unfold U64
  rcases hf with rfl | rfl <;> simp only <;> omega
theorem rb_len {n : Nat} {s : List Nat} (hn : n < U64) (hs : s.length ≤ 10000) : (rbOf n s).length ≤ 10032 := by
  have h := putAll_live_le (inL n s) (inL_U hn hs)
  have := Nv_le hn
  simp only [inL, List.map_cons, List.map_nil, List.sum_cons, List.sum_nil] at h
  show (putAll (live (inL n s))).length ≤ _
  have h2 : (putAll (live (inL n s))).length = (putAll (live [(1, Nv n), (2, s)])).length := rfl
  omega
theorem rb_fresh {n : Nat} {s : List Nat} (hn : n < U64) (hs : s.length ≤ 10000) : (WS.fresh.puts (inL n s)).form = rbOf n s ∧ (WS.fresh.puts (inL n s)).e = 0 := by
  have := puts_fresh (inL_asc n s) (by have := rb_len hn hs; unfold rbOf at this; omega)
  unfold WS.form
  rw [if_pos this.2]
  exact this
theorem short_len10 {n : Nat} (h : n ≤ 100000) : (short n).length ≤ 10 := (short_le (by unfold U64; omega)).2
theorem listAll2_len {b : List Nat} (h : b.length ≤ 10032) : (listAll [b, b]).length ≤ 20084 := by
  have := short_len10 (n := b.length) (by omega)
  simp only [listAll, List.flatMap_cons, List.flatMap_nil, List.length_append, List.length_nil]
  omega
end Go.Proofs.Ytlcjhbemgagchaa
end

section
/-
  proto: rows of bytes that grow; shorts, of both. (printed by pr_short.py)
-/
namespace Go.Proofs.Ytlcjhbemgagchaa
open Go.RowKit
set_option linter.unusedVariables false
set_option linter.unusedSimpArgs false
/-- A slice of slices of bytes, its own, each of them too. -/
structure LLr (W w : World) (xss : List (List Nat)) (B : Option Addr) (j cb : Nat) (rs : List BS) (g : Option Nat) : Prop where
  eq : rs.map (·.xs) = xss
  len : j = xss.length
  ow : Ow w 22 1 B j cb (rs.map BS.cell) g
  new : ∀ b, g = some b → W.heap.size ≤ b
  own : BSs w 0 W.heap.size rs
  fr : Fr (fun _ => False) W w
def LL (W w : World) (xss : List (List Nat)) (B : Option Addr) (j cb : Nat) : Prop := ∃ rs g, LLr W w xss B j cb rs g
theorem LL.begin (W w : World) (hf : Fr (fun _ => False) W w) : LL W w [] none 0 0 := ⟨[], none, rfl, rfl, Ow.nil_ _ _ _, (fun b h => by cases h), BSs.nil_ _ _ _, hf⟩
theorem LL.quiet {W w w' : World} {xss : List (List Nat)} {B : Option Addr} {j cb : Nat} (h : LL W w xss B j cb) (hf : Fr (fun _ => False) w w') : LL W w' xss B j cb := by
  obtain ⟨rs, g, h⟩ := h
  exact ⟨rs, g, h.eq, h.len, h.ow.fr hf (fun _ _ => id), h.new, h.own.quiet hf, h.fr.trans hf⟩
theorem LL.frame {W w : World} {xss : List (List Nat)} {B : Option Addr} {j cb : Nat} (h : LL W w xss B j cb) : Fr (fun _ => False) W w := by
  obtain ⟨rs, g, h⟩ := h; exact h.fr
theorem LL.lat {W w : World} {xss : List (List Nat)} {B : Option Addr} {j cb : Nat} (h : LL W w xss B j cb) : LAt w w.heap.size B j xss := by
  obtain ⟨rs, g, h⟩ := h
  have := h.own.lat' h.ow
  rwa [h.eq] at this
theorem LLr.app {W w w2 w3 : World} {xss : List (List Nat)} {B B3 A2 : Option Addr} {j cb cb3 m c2 : Nat} {rs : List BS} {g g2 g3 : Option Nat} {v : List Nat} (h : LLr W w xss B j cb rs g) (hf2 : Fr (fun _ => False) w w2) (hL2 : Ow w2 5 1 A2 m c2 (v.map bn) g2) (hg2 : ∀ b, g2 = some b → w.heap.size ≤ b)
    (hB3 : Ow w3 22 1 B3 (j + 1) cb3 (rs.map BS.cell ++ [.slice A2 m c2]) g3) (hf23 : Fr (fun x => some x = g) w2 w3) (hg3 : g3 = g ∨ ∃ b, g3 = some b ∧ w2.heap.size ≤ b) : LL W w3 (xss ++ [v]) B3 (j + 1) cb3 := by
  have s0 := h.fr.size
  have s2 := hf2.size
  have hB2 := h.ow.fr hf2 (fun _ _ => id)
  refine ⟨rs ++ [⟨v, A2, m, c2, g2⟩], g3, ?_, ?_, ?_, ?_, ?_, ?_⟩
  · rw [List.map_append, h.eq]; rfl
  · rw [List.length_append, ← h.len]; rfl
  · rw [List.map_append]; exact hB3
  · intro b e
    rcases hg3 with e3 | ⟨x, e3, hx⟩
    · exact h.new b (by rw [← e3]; exact e)
    · rw [e3] at e; cases e; omega
  · have hL3 : Ow w3 5 1 A2 (m + 0) c2 ((v ++ marks 0).map bn) g2 := by
      have : v ++ marks 0 = v := by simp [marks]
      rw [this]
      exact hL2.fr hf23 fun x e1 e2 => by
        rw [← e2] at hB2; rw [e1] at hL2
        exact Ow.ne hB2 hL2 (by decide) rfl
    exact BSs.add (S := fun x => some x = g) h.own ((hf2.weak _).comp hf23 (fun _ _ e => e)) (h.own.apart h.ow (by decide)) (r := ⟨v, A2, m, c2, g2⟩) hL3 hg2 s0
  · exact (h.fr.trans hf2).comp hf23 fun x hx e => by have := h.new x e.symm; omega
set_option maxHeartbeats 2000000 in
set_option maxRecDepth 8000 in
theorem tshorts_any (w : World) (xs : List Int) (A : Option Addr) (n c : Nat) (hn : n ≤ 1000) (hok : okL xs = true) (hA : Sl w 1 A n (xs.map iv)) :
    Calls Try.prog 84 #[.slice A n c] w fun e w' => ∃ B k cb, e = .returned (.slice B k cb) ∧ LL w w' (shs xs) B k cb := by
  obtain ⟨bi, bj, bj0, bj1, bj2⟩ := info_parts infoB
  have Hn := hide (hA.ilen)
  have HA := hide hA
  have Hok := hide hok
  clear hA hok
  go_enter Try.func84, Try.ntmps84
  go_wp2_with fail
  go_loopw [3, 8] (fun u i wr => ∃ (j : Nat) (B : Option Addr) (cb : Nat), j ≤ n ∧ i = .int .i64 (j : Int) ∧ u = .slice B j cb ∧ Hid (LL w wr ((shs xs).take j) B j cb)) (fun _ i _ => n - (intOf i).toNat)
  case atStart => exact ⟨0, none, 0, Nat.zero_le _, rfl, rfl, LL.begin _ _ (Fr.refl _ _)⟩
  case round =>
    obtain ⟨j, B, cb, hj, rfl, rfl, HL⟩ := hrel
    by_cases hlt : j < n
    · have hjl : j < xs.length := by rw [← Hn.out]; exact hlt
      obtain ⟨wo, rfl⟩ : ∃ wo, wo = wr := ⟨_, rfl⟩
      obtain ⟨rs, g, hLr⟩ := HL.out
      have hz := okL_mem Hok.out (List.getElem_mem hjl)
      obtain ⟨t, ht⟩ : ∃ t : Nat, xs[j] = (t : Int) := ⟨xs[j].toNat, by omega⟩
      rw [ht] at hz
      have hdrop : Hid ((shs xs).take (j + 1) = (shs xs).take j ++ [short t]) := by
        show _ = _
        rw [List.take_succ_eq_append_getElem (by rw [shs, List.length_map]; exact hjl)]
        congr 1
        simp [shs, ht]
      obtain ⟨b, o, rfl, c0⟩ := (HA.out.quiet hLr.fr).at_ (j := j) (u := .int .i64 (t : Int)) (by rw [List.getElem?_map, List.getElem?_eq_getElem hjl, ht]; rfl)
      have i0 : (0 : Int) ≤ (j : Int) := by omega
      have i1 : (j : Int) < (n : Int) := by omega
      have q1 : IntKind.i64.wrap ((j : Int) + 1) = ((j + 1 : Nat) : Int) := by rw [IntWalk.i64_in _ (by omega)]; omega
      have q2 : IntKind.u64.wrap (t : Int) = (t : Int) := IntWalk.u64_in _ (by omega)
      have htU : t < U64 := by unfold U64; omega
      have Hlt := hide hlt
      have HLr := hide hLr
      have hB := hLr.ow
      clear hz ht hjl hlt hj HL hLr
      go_wp2_with fail
      refine (short_any _ t htU).mono ?_
      rintro e w2 ⟨A2, c2, g2, rfl, hL2, hg2, hf2⟩
      have hB2 := hB.fr hf2 (fun _ _ => id)
      clear c0 hB
      go_wp2_with (first | (at_builtin; refine wpList_append_ow _ rfl _ _ 82 rfl 22 bi (.slice none 0 0) 1 24 Try.underlying82 bj bj0 bj1 bj2 rfl (by decide) _ _ _ _ _ rfl (hB2.fr ((Fr.refl (fun _ => False) _).alloc _) (fun _ _ => id)) _ _ _ [.slice A2 (short t).length c2] rfl (Sl.one _ _ _) (by intro u hu; simp at hu; subst hu; rfl) (by unfold maxLen; omega) (by omega) ?_) | go_in)
      intro B3 cb3 w3 g3 hB3 hf3 hg3
      have hf23 : Fr (fun x => some x = g) w2 w3 := ((Fr.refl _ _).alloc _).comp hf3 (fun _ _ e => e)
      have HL3 : Hid (LL w w3 ((shs xs).take (j + 1)) B3 (j + 1) cb3) := by
        rw [hdrop.out]
        exact HLr.out.app hf2 hL2 hg2 hB3 hf23 (hg3.imp id fun ⟨b, e, h⟩ => ⟨b, e, by first | omega | (simp at h; omega)⟩)
      clear hB3 hf3 hg3 hf23 hL2 hB2 hg2 hf2 HLr
      go_wp2_with fail
      have := Hlt.out
      exact ⟨⟨j + 1, B3, cb3, by omega, by first | rfl | go_num, rfl, HL3⟩, by simp [intOf]; try omega⟩
    · obtain rfl : j = n := by omega
      have HL2 : Hid (LL w wr (shs xs) B j cb) := by
        have := HL.out
        rwa [List.take_of_length_le (by rw [shs, List.length_map, ← Hn.out]; exact Nat.le_refl _)] at this
      clear hlt hj HL
      go_wp2_with fail
      go_ret
      exact ⟨B, j, cb, rfl, HL2.out⟩
set_option maxHeartbeats 2000000 in
set_option maxRecDepth 8000 in
theorem rshorts_any (w : World) (xs : List Int) (A : Option Addr) (n c : Nat) (hn : n ≤ 1000) (hok : okL xs = true) (hA : Sl w 1 A n (xs.map iv)) :
    Calls Try.prog 81 #[.slice A n c] w (BP (listAll (shs xs)).length (listAll (shs xs)) w) := by
  obtain ⟨bi, bj, bj0, bj1, bj2⟩ := info_parts infoB
  have Hn := hide (hA.ilen)
  have HA := hide hA
  have Hok := hide hok
  clear hA hok
  go_enter Try.func81, Try.ntmps81
  go_wp2_with fail
  go_loopw [3, 4] (fun u i wr => ∃ (j : Nat) (B : Option Addr) (cb : Nat), j ≤ n ∧ i = .int .i64 (j : Int) ∧ u = .slice B j cb ∧ Hid (LL w wr ((shs xs).take j) B j cb)) (fun _ i _ => n - (intOf i).toNat)
  case atStart => exact ⟨0, none, 0, Nat.zero_le _, rfl, rfl, LL.begin _ _ (Fr.refl _ _)⟩
  case round =>
    obtain ⟨j, B, cb, hj, rfl, rfl, HL⟩ := hrel
    by_cases hlt : j < n
    · have hjl : j < xs.length := by rw [← Hn.out]; exact hlt
      obtain ⟨wo, rfl⟩ : ∃ wo, wo = wr := ⟨_, rfl⟩
      obtain ⟨rs, g, hLr⟩ := HL.out
      have hz := okL_mem Hok.out (List.getElem_mem hjl)
      obtain ⟨t, ht⟩ : ∃ t : Nat, xs[j] = (t : Int) := ⟨xs[j].toNat, by omega⟩
      rw [ht] at hz
      have hdrop : Hid ((shs xs).take (j + 1) = (shs xs).take j ++ [short t]) := by
        show _ = _
        rw [List.take_succ_eq_append_getElem (by rw [shs, List.length_map]; exact hjl)]
        congr 1
        simp [shs, ht]
      obtain ⟨b, o, rfl, c0⟩ := (HA.out.quiet hLr.fr).at_ (j := j) (u := .int .i64 (t : Int)) (by rw [List.getElem?_map, List.getElem?_eq_getElem hjl, ht]; rfl)
      have i0 : (0 : Int) ≤ (j : Int) := by omega
      have i1 : (j : Int) < (n : Int) := by omega
      have q1 : IntKind.i64.wrap ((j : Int) + 1) = ((j + 1 : Nat) : Int) := by rw [IntWalk.i64_in _ (by omega)]; omega
      have q2 : IntKind.u64.wrap (t : Int) = (t : Int) := IntWalk.u64_in _ (by omega)
      have htU : t < U64 := by unfold U64; omega
      have Hlt := hide hlt
      have HLr := hide hLr
      have hB := hLr.ow
      clear hz ht hjl hlt hj HL hLr
      go_wp2_with fail
      refine (rshort_any _ t htU).mono ?_
      rintro e w2 ⟨A2, c2, g2, rfl, hL2, hg2, hf2⟩
      have hB2 := hB.fr hf2 (fun _ _ => id)
      clear c0 hB
      go_wp2_with (first | (at_builtin; refine wpList_append_ow _ rfl _ _ 82 rfl 22 bi (.slice none 0 0) 1 24 Try.underlying82 bj bj0 bj1 bj2 rfl (by decide) _ _ _ _ _ rfl (hB2.fr ((Fr.refl (fun _ => False) _).alloc _) (fun _ _ => id)) _ _ _ [.slice A2 (short t).length c2] rfl (Sl.one _ _ _) (by intro u hu; simp at hu; subst hu; rfl) (by unfold maxLen; omega) (by omega) ?_) | go_in)
      intro B3 cb3 w3 g3 hB3 hf3 hg3
      have hf23 : Fr (fun x => some x = g) w2 w3 := ((Fr.refl _ _).alloc _).comp hf3 (fun _ _ e => e)
      have HL3 : Hid (LL w w3 ((shs xs).take (j + 1)) B3 (j + 1) cb3) := by
        rw [hdrop.out]
        exact HLr.out.app hf2 hL2 hg2 hB3 hf23 (hg3.imp id fun ⟨b, e, h⟩ => ⟨b, e, by first | omega | (simp at h; omega)⟩)
      clear hB3 hf3 hg3 hf23 hL2 hB2 hg2 hf2 HLr
      go_wp2_with fail
      have := Hlt.out
      exact ⟨⟨j + 1, B3, cb3, by omega, by first | rfl | go_num, rfl, HL3⟩, by simp [intOf]; try omega⟩
    · obtain rfl : j = n := by omega
      have HL2 : Hid (LL w wr (shs xs) B j cb) := by
        have := HL.out
        rwa [List.take_of_length_le (by rw [shs, List.length_map, ← Hn.out]; exact Nat.le_refl _)] at this
      clear hlt hj HL
      have hM : ∀ x ∈ shs xs, x.length ≤ 10 := shs_len Hok.out
      have hT := shsAll_len Hok.out
      rw [← Hn.out] at hT
      have c1 := rlist_any wr (shs xs) B j cb _ (by omega) (Nat.le_refl _) (fun x hx => by have := hM x hx; omega) (by omega) HL2.out.lat
      clear hM hT
      go_wp2_with fail
      refine c1.mono ?_
      rintro e w2 ⟨A2, c2, g2, rfl, hO, hg, hf⟩
      have s0 := HL2.out.frame.size
      have HF := hide (HL2.out.frame.trans hf)
      go_wp2_with fail
      go_ret
      exact ⟨A2, c2, g2, rfl, hO, fun b e => Nat.le_trans s0 (hg b e), HF.out⟩
end Go.Proofs.Ytlcjhbemgagchaa
end
