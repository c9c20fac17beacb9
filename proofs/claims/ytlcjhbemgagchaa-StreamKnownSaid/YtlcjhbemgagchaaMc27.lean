/-
  Texts merged into one, to keep the claim small: TlvU2, Pr5, Pr9.
-/
import Derived.Test.YtlcjhbemgagchaaMc12
import Derived.Test.YtlcjhbemgagchaaMc14
import Derived.Test.YtlcjhbemgagchaaMc4
section
/-
  put (of TlvBack): what it puts into a writer. Fault, of a reader whose block alone is known.
-/
namespace Go.Proofs.Ytlcjhbemgagchaa
open Go.RowKit
set_option linter.unusedVariables false
set_option linter.unusedSimpArgs false

abbrev tWr : TypeId := 110
theorem Fr.fresh {S : Nat → Prop} {w w' : World} (h : Fr S w w') (hS : ∀ k, S k → w.heap.size ≤ k) : Fr (fun _ => False) w w' := h.mono fun k hk hs => by have := hS k hs; omega
theorem OOut.go {o : Option WO} {s s2 : WS} {w w1 : World} {f : FuncId} {args : Value → Array Value} {E : Ending} (h : OOut tWr o s w w1) (k : ∀ o1, wptr o1 = wptr o → TAt w1 tWr o1 s → (∀ b, foot o1 b → foot o b ∨ w.heap.size ≤ b) → Calls Try.prog f (args (wptr o1)) w1 fun e w2 => e = E ∧ OOut tWr o1 s2 w1 w2) :
    Calls Try.prog f (args (wptr o)) w1 fun e w2 => e = E ∧ OOut tWr o s2 w w2 := by
  obtain ⟨o1, hp, hT, hft, hf⟩ := h
  have h2 := k o1 hp hT hft
  rw [hp] at h2
  refine h2.mono ?_
  rintro e w2 ⟨rfl, o2, hp2, hT2, hft2, hf2⟩
  refine ⟨rfl, o2, hp2.trans hp, hT2, fun b hb => ?_, hf.comp hf2 fun i hi hb => ?_⟩
  · rcases hft2 b hb with h | h
    · exact hft b h
    · exact .inr (Nat.le_trans hf.size h)
  · rcases hft i hb with h | h
    · exact h
    · omega
theorem OOut.quiet {o : Option WO} {s : WS} {w w1 w2 : World} (h : OOut tWr o s w w1) (hf : Fr (fun _ => False) w1 w2) : OOut tWr o s w w2 := by
  obtain ⟨o1, hp, hT, hft, h1⟩ := h
  exact ⟨o1, hp, hT.quiet hf, hft, h1.trans (hf.weak _)⟩
def inL (n : Nat) (s : List Nat) : List Fd := [(1, Nv n), (2, s)]
def rbOf (n : Nat) (s : List Nat) : List Nat := putAll (live (inL n s))
def l0 (n : Nat) (s raw : List Nat) (xss : List (List Nat)) : List Fd := [(2, Nv n), (3, s), (4, raw), (5, listAll xss), (6, listAll [rbOf n s, rbOf n s])]
theorem inL_asc (n : Nat) (s : List Nat) : Asc 0 (inL n s) := by simp [inL, Asc]
theorem l0_asc (n : Nat) (s raw : List Nat) (xss : List (List Nat)) : Asc 0 (l0 n s raw xss) := by simp [l0, Asc]
theorem inL_U {n : Nat} {s : List Nat} (hn : n < U64) (hs : s.length ≤ 10000) : ∀ f ∈ inL n s, f.2.length < U64 := by
  have := Nv_le hn
  intro f hf
  simp only [inL, List.mem_cons, List.mem_nil_iff, or_false] at hf
  unfold U64
  rcases hf with rfl | rfl <;> simp only <;> omega
theorem rb_len {n : Nat} {s : List Nat} (hn : n < U64) (hs : s.length ≤ 10000) : (rbOf n s).length ≤ 10032 := by
  have h := putAll_live_le (inL n s) (inL_U hn hs)
  have := Nv_le hn
  simp only [inL, List.map_cons, List.map_nil, List.sum_cons, List.sum_nil] at h
  show (putAll (live (inL n s))).length ≤ _
  have h2 : (putAll (live (inL n s))).length = (putAll (live [(1, Nv n), (2, s)])).length := rfl
  omega
theorem rb_fresh {n : Nat} {s : List Nat} (hn : n < U64) (hs : s.length ≤ 10000) : (WS.fresh.puts (inL n s)).form = rbOf n s ∧ (WS.fresh.puts (inL n s)).e = 0 := by
  have := puts_fresh (inL_asc n s) (by have := rb_len hn hs; unfold rbOf at this; omega)
  unfold WS.form
  rw [if_pos this.2]
  exact this
theorem short_len10 {n : Nat} (h : n ≤ 100000) : (short n).length ≤ 10 := (short_le (by unfold U64; omega)).2
theorem listAll2_len {b : List Nat} (h : b.length ≤ 10032) : (listAll [b, b]).length ≤ 20084 := by
  have := short_len10 (n := b.length) (by omega)
  simp only [listAll, List.flatMap_cons, List.flatMap_nil, List.length_append, List.length_nil]
  omega
end Go.Proofs.Ytlcjhbemgagchaa
end

section
/-
  proto: rows of bytes that grow; shorts, of both. (printed by pr_short.py)
-/
namespace Go.Proofs.Ytlcjhbemgagchaa
open Go.RowKit
set_option linter.unusedVariables false
set_option linter.unusedSimpArgs false
/-- A slice of slices of bytes, its own, each of them too. -/
structure LLr (W w : World) (xss : List (List Nat)) (B : Option Addr) (j cb : Nat) (rs : List BS) (g : Option Nat) : Prop where
  eq : rs.map (·.xs) = xss
  len : j = xss.length
  ow : Ow w 22 1 B j cb (rs.map BS.cell) g
  new : ∀ b, g = some b → W.heap.size ≤ b
  own : BSs w 0 W.heap.size rs
  fr : Fr (fun _ => False) W w
def LL (W w : World) (xss : List (List Nat)) (B : Option Addr) (j cb : Nat) : Prop := ∃ rs g, LLr W w xss B j cb rs g
theorem LL.begin (W w : World) (hf : Fr (fun _ => False) W w) : LL W w [] none 0 0 := ⟨[], none, rfl, rfl, Ow.nil_ _ _ _, (fun b h => by cases h), BSs.nil_ _ _ _, hf⟩
theorem LL.quiet {W w w' : World} {xss : List (List Nat)} {B : Option Addr} {j cb : Nat} (h : LL W w xss B j cb) (hf : Fr (fun _ => False) w w') : LL W w' xss B j cb := by
  obtain ⟨rs, g, h⟩ := h
  exact ⟨rs, g, h.eq, h.len, h.ow.fr hf (fun _ _ => id), h.new, h.own.quiet hf, h.fr.trans hf⟩
theorem LL.frame {W w : World} {xss : List (List Nat)} {B : Option Addr} {j cb : Nat} (h : LL W w xss B j cb) : Fr (fun _ => False) W w := by
  obtain ⟨rs, g, h⟩ := h; exact h.fr
theorem LL.lat {W w : World} {xss : List (List Nat)} {B : Option Addr} {j cb : Nat} (h : LL W w xss B j cb) : LAt w w.heap.size B j xss := by
  obtain ⟨rs, g, h⟩ := h
  have := h.own.lat' h.ow
  rwa [h.eq] at this
theorem LLr.app {W w w2 w3 : World} {xss : List (List Nat)} {B B3 A2 : Option Addr} {j cb cb3 m c2 : Nat} {rs : List BS} {g g2 g3 : Option Nat} {v : List Nat} (h : LLr W w xss B j cb rs g) (hf2 : Fr (fun _ => False) w w2) (hL2 : Ow w2 5 1 A2 m c2 (v.map bn) g2) (hg2 : ∀ b, g2 = some b → w.heap.size ≤ b)
    (hB3 : Ow w3 22 1 B3 (j + 1) cb3 (rs.map BS.cell ++ [.slice A2 m c2]) g3) (hf23 : Fr (fun x => some x = g) w2 w3) (hg3 : g3 = g ∨ ∃ b, g3 = some b ∧ w2.heap.size ≤ b) : LL W w3 (xss ++ [v]) B3 (j + 1) cb3 := by
  have s0 := h.fr.size
  have s2 := hf2.size
  have hB2 := h.ow.fr hf2 (fun _ _ => id)
  refine ⟨rs ++ [⟨v, A2, m, c2, g2⟩], g3, ?_, ?_, ?_, ?_, ?_, ?_⟩
  · rw [List.map_append, h.eq]; rfl
  · rw [List.length_append, ← h.len]; rfl
  · rw [List.map_append]; exact hB3
  · intro b e
    rcases hg3 with e3 | ⟨x, e3, hx⟩
    · exact h.new b (by rw [← e3]; exact e)
    · rw [e3] at e; cases e; omega
  · have hL3 : Ow w3 5 1 A2 (m + 0) c2 ((v ++ marks 0).map bn) g2 := by
      have : v ++ marks 0 = v := by simp [marks]
      rw [this]
      exact hL2.fr hf23 fun x e1 e2 => by
        rw [← e2] at hB2; rw [e1] at hL2
        exact Ow.ne hB2 hL2 (by decide) rfl
    exact BSs.add (S := fun x => some x = g) h.own ((hf2.weak _).comp hf23 (fun _ _ e => e)) (h.own.apart h.ow (by decide)) (r := ⟨v, A2, m, c2, g2⟩) hL3 hg2 s0
  · exact (h.fr.trans hf2).comp hf23 fun x hx e => by have := h.new x e.symm; omega
set_option maxHeartbeats 2000000 in
set_option maxRecDepth 8000 in
theorem tshorts_any (w : World) (xs : List Int) (A : Option Addr) (n c : Nat) (hn : n ≤ 1000) (hok : okL xs = true) (hA : Sl w 1 A n (xs.map iv)) :
    Calls Try.prog 84 #[.slice A n c] w fun e w' => ∃ B k cb, e = .returned (.slice B k cb) ∧ LL w w' (shs xs) B k cb := by
  obtain ⟨bi, bj, bj0, bj1, bj2⟩ := info_parts infoB
  have Hn := hide (hA.ilen)
  have HA := hide hA
  have Hok := hide hok
  clear hA hok
  go_enter Try.func84, Try.ntmps84
  go_wp2_with fail
  go_loopw [3, 8] (fun u i wr => ∃ (j : Nat) (B : Option Addr) (cb : Nat), j ≤ n ∧ i = .int .i64 (j : Int) ∧ u = .slice B j cb ∧ Hid (LL w wr ((shs xs).take j) B j cb)) (fun _ i _ => n - (intOf i).toNat)
  case atStart => exact ⟨0, none, 0, Nat.zero_le _, rfl, rfl, LL.begin _ _ (Fr.refl _ _)⟩
  case round =>
    obtain ⟨j, B, cb, hj, rfl, rfl, HL⟩ := hrel
    by_cases hlt : j < n
    · have hjl : j < xs.length := by rw [← Hn.out]; exact hlt
      obtain ⟨wo, rfl⟩ : ∃ wo, wo = wr := ⟨_, rfl⟩
      obtain ⟨rs, g, hLr⟩ := HL.out
      have hz := okL_mem Hok.out (List.getElem_mem hjl)
      obtain ⟨t, ht⟩ : ∃ t : Nat, xs[j] = (t : Int) := ⟨xs[j].toNat, by omega⟩
      rw [ht] at hz
      have hdrop : Hid ((shs xs).take (j + 1) = (shs xs).take j ++ [short t]) := by
        show _ = _
        rw [List.take_succ_eq_append_getElem (by rw [shs, List.length_map]; exact hjl)]
        congr 1
        simp [shs, ht]
      obtain ⟨b, o, rfl, c0⟩ := (HA.out.quiet hLr.fr).at_ (j := j) (u := .int .i64 (t : Int)) (by rw [List.getElem?_map, List.getElem?_eq_getElem hjl, ht]; rfl)
      have i0 : (0 : Int) ≤ (j : Int) := by omega
      have i1 : (j : Int) < (n : Int) := by omega
      have q1 : IntKind.i64.wrap ((j : Int) + 1) = ((j + 1 : Nat) : Int) := by rw [IntWalk.i64_in _ (by omega)]; omega
      have q2 : IntKind.u64.wrap (t : Int) = (t : Int) := IntWalk.u64_in _ (by omega)
      have htU : t < U64 := by unfold U64; omega
      have Hlt := hide hlt
      have HLr := hide hLr
      have hB := hLr.ow
      clear hz ht hjl hlt hj HL hLr
      go_wp2_with fail
      refine (short_any _ t htU).mono ?_
      rintro e w2 ⟨A2, c2, g2, rfl, hL2, hg2, hf2⟩
      have hB2 := hB.fr hf2 (fun _ _ => id)
      clear c0 hB
      go_wp2_with (first | (at_builtin; refine wpList_append_ow _ rfl _ _ 82 rfl 22 bi (.slice none 0 0) 1 24 Try.underlying82 bj bj0 bj1 bj2 rfl (by decide) _ _ _ _ _ rfl (hB2.fr ((Fr.refl (fun _ => False) _).alloc _) (fun _ _ => id)) _ _ _ [.slice A2 (short t).length c2] rfl (Sl.one _ _ _) (by intro u hu; simp at hu; subst hu; rfl) (by unfold maxLen; omega) (by omega) ?_) | go_in)
      intro B3 cb3 w3 g3 hB3 hf3 hg3
      have hf23 : Fr (fun x => some x = g) w2 w3 := ((Fr.refl _ _).alloc _).comp hf3 (fun _ _ e => e)
      have HL3 : Hid (LL w w3 ((shs xs).take (j + 1)) B3 (j + 1) cb3) := by
        rw [hdrop.out]
        exact HLr.out.app hf2 hL2 hg2 hB3 hf23 (hg3.imp id fun ⟨b, e, h⟩ => ⟨b, e, by first | omega | (simp at h; omega)⟩)
      clear hB3 hf3 hg3 hf23 hL2 hB2 hg2 hf2 HLr
      go_wp2_with fail
      have := Hlt.out
      exact ⟨⟨j + 1, B3, cb3, by omega, by first | rfl | go_num, rfl, HL3⟩, by simp [intOf]; try omega⟩
    · obtain rfl : j = n := by omega
      have HL2 : Hid (LL w wr (shs xs) B j cb) := by
        have := HL.out
        rwa [List.take_of_length_le (by rw [shs, List.length_map, ← Hn.out]; exact Nat.le_refl _)] at this
      clear hlt hj HL
      go_wp2_with fail
      go_ret
      exact ⟨B, j, cb, rfl, HL2.out⟩
set_option maxHeartbeats 2000000 in
set_option maxRecDepth 8000 in
theorem rshorts_any (w : World) (xs : List Int) (A : Option Addr) (n c : Nat) (hn : n ≤ 1000) (hok : okL xs = true) (hA : Sl w 1 A n (xs.map iv)) :
    Calls Try.prog 81 #[.slice A n c] w (BP (listAll (shs xs)).length (listAll (shs xs)) w) := by
  obtain ⟨bi, bj, bj0, bj1, bj2⟩ := info_parts infoB
  have Hn := hide (hA.ilen)
  have HA := hide hA
  have Hok := hide hok
  clear hA hok
  go_enter Try.func81, Try.ntmps81
  go_wp2_with fail
  go_loopw [3, 4] (fun u i wr => ∃ (j : Nat) (B : Option Addr) (cb : Nat), j ≤ n ∧ i = .int .i64 (j : Int) ∧ u = .slice B j cb ∧ Hid (LL w wr ((shs xs).take j) B j cb)) (fun _ i _ => n - (intOf i).toNat)
  case atStart => exact ⟨0, none, 0, Nat.zero_le _, rfl, rfl, LL.begin _ _ (Fr.refl _ _)⟩
  case round =>
    obtain ⟨j, B, cb, hj, rfl, rfl, HL⟩ := hrel
    by_cases hlt : j < n
    · have hjl : j < xs.length := by rw [← Hn.out]; exact hlt
      obtain ⟨wo, rfl⟩ : ∃ wo, wo = wr := ⟨_, rfl⟩
      obtain ⟨rs, g, hLr⟩ := HL.out
      have hz := okL_mem Hok.out (List.getElem_mem hjl)
      obtain ⟨t, ht⟩ : ∃ t : Nat, xs[j] = (t : Int) := ⟨xs[j].toNat, by omega⟩
      rw [ht] at hz
      have hdrop : Hid ((shs xs).take (j + 1) = (shs xs).take j ++ [short t]) := by
        show _ = _
        rw [List.take_succ_eq_append_getElem (by rw [shs, List.length_map]; exact hjl)]
        congr 1
        simp [shs, ht]
      obtain ⟨b, o, rfl, c0⟩ := (HA.out.quiet hLr.fr).at_ (j := j) (u := .int .i64 (t : Int)) (by rw [List.getElem?_map, List.getElem?_eq_getElem hjl, ht]; rfl)
      have i0 : (0 : Int) ≤ (j : Int) := by omega
      have i1 : (j : Int) < (n : Int) := by omega
      have q1 : IntKind.i64.wrap ((j : Int) + 1) = ((j + 1 : Nat) : Int) := by rw [IntWalk.i64_in _ (by omega)]; omega
      have q2 : IntKind.u64.wrap (t : Int) = (t : Int) := IntWalk.u64_in _ (by omega)
      have htU : t < U64 := by unfold U64; omega
      have Hlt := hide hlt
      have HLr := hide hLr
      have hB := hLr.ow
      clear hz ht hjl hlt hj HL hLr
      go_wp2_with fail
      refine (rshort_any _ t htU).mono ?_
      rintro e w2 ⟨A2, c2, g2, rfl, hL2, hg2, hf2⟩
      have hB2 := hB.fr hf2 (fun _ _ => id)
      clear c0 hB
      go_wp2_with (first | (at_builtin; refine wpList_append_ow _ rfl _ _ 82 rfl 22 bi (.slice none 0 0) 1 24 Try.underlying82 bj bj0 bj1 bj2 rfl (by decide) _ _ _ _ _ rfl (hB2.fr ((Fr.refl (fun _ => False) _).alloc _) (fun _ _ => id)) _ _ _ [.slice A2 (short t).length c2] rfl (Sl.one _ _ _) (by intro u hu; simp at hu; subst hu; rfl) (by unfold maxLen; omega) (by omega) ?_) | go_in)
      intro B3 cb3 w3 g3 hB3 hf3 hg3
      have hf23 : Fr (fun x => some x = g) w2 w3 := ((Fr.refl _ _).alloc _).comp hf3 (fun _ _ e => e)
      have HL3 : Hid (LL w w3 ((shs xs).take (j + 1)) B3 (j + 1) cb3) := by
        rw [hdrop.out]
        exact HLr.out.app hf2 hL2 hg2 hB3 hf23 (hg3.imp id fun ⟨b, e, h⟩ => ⟨b, e, by first | omega | (simp at h; omega)⟩)
      clear hB3 hf3 hg3 hf23 hL2 hB2 hg2 hf2 HLr
      go_wp2_with fail
      have := Hlt.out
      exact ⟨⟨j + 1, B3, cb3, by omega, by first | rfl | go_num, rfl, HL3⟩, by simp [intOf]; try omega⟩
    · obtain rfl : j = n := by omega
      have HL2 : Hid (LL w wr (shs xs) B j cb) := by
        have := HL.out
        rwa [List.take_of_length_le (by rw [shs, List.length_map, ← Hn.out]; exact Nat.le_refl _)] at this
      clear hlt hj HL
      have hM : ∀ x ∈ shs xs, x.length ≤ 10 := shs_len Hok.out
      have hT := shsAll_len Hok.out
      rw [← Hn.out] at hT
      have c1 := rlist_any wr (shs xs) B j cb _ (by omega) (Nat.le_refl _) (fun x hx => by have := hM x hx; omega) (by omega) HL2.out.lat
      clear hM hT
      go_wp2_with fail
      refine c1.mono ?_
      rintro e w2 ⟨A2, c2, g2, rfl, hO, hg, hf⟩
      have s0 := HL2.out.frame.size
      have HF := hide (HL2.out.frame.trans hf)
      go_wp2_with fail
      go_ret
      exact ⟨A2, c2, g2, rfl, hO, fun b e => Nat.le_trans s0 (hg b e), HF.out⟩
end Go.Proofs.Ytlcjhbemgagchaa
end

section
/-
  proto's reference: rows of fields that grow: with, num.
-/
namespace Go.Proofs.Ytlcjhbemgagchaa
open Go.RowKit
set_option linter.unusedVariables false
set_option linter.unusedSimpArgs false
abbrev tFld : TypeId := 173
structure FV where
  t : Int
  V : Option Addr
  m : Nat
  d : Nat
  v : List Nat
def FV.cells (r : FV) : List Value := [.int .i64 r.t, .slice r.V r.m r.d, .int .i64 0, .int .i64 0, .bool false]
theorem FV.cells_len (r : FV) : r.cells.length = 5 := rfl
theorem live_app (a b : List Fd) : live (a ++ b) = live a ++ live b := List.filter_append ..
/-- A row of fields, its own; the values can be read. -/
structure FLr (W w : World) (l : List Fd) (A : Option Addr) (n c : Nat) (rs : List FV) (g : Option Nat) : Prop where
  eq : rs.map (fun r => ((r.t, r.v) : Fd)) = live l
  ow : Ow w tFld 5 A n c (rs.flatMap FV.cells) g
  new : ∀ b, g = some b → W.heap.size ≤ b
  sl : ∀ r ∈ rs, Sl w 1 r.V r.m (r.v.map bn)
  ne : ∀ r ∈ rs, ∀ b o, r.V = some ⟨b, o, none⟩ → 0 < r.m → g ≠ some b
  fr : Fr (fun _ => False) W w
def FL (W w : World) (l : List Fd) (A : Option Addr) (n c : Nat) : Prop := ∃ rs g, FLr W w l A n c rs g
theorem FL.begin (W w : World) (hf : Fr (fun _ => False) W w) : FL W w [] none 0 0 := ⟨[], none, rfl, Ow.nil_ _ _ _, (fun b h => by cases h), (fun r h => by cases h), (fun r h => by cases h), hf⟩
theorem FLr.quiet {W w w' : World} {l : List Fd} {A : Option Addr} {n c : Nat} {rs : List FV} {g : Option Nat} (h : FLr W w l A n c rs g) (hf : Fr (fun _ => False) w w') : FLr W w' l A n c rs g :=
  ⟨h.eq, h.ow.fr hf (fun _ _ => id), h.new, fun r hr => (h.sl r hr).quiet hf, h.ne, h.fr.trans hf⟩
theorem FL.quiet {W w w' : World} {l : List Fd} {A : Option Addr} {n c : Nat} (h : FL W w l A n c) (hf : Fr (fun _ => False) w w') : FL W w' l A n c := by
  obtain ⟨rs, g, h⟩ := h; exact ⟨rs, g, h.quiet hf⟩
theorem FL.frame {W w : World} {l : List Fd} {A : Option Addr} {n c : Nat} (h : FL W w l A n c) : Fr (fun _ => False) W w := by
  obtain ⟨rs, g, h⟩ := h; exact h.fr
theorem FLr.len {W w : World} {l : List Fd} {A : Option Addr} {n c : Nat} {rs : List FV} {g : Option Nat} (h : FLr W w l A n c rs g) : n = rs.length ∧ rs.length = (live l).length := by
  have h1 := h.ow.1
  rw [rows_len FV.cells 5 FV.cells_len] at h1
  have h2 := congrArg List.length h.eq
  rw [List.length_map] at h2
  exact ⟨by omega, h2⟩
theorem FL.fat {W w : World} {l : List Fd} {A : Option Addr} {n c : Nat} (h : FL W w l A n c) : FAt w 5 A n (live l) := by
  obtain ⟨rs, g, h⟩ := h
  obtain ⟨h1, h2⟩ := h.len
  refine ⟨by omega, fun hn => ?_⟩
  have h0 : 0 < rs.length := by omega
  obtain ⟨b, o, hA, -, -⟩ := h.ow.look (j := 0 * 5 + 0) (u := .int .i64 rs[0].t) (by rw [rows_get FV.cells 5 FV.cells_len _ _ _ h0 (by omega)]; rfl)
  refine ⟨b, o, hA, fun i hi => ?_⟩
  have hi' : i < rs.length := by omega
  have e : (live l)[i] = (rs[i].t, rs[i].v) := by
    have : (rs.map (fun r => ((r.t, r.v) : Fd)))[i]'(by rw [List.length_map]; exact hi') = (live l)[i] := by simp only [h.eq]
    rw [← this, List.getElem_map]
  obtain ⟨b0, o0, hA0, -, c0, -⟩ := h.ow.look (j := i * 5 + 0) (u := .int .i64 rs[i].t) (by rw [rows_get FV.cells 5 FV.cells_len _ _ _ hi' (by omega)]; rfl)
  obtain ⟨b1, o1, hA1, -, c1, -⟩ := h.ow.look (j := i * 5 + 1) (u := .slice rs[i].V rs[i].m rs[i].d) (by rw [rows_get FV.cells 5 FV.cells_len _ _ _ hi' (by omega)]; rfl)
  rw [hA] at hA0 hA1
  cases hA0
  cases hA1
  rw [Nat.add_zero] at c0
  rw [← Nat.add_assoc] at c1
  exact ⟨rs[i].V, rs[i].m, rs[i].d, by rw [e]; exact c0, c1, by rw [e]; exact h.sl _ (List.getElem_mem hi')⟩
set_option maxHeartbeats 2000000 in
set_option maxRecDepth 8000 in
theorem with_any (W w0 w : World) (l : List Fd) (A : Option Addr) (n c : Nat) (hF : FL W w0 l A n c) (hf0 : Fr (fun _ => False) w0 w) (t : Int) (V : Option Addr) (m d : Nat) (v : List Nat) (hV : Sl w 1 V m (v.map bn)) (hnew : ∀ b o, V = some ⟨b, o, none⟩ → 0 < m → w0.heap.size ≤ b) (hl : l.length ≤ 100) :
    Calls Try.prog 76 #[.slice A n c, .int .i64 t, .slice V m d] w fun e w' => ∃ A' n' c', e = .returned (.slice A' n' c') ∧ FL W w' (l ++ [(t, v)]) A' n' c' := by
  obtain ⟨j0, hj, hj0, hj1, hj2⟩ := info_parts info42
  have hm : m = v.length := hV.len
  by_cases h0 : m = 0
  · have hv : v = [] := List.eq_nil_of_length_eq_zero (by omega)
    have HR : Hid (FL W w (l ++ [(t, v)]) A n c) := by
      obtain ⟨rs, g, h⟩ := hF.quiet hf0
      refine ⟨rs, g, ?_, h.ow, h.new, h.sl, h.ne, h.fr⟩
      rw [h.eq, live_app, hv]
      show _ = live l ++ []
      rw [List.append_nil]
    subst h0
    clear hF hf0 hV hnew hm hv
    go_enter Try.func76, Try.ntmps76
    go_wp2_with fail
    go_ret
    exact ⟨A, n, c, rfl, HR.out⟩
  · obtain ⟨rs, g, h0r⟩ := hF
    have hr := h0r.quiet hf0
    have Hr := hide hr
    have hB := hr.ow
    have hn : n ≤ 100 := by
      obtain ⟨a1, a2⟩ := hr.len
      have : (live l).length ≤ l.length := List.length_filter_le ..
      omega
    have Hg : Hid (∀ b o, V = some ⟨b, o, none⟩ → 0 < m → g ≠ some b) := fun b o e hm e2 => by
      have := hnew b o e hm
      have := h0r.ow.lt b e2
      omega
    have HV := hide hV
    have Hv : Hid (v ≠ []) := fun e => h0 (by rw [hm, e]; rfl)
    have hm0 : ¬ (m : Int) = 0 := by omega
    have hb0 : ((m : Int) == 0) = false := beq_eq_false_iff_ne.2 hm0
    have hd0 : decide (m = 0) = false := decide_eq_false h0
    have he0 : (m == 0) = false := beq_eq_false_iff_ne.2 h0
    clear h0r hf0 hV hnew hm hr hl
    go_enter Try.func76, Try.ntmps76
    go_wp2_with (first | (at_builtin; go_loud (refine wpList_append_ow _ rfl _ _ 132 rfl tFld j0 _ 5 56 Try.underlying132 hj hj0 hj1 hj2 rfl (by decide) _ _ _ _ _ rfl (hB.fr (S := fun _ => False) ((Fr.refl _ _).alloc _) (fun _ _ => id)) _ _ _ [.int .i64 t, .slice V m d, .int .i64 0, .int .i64 0, .bool false] rfl (Sl.row _ #[.int .i64 t, .slice V m d, .int .i64 0, .int .i64 0, .bool false] tFld 5 1 rfl) (by intro u hu; simp at hu; rcases hu with rfl | rfl | rfl | rfl <;> rfl) (by unfold maxLen; omega) (by omega) ?_)) | go_in)
    intro A2 c2 w2 g2 hB2 hf2 hg2
    have hf02 : Fr (fun x => some x = g) w w2 := ((Fr.refl _ _).alloc _).comp hf2 (fun _ _ e => e)
    have HR : Hid (FL W w2 (l ++ [(t, v)]) A2 (n + 1) c2) := by
      have s0 := Hr.out.fr.size
      refine ⟨rs ++ [⟨t, V, m, d, v⟩], g2, ?_, ?_, ?_, ?_, ?_, ?_⟩
      · rw [List.map_append, Hr.out.eq, live_app, live_cons t [] Hv.out]; rfl
      · rw [List.flatMap_append]; exact hB2
      · intro b e
        rcases hg2 with e3 | ⟨x, e3, hx⟩
        · exact Hr.out.new b (by rw [← e3]; exact e)
        · rw [e3] at e; cases e; (try simp at hx); omega
      · intro r hrm
        rcases List.mem_append.1 hrm with h | h
        · exact Sl.fr' hf02 (Hr.out.sl r h) (fun b o e hm e2 => Hr.out.ne r h b o e hm e2.symm)
        · have : r = ⟨t, V, m, d, v⟩ := by simpa using h
          subst this
          exact Sl.fr' hf02 HV.out (fun b o e hm e2 => Hg.out b o e hm e2.symm)
      · intro r hrm b o e hm e2
        rcases hg2 with e3 | ⟨x, e3, hx⟩
        · rw [e3] at e2
          rcases List.mem_append.1 hrm with h | h
          · exact Hr.out.ne r h b o e hm e2
          · have : r = ⟨t, V, m, d, v⟩ := by simpa using h
            subst this
            exact Hg.out b o e hm e2
        · rw [e3] at e2
          cases e2
          have hlt : b < w.heap.size := by
            rcases List.mem_append.1 hrm with h | h
            · exact (Hr.out.sl r h).lt b o e hm
            · have : r = ⟨t, V, m, d, v⟩ := by simpa using h
              subst this
              exact HV.out.lt b o e hm
          (try simp at hx)
          omega
      · exact Hr.out.fr.comp hf02 fun x hx e => by have := Hr.out.new x e.symm; omega
    clear hB2 hf2 hg2 hf02 Hr hB Hg HV
    go_wp2_with fail
    go_ret
    exact ⟨A2, n + 1, c2, rfl, HR.out⟩
set_option maxHeartbeats 2000000 in
set_option maxRecDepth 8000 in
theorem num27_any (W w : World) (l : List Fd) (A : Option Addr) (n c : Nat) (hF : FL W w l A n c) (t : Int) (N : Nat) (hN : N < U64) (hl : l.length ≤ 100) :
    Calls Try.prog 75 #[.slice A n c, .int .i64 t, .int .u64 (N : Int)] w fun e w' => ∃ A' n' c', e = .returned (.slice A' n' c') ∧ FL W w' (l ++ [(t, Nv N)]) A' n' c' := by
  by_cases h0 : N = 0
  · have HR : Hid (FL W w (l ++ [(t, Nv N)]) A n c) := by
      obtain ⟨rs, g, h⟩ := hF
      refine ⟨rs, g, ?_, h.ow, h.new, h.sl, h.ne, h.fr⟩
      rw [h.eq, live_app, Nv, if_pos h0]
      show _ = live l ++ []
      rw [List.append_nil]
    subst h0
    clear hF
    go_enter Try.func75, Try.ntmps75
    go_wp2_with fail
    go_ret
    exact ⟨A, n, c, rfl, HR.out⟩
  · have HF := hide hF
    have hv : Nv N = short N := by rw [Nv, if_neg h0]
    have Hv := hide hv
    have hm0 : ¬ (N : Int) = 0 := by omega
    have hb0 : ((N : Int) == 0) = false := beq_eq_false_iff_ne.2 hm0
    have hd0 : decide (N = 0) = false := decide_eq_false h0
    have he0 : (N == 0) = false := beq_eq_false_iff_ne.2 h0
    clear hF hv
    go_enter Try.func75, Try.ntmps75
    go_wp2_with fail
    refine (rshort_any _ N hN).mono ?_
    rintro e w2 ⟨A2, c2, g2, rfl, hO, hg, hf⟩
    have c1 := with_any W w w2 l A n c HF.out hf t A2 _ c2 (short N) hO.sl (fun b o e hm => by subst e; exact hg b hO.blk) hl
    clear hO hg hf
    go_wp2_with fail
    refine c1.mono ?_
    rintro e w3 ⟨A3, n3, c3, rfl, h3⟩
    have H3 := hide h3
    clear c1 h3
    go_wp2_with fail
    go_ret
    exact ⟨A3, n3, c3, rfl, by rw [Hv.out]; exact H3.out⟩
end Go.Proofs.Ytlcjhbemgagchaa
end
