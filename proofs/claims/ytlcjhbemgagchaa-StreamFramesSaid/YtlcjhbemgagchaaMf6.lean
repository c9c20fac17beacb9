/-
  Texts merged into one, to keep the claim small: TlvPiece, TlvPut, Reg.
-/
import Derived.Test.YtlcjhbemgagchaaMf5
import Derived.Deep.RegionHeld3
import Derived.Deep.DeepCutAuto
import Derived.Deep.DrawnRows
import Derived.Test.YtlcjhbemgagchaaOwn
import Derived.Deep.AppendLies
section
/-
  piece (tlv), Copied (the reference).
-/
namespace Go.Proofs.Ytlcjhbemgagchaa
open Go.RowKit
set_option linter.unusedVariables false

theorem results_tmp4 {fn : Func} {t u v x : Tmp} (h : fn.results = #[.tmp t, .tmp u, .tmp v, .tmp x]) (tmps : Array Value) (P : Program) (w : World) :
    (results fn tmps).run P w = .ok (.tuple #[tmps.getD t undef, tmps.getD u undef, tmps.getD v undef, tmps.getD x undef]) w := by
  simp [results, h]

/-- A part of a slice. -/
theorem Sl.part {w : World} {n : Nat} {b o : Nat} {xs : List Value} (h : Sl w 1 (some ⟨b, o, none⟩) n xs) {f t : Nat} (h1 : f ≤ t) (h2 : t ≤ n) : Sl w 1 (some ⟨b, o + f, none⟩) (t - f) ((xs.drop f).take (t - f)) := by
  have hl := h.1
  refine ⟨by simp; omega, fun h0 => ⟨b, o + f, rfl, fun j u hu => ?_⟩⟩
  obtain ⟨b', o', e, hc⟩ := h.2 (by omega)
  cases e
  rw [List.getElem?_take] at hu
  split at hu
  · rw [List.getElem?_drop] at hu
    have := hc _ _ hu
    rwa [← Nat.add_assoc] at this
  · cases hu

/-- Behind piece: where the bytes lie, and in which block. -/
def PieceAt (bs : List Nat) (a : Nat) (b o : Nat) (e : Ending) : Prop :=
  (∃ (p : Nat) (er : Int), pieceS bs a = .inr (p, er) ∧ e = .returned (.tuple #[.slice none 0 0, .int .i64 0, .int .i64 (p : Int), .int .i64 er])) ∨
  (∃ f t o' : Nat, pieceS bs a = .inl (f, t) ∧ e = .returned (.tuple #[.slice (some ⟨b, o', none⟩) (t - f) (t - f), .int .i64 (t : Int), .int .i64 0, .int .i64 0]) ∧ (f < t → o' = o + f))

set_option maxHeartbeats 1000000 in
set_option maxRecDepth 4000 in
theorem piece_any (w : World) (xs : List Nat) (b o : Nat) (n c : Nat) (a : Nat) (hn : n ≤ 140737488355328) (hc : n ≤ c) (hc2 : c ≤ 9223372036854775807) (hl : n = xs.length) (ha : a ≤ n) (h256 : ∀ x ∈ xs, x < 256) (hA : Sl w 1 (some ⟨b, o, none⟩) n (xs.map bn)) :
    Calls Try.prog 143 #[.slice (some ⟨b, o, none⟩) n c, .int .i64 (a : Int)] w fun e w' => PieceAt xs a b o e ∧ w = w' := by
  obtain ⟨N, hN⟩ : ∃ N, (readShort xs a).1 = N := ⟨_, rfl⟩
  obtain ⟨T, hT⟩ : ∃ T, (readShort xs a).2.1 = T := ⟨_, rfl⟩
  obtain ⟨E, hE⟩ : ∃ E, (readShort xs a).2.2 = E := ⟨_, rfl⟩
  have hr : readShort xs a = (N, T, E) := by rw [← hN, ← hT, ← hE]
  have hv : Hid (ReadVal xs a = .tuple #[.int .u64 (N : Int), .int .i64 T, .int .i64 E]) := by show _ = _; rw [ReadVal, hr]
  have Hl := hide hl
  have hp0 : Hid (pieceS xs a = if E ≠ 0 then .inr (a, E) else if xs.length - T.toNat < N then .inr (T.toNat, 22) else .inl (T.toNat, T.toNat + N)) := by
    show _ = _; rw [pieceS, hr]
  by_cases h0 : E = 0
  · subst h0
    obtain ⟨h1, h2⟩ := readShort_ok hr
    rw [← Hl.out] at h2
    obtain ⟨t, rfl⟩ : ∃ t : Nat, T = (t : Int) := ⟨T.toNat, by omega⟩
    have hp : Hid (pieceS xs a = if n - t < N then .inr (t, 22) else .inl (t, t + N)) := by
      show _ = _; rw [hp0.out, Hl.out]; rfl
    clear hN hT hE hr hl hp0
    have w1 : IntKind.i64.wrap ((n : Int) - t) = (n : Int) - t := IntWalk.i64_in _ (by omega)
    have w2 : IntKind.u64.wrap ((n : Int) - t) = (n : Int) - t := IntWalk.u64_in _ (by omega)
    by_cases hb : n - t < N
    · have hb' : (n : Int) - t < N := by omega
      have hp' := hide (hp.out.trans (if_pos hb))
      clear hp hb
      go_enter Try.func143, Try.ntmps143
      go_wp2_with fail
      refine (tread_any _ xs _ n c _ hn Hl.out h256 hA).mono ?_
      rintro e w' ⟨rfl, rfl⟩
      rw [hv.out]
      go_wp2_with fail
      ((try simp only [Exit.inBlock, Exit.then]); refine bodyPost_ret (results_tmp4 rfl _ _ _) rfl ?_)
      exact ⟨.inl ⟨t, 22, hp'.out, rfl⟩, rfl⟩
    · have hb' : ¬ (n : Int) - t < N := by omega
      have hp' := hide (hp.out.trans (if_neg hb))
      clear hp
      have w3 : IntKind.i64.wrap (N : Int) = (N : Int) := IntWalk.i64_in _ (by omega)
      have w4 : IntKind.i64.wrap ((t : Int) + N) = (t : Int) + N := IntWalk.i64_in _ (by omega)
      have k0 : (0 : Int) ≤ t := by omega
      have k1 : (t : Int) ≤ (t : Int) + N := by omega
      have k2 : (t : Int) + N ≤ c := by omega
      go_enter Try.func143, Try.ntmps143
      go_wp2_with fail
      refine (tread_any _ xs _ n c _ hn Hl.out h256 hA).mono ?_
      rintro e w' ⟨rfl, rfl⟩
      rw [hv.out]
      go_wp2_with fail
      all_goals
        ((try simp only [Exit.inBlock, Exit.then]); refine bodyPost_ret (results_tmp4 rfl _ _ _) rfl ?_)
        first
          | (have e1 : t + N - t = 0 := by omega
             exact ⟨.inr ⟨t, t + N, o, hp'.out, by rw [e1]; rfl, fun h => by omega⟩, rfl⟩)
          | (have e1 : t + N - t = N := by omega
             exact ⟨.inr ⟨t, t + N, o + t, hp'.out, by rw [e1]; rfl, fun _ => rfl⟩, rfl⟩)
  · have hp := hide (hp0.out.trans (if_pos h0))
    clear hp0 hr hN hT hE hl
    go_enter Try.func143, Try.ntmps143
    go_wp2_with fail
    refine (tread_any _ xs _ n c _ hn Hl.out h256 hA).mono ?_
    rintro e w' ⟨rfl, rfl⟩
    rw [hv.out]
    go_wp2_with fail
    ((try simp only [Exit.inBlock, Exit.then]); refine bodyPost_ret (results_tmp4 rfl _ _ _) rfl ?_)
    exact ⟨.inl ⟨a, E, hp.out, rfl⟩, rfl⟩

theorem piece_at (w : World) (xs : List Nat) (b o : Nat) (n c : Nat) (a : Nat) (z : Int) (hz : z = (a : Int)) (hn : n ≤ 140737488355328) (hc : n ≤ c) (hc2 : c ≤ 9223372036854775807) (hl : n = xs.length) (ha : a ≤ n) (h256 : ∀ x ∈ xs, x < 256) (hA : Sl w 1 (some ⟨b, o, none⟩) n (xs.map bn)) :
    Calls Try.prog 143 #[.slice (some ⟨b, o, none⟩) n c, .int .i64 z] w fun e w' => PieceAt xs a b o e ∧ w = w' := by
  subst hz; exact piece_any w xs b o n c a hn hc hc2 hl ha h256 hA

set_option maxHeartbeats 1000000 in
set_option maxRecDepth 4000 in
theorem copied_any (w : World) (xs : List Nat) (A : Option Addr) (n c : Nat) (hn : n ≤ 140737488355328) (hA : Sl w 1 A n (xs.map bn)) :
    Calls Try.prog 134 #[.slice A n c] w (BP n xs w) := by
  obtain ⟨i0, hi, hz0, hz1, hz2⟩ := info_parts info5
  go_enter Try.func134, Try.ntmps134
  go_wp2_with (at_builtin; refine wpList_append_ow _ rfl _ _ 22 rfl 5 i0 (.int .u8 0) 1 1 Try.underlying22 hi hz0 hz1 hz2 rfl (by decide) _ _ _ _ _ rfl (Ow.nil_ _ _ _) _ _ _ _ rfl hA (bn_one _) (by unfold maxLen; omega) (by omega) ?_)
  intro A2 c2 w2 g2 hO2 hf2 hg2
  go_wp2_with fail
  go_ret
  refine ⟨A2, c2, g2, by simp, by simpa using hO2, ?_, hf2.mono fun k _ e => by cases e⟩
  intro b hb
  rcases hg2 with rfl | ⟨b', rfl, h⟩
  · cases hb
  · cases hb; exact h
end Go.Proofs.Ytlcjhbemgagchaa
end

section
/-
  tlv.Put and the reference's Put.
-/
namespace Go.Proofs.Ytlcjhbemgagchaa
open Go.RowKit
set_option linter.unusedVariables false

def putScan (last : Int) : List (Int × List Nat) → Nat
  | [] => 0
  | (t, v) :: r => if t ≤ last ∨ 255 < t then 21 else if v.length = 0 then 20 else putScan t r
def putAll (fs : List (Int × List Nat)) : List Nat := fs.flatMap fun f => formF f.1.toNat f.2
def putErr (fs : List (Int × List Nat)) : Nat := if putScan 0 fs ≠ 0 then putScan 0 fs else if 1048576 < (putAll fs).length then 3 else 0
def putBytes (fs : List (Int × List Nat)) : List Nat := if putErr fs = 0 then putAll fs else []
theorem putAll_take {fs : List (Int × List Nat)} {k : Nat} (h : k < fs.length) : putAll (fs.take (k + 1)) = putAll (fs.take k) ++ formF fs[k].1.toNat fs[k].2 := by
  unfold putAll
  rw [List.take_succ_eq_append_getElem h, List.flatMap_append]; simp

/-- The slice '.slice A n c' leads to the fields fs (size cells each: the tag, the value, ..). -/
def FAt (w : World) (size : Nat) (A : Option Addr) (n : Nat) (fs : List (Int × List Nat)) : Prop :=
  n = fs.length ∧ (0 < n → ∃ b o, A = some ⟨b, o, none⟩ ∧ ∀ (i : Nat) (hi : i < fs.length), ∃ V m d, w.cell? ⟨b, o + i * size, none⟩ = some (.int .i64 fs[i].1) ∧ w.cell? ⟨b, o + i * size + 1, none⟩ = some (.slice V m d) ∧ Sl w 1 V m (fs[i].2.map bn))
theorem FAt.quiet {w w' : World} {size n : Nat} {A : Option Addr} {fs : List (Int × List Nat)} (h : FAt w size A n fs) (hf : Fr (fun _ => False) w w') : FAt w' size A n fs := by
  refine ⟨h.1, fun hn => ?_⟩
  obtain ⟨b, o, hA, hc⟩ := h.2 hn
  refine ⟨b, o, hA, fun i hi => ?_⟩
  obtain ⟨V, m, d, c0, c1, hS⟩ := hc i hi
  exact ⟨V, m, d, (hf.cell (World.block_lt_of_cell? w _ c0) id).trans c0, (hf.cell (World.block_lt_of_cell? w _ c1) id).trans c1, hS.below hf (fun _ _ => id)⟩
theorem Sl.lt {w : World} {n : Nat} {A : Option Addr} {xs : List Value} (hS : Sl w 1 A n xs) : ∀ b o, A = some ⟨b, o, none⟩ → 0 < n → b < w.heap.size := by
  intro b o hA hn
  obtain ⟨b2, o2, h2, hc2⟩ := hS.2 hn
  rw [hA] at h2; cases h2
  have hx : 0 < xs.length := by rw [hS.1]; omega
  exact World.block_lt_of_cell? w _ (hc2 0 _ (List.getElem?_eq_getElem hx))

/-- Behind Put: the bytes (none beside an error), in new memory; the error. -/
def PutPost (bs : List Nat) (er : Nat) (w : World) (e : Ending) (w' : World) : Prop :=
  ∃ A n c g, e = .returned (.tuple #[.slice A n c, .int .i64 (er : Int)]) ∧ Ow w' 5 1 A n c (bs.map bn) g ∧ (∀ b, g = some b → w.heap.size ≤ b) ∧ Fr (fun _ => False) w w'
theorem PutPost.err {fs : List (Int × List Nat)} {w w' : World} {er : Nat} (h : putErr fs = er) (h0 : er ≠ 0) (hf : Fr (fun _ => False) w w') : PutPost (putBytes fs) (putErr fs) w (.returned (.tuple #[.slice none 0 0, .int .i64 (er : Int)])) w' := by
  refine ⟨none, 0, 0, none, by rw [h], ?_, (fun b h => by cases h), hf⟩
  rw [putBytes, h, if_neg h0]; exact Ow.nil_ _ _ _

/-- How much of the bytes stands in b. -/
def Held (bs all : List Nat) : Prop := bs = all ∨ 1048576 < bs.length ∧ bs.length ≤ all.length

end Go.Proofs.Ytlcjhbemgagchaa
end

section
/-
  append by Ow at a step of a region that draws its order.
-/
namespace Go.Proofs.Ytlcjhbemgagchaa
open Go.RowKit
set_option linter.unusedVariables false
section
variable {P : Program} (w : World)
theorem wp_append_ow {o : Oper} {a : Act} {K : Act → World → Prop} {Q : Exit → Act → World → Prop} (s x : Operand) (t : TypeId)
    (ho : o.op = .call { callee := .builtin .append, args := #[s, x], argTypes := #[t, t] })
    (e : TypeId) (i : TypeInfo) (z : Value) (size bytes : Nat) (ht : P.underlying t = some (.slice e)) (hi : P.info? e = some i) (hz : i.zero = some z)
    (hsize : i.size = size) (hby : i.bytes = bytes) (hzs : z.cells.size = size) (hsz : 0 < size)
    (A : Option Addr) (n c : Nat) (xs : List Value) (g : Option Nat) (hs : a.eval s = .slice A n c) (hown : Ow w e size A n c xs g)
    (A' : Option Addr) (m c' : Nat) (news : List Value) (hx : a.eval x = .slice A' m c') (hsrc : Sl w size A' m news) (h1 : ∀ u ∈ news, u.oneCell' = true)
    (h63 : n + m ≤ maxLen) (hbytes : (n + m) * bytes ≤ 140737488355328)
    (h : ∀ A2 c2 w2 g2, Ow w2 e size A2 (n + m) c2 (xs ++ news) g2 → Fr (fun k => some k = g) w w2 → (g2 = g ∨ ∃ b, g2 = some b ∧ w.heap.size ≤ b) → K (a.put o.dst (.slice A2 (n + m) c2)) w2) : o.wp P a w K Q := by
  obtain ⟨A2, c2, w2, g2, hrun, h2, h3, h4⟩ := run_append_ow (P := P) w t o.type e i z size bytes ht hi hz hsize hby hzs hsz A n c xs g hown A' m c' news hsrc h1 h63 hbytes
  unfold Oper.wp execOp
  simp only [ho, resolve, invoke, builtin, Sem.run_bind, Sem.run_pure, Result.andThen_ok, List.map_toArray, List.map_cons, List.map_nil, hs, hx, hrun]
  exact h A2 c2 w2 g2 h2 h3 h4
theorem step_append_ow {ops : Array Oper} {o : Oper} {a : Act} {K : Act → World → Prop} {Q : Exit → Act → World → Prop} {E : Prop} (hgd : o.guard = none) (s x : Operand) (t : TypeId)
    (ho : o.op = .call { callee := .builtin .append, args := #[s, x], argTypes := #[t, t] })
    (e : TypeId) (i : TypeInfo) (z : Value) (size bytes : Nat) (ht : P.underlying t = some (.slice e)) (hi : P.info? e = some i) (hz : i.zero = some z)
    (hsize : i.size = size) (hby : i.bytes = bytes) (hzs : z.cells.size = size) (hsz : 0 < size)
    (A : Option Addr) (n c : Nat) (xs : List Value) (g : Option Nat) (hs : a.eval s = .slice A n c) (hown : Ow w e size A n c xs g)
    (A' : Option Addr) (m c' : Nat) (news : List Value) (hx : a.eval x = .slice A' m c') (hsrc : Sl w size A' m news) (h1 : ∀ u ∈ news, u.oneCell' = true)
    (h63 : n + m ≤ maxLen) (hbytes : (n + m) * bytes ≤ 140737488355328)
    (h : ∀ A2 c2 w2 g2, Ow w2 e size A2 (n + m) c2 (xs ++ news) g2 → Fr (fun k => some k = g) w w2 → (g2 = g ∨ ∃ b, g2 = some b ∧ w.heap.size ≤ b) → K (a.put o.dst (.slice A2 (n + m) c2)) w2) :
    if Region.wanted o (yielded ops a.tmps) = true then Oper.wp P o a w K Q else E := by
  have hw : Region.wanted o (yielded ops a.tmps) = true := by simp [Region.wanted, hgd]
  rw [if_pos hw]
  exact wp_append_ow w s x t ho e i z size bytes ht hi hz hsize hby hzs hsz A n c xs g hs hown A' m c' news hx hsrc h1 h63 hbytes h
end
end Go.Proofs.Ytlcjhbemgagchaa
end
