/-
  Texts merged into one, to keep the claim small: TlvPiece, TlvPut, Reg, TlvParts.
-/
import Derived.Test.YtahhecendjfenaaMd2
import Derived.Deep.RegionHeld3
import Derived.Deep.DeepCutAuto
import Derived.Deep.DrawnRows
import Derived.Test.YtahhecendjfenaaMd1
import Derived.Deep.AppendLies
section
/-
  piece (tlv), Copied (the reference).
-/
namespace Go.Proofs.Ytahhecendjfenaa
open Go.RowKit
set_option linter.unusedVariables false

theorem results_tmp4 {fn : Func} {t u v x : Tmp} (h : fn.results = #[.tmp t, .tmp u, .tmp v, .tmp x]) (tmps : Array Value) (P : Program) (w : World) :
    (results fn tmps).run P w = .ok (.tuple #[tmps.getD t undef, tmps.getD u undef, tmps.getD v undef, tmps.getD x undef]) w := by
  simp [results, h]

/-- A part of a slice. -/
theorem Sl.part {w : World} {n : Nat} {b o : Nat} {xs : List Value} (h : Sl w 1 (some ⟨b, o, none⟩) n xs) {f t : Nat} (h1 : f ≤ t) (h2 : t ≤ n) : Sl w 1 (some ⟨b, o + f, none⟩) (t - f) ((xs.drop f).take (t - f)) := by
  have hl := h.1
  refine ⟨by simp; omega, fun h0 => ⟨b, o + f, rfl, fun j u hu => ?_⟩⟩
  obtain ⟨b', o', e, hc⟩ := h.2 (by omega)
  cases e
  rw [List.getElem?_take] at hu
  split at hu
  · rw [List.getElem?_drop] at hu
    have := hc _ _ hu
    rwa [← Nat.add_assoc] at this
  · cases hu

/-- Behind piece: where the bytes lie, and in which block. -/
def PieceAt (bs : List Nat) (a : Nat) (b o : Nat) (e : Ending) : Prop :=
  (∃ (p : Nat) (er : Int), pieceS bs a = .inr (p, er) ∧ e = .returned (.tuple #[.slice none 0 0, .int .i64 0, .int .i64 (p : Int), .int .i64 er])) ∨
  (∃ f t o' : Nat, pieceS bs a = .inl (f, t) ∧ e = .returned (.tuple #[.slice (some ⟨b, o', none⟩) (t - f) (t - f), .int .i64 (t : Int), .int .i64 0, .int .i64 0]) ∧ (f < t → o' = o + f))

set_option maxHeartbeats 1000000 in
set_option maxRecDepth 4000 in
theorem piece_any (w : World) (xs : List Nat) (b o : Nat) (n c : Nat) (a : Nat) (hn : n ≤ 140737488355328) (hc : n ≤ c) (hc2 : c ≤ 9223372036854775807) (hl : n = xs.length) (ha : a ≤ n) (h256 : ∀ x ∈ xs, x < 256) (hA : Sl w 1 (some ⟨b, o, none⟩) n (xs.map bn)) :
    Calls Try.prog 110 #[.slice (some ⟨b, o, none⟩) n c, .int .i64 (a : Int)] w fun e w' => PieceAt xs a b o e ∧ w = w' := by
  obtain ⟨N, hN⟩ : ∃ N, (readShort xs a).1 = N := ⟨_, rfl⟩
  obtain ⟨T, hT⟩ : ∃ T, (readShort xs a).2.1 = T := ⟨_, rfl⟩
  obtain ⟨E, hE⟩ : ∃ E, (readShort xs a).2.2 = E := ⟨_, rfl⟩
  have hr : readShort xs a = (N, T, E) := by rw [← hN, ← hT, ← hE]
  have hv : Hid (ReadVal xs a = .tuple #[.int .u64 (N : Int), .int .i64 T, .int .i64 E]) := by show _ = _; rw [ReadVal, hr]
  have Hl := hide hl
  have hp0 : Hid (pieceS xs a = if E ≠ 0 then .inr (a, E) else if xs.length - T.toNat < N then .inr (T.toNat, 22) else .inl (T.toNat, T.toNat + N)) := by
    show _ = _; rw [pieceS, hr]
  by_cases h0 : E = 0
  · subst h0
    obtain ⟨h1, h2⟩ := readShort_ok hr
    rw [← Hl.out] at h2
    obtain ⟨t, rfl⟩ : ∃ t : Nat, T = (t : Int) := ⟨T.toNat, by omega⟩
    have hp : Hid (pieceS xs a = if n - t < N then .inr (t, 22) else .inl (t, t + N)) := by
      show _ = _; rw [hp0.out, Hl.out]; rfl
    clear hN hT hE hr hl hp0
    have w1 : IntKind.i64.wrap ((n : Int) - t) = (n : Int) - t := IntWalk.i64_in _ (by omega)
    have w2 : IntKind.u64.wrap ((n : Int) - t) = (n : Int) - t := IntWalk.u64_in _ (by omega)
    by_cases hb : n - t < N
    · have hb' : (n : Int) - t < N := by omega
      have hp' := hide (hp.out.trans (if_pos hb))
      clear hp hb
      go_enter Try.func110, Try.ntmps110
      go_wp2_with fail
      refine (tread_any _ xs _ n c _ hn Hl.out h256 hA).mono ?_
      rintro e w' ⟨rfl, rfl⟩
      rw [hv.out]
      go_wp2_with fail
      ((try simp only [Exit.inBlock, Exit.then]); refine bodyPost_ret (results_tmp4 rfl _ _ _) rfl ?_)
      exact ⟨.inl ⟨t, 22, hp'.out, rfl⟩, rfl⟩
    · have hb' : ¬ (n : Int) - t < N := by omega
      have hp' := hide (hp.out.trans (if_neg hb))
      clear hp
      have w3 : IntKind.i64.wrap (N : Int) = (N : Int) := IntWalk.i64_in _ (by omega)
      have w4 : IntKind.i64.wrap ((t : Int) + N) = (t : Int) + N := IntWalk.i64_in _ (by omega)
      have k0 : (0 : Int) ≤ t := by omega
      have k1 : (t : Int) ≤ (t : Int) + N := by omega
      have k2 : (t : Int) + N ≤ c := by omega
      go_enter Try.func110, Try.ntmps110
      go_wp2_with fail
      refine (tread_any _ xs _ n c _ hn Hl.out h256 hA).mono ?_
      rintro e w' ⟨rfl, rfl⟩
      rw [hv.out]
      go_wp2_with fail
      all_goals
        ((try simp only [Exit.inBlock, Exit.then]); refine bodyPost_ret (results_tmp4 rfl _ _ _) rfl ?_)
        first
          | (have e1 : t + N - t = 0 := by omega
             exact ⟨.inr ⟨t, t + N, o, hp'.out, by rw [e1]; rfl, fun h => by omega⟩, rfl⟩)
          | (have e1 : t + N - t = N := by omega
             exact ⟨.inr ⟨t, t + N, o + t, hp'.out, by rw [e1]; rfl, fun _ => rfl⟩, rfl⟩)
  · have hp := hide (hp0.out.trans (if_pos h0))
    clear hp0 hr hN hT hE hl
    go_enter Try.func110, Try.ntmps110
    go_wp2_with fail
    refine (tread_any _ xs _ n c _ hn Hl.out h256 hA).mono ?_
    rintro e w' ⟨rfl, rfl⟩
    rw [hv.out]
    go_wp2_with fail
    ((try simp only [Exit.inBlock, Exit.then]); refine bodyPost_ret (results_tmp4 rfl _ _ _) rfl ?_)
    exact ⟨.inl ⟨a, E, hp.out, rfl⟩, rfl⟩

theorem piece_at (w : World) (xs : List Nat) (b o : Nat) (n c : Nat) (a : Nat) (z : Int) (hz : z = (a : Int)) (hn : n ≤ 140737488355328) (hc : n ≤ c) (hc2 : c ≤ 9223372036854775807) (hl : n = xs.length) (ha : a ≤ n) (h256 : ∀ x ∈ xs, x < 256) (hA : Sl w 1 (some ⟨b, o, none⟩) n (xs.map bn)) :
    Calls Try.prog 110 #[.slice (some ⟨b, o, none⟩) n c, .int .i64 z] w fun e w' => PieceAt xs a b o e ∧ w = w' := by
  subst hz; exact piece_any w xs b o n c a hn hc hc2 hl ha h256 hA

set_option maxHeartbeats 1000000 in
set_option maxRecDepth 4000 in
theorem copied_any (w : World) (xs : List Nat) (A : Option Addr) (n c : Nat) (hn : n ≤ 140737488355328) (hA : Sl w 1 A n (xs.map bn)) :
    Calls Try.prog 106 #[.slice A n c] w (BP n xs w) := by
  obtain ⟨i0, hi, hz0, hz1, hz2⟩ := info_parts info5
  go_enter Try.func106, Try.ntmps106
  go_wp2_with (at_builtin; refine wpList_append_ow _ rfl _ _ 33 rfl 5 i0 (.int .u8 0) 1 1 Try.underlying33 hi hz0 hz1 hz2 rfl (by decide) _ _ _ _ _ rfl (Ow.nil_ _ _ _) _ _ _ _ rfl hA (bn_one _) (by unfold maxLen; omega) (by omega) ?_)
  intro A2 c2 w2 g2 hO2 hf2 hg2
  go_wp2_with fail
  go_ret
  refine ⟨A2, c2, g2, by simp, by simpa using hO2, ?_, hf2.mono fun k _ e => by cases e⟩
  intro b hb
  rcases hg2 with rfl | ⟨b', rfl, h⟩
  · cases hb
  · cases hb; exact h
end Go.Proofs.Ytahhecendjfenaa
end

section
/-
  tlv.Put and the reference's Put.
-/
namespace Go.Proofs.Ytahhecendjfenaa
open Go.RowKit
set_option linter.unusedVariables false

def putScan (last : Int) : List (Int × List Nat) → Nat
  | [] => 0
  | (t, v) :: r => if t ≤ last ∨ 255 < t then 21 else if v.length = 0 then 20 else putScan t r
def putAll (fs : List (Int × List Nat)) : List Nat := fs.flatMap fun f => formF f.1.toNat f.2
def putErr (fs : List (Int × List Nat)) : Nat := if putScan 0 fs ≠ 0 then putScan 0 fs else if 1048576 < (putAll fs).length then 3 else 0
def putBytes (fs : List (Int × List Nat)) : List Nat := if putErr fs = 0 then putAll fs else []
theorem putAll_take {fs : List (Int × List Nat)} {k : Nat} (h : k < fs.length) : putAll (fs.take (k + 1)) = putAll (fs.take k) ++ formF fs[k].1.toNat fs[k].2 := by
  unfold putAll
  rw [List.take_succ_eq_append_getElem h, List.flatMap_append]; simp

/-- The slice '.slice A n c' leads to the fields fs (size cells each: the tag, the value, ..). -/
def FAt (w : World) (size : Nat) (A : Option Addr) (n : Nat) (fs : List (Int × List Nat)) : Prop :=
  n = fs.length ∧ (0 < n → ∃ b o, A = some ⟨b, o, none⟩ ∧ ∀ (i : Nat) (hi : i < fs.length), ∃ V m d, w.cell? ⟨b, o + i * size, none⟩ = some (.int .i64 fs[i].1) ∧ w.cell? ⟨b, o + i * size + 1, none⟩ = some (.slice V m d) ∧ Sl w 1 V m (fs[i].2.map bn))
theorem FAt.quiet {w w' : World} {size n : Nat} {A : Option Addr} {fs : List (Int × List Nat)} (h : FAt w size A n fs) (hf : Fr (fun _ => False) w w') : FAt w' size A n fs := by
  refine ⟨h.1, fun hn => ?_⟩
  obtain ⟨b, o, hA, hc⟩ := h.2 hn
  refine ⟨b, o, hA, fun i hi => ?_⟩
  obtain ⟨V, m, d, c0, c1, hS⟩ := hc i hi
  exact ⟨V, m, d, (hf.cell (World.block_lt_of_cell? w _ c0) id).trans c0, (hf.cell (World.block_lt_of_cell? w _ c1) id).trans c1, hS.below hf (fun _ _ => id)⟩
theorem Sl.lt {w : World} {n : Nat} {A : Option Addr} {xs : List Value} (hS : Sl w 1 A n xs) : ∀ b o, A = some ⟨b, o, none⟩ → 0 < n → b < w.heap.size := by
  intro b o hA hn
  obtain ⟨b2, o2, h2, hc2⟩ := hS.2 hn
  rw [hA] at h2; cases h2
  have hx : 0 < xs.length := by rw [hS.1]; omega
  exact World.block_lt_of_cell? w _ (hc2 0 _ (List.getElem?_eq_getElem hx))

/-- Behind Put: the bytes (none beside an error), in new memory; the error. -/
def PutPost (bs : List Nat) (er : Nat) (w : World) (e : Ending) (w' : World) : Prop :=
  ∃ A n c g, e = .returned (.tuple #[.slice A n c, .int .i64 (er : Int)]) ∧ Ow w' 5 1 A n c (bs.map bn) g ∧ (∀ b, g = some b → w.heap.size ≤ b) ∧ Fr (fun _ => False) w w'
theorem PutPost.err {fs : List (Int × List Nat)} {w w' : World} {er : Nat} (h : putErr fs = er) (h0 : er ≠ 0) (hf : Fr (fun _ => False) w w') : PutPost (putBytes fs) (putErr fs) w (.returned (.tuple #[.slice none 0 0, .int .i64 (er : Int)])) w' := by
  refine ⟨none, 0, 0, none, by rw [h], ?_, (fun b h => by cases h), hf⟩
  rw [putBytes, h, if_neg h0]; exact Ow.nil_ _ _ _

/-- How much of the bytes stands in b. -/
def Held (bs all : List Nat) : Prop := bs = all ∨ 1048576 < bs.length ∧ bs.length ≤ all.length

end Go.Proofs.Ytahhecendjfenaa
end

section
/-
  append by Ow at a step of a region that draws its order.
-/
namespace Go.Proofs.Ytahhecendjfenaa
open Go.RowKit
set_option linter.unusedVariables false
section
variable {P : Program} (w : World)
theorem wp_append_ow {o : Oper} {a : Act} {K : Act → World → Prop} {Q : Exit → Act → World → Prop} (s x : Operand) (t : TypeId)
    (ho : o.op = .call { callee := .builtin .append, args := #[s, x], argTypes := #[t, t] })
    (e : TypeId) (i : TypeInfo) (z : Value) (size bytes : Nat) (ht : P.underlying t = some (.slice e)) (hi : P.info? e = some i) (hz : i.zero = some z)
    (hsize : i.size = size) (hby : i.bytes = bytes) (hzs : z.cells.size = size) (hsz : 0 < size)
    (A : Option Addr) (n c : Nat) (xs : List Value) (g : Option Nat) (hs : a.eval s = .slice A n c) (hown : Ow w e size A n c xs g)
    (A' : Option Addr) (m c' : Nat) (news : List Value) (hx : a.eval x = .slice A' m c') (hsrc : Sl w size A' m news) (h1 : ∀ u ∈ news, u.oneCell' = true)
    (h63 : n + m ≤ maxLen) (hbytes : (n + m) * bytes ≤ 140737488355328)
    (h : ∀ A2 c2 w2 g2, Ow w2 e size A2 (n + m) c2 (xs ++ news) g2 → Fr (fun k => some k = g) w w2 → (g2 = g ∨ ∃ b, g2 = some b ∧ w.heap.size ≤ b) → K (a.put o.dst (.slice A2 (n + m) c2)) w2) : o.wp P a w K Q := by
  obtain ⟨A2, c2, w2, g2, hrun, h2, h3, h4⟩ := run_append_ow (P := P) w t o.type e i z size bytes ht hi hz hsize hby hzs hsz A n c xs g hown A' m c' news hsrc h1 h63 hbytes
  unfold Oper.wp execOp
  simp only [ho, resolve, invoke, builtin, Sem.run_bind, Sem.run_pure, Result.andThen_ok, List.map_toArray, List.map_cons, List.map_nil, hs, hx, hrun]
  exact h A2 c2 w2 g2 h2 h3 h4
theorem step_append_ow {ops : Array Oper} {o : Oper} {a : Act} {K : Act → World → Prop} {Q : Exit → Act → World → Prop} {E : Prop} (hgd : o.guard = none) (s x : Operand) (t : TypeId)
    (ho : o.op = .call { callee := .builtin .append, args := #[s, x], argTypes := #[t, t] })
    (e : TypeId) (i : TypeInfo) (z : Value) (size bytes : Nat) (ht : P.underlying t = some (.slice e)) (hi : P.info? e = some i) (hz : i.zero = some z)
    (hsize : i.size = size) (hby : i.bytes = bytes) (hzs : z.cells.size = size) (hsz : 0 < size)
    (A : Option Addr) (n c : Nat) (xs : List Value) (g : Option Nat) (hs : a.eval s = .slice A n c) (hown : Ow w e size A n c xs g)
    (A' : Option Addr) (m c' : Nat) (news : List Value) (hx : a.eval x = .slice A' m c') (hsrc : Sl w size A' m news) (h1 : ∀ u ∈ news, u.oneCell' = true)
    (h63 : n + m ≤ maxLen) (hbytes : (n + m) * bytes ≤ 140737488355328)
    (h : ∀ A2 c2 w2 g2, Ow w2 e size A2 (n + m) c2 (xs ++ news) g2 → Fr (fun k => some k = g) w w2 → (g2 = g ∨ ∃ b, g2 = some b ∧ w.heap.size ≤ b) → K (a.put o.dst (.slice A2 (n + m) c2)) w2) :
    if Region.wanted o (yielded ops a.tmps) = true then Oper.wp P o a w K Q else E := by
  have hw : Region.wanted o (yielded ops a.tmps) = true := by simp [Region.wanted, hgd]
  rw [if_pos hw]
  exact wp_append_ow w s x t ho e i z size bytes ht hi hz hsize hby hzs hsz A n c xs g hs hown A' m c' news hx hsrc h1 h63 hbytes h
end
end Go.Proofs.Ytahhecendjfenaa
end

section
/-
  parts (tlv).
-/
namespace Go.Proofs.Ytahhecendjfenaa
open Go.RowKit
set_option linter.unusedVariables false

theorem infoP : (Try.prog.info? 144).map (fun i => (i.zero, i.size, i.bytes)) = some (some (.pointer none), 1, 8) := by kernel_rfl
def ptr (p : Nat) : Value := .pointer (some ⟨p, 0, none⟩)
/-- A field that was read lies at block p; its bytes at o' of block b. -/
structure PartAt (w : World) (bs : List Nat) (b : Nat) (p : Nat) (F : GF) (o : Nat) (tk : Bool) : Prop where
  bl : Bl w p 147 #[.int .i64 F.tag, .int .i64 F.at_, .int .i64 F.from_, .slice (some ⟨b, o, none⟩) (F.to_ - F.from_) (F.to_ - F.from_), .bool tk]
  val : Sl w 1 (some ⟨b, o, none⟩) (F.to_ - F.from_) ((F.val bs).map bn)
  le : F.from_ ≤ F.to_
  to_ : F.to_ ≤ bs.length
theorem PartAt.fr {w w' : World} {bs : List Nat} {b p o : Nat} {F : GF} {tk : Bool} {S : Nat → Prop} (h : PartAt w bs b p F o tk) (hf : Fr S w w') (hp : ¬ S p) (hb : ¬ S b) : PartAt w' bs b p F o tk :=
  ⟨h.bl.fr hf hp, h.val.fr (B := 0) hf fun k ⟨o', e⟩ _ => by cases e; exact hb, h.le, h.to_⟩
theorem PartAt.quiet {w w' : World} {bs : List Nat} {b p o : Nat} {F : GF} {tk : Bool} (h : PartAt w bs b p F o tk) (hf : Fr (fun _ => False) w w') : PartAt w' bs b p F o tk := h.fr hf id id

/-- A part's place, its field, the place of its bytes. -/
abbrev PT := Nat × GF × Nat
/-- The parts ps of bs (which lie in block b), all at or behind block B. -/
structure PartsIn (w : World) (bs : List Nat) (b B : Nat) (ps : List PT) : Prop where
  at_ : ∀ x ∈ ps, PartAt w bs b x.1 x.2.1 x.2.2 false
  new : ∀ x ∈ ps, B ≤ x.1
  ord : ps.Pairwise fun x y => x.1 < y.1
theorem PartsIn.fr {w w' : World} {bs : List Nat} {b B : Nat} {ps : List PT} {S : Nat → Prop} (h : PartsIn w bs b B ps) (hf : Fr S w w') (hp : ∀ x ∈ ps, ¬ S x.1) (hb : ¬ S b) : PartsIn w' bs b B ps :=
  ⟨fun x hx => (h.at_ x hx).fr hf (hp x hx) hb, h.new, h.ord⟩
def PartsPost (bs : List Nat) (b : Nat) (w : World) (e : Ending) (w' : World) : Prop :=
  ∃ (ps : List PT) (L : Option Addr) (k c : Nat) (g : Option Nat), e = .returned (.tuple #[.slice L k c, .int .i64 ((getAll bs).2.1 : Int), .int .i64 (getAll bs).2.2]) ∧ ps.map (·.2.1) = (getAll bs).1 ∧
    Ow w' 144 1 L k c (ps.map fun x => ptr x.1) g ∧ (∀ b, g = some b → w.heap.size ≤ b) ∧ PartsIn w' bs b w.heap.size ps ∧ Fr (fun _ => False) w w' ∧ k ≤ 1048576
theorem PartsPost.bad {bs : List Nat} {b : Nat} {w w' : World} {p : Nat} {er : Int} (h : getAll bs = ([], p, er)) (hf : Fr (fun _ => False) w w') : PartsPost bs b w (.returned (.tuple #[.slice none 0 0, .int .i64 (p : Int), .int .i64 er])) w' :=
  ⟨[], none, 0, 0, none, by rw [h], by rw [h]; rfl, Ow.nil_ _ _ _, (fun b h => by cases h), ⟨(fun x h => by cases h), (fun x h => by cases h), List.Pairwise.nil⟩, hf, Nat.zero_le _⟩
theorem getAll_bad {bs : List Nat} {fs : List GF} {p : Nat} {er : Int} (hl : ¬ 1048576 < bs.length) (h : getS bs 0 0 = (fs, p, er)) (he : er ≠ 0) : getAll bs = ([], p, er) := by
  rw [getAll, if_neg hl, h, if_neg he]
theorem getAll_ok {bs : List Nat} {fs : List GF} {p : Nat} (hl : ¬ 1048576 < bs.length) (h : getS bs 0 0 = (fs, p, 0)) : getAll bs = (fs, p, 0) := by
  rw [getAll, if_neg hl, h, if_pos rfl]
theorem Ow.neBl {w : World} {e t : TypeId} {s n c g p : Nat} {A : Option Addr} {xs : List Value} {cs : Array Value} (h : Ow w e s A n c xs (some g)) (h' : Bl w p t cs) (hne : e ≠ t) : p ≠ g := by
  rintro rfl
  rcases h.2 with ⟨_, _, _, h0⟩ | ⟨b, o, cur, _, h1, h2, _⟩
  · cases h0
  · cases h1
    unfold Bl at h'
    rw [h2] at h'; injection h' with h3; injection h3 with _ h4
    exact hne h4
theorem Sl.oneAt {w : World} {k : Nat} {v : Value} {t : TypeId} (h : k = w.heap.size) : Sl (w.alloc (.cells #[v] t)) 1 (some ⟨k, 0, none⟩) 1 [v] := by subst h; exact Sl.one _ _ _

set_option maxHeartbeats 4000000 in
set_option maxRecDepth 100000 in
theorem parts_any (w : World) (xs : List Nat) (A : Option Addr) (n c : Nat) (hn : n ≤ 140737488355328) (hc : n ≤ c) (hc2 : c ≤ 9223372036854775807) (hl : n = xs.length) (h256 : ∀ x ∈ xs, x < 256) (hA : Sl w 1 A n (xs.map bn)) :
    Calls Try.prog 108 #[.slice A n c] w fun e w' => ∃ b, (∀ b' o, A = some ⟨b', o, none⟩ → b = b') ∧ PartsPost xs b w e w' := by
  obtain ⟨j0, hj, hj0, hj1, hj2⟩ := info_parts infoP
  have Hl := hide hl
  clear hl
  by_cases hbig : 1048576 < n
  · have hg : Hid (getAll xs = ([], 0, 3)) := by show _ = _; rw [getAll, if_pos (by rw [← Hl.out]; exact hbig)]
    have hb' : (1048576 : Int) < (n : Int) := by omega
    obtain ⟨b, o, rfl, _⟩ := hA.2 (by omega)
    go_enter Try.func108, Try.ntmps108
    go_wp2_with fail
    go_ret3
    exact ⟨b, (fun b' o h => by cases h; rfl), PartsPost.bad (p := 0) (er := 3) hg.out (Fr.refl _ _)⟩
  by_cases h0 : n = 0
  · subst h0
    have hg : Hid (getAll xs = ([], 0, 0)) := getAll_ok (by rw [← Hl.out]; omega) (getS_end (by rw [← Hl.out]; omega))
    go_enter Try.func108, Try.ntmps108
    go_wp2_with fail
    go_loopw [5, 6, 7] (fun u v i wr => u = .slice none 0 0 ∧ i = .int .i64 0 ∧ wr = w) (fun _ _ _ _ => 0)
    case atStart => exact ⟨rfl, rfl, rfl⟩
    case round =>
      obtain ⟨rfl, rfl, rfl⟩ := hrel
      go_wp2_with fail
      go_ret3
      cases A with
      | none => exact ⟨0, (fun b' o h => by cases h), PartsPost.bad (p := 0) (er := 0) hg.out (Fr.refl _ _)⟩
      | some a => exact ⟨a.block, (fun b' o h => by cases h; rfl), PartsPost.bad (p := 0) (er := 0) hg.out (Fr.refl _ _)⟩
  obtain ⟨b, o, rfl, _⟩ := hA.2 (by omega)
  refine Calls.mono (R := PartsPost xs b w) ?_ fun e w' h => ⟨b, (fun b' o h => by cases h; rfl), h⟩
  have hbl := hA.lt b o rfl (by omega)
  have hb' : ¬ (1048576 : Int) < (n : Int) := by omega
  have Hsm : Hid (¬ 1048576 < xs.length) := by show ¬ _; rw [← Hl.out]; exact hbig
  clear hbig
  go_enter Try.func108, Try.ntmps108
  go_wp2_with fail
  go_loopw [5, 6, 7] (fun u v i wr => ∃ (a last : Nat) (ps : List PT) (L : Option Addr) (k cl : Nat) (g : Option Nat), u = .slice L k cl ∧ v = .int .i64 (last : Int) ∧ i = .int .i64 (a : Int) ∧ a ≤ n ∧ k ≤ a ∧
    Hid (getS xs 0 0 = (ps.map (·.2.1) ++ (getS xs a last).1, (getS xs a last).2)) ∧ Ow wr 144 1 L k cl (ps.map fun x => ptr x.1) g ∧ (∀ b, g = some b → w.heap.size ≤ b) ∧ PartsIn wr xs b w.heap.size ps ∧ Fr (fun _ => False) w wr) (fun _ _ i _ => n - (intOf i).toNat)
  case atStart => exact ⟨0, 0, [], none, 0, 0, none, rfl, rfl, rfl, by omega, by omega, by show _ = _; simp, Ow.nil_ _ _ _, (fun b h => by cases h), ⟨(fun x h => by cases h), (fun x h => by cases h), List.Pairwise.nil⟩, Fr.refl _ _⟩
  case round =>
    obtain ⟨a, last, ps, L, k, cl, g, rfl, rfl, rfl, ha, hka, hG, hO, hg, hP, hf⟩ := hrel
    by_cases hlt : a < n
    · have hal : a < xs.length := by rw [← Hl.out]; exact hlt
      have hu := bn_get (xs := xs) (k := a) hal
      obtain ⟨b', o', e, cw⟩ := hA.at_ hu
      cases e
      have ca := (hf.cell hbl id).trans cw
      have hS := hA.below hf (fun _ _ => id)
      have hx : xs.getD a 0 < 256 := h256 _ (by rw [List.getD_eq_getElem?_getD, List.getElem?_eq_getElem hal]; exact List.getElem_mem hal)
      obtain ⟨x, hxx⟩ : ∃ x, xs.getD a 0 = x := ⟨_, rfl⟩
      have HX := hide hxx
      rw [hxx] at ca hx
      have w1 : IntKind.i64.wrap (x : Int) = (x : Int) := IntWalk.i64_in _ (by omega)
      have i0 : (0 : Int) ≤ (a : Int) := by omega
      have i1 : (a : Int) < (n : Int) := by omega
      clear hu cw hxx
      by_cases hlast : x ≤ last
      · have he := hide (getAll_bad Hsm.out ((hG.out.trans (by rw [getS_bad hal (stepG_order (by rw [HX.out]; exact hlast))])) : getS xs 0 0 = (_, a, 21)) (by omega))
        have hla : (x : Int) ≤ (last : Int) := by omega
        go_wp2_with fail
        go_ret3
        exact PartsPost.bad he.out (hf.alloc _)
      · have hla : (last : Int) < (x : Int) := by omega
        have Hlast : Hid (¬ xs.getD a 0 ≤ last) := by show ¬ _; rw [HX.out]; exact hlast
        clear hlast
        have hB := Bl.new wr 147 #[.int .i64 x, .int .i64 a, .int .i64 0, .slice none 0 0, .bool false]
        go_wp2_with fail
        refine (piece_at _ xs b o n c (a + 1) _ (by omega) hn hc hc2 Hl.out (by omega) h256 (hS.below ((Fr.refl (fun _ => False) _).alloc _) (fun _ _ => id))).mono ?_
        rintro e w' ⟨hp | hp, rfl⟩
        · obtain ⟨p, er, hp, rfl⟩ := hp
          have he0 := (pieceS_bad hp).1
          have he := hide (getAll_bad Hsm.out ((hG.out.trans (by rw [getS_bad hal (stepG_piece Hlast.out hp)])) : getS xs 0 0 = (_, p, er)) he0)
          clear hp
          go_wp2_with fail
          go_ret3
          exact PartsPost.bad he.out (hf.alloc _)
        · obtain ⟨f, t, o', hp, rfl, ho⟩ := hp
          by_cases hft : f = t
          · subst hft
            have he := hide (getAll_bad Hsm.out ((hG.out.trans (by rw [getS_bad hal (stepG_none Hlast.out hp)])) : getS xs 0 0 = (_, a + 1, 20)) (by omega))
            clear hp ho
            rw [Nat.sub_self]
            go_wp2_with fail
            go_ret3
            exact PartsPost.bad he.out (hf.alloc _)
          · obtain ⟨f1, f2, f3⟩ := pieceS_ok hp
            obtain rfl := ho (by omega)
            obtain ⟨m, rfl⟩ : ∃ m, t = f + m := ⟨t - f, by omega⟩
            have f4 : f + m ≤ n := by rw [Hl.out]; exact f3
            have w2 : IntKind.i64.wrap ((f : Int) + m - m) = f := by rw [show (f : Int) + m - m = f by omega]; exact IntWalk.i64_in _ (by omega)
            have hne : ¬ m = 0 := by omega
            have w3 : IntKind.i64.wrap (f : Int) = f := IntWalk.i64_in _ (by omega)
            rw [Nat.add_sub_cancel_left]
            have hB0 := Bl.new wr 147 #[.int .i64 x, .int .i64 a, .int .i64 f, .slice (some ⟨b, o + f, none⟩) m m, .bool false]
            go_wp2_with (first | (at_builtin; refine wpList_append_ow _ rfl _ _ 150 rfl 144 j0 (.pointer none) 1 8 Try.underlying150 hj hj0 hj1 hj2 rfl (by decide) _ _ _ _ _ rfl (hO.fr (((Fr.refl (fun _ => False) _).alloc _).alloc _) (fun _ _ => id)) _ _ _ [ptr wr.heap.size] rfl (Sl.oneAt (by simp)) (by intro u hu; simp at hu; subst hu; rfl) (by unfold maxLen; omega) (by omega) ?_) | go_in)
            intro L2 cl2 w2 g2 hO2 hf2 hg2
            have hbg : ∀ y, g = some y → ¬ wr.heap.size = y := fun y e e2 => by have := hO.lt y e; omega
            have hB2 := ((hB0.alloc (.cells #[.pointer (some ⟨wr.heap.size, 0, none⟩)] 144)).fr hf2 (fun e => by have := hO.lt _ e.symm; omega))
            have hc0 : w2.cell? ⟨wr.heap.size, 0, none⟩ = some (.int .i64 x) := hB2.cell' rfl
            have hfa : Fr (fun y => some y = g) wr w2 := (((Fr.refl _ _).alloc _).alloc _).comp hf2 (fun _ _ e => e)
            have hgb : ¬ some b = g := fun e => by have := hg b e.symm; omega
            have hpg : ∀ y ∈ ps, ¬ some y.1 = g := fun y hy e => by
              have h := (hP.at_ y hy).bl
              rw [← e] at hO
              exact hO.neBl h (by decide) rfl
            have hplt : ∀ y ∈ ps, y.1 < wr.heap.size := fun y hy => (hP.at_ y hy).bl.lt
            have hval : Sl wr 1 (some ⟨b, o + f, none⟩) m ((((xs.drop f).take (f + m - f))).map bn) := by
              have := hS.part (f := f) (t := f + m) (by omega) f4
              rw [← List.map_drop, ← List.map_take] at this
              rwa [Nat.add_sub_cancel_left] at this ⊢
            have hstep : Hid (stepG xs a last = .inl ⟨x, a, f, f + m⟩) := by show _ = _; rw [stepG_one Hlast.out hp (by omega), HX.out]
            have Hf3 := hide f3
            clear hp ho f3
            have Hpg := hide hpg
            clear hpg
            have hsz := hf.size
            have Hf := hide hfa
            clear hfa
            go_wp2_with fail
            refine ⟨⟨f + m, x, ps ++ [(wr.heap.size, ⟨x, a, f, f + m⟩, o + f)], L2, k + 1, cl2, g2, rfl, rfl, by simp, f4, by omega, ?_, by simpa [ptr] using hO2, ?_, ⟨?_, ?_, ?_⟩, ?_⟩, by simp [intOf]; omega⟩
            · show _ = _
              rw [hG.out, getS_one hal hstep.out (by show a < f + m; omega)]
              simp
            · intro y e
              rcases hg2 with h | ⟨b', h, hb'⟩
              · exact hg y (h ▸ e)
              · rw [h] at e; cases e; omega
            · intro y hy
              rcases List.mem_append.1 hy with hy | hy
              · exact (hP.at_ y hy).fr Hf.out (Hpg.out y hy) hgb
              · simp at hy; subst hy
                refine ⟨?_, ?_, by show f ≤ f + m; omega, Hf3.out⟩
                · show Bl w2 _ _ #[.int .i64 x, .int .i64 a, .int .i64 f, .slice (some ⟨b, o + f, none⟩) (f + m - f) (f + m - f), .bool false]
                  rw [Nat.add_sub_cancel_left]; exact hB2
                · show Sl w2 1 _ (f + m - f) _
                  rw [Nat.add_sub_cancel_left]
                  exact hval.fr (B := 0) Hf.out fun k ⟨o', e⟩ _ => by cases e; exact hgb
            · intro y hy
              rcases List.mem_append.1 hy with hy | hy
              · exact hP.new y hy
              · simp at hy; subst hy; exact hsz
            · rw [List.pairwise_append]
              refine ⟨hP.ord, by simp, fun y hy z hz => ?_⟩
              simp at hz; subst hz; exact hplt y hy
            · exact hf.comp Hf.out fun y hy e => by have := hg y e.symm; omega
    · obtain rfl : a = n := by omega
      have he := hide (getAll_ok Hsm.out ((hG.out.trans (by rw [getS_end (by rw [← Hl.out]; omega), List.append_nil])) : getS xs 0 0 = (_, 0, 0)))
      clear hlt
      go_wp2_with fail
      go_ret3
      exact ⟨ps, L, k, cl, g, by rw [he.out]; rfl, by rw [he.out], hO, hg, hP, hf, by omega⟩
end Go.Proofs.Ytahhecendjfenaa
end
