/-
  Texts merged into one, to keep the claim small: TlvL4, TlvRSpec.
-/
import Derived.Test.YtlcjhbemgagchaaMc5
section
/-
  items, Items of both.
-/
namespace Go.Proofs.Ytlcjhbemgagchaa
open Go.RowKit
set_option linter.unusedVariables false
attribute [local go_sem ↓] Go.wp_at_zero Go.wp_at_succ
theorem infoI : (Try.prog.info? 3).map (fun i => (i.zero, i.size, i.bytes)) = some (some (.int .i64 0), 1, 8) := by kernel_rfl

/-- All items from a place on: those that are right (from, to), then what is wrong first, and where. -/
def itemsS (bs : List Nat) (a : Nat) : List GF × Nat × Int :=
  if h : a < bs.length then
    match pieceS bs a with
    | .inr (p, e) => ([], p, e)
    | .inl (f, t) => if h2 : a < t then
        let r := itemsS bs t
        (⟨0, 0, f, t⟩ :: r.1, r.2)
      else ([], 0, 0)
  else ([], 0, 0)
termination_by bs.length - a
decreasing_by omega
theorem itemsS_end {bs : List Nat} {a : Nat} (h : ¬ a < bs.length) : itemsS bs a = ([], 0, 0) := by rw [itemsS, dif_neg h]
theorem itemsS_bad {bs : List Nat} {a p : Nat} {e : Int} (h : a < bs.length) (hs : pieceS bs a = .inr (p, e)) : itemsS bs a = ([], p, e) := by rw [itemsS, dif_pos h, hs]
theorem itemsS_one {bs : List Nat} {a f t : Nat} (h : a < bs.length) (hs : pieceS bs a = .inl (f, t)) (h2 : a < t) : itemsS bs a = (⟨0, 0, f, t⟩ :: (itemsS bs t).1, (itemsS bs t).2) := by
  rw [itemsS, dif_pos h, hs]; simp only [dif_pos h2]
theorem itemsS_place (bs : List Nat) (a : Nat) (h : (itemsS bs a).2.2 = 0) : (itemsS bs a).2.1 = 0 := by
  by_cases ha : a < bs.length
  · rcases hs : pieceS bs a with ⟨f, t⟩ | ⟨p, e⟩
    · by_cases h2 : a < t
      · rw [itemsS_one ha hs h2] at h ⊢
        exact itemsS_place bs t h
      · rw [itemsS, dif_pos ha, hs]; simp only [dif_neg h2]
    · rw [itemsS_bad ha hs] at h
      exact absurd h (pieceS_bad hs).1
  · rw [itemsS_end ha]
termination_by bs.length - a
theorem itemsS_len (bs : List Nat) (a : Nat) : (itemsS bs a).1.length ≤ bs.length - a := by
  by_cases ha : a < bs.length
  · rcases hs : pieceS bs a with ⟨f, t⟩ | ⟨p, e⟩
    · by_cases h2 : a < t
      · rw [itemsS_one ha hs h2]
        have := itemsS_len bs t
        simp only [List.length_cons]; omega
      · rw [itemsS, dif_pos ha, hs]; simp only [dif_neg h2]; simp
    · rw [itemsS_bad ha hs]; simp
  · rw [itemsS_end ha]; simp
termination_by bs.length - a
theorem itemsS_at (bs : List Nat) (a : Nat) : ∀ F ∈ (itemsS bs a).1, F.from_ ≤ F.to_ ∧ F.to_ ≤ bs.length := by
  by_cases ha : a < bs.length
  · rcases hs : pieceS bs a with ⟨f, t⟩ | ⟨p, e⟩
    · by_cases h2 : a < t
      · rw [itemsS_one ha hs h2]
        intro F hF
        rcases List.mem_cons.1 hF with rfl | hF
        · exact (pieceS_ok hs).2
        · exact itemsS_at bs t F hF
      · rw [itemsS, dif_pos ha, hs]; simp only [dif_neg h2]; simp
    · rw [itemsS_bad ha hs]; simp
  · rw [itemsS_end ha]; simp
termination_by bs.length - a
/-- What Items answers: the items (none beside an error), the place, the error. -/
def itemsAll (bs : List Nat) : List GF × Nat × Int :=
  if bs.length = 0 then ([], 0, 20) else if (itemsS bs 0).2.2 = 0 then itemsS bs 0 else ([], (itemsS bs 0).2)
theorem itemsAll_place {bs : List Nat} (h : (itemsAll bs).2.2 = 0) : (itemsAll bs).2.1 = 0 := by
  unfold itemsAll at h ⊢
  split at h
  · simp at h
  · rename_i hb
    rw [if_neg hb]
    split at h
    · rename_i h0; rw [if_pos h0]; exact itemsS_place _ _ h0
    · rename_i h0; exact absurd h h0
theorem itemsAll_none {bs : List Nat} (h : ¬ (itemsAll bs).2.2 = 0) : (itemsAll bs).1 = [] := by
  unfold itemsAll at h ⊢
  split at h
  · rename_i hb; rw [if_pos hb]
  · rename_i hb
    rw [if_neg hb]
    split at h
    · rename_i h0; exact absurd h0 h
    · rename_i h0; rw [if_neg h0]
theorem itemsAll_bad {bs : List Nat} {fs : List GF} {p : Nat} {er : Int} (hl : ¬ bs.length = 0) (h : itemsS bs 0 = (fs, p, er)) (he : er ≠ 0) : itemsAll bs = ([], p, er) := by
  rw [itemsAll, if_neg hl, h, if_neg he]
theorem itemsAll_ok {bs : List Nat} {fs : List GF} {p : Nat} (hl : ¬ bs.length = 0) (h : itemsS bs 0 = (fs, p, 0)) : itemsAll bs = (fs, p, 0) := by
  rw [itemsAll, if_neg hl, h, if_pos rfl]
theorem itemsAll_len (bs : List Nat) : (itemsAll bs).1.length ≤ bs.length := by
  unfold itemsAll
  split
  · simp
  · split
    · have := itemsS_len bs 0; omega
    · simp
theorem itemsAll_at (bs : List Nat) : ∀ F ∈ (itemsAll bs).1, F.from_ ≤ F.to_ ∧ F.to_ ≤ bs.length := by
  unfold itemsAll
  split
  · simp
  · split
    · exact itemsS_at bs 0
    · simp

/-- Behind items (tlv): the parts, in the bytes' own block b. -/
def ItemsPost (bs : List Nat) (b : Nat) (w : World) (e : Ending) (w' : World) : Prop :=
  ∃ (ps : List PT) (L : Option Addr) (k c : Nat) (g : Option Nat), e = .returned (.tuple #[.slice L k c, .int .i64 ((itemsAll bs).2.1 : Int), .int .i64 (itemsAll bs).2.2]) ∧ ps.map (·.2.1) = (itemsAll bs).1 ∧
    Ow w' 189 1 L k c (ps.map fun x => ptr x.1) g ∧ (∀ b, g = some b → w.heap.size ≤ b) ∧ PartsIn w' bs b w.heap.size ps ∧ Fr (fun _ => False) w w'
theorem ItemsPost.bad {bs : List Nat} {b : Nat} {w w' : World} {p : Nat} {er : Int} (h : itemsAll bs = ([], p, er)) (hf : Fr (fun _ => False) w w') : ItemsPost bs b w (.returned (.tuple #[.slice none 0 0, .int .i64 (p : Int), .int .i64 er])) w' :=
  ⟨[], none, 0, 0, none, by rw [h], by rw [h]; rfl, Ow.nil_ _ _ _, (fun b h => by cases h), ⟨(fun x h => by cases h), (fun x h => by cases h), List.Pairwise.nil⟩, hf⟩

set_option maxHeartbeats 4000000 in
set_option maxRecDepth 100000 in
theorem titems_any (w : World) (xs : List Nat) (A : Option Addr) (n c : Nat) (hn : n ≤ 1099511627776) (hc : n ≤ c) (hc2 : c ≤ 9223372036854775807) (hl : n = xs.length) (h256 : ∀ x ∈ xs, x < 256) (hA : Sl w 1 A n (xs.map bn)) :
    Calls Try.prog 142 #[.slice A n c] w fun e w' => ∃ b, (∀ b' o, A = some ⟨b', o, none⟩ → b = b') ∧ ItemsPost xs b w e w' := by
  obtain ⟨j0, hj, hj0, hj1, hj2⟩ := info_parts infoP
  have Hl := hide hl
  clear hl
  by_cases h0 : n = 0
  · subst h0
    have hg : Hid (itemsAll xs = ([], 0, 20)) := by show _ = _; rw [itemsAll, if_pos Hl.out.symm]
    go_enter Try.func142, Try.ntmps142
    go_wp2_with fail
    go_ret3
    cases A with
    | none => exact ⟨0, (fun b' o h => by cases h), ItemsPost.bad (p := 0) (er := 20) hg.out (Fr.refl _ _)⟩
    | some a => exact ⟨a.block, (fun b' o h => by cases h; rfl), ItemsPost.bad (p := 0) (er := 20) hg.out (Fr.refl _ _)⟩
  obtain ⟨b, o, rfl, _⟩ := hA.2 (by omega)
  refine Calls.mono (R := ItemsPost xs b w) ?_ fun e w' h => ⟨b, (fun b' o h => by cases h; rfl), h⟩
  have hbl := hA.lt b o rfl (by omega)
  have Hne : Hid (¬ xs.length = 0) := by show ¬ _; rw [← Hl.out]; exact h0
  have h1 : ((n : Int) == 0) = false := by simp; omega
  go_enter Try.func142, Try.ntmps142
  go_wp2_with fail
  go_loopw [5, 6] (fun u i wr => ∃ (a : Nat) (ps : List PT) (L : Option Addr) (k cl : Nat) (g : Option Nat), u = .slice L k cl ∧ i = .int .i64 (a : Int) ∧ a ≤ n ∧ k ≤ a ∧
    Hid (itemsS xs 0 = (ps.map (·.2.1) ++ (itemsS xs a).1, (itemsS xs a).2)) ∧ Ow wr 189 1 L k cl (ps.map fun x => ptr x.1) g ∧ (∀ b, g = some b → w.heap.size ≤ b) ∧ PartsIn wr xs b w.heap.size ps ∧ Fr (fun _ => False) w wr) (fun _ i _ => n - (intOf i).toNat)
  case atStart => exact ⟨0, [], none, 0, 0, none, rfl, rfl, by omega, by omega, by show _ = _; simp, Ow.nil_ _ _ _, (fun b h => by cases h), ⟨(fun x h => by cases h), (fun x h => by cases h), List.Pairwise.nil⟩, Fr.refl _ _⟩
  case round =>
    obtain ⟨a, ps, L, k, cl, g, rfl, rfl, ha, hka, hG, hO, hg, hP, hf⟩ := hrel
    by_cases hlt : a < n
    · have hal : a < xs.length := by rw [← Hl.out]; exact hlt
      have hS := hA.below hf (fun _ _ => id)
      go_wp2_with fail
      refine (piece_at _ xs b o n c a _ rfl (by omega) hc hc2 Hl.out (by omega) h256 hS).mono ?_
      rintro e w' ⟨hp | hp, rfl⟩
      · obtain ⟨p, er, hp, rfl⟩ := hp
        have he0 := (pieceS_bad hp).1
        have he := hide (itemsAll_bad Hne.out ((hG.out.trans (by rw [itemsS_bad hal hp])) : itemsS xs 0 = (_, p, er)) he0)
        clear hp
        go_wp2_with fail
        go_ret3
        exact ItemsPost.bad he.out hf
      · obtain ⟨f, t, o', hp, rfl, ho⟩ := hp
        obtain ⟨f1, f2, f3⟩ := pieceS_ok hp
        have hstep : Hid (itemsS xs a = (⟨0, 0, f, t⟩ :: (itemsS xs t).1, (itemsS xs t).2)) := itemsS_one hal hp (by omega)
        obtain ⟨m, rfl⟩ : ∃ m, t = f + m := ⟨t - f, by omega⟩
        have f4 : f + m ≤ n := by rw [Hl.out]; exact f3
        have w2 : IntKind.i64.wrap ((f : Int) + m - m) = f := by rw [show (f : Int) + m - m = f by omega]; exact IntWalk.i64_in _ (by omega)
        have w3 : IntKind.i64.wrap (f : Int) = f := IntWalk.i64_in _ (by omega)
        have hval : Sl wr 1 (some ⟨b, o', none⟩) m ((((xs.drop f).take (f + m - f))).map bn) := by
          rw [Nat.add_sub_cancel_left]
          by_cases hm : m = 0
          · subst hm; exact ⟨by simp, fun h => absurd h (by omega)⟩
          · obtain rfl := ho (by omega)
            have := hS.part (f := f) (t := f + m) (by omega) f4
            rw [← List.map_drop, ← List.map_take] at this
            rwa [Nat.add_sub_cancel_left] at this
        rw [Nat.add_sub_cancel_left]
        have hB0 := Bl.new wr 192 #[.int .i64 0, .int .i64 0, .int .i64 f, .slice (some ⟨b, o', none⟩) m m, .bool false]
        clear hp ho
        go_wp2_with (first | (at_builtin; refine wpList_append_ow _ rfl _ _ 195 rfl 189 j0 (.pointer none) 1 8 Try.underlying195 hj hj0 hj1 hj2 rfl (by decide) _ _ _ _ _ rfl (hO.fr (((Fr.refl (fun _ => False) _).alloc _).alloc _) (fun _ _ => id)) _ _ _ [ptr wr.heap.size] rfl (Sl.oneAt (by simp)) (by intro u hu; simp at hu; subst hu; rfl) (by unfold maxLen; omega) (by omega) ?_) | go_in)
        intro L2 cl2 w2 g2 hO2 hf2 hg2
        have hB2 := ((hB0.alloc (.cells #[.pointer (some ⟨wr.heap.size, 0, none⟩)] 189)).fr hf2 (fun e => by have := hO.lt _ e.symm; omega))
        have hfa : Fr (fun y => some y = g) wr w2 := (((Fr.refl _ _).alloc _).alloc _).comp hf2 (fun _ _ e => e)
        have hgb : ¬ some b = g := fun e => by have := hg b e.symm; omega
        have hpg : ∀ y ∈ ps, ¬ some y.1 = g := fun y hy e => by
          have h := (hP.at_ y hy).bl
          rw [← e] at hO
          exact hO.neBl h (by decide) rfl
        have hplt : ∀ y ∈ ps, y.1 < wr.heap.size := fun y hy => (hP.at_ y hy).bl.lt
        have Hf3 := hide f3
        have Hpg := hide hpg
        have hsz := hf.size
        have Hf := hide hfa
        clear hfa hpg f3
        go_wp2_with fail
        refine ⟨⟨f + m, ps ++ [(wr.heap.size, ⟨0, 0, f, f + m⟩, o')], L2, k + 1, cl2, g2, rfl, by simp, f4, by omega, ?_, by simpa [ptr] using hO2, ?_, ⟨?_, ?_, ?_⟩, ?_⟩, by simp [intOf]; omega⟩
        · show _ = _
          rw [hG.out, hstep.out]
          simp
        · intro y e
          rcases hg2 with h | ⟨b', h, hb'⟩
          · exact hg y (h ▸ e)
          · rw [h] at e; cases e
            first | omega | (simp at hb'; omega)
        · intro y hy
          rcases List.mem_append.1 hy with hy | hy
          · exact (hP.at_ y hy).fr Hf.out (Hpg.out y hy) hgb
          · simp at hy; subst hy
            refine ⟨?_, ?_, by show f ≤ f + m; omega, Hf3.out⟩
            · show Bl w2 _ _ #[.int .i64 0, .int .i64 0, .int .i64 f, .slice (some ⟨b, o', none⟩) (f + m - f) (f + m - f), .bool false]
              rw [Nat.add_sub_cancel_left]; exact hB2
            · show Sl w2 1 _ (f + m - f) _
              rw [Nat.add_sub_cancel_left]
              exact hval.fr (B := 0) Hf.out fun k ⟨o', e⟩ _ => by cases e; exact hgb
        · intro y hy
          rcases List.mem_append.1 hy with hy | hy
          · exact hP.new y hy
          · simp at hy; subst hy; exact hsz
        · rw [List.pairwise_append]
          refine ⟨hP.ord, by simp, fun y hy z hz => ?_⟩
          simp at hz; subst hz; exact hplt y hy
        · exact hf.comp Hf.out fun y hy e => by have := hg y e.symm; omega
    · obtain rfl : a = n := by omega
      have he := hide (itemsAll_ok Hne.out ((hG.out.trans (by rw [itemsS_end (by rw [← Hl.out]; omega), List.append_nil])) : itemsS xs 0 = (_, 0, 0)))
      clear hlt
      go_wp2_with fail
      go_ret3
      exact ⟨ps, L, k, cl, g, by rw [he.out]; rfl, by rw [he.out], hO, hg, hP, hf⟩
end Go.Proofs.Ytlcjhbemgagchaa
end

section
/-
  Readers in plain lists: the fault, a reader, what each call answers.
-/
namespace Go.Proofs.Ytlcjhbemgagchaa
set_option linter.unusedVariables false

structure RF where
  place : Int
  e : Int
def RF.wrong (f : RF) (at_ e : Int) : RF := if f.e = 0 then ⟨at_, e⟩ else f
theorem RF.wrong_no {f : RF} {a e : Int} (h : f.e ≠ 0) : f.wrong a e = f := if_neg h
theorem RF.wrong_yes {f : RF} {a e : Int} (h : f.e = 0) : f.wrong a e = ⟨a, e⟩ := if_pos h

structure RD where
  bs : List Nat
  base : Nat
  fs : List GF
  tk : List Bool
structure RD.ok (d : RD) : Prop where
  tk : d.tk.length = d.fs.length
  byte : ∀ x ∈ d.bs, x < 256
  le : d.base + d.bs.length ≤ 1048576
  at_ : ∀ F ∈ d.fs, F.from_ ≤ F.to_ ∧ F.to_ ≤ d.bs.length ∧ F.at_ ≤ d.bs.length
/-- Where the tag's field stands (the fields' number: there is none). -/
def tagAt (fs : List GF) (t : Int) : Nat := fs.findIdx fun F => decide ((F.tag : Int) = t)
theorem tagAt_lt {fs : List GF} {t : Int} {i : Nat} (h : i < tagAt fs t) (hi : i < fs.length) : ¬ ((fs[i].tag : Int) = t) := by
  have := List.not_of_lt_findIdx h
  simpa using this
theorem tagAt_is {fs : List GF} {t : Int} (h : tagAt fs t < fs.length) : ((fs[tagAt fs t]'h).tag : Int) = t := by
  have h1 : decide (((fs[tagAt fs t]'h).tag : Int) = t) = true := List.findIdx_getElem (w := h)
  exact of_decide_eq_true h1
theorem tagAt_first {fs : List GF} {t : Int} {k : Nat} (hk : k < fs.length) (h1 : ∀ i (hi : i < k), ¬ ((fs[i]'(by omega)).tag : Int) = t) (h2 : ((fs[k]'hk).tag : Int) = t) : tagAt fs t = k := by
  rcases Nat.lt_trichotomy (tagAt fs t) k with h | h | h
  · exact absurd (tagAt_is (by omega)) (h1 _ h)
  · exact h
  · exact absurd h2 (tagAt_lt h hk)
theorem tagAt_none {fs : List GF} {t : Int} (h : ∀ i (hi : i < fs.length), ¬ (fs[i].tag : Int) = t) : ¬ tagAt fs t < fs.length := fun hl => h _ hl (tagAt_is hl)

def RD.idx (d : RD) (f : RF) (t : Int) : Nat := if f.e ≠ 0 then d.fs.length else tagAt d.fs t
def RD.took (d : RD) (f : RF) (t : Int) : RD := { d with tk := d.tk.set (d.idx f t) true }
theorem RD.took_ok {d : RD} (h : d.ok) (f : RF) (t : Int) : (d.took f t).ok := ⟨by simp [RD.took, h.tk], h.byte, h.le, h.at_⟩
theorem RD.took_none {d : RD} (h : d.ok) {f : RF} {t : Int} (hn : ¬ d.idx f t < d.fs.length) : d.took f t = d := by
  unfold RD.took
  rw [List.set_eq_of_length_le (by rw [h.tk]; omega)]
theorem RD.took_fs (d : RD) (f : RF) (t : Int) : (d.took f t).fs = d.fs := rfl
theorem RD.took_bs (d : RD) (f : RF) (t : Int) : (d.took f t).bs = d.bs := rfl
theorem RD.took_base (d : RD) (f : RF) (t : Int) : (d.took f t).base = d.base := rfl

/-- The field that a call takes. -/
def RD.fld (d : RD) (f : RF) (t : Int) : Option GF := d.fs[d.idx f t]?
def numberS (d : RD) (f : RF) (t : Int) (above : Nat) : Nat × RF :=
  match d.fld f t with
  | none => (0, f)
  | some F =>
    let v := F.val d.bs
    let r := readShort v 0
    if r.2.2 ≠ 0 ∨ r.2.1 ≠ v.length ∨ r.1 = 0 then (0, f.wrong (d.base + F.from_) 20)
    else if above < r.1 then (0, f.wrong (d.base + F.from_) 3)
    else (r.1, f)
def rawS (d : RD) (f : RF) (t most : Int) : List Nat × RF :=
  match d.fld f t with
  | none => ([], f)
  | some F => if max most 0 < ((F.val d.bs).length : Int) then ([], f.wrong (d.base + F.from_) 3) else (F.val d.bs, f)
/-- The items of a field: their places within the record, too. -/
def itS (d : RD) (f : RF) (t most : Int) : Option GF × List GF × RF :=
  match d.fld f t with
  | none => (none, [], f)
  | some F =>
    let r := itemsAll (F.val d.bs)
    if r.2.2 ≠ 0 then (none, [], f.wrong (d.base + F.from_ + r.2.1) r.2.2)
    else if max most 0 < (r.1.length : Int) then (none, [], f.wrong (d.base + F.from_) 3)
    else (some F, r.1, f)
def RD.empty (base : Nat) : RD := ⟨[], base, [], []⟩
theorem RD.empty_ok {b : Nat} (h : b ≤ 1048576) : (RD.empty b).ok := ⟨rfl, (fun x h => by cases h), by simpa [RD.empty] using h, (fun F h => by cases h)⟩
/-- A reader of bytes that begin at a place. -/
def readS (f : RF) (base : Nat) (bs : List Nat) : RD × RF :=
  if f.e ≠ 0 then (RD.empty base, f)
  else
    let r := getAll bs
    if r.2.2 ≠ 0 then (RD.empty base, f.wrong (base + r.2.1) r.2.2)
    else (⟨bs, base, r.1, r.1.map fun _ => false⟩, f)
theorem getS_at (bs : List Nat) (a last : Nat) : ∀ F ∈ (getS bs a last).1, F.from_ ≤ F.to_ ∧ F.to_ ≤ bs.length ∧ F.at_ ≤ bs.length := by
  by_cases ha : a < bs.length
  · rcases hs : stepG bs a last with F | ⟨p, e⟩
    · by_cases h2 : a < F.to_
      · rw [getS_one ha hs h2]
        intro F' hF
        rcases List.mem_cons.1 hF with rfl | hF
        · unfold stepG at hs
          split at hs
          · cases hs
          · split at hs
            · cases hs
            · rename_i f t hp
              split at hs
              · cases hs
              · cases hs
                have := pieceS_ok hp
                exact ⟨this.2.1, this.2.2, by show a ≤ _; omega⟩
        · exact getS_at bs F.to_ F.tag F' hF
      · rw [getS, dif_pos ha, hs]; simp only [dif_neg h2]; simp
    · rw [getS_bad ha hs]; simp
  · rw [getS_end ha]; simp
termination_by bs.length - a
theorem getAll_at (bs : List Nat) : ∀ F ∈ (getAll bs).1, F.from_ ≤ F.to_ ∧ F.to_ ≤ bs.length ∧ F.at_ ≤ bs.length := by
  unfold getAll
  split
  · simp
  · split
    · exact getS_at bs 0 0
    · simp
theorem getAll_small {bs : List Nat} (h : (getAll bs).2.2 = 0) : bs.length ≤ 1048576 := by
  unfold getAll at h
  split at h
  · simp at h
  · omega
theorem readS_ok {f : RF} {base : Nat} {bs : List Nat} (hb : ∀ x ∈ bs, x < 256) (hl : base ≤ 1048576) (h2 : base = 0 ∨ base + bs.length ≤ 1048576) : (readS f base bs).1.ok := by
  unfold readS
  split
  · exact RD.empty_ok hl
  · simp only
    split
    · exact RD.empty_ok hl
    · rename_i h
      have h0 : (getAll bs).2.2 = 0 := by simpa using h
      have := getAll_small h0
      exact ⟨by simp, hb, by show base + bs.length ≤ _; omega, getAll_at bs⟩
/-- Readers of items, one behind the other. -/
def readersS (f : RF) (base : Nat) (v : List Nat) : List GF → List RD × RF
  | [] => ([], f)
  | F :: l =>
    let r := readS f (base + F.from_) (F.val v)
    let s := readersS r.2 base v l
    (r.1 :: s.1, s.2)
theorem readersS_snoc (f : RF) (base : Nat) (v : List Nat) (l : List GF) (F : GF) : readersS f base v (l ++ [F]) = ((readersS f base v l).1 ++ [(readS (readersS f base v l).2 (base + F.from_) (F.val v)).1], (readS (readersS f base v l).2 (base + F.from_) (F.val v)).2) := by
  induction l generalizing f with
  | nil => rfl
  | cons G l ih => simp only [List.cons_append, readersS, ih]
/-- The place of the first field that no call took. -/
def leftAt (fs : List GF) (tk : List Bool) : Nat := tk.findIdx fun b => !b
def endS (d : RD) (f : RF) : RF :=
  if f.e ≠ 0 then f else match d.fs[leftAt d.fs d.tk]? with
    | none => f
    | some F => f.wrong (d.base + F.at_) 20
def recordS (d : RD) (f : RF) (t : Int) : RD × RF :=
  match d.fld f t with
  | none => (RD.empty d.base, f)
  | some F => readS f (d.base + F.from_) (F.val d.bs)
def recordsS (d : RD) (f : RF) (t most : Int) : List RD × RF :=
  let r := itS d f t most
  match r.1 with
  | none => ([], r.2.2)
  | some F =>
    let s := readersS r.2.2 (d.base + F.from_) (F.val d.bs) r.2.1
    if 0 < s.1.length ∧ s.2.e ≠ 0 then ([], s.2) else s
theorem stepG_pl {bs : List Nat} {a last p : Nat} {e : Int} (ha : a < bs.length) (h : stepG bs a last = .inr (p, e)) : p ≤ bs.length := by
  unfold stepG at h
  split at h
  · cases h; omega
  · split at h
    · rename_i pe hp
      cases h
      have := (pieceS_bad hp).2; omega
    · split at h
      · cases h; omega
      · cases h
theorem getS_pl (bs : List Nat) (a last : Nat) : (getS bs a last).2.1 ≤ bs.length := by
  by_cases ha : a < bs.length
  · rcases hs : stepG bs a last with F | ⟨p, e⟩
    · by_cases h2 : a < F.to_
      · rw [getS_one ha hs h2]
        exact getS_pl bs F.to_ F.tag
      · rw [getS, dif_pos ha, hs]; simp only [dif_neg h2]; exact Nat.zero_le _
    · rw [getS_bad ha hs]; exact stepG_pl ha hs
  · rw [getS_end ha]; exact Nat.zero_le _
termination_by bs.length - a
theorem getAll_pl (bs : List Nat) : (getAll bs).2.1 ≤ bs.length := by
  unfold getAll
  split
  · simp
  · split
    · exact getS_pl bs 0 0
    · exact getS_pl bs 0 0
theorem itemsS_pl (bs : List Nat) (a : Nat) : (itemsS bs a).2.1 ≤ bs.length := by
  by_cases ha : a < bs.length
  · rcases hs : pieceS bs a with ⟨f, t⟩ | ⟨p, e⟩
    · by_cases h2 : a < t
      · rw [itemsS_one ha hs h2]
        exact itemsS_pl bs t
      · rw [itemsS, dif_pos ha, hs]; simp only [dif_neg h2]; exact Nat.zero_le _
    · rw [itemsS_bad ha hs]
      have := (pieceS_bad hs).2
      show p ≤ _; omega
  · rw [itemsS_end ha]; exact Nat.zero_le _
termination_by bs.length - a
theorem itemsAll_pl (bs : List Nat) : (itemsAll bs).2.1 ≤ bs.length := by
  unfold itemsAll
  split
  · simp
  · split
    · exact itemsS_pl bs 0
    · exact itemsS_pl bs 0
theorem fld_mem {d : RD} {f : RF} {t : Int} {F : GF} (h : d.fld f t = some F) : F ∈ d.fs := List.mem_of_getElem? h
end Go.Proofs.Ytlcjhbemgagchaa
end
