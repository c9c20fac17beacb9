/-
  Texts merged into one, to keep the claim small: TlvParts.
-/
import Derived.Test.YtlcjhbemgagchaaMr4
/-
  parts (tlv).
-/
namespace Go.Proofs.Ytlcjhbemgagchaa
open Go.RowKit
set_option linter.unusedVariables false

theorem infoP : (Try.prog.info? 189).map (fun i => (i.zero, i.size, i.bytes)) = some (some (.pointer none), 1, 8) := by kernel_rfl
def ptr (p : Nat) : Value := .pointer (some ⟨p, 0, none⟩)
/-- A field that was read lies at block p; its bytes at o' of block b. -/
structure PartAt (w : World) (bs : List Nat) (b : Nat) (p : Nat) (F : GF) (o : Nat) (tk : Bool) : Prop where
  bl : Bl w p 192 #[.int .i64 F.tag, .int .i64 F.at_, .int .i64 F.from_, .slice (some ⟨b, o, none⟩) (F.to_ - F.from_) (F.to_ - F.from_), .bool tk]
  val : Sl w 1 (some ⟨b, o, none⟩) (F.to_ - F.from_) ((F.val bs).map bn)
  le : F.from_ ≤ F.to_
  to_ : F.to_ ≤ bs.length
theorem PartAt.fr {w w' : World} {bs : List Nat} {b p o : Nat} {F : GF} {tk : Bool} {S : Nat → Prop} (h : PartAt w bs b p F o tk) (hf : Fr S w w') (hp : ¬ S p) (hb : ¬ S b) : PartAt w' bs b p F o tk :=
  ⟨h.bl.fr hf hp, h.val.fr (B := 0) hf fun k ⟨o', e⟩ _ => by cases e; exact hb, h.le, h.to_⟩
theorem PartAt.quiet {w w' : World} {bs : List Nat} {b p o : Nat} {F : GF} {tk : Bool} (h : PartAt w bs b p F o tk) (hf : Fr (fun _ => False) w w') : PartAt w' bs b p F o tk := h.fr hf id id

/-- A part's place, its field, the place of its bytes. -/
abbrev PT := Nat × GF × Nat
/-- The parts ps of bs (which lie in block b), all at or behind block B. -/
structure PartsIn (w : World) (bs : List Nat) (b B : Nat) (ps : List PT) : Prop where
  at_ : ∀ x ∈ ps, PartAt w bs b x.1 x.2.1 x.2.2 false
  new : ∀ x ∈ ps, B ≤ x.1
  ord : ps.Pairwise fun x y => x.1 < y.1
theorem PartsIn.fr {w w' : World} {bs : List Nat} {b B : Nat} {ps : List PT} {S : Nat → Prop} (h : PartsIn w bs b B ps) (hf : Fr S w w') (hp : ∀ x ∈ ps, ¬ S x.1) (hb : ¬ S b) : PartsIn w' bs b B ps :=
  ⟨fun x hx => (h.at_ x hx).fr hf (hp x hx) hb, h.new, h.ord⟩
def PartsPost (bs : List Nat) (b : Nat) (w : World) (e : Ending) (w' : World) : Prop :=
  ∃ (ps : List PT) (L : Option Addr) (k c : Nat) (g : Option Nat), e = .returned (.tuple #[.slice L k c, .int .i64 ((getAll bs).2.1 : Int), .int .i64 (getAll bs).2.2]) ∧ ps.map (·.2.1) = (getAll bs).1 ∧
    Ow w' 189 1 L k c (ps.map fun x => ptr x.1) g ∧ (∀ b, g = some b → w.heap.size ≤ b) ∧ PartsIn w' bs b w.heap.size ps ∧ Fr (fun _ => False) w w' ∧ k ≤ 1048576
theorem PartsPost.bad {bs : List Nat} {b : Nat} {w w' : World} {p : Nat} {er : Int} (h : getAll bs = ([], p, er)) (hf : Fr (fun _ => False) w w') : PartsPost bs b w (.returned (.tuple #[.slice none 0 0, .int .i64 (p : Int), .int .i64 er])) w' :=
  ⟨[], none, 0, 0, none, by rw [h], by rw [h]; rfl, Ow.nil_ _ _ _, (fun b h => by cases h), ⟨(fun x h => by cases h), (fun x h => by cases h), List.Pairwise.nil⟩, hf, Nat.zero_le _⟩
theorem getAll_bad {bs : List Nat} {fs : List GF} {p : Nat} {er : Int} (hl : ¬ 1048576 < bs.length) (h : getS bs 0 0 = (fs, p, er)) (he : er ≠ 0) : getAll bs = ([], p, er) := by
  rw [getAll, if_neg hl, h, if_neg he]
theorem getAll_ok {bs : List Nat} {fs : List GF} {p : Nat} (hl : ¬ 1048576 < bs.length) (h : getS bs 0 0 = (fs, p, 0)) : getAll bs = (fs, p, 0) := by
  rw [getAll, if_neg hl, h, if_pos rfl]
theorem Ow.neBl {w : World} {e t : TypeId} {s n c g p : Nat} {A : Option Addr} {xs : List Value} {cs : Array Value} (h : Ow w e s A n c xs (some g)) (h' : Bl w p t cs) (hne : e ≠ t) : p ≠ g := by
  rintro rfl
  rcases h.2 with ⟨_, _, _, h0⟩ | ⟨b, o, cur, _, h1, h2, _⟩
  · cases h0
  · cases h1
    unfold Bl at h'
    rw [h2] at h'; injection h' with h3; injection h3 with _ h4
    exact hne h4
theorem Sl.oneAt {w : World} {k : Nat} {v : Value} {t : TypeId} (h : k = w.heap.size) : Sl (w.alloc (.cells #[v] t)) 1 (some ⟨k, 0, none⟩) 1 [v] := by subst h; exact Sl.one _ _ _

set_option maxHeartbeats 4000000 in
set_option maxRecDepth 100000 in
theorem parts_any (w : World) (xs : List Nat) (A : Option Addr) (n c : Nat) (hn : n ≤ 140737488355328) (hc : n ≤ c) (hc2 : c ≤ 9223372036854775807) (hl : n = xs.length) (h256 : ∀ x ∈ xs, x < 256) (hA : Sl w 1 A n (xs.map bn)) :
    Calls Try.prog 141 #[.slice A n c] w fun e w' => ∃ b, (∀ b' o, A = some ⟨b', o, none⟩ → b = b') ∧ PartsPost xs b w e w' := by
  obtain ⟨j0, hj, hj0, hj1, hj2⟩ := info_parts infoP
  have Hl := hide hl
  clear hl
  by_cases hbig : 1048576 < n
  · have hg : Hid (getAll xs = ([], 0, 3)) := by show _ = _; rw [getAll, if_pos (by rw [← Hl.out]; exact hbig)]
    have hb' : (1048576 : Int) < (n : Int) := by omega
    obtain ⟨b, o, rfl, _⟩ := hA.2 (by omega)
    go_enter Try.func141, Try.ntmps141
    go_wp2_with fail
    go_ret3
    exact ⟨b, (fun b' o h => by cases h; rfl), PartsPost.bad (p := 0) (er := 3) hg.out (Fr.refl _ _)⟩
  by_cases h0 : n = 0
  · subst h0
    have hg : Hid (getAll xs = ([], 0, 0)) := getAll_ok (by rw [← Hl.out]; omega) (getS_end (by rw [← Hl.out]; omega))
    go_enter Try.func141, Try.ntmps141
    go_wp2_with fail
    go_loopw [5, 6, 7] (fun u v i wr => u = .slice none 0 0 ∧ i = .int .i64 0 ∧ wr = w) (fun _ _ _ _ => 0)
    case atStart => exact ⟨rfl, rfl, rfl⟩
    case round =>
      obtain ⟨rfl, rfl, rfl⟩ := hrel
      go_wp2_with fail
      go_ret3
      cases A with
      | none => exact ⟨0, (fun b' o h => by cases h), PartsPost.bad (p := 0) (er := 0) hg.out (Fr.refl _ _)⟩
      | some a => exact ⟨a.block, (fun b' o h => by cases h; rfl), PartsPost.bad (p := 0) (er := 0) hg.out (Fr.refl _ _)⟩
  obtain ⟨b, o, rfl, _⟩ := hA.2 (by omega)
  refine Calls.mono (R := PartsPost xs b w) ?_ fun e w' h => ⟨b, (fun b' o h => by cases h; rfl), h⟩
  have hbl := hA.lt b o rfl (by omega)
  have hb' : ¬ (1048576 : Int) < (n : Int) := by omega
  have Hsm : Hid (¬ 1048576 < xs.length) := by show ¬ _; rw [← Hl.out]; exact hbig
  clear hbig
  go_enter Try.func141, Try.ntmps141
  go_wp2_with fail
  go_loopw [5, 6, 7] (fun u v i wr => ∃ (a last : Nat) (ps : List PT) (L : Option Addr) (k cl : Nat) (g : Option Nat), u = .slice L k cl ∧ v = .int .i64 (last : Int) ∧ i = .int .i64 (a : Int) ∧ a ≤ n ∧ k ≤ a ∧
    Hid (getS xs 0 0 = (ps.map (·.2.1) ++ (getS xs a last).1, (getS xs a last).2)) ∧ Ow wr 189 1 L k cl (ps.map fun x => ptr x.1) g ∧ (∀ b, g = some b → w.heap.size ≤ b) ∧ PartsIn wr xs b w.heap.size ps ∧ Fr (fun _ => False) w wr) (fun _ _ i _ => n - (intOf i).toNat)
  case atStart => exact ⟨0, 0, [], none, 0, 0, none, rfl, rfl, rfl, by omega, by omega, by show _ = _; simp, Ow.nil_ _ _ _, (fun b h => by cases h), ⟨(fun x h => by cases h), (fun x h => by cases h), List.Pairwise.nil⟩, Fr.refl _ _⟩
  case round =>
    obtain ⟨a, last, ps, L, k, cl, g, rfl, rfl, rfl, ha, hka, hG, hO, hg, hP, hf⟩ := hrel
    by_cases hlt : a < n
    · have hal : a < xs.length := by rw [← Hl.out]; exact hlt
      have hu := bn_get (xs := xs) (k := a) hal
      obtain ⟨b', o', e, cw⟩ := hA.at_ hu
      cases e
      have ca := (hf.cell hbl id).trans cw
      have hS := hA.below hf (fun _ _ => id)
      have hx : xs.getD a 0 < 256 := h256 _ (by rw [List.getD_eq_getElem?_getD, List.getElem?_eq_getElem hal]; exact List.getElem_mem hal)
      obtain ⟨x, hxx⟩ : ∃ x, xs.getD a 0 = x := ⟨_, rfl⟩
      have HX := hide hxx
      rw [hxx] at ca hx
      have w1 : IntKind.i64.wrap (x : Int) = (x : Int) := IntWalk.i64_in _ (by omega)
      have i0 : (0 : Int) ≤ (a : Int) := by omega
      have i1 : (a : Int) < (n : Int) := by omega
      clear hu cw hxx
      by_cases hlast : x ≤ last
      · have he := hide (getAll_bad Hsm.out ((hG.out.trans (by rw [getS_bad hal (stepG_order (by rw [HX.out]; exact hlast))])) : getS xs 0 0 = (_, a, 21)) (by omega))
        have hla : (x : Int) ≤ (last : Int) := by omega
        go_wp2_with fail
        go_ret3
        exact PartsPost.bad he.out (hf.alloc _)
      · have hla : (last : Int) < (x : Int) := by omega
        have Hlast : Hid (¬ xs.getD a 0 ≤ last) := by show ¬ _; rw [HX.out]; exact hlast
        clear hlast
        have hB := Bl.new wr 192 #[.int .i64 x, .int .i64 a, .int .i64 0, .slice none 0 0, .bool false]
        go_wp2_with fail
        refine (piece_at _ xs b o n c (a + 1) _ (by omega) hn hc hc2 Hl.out (by omega) h256 (hS.below ((Fr.refl (fun _ => False) _).alloc _) (fun _ _ => id))).mono ?_
        rintro e w' ⟨hp | hp, rfl⟩
        · obtain ⟨p, er, hp, rfl⟩ := hp
          have he0 := (pieceS_bad hp).1
          have he := hide (getAll_bad Hsm.out ((hG.out.trans (by rw [getS_bad hal (stepG_piece Hlast.out hp)])) : getS xs 0 0 = (_, p, er)) he0)
          clear hp
          go_wp2_with fail
          go_ret3
          exact PartsPost.bad he.out (hf.alloc _)
        · obtain ⟨f, t, o', hp, rfl, ho⟩ := hp
          by_cases hft : f = t
          · subst hft
            have he := hide (getAll_bad Hsm.out ((hG.out.trans (by rw [getS_bad hal (stepG_none Hlast.out hp)])) : getS xs 0 0 = (_, a + 1, 20)) (by omega))
            clear hp ho
            rw [Nat.sub_self]
            go_wp2_with fail
            go_ret3
            exact PartsPost.bad he.out (hf.alloc _)
          · obtain ⟨f1, f2, f3⟩ := pieceS_ok hp
            obtain rfl := ho (by omega)
            obtain ⟨m, rfl⟩ : ∃ m, t = f + m := ⟨t - f, by omega⟩
            have f4 : f + m ≤ n := by rw [Hl.out]; exact f3
            have w2 : IntKind.i64.wrap ((f : Int) + m - m) = f := by rw [show (f : Int) + m - m = f by omega]; exact IntWalk.i64_in _ (by omega)
            have hne : ¬ m = 0 := by omega
            have w3 : IntKind.i64.wrap (f : Int) = f := IntWalk.i64_in _ (by omega)
            rw [Nat.add_sub_cancel_left]
            have hB0 := Bl.new wr 192 #[.int .i64 x, .int .i64 a, .int .i64 f, .slice (some ⟨b, o + f, none⟩) m m, .bool false]
            go_wp2_with (first | (at_builtin; refine wpList_append_ow _ rfl _ _ 195 rfl 189 j0 (.pointer none) 1 8 Try.underlying195 hj hj0 hj1 hj2 rfl (by decide) _ _ _ _ _ rfl (hO.fr (((Fr.refl (fun _ => False) _).alloc _).alloc _) (fun _ _ => id)) _ _ _ [ptr wr.heap.size] rfl (Sl.oneAt (by simp)) (by intro u hu; simp at hu; subst hu; rfl) (by unfold maxLen; omega) (by omega) ?_) | go_in)
            intro L2 cl2 w2 g2 hO2 hf2 hg2
            have hbg : ∀ y, g = some y → ¬ wr.heap.size = y := fun y e e2 => by have := hO.lt y e; omega
            have hB2 := ((hB0.alloc (.cells #[.pointer (some ⟨wr.heap.size, 0, none⟩)] 189)).fr hf2 (fun e => by have := hO.lt _ e.symm; omega))
            have hc0 : w2.cell? ⟨wr.heap.size, 0, none⟩ = some (.int .i64 x) := hB2.cell' rfl
            have hfa : Fr (fun y => some y = g) wr w2 := (((Fr.refl _ _).alloc _).alloc _).comp hf2 (fun _ _ e => e)
            have hgb : ¬ some b = g := fun e => by have := hg b e.symm; omega
            have hpg : ∀ y ∈ ps, ¬ some y.1 = g := fun y hy e => by
              have h := (hP.at_ y hy).bl
              rw [← e] at hO
              exact hO.neBl h (by decide) rfl
            have hplt : ∀ y ∈ ps, y.1 < wr.heap.size := fun y hy => (hP.at_ y hy).bl.lt
            have hval : Sl wr 1 (some ⟨b, o + f, none⟩) m ((((xs.drop f).take (f + m - f))).map bn) := by
              have := hS.part (f := f) (t := f + m) (by omega) f4
              rw [← List.map_drop, ← List.map_take] at this
              rwa [Nat.add_sub_cancel_left] at this ⊢
            have hstep : Hid (stepG xs a last = .inl ⟨x, a, f, f + m⟩) := by show _ = _; rw [stepG_one Hlast.out hp (by omega), HX.out]
            have Hf3 := hide f3
            clear hp ho f3
            have Hpg := hide hpg
            clear hpg
            have hsz := hf.size
            have Hf := hide hfa
            clear hfa
            go_wp2_with fail
            refine ⟨⟨f + m, x, ps ++ [(wr.heap.size, ⟨x, a, f, f + m⟩, o + f)], L2, k + 1, cl2, g2, rfl, rfl, by simp, f4, by omega, ?_, by simpa [ptr] using hO2, ?_, ⟨?_, ?_, ?_⟩, ?_⟩, by simp [intOf]; omega⟩
            · show _ = _
              rw [hG.out, getS_one hal hstep.out (by show a < f + m; omega)]
              simp
            · intro y e
              rcases hg2 with h | ⟨b', h, hb'⟩
              · exact hg y (h ▸ e)
              · rw [h] at e; cases e; omega
            · intro y hy
              rcases List.mem_append.1 hy with hy | hy
              · exact (hP.at_ y hy).fr Hf.out (Hpg.out y hy) hgb
              · simp at hy; subst hy
                refine ⟨?_, ?_, by show f ≤ f + m; omega, Hf3.out⟩
                · show Bl w2 _ _ #[.int .i64 x, .int .i64 a, .int .i64 f, .slice (some ⟨b, o + f, none⟩) (f + m - f) (f + m - f), .bool false]
                  rw [Nat.add_sub_cancel_left]; exact hB2
                · show Sl w2 1 _ (f + m - f) _
                  rw [Nat.add_sub_cancel_left]
                  exact hval.fr (B := 0) Hf.out fun k ⟨o', e⟩ _ => by cases e; exact hgb
            · intro y hy
              rcases List.mem_append.1 hy with hy | hy
              · exact hP.new y hy
              · simp at hy; subst hy; exact hsz
            · rw [List.pairwise_append]
              refine ⟨hP.ord, by simp, fun y hy z hz => ?_⟩
              simp at hz; subst hz; exact hplt y hy
            · exact hf.comp Hf.out fun y hy e => by have := hg y e.symm; omega
    · obtain rfl : a = n := by omega
      have he := hide (getAll_ok Hsm.out ((hG.out.trans (by rw [getS_end (by rw [← Hl.out]; omega), List.append_nil])) : getS xs 0 0 = (_, 0, 0)))
      clear hlt
      go_wp2_with fail
      go_ret3
      exact ⟨ps, L, k, cl, g, by rw [he.out]; rfl, by rw [he.out], hO, hg, hP, hf, by omega⟩
end Go.Proofs.Ytlcjhbemgagchaa
