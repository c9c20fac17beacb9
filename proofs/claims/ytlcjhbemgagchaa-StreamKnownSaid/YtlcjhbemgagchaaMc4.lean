/-
  Texts merged into one, to keep the claim small: TlvParts, TlvRPut, TlvNum, TlvPuts1, TlvQuiet, TlvPuts2, TlvGet.
-/
import Derived.Test.YtlcjhbemgagchaaMc3
import Derived.Test.YtlcjhbemgagchaaMc2
import Derived.Test.YtlcjhbemgagchaaMc1
section
/-
  parts (tlv).
-/
namespace Go.Proofs.Ytlcjhbemgagchaa
open Go.RowKit
set_option linter.unusedVariables false

theorem infoP : (Try.prog.info? 189).map (fun i => (i.zero, i.size, i.bytes)) = some (some (.pointer none), 1, 8) := by kernel_rfl
def ptr (p : Nat) : Value := .pointer (some ⟨p, 0, none⟩)
/-- A field that was read lies at block p; its bytes at o' of block b. -/
structure PartAt (w : World) (bs : List Nat) (b : Nat) (p : Nat) (F : GF) (o : Nat) (tk : Bool) : Prop where
  bl : Bl w p 192 #[.int .i64 F.tag, .int .i64 F.at_, .int .i64 F.from_, .slice (some ⟨b, o, none⟩) (F.to_ - F.from_) (F.to_ - F.from_), .bool tk]
  val : Sl w 1 (some ⟨b, o, none⟩) (F.to_ - F.from_) ((F.val bs).map bn)
  le : F.from_ ≤ F.to_
  to_ : F.to_ ≤ bs.length
theorem PartAt.fr {w w' : World} {bs : List Nat} {b p o : Nat} {F : GF} {tk : Bool} {S : Nat → Prop} (h : PartAt w bs b p F o tk) (hf : Fr S w w') (hp : ¬ S p) (hb : ¬ S b) : PartAt w' bs b p F o tk :=
  ⟨h.bl.fr hf hp, h.val.fr (B := 0) hf fun k ⟨o', e⟩ _ => by cases e; exact hb, h.le, h.to_⟩
theorem PartAt.quiet {w w' : World} {bs : List Nat} {b p o : Nat} {F : GF} {tk : Bool} (h : PartAt w bs b p F o tk) (hf : Fr (fun _ => False) w w') : PartAt w' bs b p F o tk := h.fr hf id id

/-- A part's place, its field, the place of its bytes. -/
abbrev PT := Nat × GF × Nat
/-- The parts ps of bs (which lie in block b), all at or behind block B. -/
structure PartsIn (w : World) (bs : List Nat) (b B : Nat) (ps : List PT) : Prop where
  at_ : ∀ x ∈ ps, PartAt w bs b x.1 x.2.1 x.2.2 false
  new : ∀ x ∈ ps, B ≤ x.1
  ord : ps.Pairwise fun x y => x.1 < y.1
theorem PartsIn.fr {w w' : World} {bs : List Nat} {b B : Nat} {ps : List PT} {S : Nat → Prop} (h : PartsIn w bs b B ps) (hf : Fr S w w') (hp : ∀ x ∈ ps, ¬ S x.1) (hb : ¬ S b) : PartsIn w' bs b B ps :=
  ⟨fun x hx => (h.at_ x hx).fr hf (hp x hx) hb, h.new, h.ord⟩
def PartsPost (bs : List Nat) (b : Nat) (w : World) (e : Ending) (w' : World) : Prop :=
  ∃ (ps : List PT) (L : Option Addr) (k c : Nat) (g : Option Nat), e = .returned (.tuple #[.slice L k c, .int .i64 ((getAll bs).2.1 : Int), .int .i64 (getAll bs).2.2]) ∧ ps.map (·.2.1) = (getAll bs).1 ∧
    Ow w' 189 1 L k c (ps.map fun x => ptr x.1) g ∧ (∀ b, g = some b → w.heap.size ≤ b) ∧ PartsIn w' bs b w.heap.size ps ∧ Fr (fun _ => False) w w' ∧ k ≤ 1048576
theorem PartsPost.bad {bs : List Nat} {b : Nat} {w w' : World} {p : Nat} {er : Int} (h : getAll bs = ([], p, er)) (hf : Fr (fun _ => False) w w') : PartsPost bs b w (.returned (.tuple #[.slice none 0 0, .int .i64 (p : Int), .int .i64 er])) w' :=
  ⟨[], none, 0, 0, none, by rw [h], by rw [h]; rfl, Ow.nil_ _ _ _, (fun b h => by cases h), ⟨(fun x h => by cases h), (fun x h => by cases h), List.Pairwise.nil⟩, hf, Nat.zero_le _⟩
theorem getAll_bad {bs : List Nat} {fs : List GF} {p : Nat} {er : Int} (hl : ¬ 1048576 < bs.length) (h : getS bs 0 0 = (fs, p, er)) (he : er ≠ 0) : getAll bs = ([], p, er) := by
  rw [getAll, if_neg hl, h, if_neg he]
theorem getAll_ok {bs : List Nat} {fs : List GF} {p : Nat} (hl : ¬ 1048576 < bs.length) (h : getS bs 0 0 = (fs, p, 0)) : getAll bs = (fs, p, 0) := by
  rw [getAll, if_neg hl, h, if_pos rfl]
theorem Ow.neBl {w : World} {e t : TypeId} {s n c g p : Nat} {A : Option Addr} {xs : List Value} {cs : Array Value} (h : Ow w e s A n c xs (some g)) (h' : Bl w p t cs) (hne : e ≠ t) : p ≠ g := by
  rintro rfl
  rcases h.2 with ⟨_, _, _, h0⟩ | ⟨b, o, cur, _, h1, h2, _⟩
  · cases h0
  · cases h1
    unfold Bl at h'
    rw [h2] at h'; injection h' with h3; injection h3 with _ h4
    exact hne h4
theorem Sl.oneAt {w : World} {k : Nat} {v : Value} {t : TypeId} (h : k = w.heap.size) : Sl (w.alloc (.cells #[v] t)) 1 (some ⟨k, 0, none⟩) 1 [v] := by subst h; exact Sl.one _ _ _

set_option maxHeartbeats 4000000 in
set_option maxRecDepth 100000 in
theorem parts_any (w : World) (xs : List Nat) (A : Option Addr) (n c : Nat) (hn : n ≤ 140737488355328) (hc : n ≤ c) (hc2 : c ≤ 9223372036854775807) (hl : n = xs.length) (h256 : ∀ x ∈ xs, x < 256) (hA : Sl w 1 A n (xs.map bn)) :
    Calls Try.prog 141 #[.slice A n c] w fun e w' => ∃ b, (∀ b' o, A = some ⟨b', o, none⟩ → b = b') ∧ PartsPost xs b w e w' := by
  obtain ⟨j0, hj, hj0, hj1, hj2⟩ := info_parts infoP
  have Hl := hide hl
  clear hl
  by_cases hbig : 1048576 < n
  · have hg : Hid (getAll xs = ([], 0, 3)) := by show _ = _; rw [getAll, if_pos (by rw [← Hl.out]; exact hbig)]
    have hb' : (1048576 : Int) < (n : Int) := by omega
    obtain ⟨b, o, rfl, _⟩ := hA.2 (by omega)
    go_enter Try.func141, Try.ntmps141
    go_wp2_with fail
    go_ret3
    exact ⟨b, (fun b' o h => by cases h; rfl), PartsPost.bad (p := 0) (er := 3) hg.out (Fr.refl _ _)⟩
  by_cases h0 : n = 0
  · subst h0
    have hg : Hid (getAll xs = ([], 0, 0)) := getAll_ok (by rw [← Hl.out]; omega) (getS_end (by rw [← Hl.out]; omega))
    go_enter Try.func141, Try.ntmps141
    go_wp2_with fail
    go_loopw [5, 6, 7] (fun u v i wr => u = .slice none 0 0 ∧ i = .int .i64 0 ∧ wr = w) (fun _ _ _ _ => 0)
    case atStart => exact ⟨rfl, rfl, rfl⟩
    case round =>
      obtain ⟨rfl, rfl, rfl⟩ := hrel
      go_wp2_with fail
      go_ret3
      cases A with
      | none => exact ⟨0, (fun b' o h => by cases h), PartsPost.bad (p := 0) (er := 0) hg.out (Fr.refl _ _)⟩
      | some a => exact ⟨a.block, (fun b' o h => by cases h; rfl), PartsPost.bad (p := 0) (er := 0) hg.out (Fr.refl _ _)⟩
  obtain ⟨b, o, rfl, _⟩ := hA.2 (by omega)
  refine Calls.mono (R := PartsPost xs b w) ?_ fun e w' h => ⟨b, (fun b' o h => by cases h; rfl), h⟩
  have hbl := hA.lt b o rfl (by omega)
  have hb' : ¬ (1048576 : Int) < (n : Int) := by omega
  have Hsm : Hid (¬ 1048576 < xs.length) := by show ¬ _; rw [← Hl.out]; exact hbig
  clear hbig
  go_enter Try.func141, Try.ntmps141
  go_wp2_with fail
  go_loopw [5, 6, 7] (fun u v i wr => ∃ (a last : Nat) (ps : List PT) (L : Option Addr) (k cl : Nat) (g : Option Nat), u = .slice L k cl ∧ v = .int .i64 (last : Int) ∧ i = .int .i64 (a : Int) ∧ a ≤ n ∧ k ≤ a ∧
    Hid (getS xs 0 0 = (ps.map (·.2.1) ++ (getS xs a last).1, (getS xs a last).2)) ∧ Ow wr 189 1 L k cl (ps.map fun x => ptr x.1) g ∧ (∀ b, g = some b → w.heap.size ≤ b) ∧ PartsIn wr xs b w.heap.size ps ∧ Fr (fun _ => False) w wr) (fun _ _ i _ => n - (intOf i).toNat)
  case atStart => exact ⟨0, 0, [], none, 0, 0, none, rfl, rfl, rfl, by omega, by omega, by show _ = _; simp, Ow.nil_ _ _ _, (fun b h => by cases h), ⟨(fun x h => by cases h), (fun x h => by cases h), List.Pairwise.nil⟩, Fr.refl _ _⟩
  case round =>
    obtain ⟨a, last, ps, L, k, cl, g, rfl, rfl, rfl, ha, hka, hG, hO, hg, hP, hf⟩ := hrel
    by_cases hlt : a < n
    · have hal : a < xs.length := by rw [← Hl.out]; exact hlt
      have hu := bn_get (xs := xs) (k := a) hal
      obtain ⟨b', o', e, cw⟩ := hA.at_ hu
      cases e
      have ca := (hf.cell hbl id).trans cw
      have hS := hA.below hf (fun _ _ => id)
      have hx : xs.getD a 0 < 256 := h256 _ (by rw [List.getD_eq_getElem?_getD, List.getElem?_eq_getElem hal]; exact List.getElem_mem hal)
      obtain ⟨x, hxx⟩ : ∃ x, xs.getD a 0 = x := ⟨_, rfl⟩
      have HX := hide hxx
      rw [hxx] at ca hx
      have w1 : IntKind.i64.wrap (x : Int) = (x : Int) := IntWalk.i64_in _ (by omega)
      have i0 : (0 : Int) ≤ (a : Int) := by omega
      have i1 : (a : Int) < (n : Int) := by omega
      clear hu cw hxx
      by_cases hlast : x ≤ last
      · have he := hide (getAll_bad Hsm.out ((hG.out.trans (by rw [getS_bad hal (stepG_order (by rw [HX.out]; exact hlast))])) : getS xs 0 0 = (_, a, 21)) (by omega))
        have hla : (x : Int) ≤ (last : Int) := by omega
        go_wp2_with fail
        go_ret3
        exact PartsPost.bad he.out (hf.alloc _)
      · have hla : (last : Int) < (x : Int) := by omega
        have Hlast : Hid (¬ xs.getD a 0 ≤ last) := by show ¬ _; rw [HX.out]; exact hlast
        clear hlast
        have hB := Bl.new wr 192 #[.int .i64 x, .int .i64 a, .int .i64 0, .slice none 0 0, .bool false]
        go_wp2_with fail
        refine (piece_at _ xs b o n c (a + 1) _ (by omega) hn hc hc2 Hl.out (by omega) h256 (hS.below ((Fr.refl (fun _ => False) _).alloc _) (fun _ _ => id))).mono ?_
        rintro e w' ⟨hp | hp, rfl⟩
        · obtain ⟨p, er, hp, rfl⟩ := hp
          have he0 := (pieceS_bad hp).1
          have he := hide (getAll_bad Hsm.out ((hG.out.trans (by rw [getS_bad hal (stepG_piece Hlast.out hp)])) : getS xs 0 0 = (_, p, er)) he0)
          clear hp
          go_wp2_with fail
          go_ret3
          exact PartsPost.bad he.out (hf.alloc _)
        · obtain ⟨f, t, o', hp, rfl, ho⟩ := hp
          by_cases hft : f = t
          · subst hft
            have he := hide (getAll_bad Hsm.out ((hG.out.trans (by rw [getS_bad hal (stepG_none Hlast.out hp)])) : getS xs 0 0 = (_, a + 1, 20)) (by omega))
            clear hp ho
            rw [Nat.sub_self]
            go_wp2_with fail
            go_ret3
            exact PartsPost.bad he.out (hf.alloc _)
          · obtain ⟨f1, f2, f3⟩ := pieceS_ok hp
            obtain rfl := ho (by omega)
            obtain ⟨m, rfl⟩ : ∃ m, t = f + m := ⟨t - f, by omega⟩
            have f4 : f + m ≤ n := by rw [Hl.out]; exact f3
            have w2 : IntKind.i64.wrap ((f : Int) + m - m) = f := by rw [show (f : Int) + m - m = f by omega]; exact IntWalk.i64_in _ (by omega)
            have hne : ¬ m = 0 := by omega
            have w3 : IntKind.i64.wrap (f : Int) = f := IntWalk.i64_in _ (by omega)
            rw [Nat.add_sub_cancel_left]
            have hB0 := Bl.new wr 192 #[.int .i64 x, .int .i64 a, .int .i64 f, .slice (some ⟨b, o + f, none⟩) m m, .bool false]
            go_wp2_with (first | (at_builtin; refine wpList_append_ow _ rfl _ _ 195 rfl 189 j0 (.pointer none) 1 8 Try.underlying195 hj hj0 hj1 hj2 rfl (by decide) _ _ _ _ _ rfl (hO.fr (((Fr.refl (fun _ => False) _).alloc _).alloc _) (fun _ _ => id)) _ _ _ [ptr wr.heap.size] rfl (Sl.oneAt (by simp)) (by intro u hu; simp at hu; subst hu; rfl) (by unfold maxLen; omega) (by omega) ?_) | go_in)
            intro L2 cl2 w2 g2 hO2 hf2 hg2
            have hbg : ∀ y, g = some y → ¬ wr.heap.size = y := fun y e e2 => by have := hO.lt y e; omega
            have hB2 := ((hB0.alloc (.cells #[.pointer (some ⟨wr.heap.size, 0, none⟩)] 189)).fr hf2 (fun e => by have := hO.lt _ e.symm; omega))
            have hc0 : w2.cell? ⟨wr.heap.size, 0, none⟩ = some (.int .i64 x) := hB2.cell' rfl
            have hfa : Fr (fun y => some y = g) wr w2 := (((Fr.refl _ _).alloc _).alloc _).comp hf2 (fun _ _ e => e)
            have hgb : ¬ some b = g := fun e => by have := hg b e.symm; omega
            have hpg : ∀ y ∈ ps, ¬ some y.1 = g := fun y hy e => by
              have h := (hP.at_ y hy).bl
              rw [← e] at hO
              exact hO.neBl h (by decide) rfl
            have hplt : ∀ y ∈ ps, y.1 < wr.heap.size := fun y hy => (hP.at_ y hy).bl.lt
            have hval : Sl wr 1 (some ⟨b, o + f, none⟩) m ((((xs.drop f).take (f + m - f))).map bn) := by
              have := hS.part (f := f) (t := f + m) (by omega) f4
              rw [← List.map_drop, ← List.map_take] at this
              rwa [Nat.add_sub_cancel_left] at this ⊢
            have hstep : Hid (stepG xs a last = .inl ⟨x, a, f, f + m⟩) := by show _ = _; rw [stepG_one Hlast.out hp (by omega), HX.out]
            have Hf3 := hide f3
            clear hp ho f3
            have Hpg := hide hpg
            clear hpg
            have hsz := hf.size
            have Hf := hide hfa
            clear hfa
            go_wp2_with fail
            refine ⟨⟨f + m, x, ps ++ [(wr.heap.size, ⟨x, a, f, f + m⟩, o + f)], L2, k + 1, cl2, g2, rfl, rfl, by simp, f4, by omega, ?_, by simpa [ptr] using hO2, ?_, ⟨?_, ?_, ?_⟩, ?_⟩, by simp [intOf]; omega⟩
            · show _ = _
              rw [hG.out, getS_one hal hstep.out (by show a < f + m; omega)]
              simp
            · intro y e
              rcases hg2 with h | ⟨b', h, hb'⟩
              · exact hg y (h ▸ e)
              · rw [h] at e; cases e; omega
            · intro y hy
              rcases List.mem_append.1 hy with hy | hy
              · exact (hP.at_ y hy).fr Hf.out (Hpg.out y hy) hgb
              · simp at hy; subst hy
                refine ⟨?_, ?_, by show f ≤ f + m; omega, Hf3.out⟩
                · show Bl w2 _ _ #[.int .i64 x, .int .i64 a, .int .i64 f, .slice (some ⟨b, o + f, none⟩) (f + m - f) (f + m - f), .bool false]
                  rw [Nat.add_sub_cancel_left]; exact hB2
                · show Sl w2 1 _ (f + m - f) _
                  rw [Nat.add_sub_cancel_left]
                  exact hval.fr (B := 0) Hf.out fun k ⟨o', e⟩ _ => by cases e; exact hgb
            · intro y hy
              rcases List.mem_append.1 hy with hy | hy
              · exact hP.new y hy
              · simp at hy; subst hy; exact hsz
            · rw [List.pairwise_append]
              refine ⟨hP.ord, by simp, fun y hy z hz => ?_⟩
              simp at hz; subst hz; exact hplt y hy
            · exact hf.comp Hf.out fun y hy e => by have := hg y e.symm; omega
    · obtain rfl : a = n := by omega
      have he := hide (getAll_ok Hsm.out ((hG.out.trans (by rw [getS_end (by rw [← Hl.out]; omega), List.append_nil])) : getS xs 0 0 = (_, 0, 0)))
      clear hlt
      go_wp2_with fail
      go_ret3
      exact ⟨ps, L, k, cl, g, by rw [he.out]; rfl, by rw [he.out], hO, hg, hP, hf, by omega⟩
end Go.Proofs.Ytlcjhbemgagchaa
end

section
/-
  The reference's Put.
-/
namespace Go.Proofs.Ytlcjhbemgagchaa
open Go.RowKit
set_option linter.unusedVariables false

theorem putAll_mono {fs : List (Int × List Nat)} (k : Nat) : (putAll (fs.take k)).length ≤ (putAll fs).length := by
  have e : putAll fs = putAll (fs.take k) ++ putAll (fs.drop k) := by
    unfold putAll; rw [← List.flatMap_append, List.take_append_drop]
  rw [e, List.length_append]; omega
/-- What holds of the tags and the values where the scan goes through. -/
theorem putScan_ok : ∀ {fs : List (Int × List Nat)} {L : Int}, putScan L fs = 0 → 0 ≤ L → ∀ (i : Nat) (hi : i < fs.length), 0 < fs[i].1 ∧ fs[i].1 ≤ 255
  | (t, v) :: r, L, h, hL, i, hi => by
    unfold putScan at h
    split at h
    · omega
    · split at h
      · omega
      · rcases i with _ | i
        · simp; omega
        · exact putScan_ok h (by omega) i (by simpa using hi)

set_option maxHeartbeats 2000000 in
set_option maxRecDepth 4000 in
theorem rput_any (w : World) (fs : List (Int × List Nat)) (A : Option Addr) (n c : Nat) (hn : n ≤ 140737488355328) (hA : FAt w 5 A n fs) (hM : (putAll fs).length ≤ 140000000000000) (hM2 : ∀ (i : Nat) (hi : i < fs.length), fs[i].2.length ≤ 100000000000000) :
    Calls Try.prog 79 #[.slice A n c] w (PutPost (putBytes fs) (putErr fs) w) := by
  obtain ⟨i0, hi, hz0, hz1, hz2⟩ := info_parts info5
  have Hl := hide hA.1
  have HA := hide hA
  clear hA
  go_enter Try.func79, Try.ntmps79
  go_wp2_with fail
  go_loop [4, 5] (fun l i => ∃ (k : Nat) (L : Int), k ≤ n ∧ i = .int .i64 k ∧ l = .int .i64 L ∧ 0 ≤ L ∧ Hid (putScan 0 fs = putScan L (fs.drop k))) (fun _ i => n - (intOf i).toNat)
  case atStart => exact ⟨0, 0, by omega, rfl, rfl, by omega, rfl⟩
  case round =>
    obtain ⟨k, L, hk, rfl, rfl, hL, hS⟩ := hrel
    by_cases hlt : k < n
    · have hkl : k < fs.length := by rw [← Hl.out]; exact hlt
      obtain ⟨b, o, rfl, hcc⟩ := HA.out.2 (by omega)
      obtain ⟨V, m, d, c0, c1, hV⟩ := hcc k hkl
      have hm : m ≤ 100000000000000 := by rw [hV.len]; exact hM2 k hkl
      have Hm := hide hV.len
      have hdrop : Hid (fs.drop k = fs[k] :: fs.drop (k + 1)) := List.drop_eq_getElem_cons hkl
      obtain ⟨T, hT⟩ : ∃ T, fs[k].1 = T := ⟨_, rfl⟩
      have HT := hide hT
      rw [hT] at c0
      clear hcc hT
      by_cases hbad : T ≤ L ∨ 255 < T
      · have he : Hid (putErr fs = 21) := by
          have e : putScan 0 fs = 21 := by rw [hS.out, hdrop.out, putScan, if_pos (by rw [HT.out]; exact hbad)]
          show _ = _
          rw [putErr, if_pos (by rw [e]; omega), e]
        clear hdrop
        rcases hbad with hb1 | hb1
        all_goals
          go_wp2_with fail
          all_goals (go_ret2; exact PutPost.err (er := 21) he.out (by omega) (Fr.refl _ _))
      · have hb1 : L < T := by omega
        have hb2 : T ≤ 255 := by omega
        have hb3 : ¬ T < 1 := by omega
        have Hbad := hide hbad
        clear hbad
        by_cases hm0 : m = 0
        · have he : Hid (putErr fs = 20) := by
            have e : putScan 0 fs = 20 := by rw [hS.out, hdrop.out, putScan, if_neg (by rw [HT.out]; exact Hbad.out), if_pos (by rw [← Hm.out]; exact hm0)]
            show _ = _
            rw [putErr, if_pos (by rw [e]; omega), e]
          have hm1 : m ≤ 0 := by omega
          clear hdrop hm0
          go_wp2_with fail
          all_goals (go_ret2; exact PutPost.err (er := 20) he.out (by omega) (Fr.refl _ _))
        · have hsc : Hid (putScan 0 fs = putScan T (fs.drop (k + 1))) := by
            show _ = _
            rw [hS.out, hdrop.out, putScan, if_neg (by rw [HT.out]; exact Hbad.out), if_neg (by rw [← Hm.out]; exact hm0), HT.out]
          have hm1 : 0 < m := by omega
          clear hm0 hdrop
          go_wp2_with fail
          exact ⟨⟨k + 1, T, by omega, by go_num, rfl, by omega, hsc⟩, by simp [intOf]; omega⟩
    · obtain rfl : k = n := by omega
      have hs0 : Hid (putScan 0 fs = 0) := by
        show _ = _
        rw [hS.out, List.drop_eq_nil_of_le (by rw [← Hl.out]; exact Nat.le_refl _)]; rfl
      clear hS hL hk hlt
      go_wp2_with fail
      go_loopw [6, 7] (fun v i wr => ∃ (j : Nat) (B : Option Addr) (nb cb : Nat) (g : Option Nat), j ≤ k ∧ i = .int .i64 j ∧ v = .slice B nb cb ∧ nb ≤ 140000000000000 ∧
        Ow wr 5 1 B nb cb ((putAll (fs.take j)).map bn) g ∧ (∀ b, g = some b → w.heap.size ≤ b) ∧ Fr (fun _ => False) w wr) (fun _ i _ => k - (intOf i).toNat)
      case atStart => exact ⟨0, none, 0, 0, none, by omega, rfl, rfl, by omega, Ow.nil_ _ _ _, (fun b h => by cases h), Fr.refl _ _⟩
      case round =>
        obtain ⟨j, B, nb, cb, g, hj, rfl, rfl, hnb, hO, hg, hf⟩ := hrel
        by_cases hlt : j < k
        · have hkl : j < fs.length := by rw [← Hl.out]; exact hlt
          obtain ⟨b, o, rfl, hcc⟩ := HA.out.2 (by omega)
          obtain ⟨V, m, d, c0w, c1w, hVw⟩ := hcc j hkl
          have hbw : b < w.heap.size := World.block_lt_of_cell? w _ c0w
          have c0 := (hf.cell (World.block_lt_of_cell? w _ c0w) id).trans c0w
          have c1 := (hf.cell (World.block_lt_of_cell? w _ c1w) id).trans c1w
          have hV := hVw.below hf (fun _ _ => id)
          have hgb : ∀ k, some k = g → k = b → False := fun k e1 e2 => by have := hg k e1.symm; omega
          clear c0w c1w hVw
          have hm : m ≤ 100000000000000 := by rw [hV.len]; exact hM2 j hkl
          obtain ⟨hT1, hT2⟩ := putScan_ok hs0.out (by omega) j hkl
          obtain ⟨t, hT⟩ : ∃ t : Nat, fs[j].1 = (t : Int) := ⟨fs[j].1.toNat, by omega⟩
          have ht : t < 256 := by omega
          have HT := hide hT
          rw [hT] at c0
          clear hcc hT hT1 hT2
          have hall : nb + (1 + (short m).length + m) ≤ 140000000000000 := by
            have e1 := hO.len
            have e2 := @putAll_mono fs (j + 1)
            rw [putAll_take hkl, List.length_append, formF_len, ← hV.len] at e2
            omega
          have i1 : (0 : Int) ≤ (j : Int) := by omega
          have i2 : (j : Int) < (k : Int) := by omega
          go_wp2_with fail
          go_region_held3 (fun w' => w'.cell? ⟨b, o + j * 5, none⟩ = some (.int .i64 (t : Int)) ∧ w'.cell? ⟨b, o + j * 5 + 1, none⟩ = some (.slice V m d)) (go_keep)
            (first
              | (go_at_call 116; refine (form_any _ fs[j].2 V m d t ht (by omega) (by exact hV)).mono ?_; rintro e w2 ⟨B2, cb2, g2, rfl, hO2, hg2, hf2⟩; have kc0 := (hf2.cell (World.block_lt_of_cell? wr _ c0) id).trans c0; have kc1 := (hf2.cell (World.block_lt_of_cell? wr _ c1) id).trans c1)
              | (refine step_append_ow _ (by rfl) _ _ 22 (by rfl) 5 i0 (.int .u8 0) 1 1 Try.underlying22 hi hz0 hz1 hz2 rfl (by decide) _ _ _ _ _ (by rfl) (hO.fr (Fr.trans (by exact (Fr.refl _ _).drew) hf2) (fun _ _ => id)) _ _ _ _ (by rfl) hO2.sl (bn_one _) (by unfold maxLen; omega) (by omega) ?_; intro B3 cb3 w3 g3 hO3 hf3 hg3; have kd0 := (hf3.cell (World.block_lt_of_cell? w2 _ kc0) (fun e => hgb _ e rfl)).trans kc0; have kd1 := (hf3.cell (World.block_lt_of_cell? w2 _ kc1) (fun e => hgb _ e rfl)).trans kc1))
          go_wp2_with fail
          have hft : Fr (fun _ => False) w w2 := hf.drew.trans hf2
          refine ⟨⟨j + 1, B3, _, cb3, g3, by omega, by go_num, rfl, hall, ?_, ?_, ?_⟩, by simp [intOf]; omega⟩
          · rw [putAll_take hkl, List.map_append]
            rw [show fs[j].1.toNat = t by rw [HT.out]; rfl]
            exact hO3
          · intro b' hb
            have := hft.size
            rcases hg3 with h | ⟨b2, h, hb2⟩
            · exact hg b' (h ▸ hb)
            · rw [h] at hb; cases hb; omega
          · exact hft.comp hf3 fun i hi e => by have := hg i e.symm; omega
        · obtain rfl : j = k := by omega
          have hall : putAll (fs.take j) = putAll fs := by rw [List.take_of_length_le (by rw [← Hl.out]; exact Nat.le_refl _)]
          rw [hall] at hO
          have hlen := hO.len
          by_cases hbig : nb ≤ 1048576
          · have e1 : putErr fs = 0 := by rw [putErr, if_neg (by rw [hs0.out]; omega), if_neg (by omega)]
            have he : Hid (putErr fs = 0 ∧ putBytes fs = putAll fs) := ⟨e1, by rw [putBytes, if_pos e1]⟩
            clear e1 hall hlen
            go_wp2_with fail
            go_ret2
            exact ⟨B, nb, cb, g, by rw [he.out.1]; rfl, by rw [he.out.2]; exact hO, hg, hf⟩
          · have he : Hid (putErr fs = 3) := by
              show _ = _
              rw [putErr, if_neg (by rw [hs0.out]; omega), if_pos (by omega)]
            have hbig' : 1048576 < nb := by omega
            clear hall hlen
            go_wp2_with fail
            go_ret2
            exact PutPost.err (er := 3) he.out (by omega) hf
end Go.Proofs.Ytlcjhbemgagchaa
end

section
/-
  TlvNumbers: the walk.
-/
namespace Go.Proofs.Ytlcjhbemgagchaa
open Go.RowKit
set_option linter.unusedVariables false

theorem Lent.sl {w : World} {A : Option Addr} {n c : Nat} {xs : List Nat} {g : Nat} (h : Lent w A n c xs g) (hl : n = xs.length) : Sl w 1 A n (xs.map bn) := by
  have := (Ow.take h (k := n) (by omega)).sl
  rwa [Nat.mul_one, List.map_append, List.take_left' (by simp [hl])] at this

end Go.Proofs.Ytlcjhbemgagchaa
end

section
/-
  TlvPuts: the first loop's words.
-/
namespace Go.Proofs.Ytlcjhbemgagchaa
open Go.RowKit
set_option linter.unusedVariables false

/-- Cells of equal rows, one behind the other. -/
theorem rows_get {α : Type} (f : α → List Value) (s : Nat) (hs : ∀ x, (f x).length = s) : ∀ (l : List α) (i j : Nat) (hi : i < l.length), j < s → (l.flatMap f)[i * s + j]? = (f l[i])[j]?
  | x :: l, 0, j, hi, hj => by
    rw [List.flatMap_cons, List.getElem?_append_left (by rw [hs]; omega)]; simp
  | x :: l, i + 1, j, hi, hj => by
    rw [List.flatMap_cons, List.getElem?_append_right (by rw [hs, Nat.add_mul]; omega), hs, show (i + 1) * s + j - s = i * s + j by rw [Nat.add_mul]; omega]
    rw [rows_get f s hs l i j (by simpa using hi) hj]; simp
theorem rows_len {α : Type} (f : α → List Value) (s : Nat) (hs : ∀ x, (f x).length = s) : ∀ (l : List α), (l.flatMap f).length = l.length * s
  | [] => by simp
  | x :: l => by rw [List.flatMap_cons, List.length_append, hs, rows_len f s hs l, List.length_cons, Nat.add_mul]; omega
theorem Ow.ne {w : World} {e e' : TypeId} {s s' n n' c c' : Nat} {A A' : Option Addr} {xs xs' : List Value} {g g' : Nat} (h : Ow w e s A n c xs (some g)) (h' : Ow w e' s' A' n' c' xs' (some g')) (hne : e ≠ e') : g ≠ g' := by
  rintro rfl
  rcases h.2 with ⟨_, _, _, h0⟩ | ⟨b, o, cur, _, h1, h2, _⟩
  · cases h0
  · rcases h'.2 with ⟨_, _, _, h0⟩ | ⟨b', o', cur', _, h1', h2', _⟩
    · cases h0
    · cases h1; cases h1'
      rw [h2] at h2'; injection h2' with h3; injection h3 with _ h4
      exact hne h4

theorem Sl.fr' {w w' : World} {S : Nat → Prop} (hf : Fr S w w') {n : Nat} {A : Option Addr} {xs : List Value} (hS : Sl w 1 A n xs) (hap : ∀ b o, A = some ⟨b, o, none⟩ → 0 < n → ¬ S b) : Sl w' 1 A n xs :=
  ⟨hS.1, fun hn => (hS.fr (B := 0) hf fun b ⟨o, e⟩ _ => hap b o e hn).2 hn⟩

/-- One field of the law's list: its tag, its bytes, the slice that came in, the lent one. -/
structure PR where
  T : Int
  xs : List Nat
  V : Option Addr
  m : Nat
  d : Nat
  A : Option Addr
  c : Nat
  g : Nat
def PR.inCells (r : PR) : List Value := [.int .i64 r.T, .slice r.A r.m r.c]
def PR.wantCells (r : PR) : List Value := [.int .i64 r.T, .slice r.V r.m r.d, .int .i64 0, .int .i64 0, .bool false]
theorem PR.inCells_len (r : PR) : r.inCells.length = 2 := rfl
theorem PR.wantCells_len (r : PR) : r.wantCells.length = 5 := rfl
/-- The lists so far. -/
structure PRs (w0 w : World) (rs : List PR) (fs : List (Int × List Nat)) : Prop where
  eq : rs.map (fun r => (r.T, r.xs)) = fs
  val : ∀ r ∈ rs, r.m = r.xs.length ∧ Sl w 1 r.V r.m (r.xs.map bn)
  lent : ∀ r ∈ rs, Lent w r.A r.m r.c r.xs r.g ∧ w0.heap.size ≤ r.g
  ord : rs.Pairwise fun a b => a.g < b.g
theorem PRs.len {w0 w : World} {rs : List PR} {fs : List (Int × List Nat)} (h : PRs w0 w rs fs) : rs.length = fs.length := by rw [← h.eq, List.length_map]
theorem PRs.step {w0 w w' : World} {rs : List PR} {fs : List (Int × List Nat)} {S : Nat → Prop} (h : PRs w0 w rs fs) (hf : Fr S w w') (hS : ∀ k, k < w.heap.size → S k → ∀ r ∈ rs, k ≠ r.g) (hV : ∀ r ∈ rs, Sl w 1 r.V r.m (r.xs.map bn) → Sl w' 1 r.V r.m (r.xs.map bn)) : PRs w0 w' rs fs :=
  ⟨h.eq, fun r hr => ⟨(h.val r hr).1, hV r hr (h.val r hr).2⟩, fun r hr => ⟨Ow.fr (h.lent r hr).1 hf fun b e hs => by
    cases e
    exact hS _ ((h.lent r hr).1.lt _ rfl) hs r hr rfl, (h.lent r hr).2⟩, h.ord⟩
theorem PRs.quiet {w0 w w' : World} {rs : List PR} {fs : List (Int × List Nat)} (h : PRs w0 w rs fs) (hf : Fr (fun _ => False) w w') : PRs w0 w' rs fs :=
  h.step hf (fun _ _ e => e.elim) fun r hr hv => hv.below hf (fun _ _ => id)
theorem PRs.fat {w0 w : World} {rs : List PR} {fs : List (Int × List Nat)} (h : PRs w0 w rs fs) {A : Option Addr} {n c : Nat} {e : TypeId} {g : Option Nat} {more : List Value} {N : Nat} (hn : n = rs.length) (hO : Ow w e 2 A N c (rs.flatMap PR.inCells ++ more) g) : FAt w 2 A n fs := by
  have hl := h.len
  refine ⟨by omega, fun h0 => ?_⟩
  have hx : ∀ i (hi : i < rs.length) j, j < 2 → (rs.flatMap PR.inCells ++ more)[i * 2 + j]? = (PR.inCells rs[i])[j]? := fun i hi j hj => by
    rw [List.getElem?_append_left (by rw [rows_len PR.inCells 2 PR.inCells_len]; omega), rows_get PR.inCells 2 PR.inCells_len rs i j hi hj]
  obtain ⟨b, o, hA, _, _⟩ := hO.look (hx 0 (by omega) 0 (by omega))
  refine ⟨b, o, hA, fun i hi => ?_⟩
  have hi' : i < rs.length := by omega
  have hr : rs[i] ∈ rs := List.getElem_mem hi'
  obtain ⟨b0, o0, hA0, _, k0, _⟩ := hO.look (hx i hi' 0 (by omega))
  obtain ⟨b1, o1, hA1, _, k1, _⟩ := hO.look (hx i hi' 1 (by omega))
  rw [hA] at hA0 hA1; cases hA0; cases hA1
  have he : fs[i] = (rs[i].T, rs[i].xs) := by
    have : (rs.map fun r => (r.T, r.xs))[i]'(by simpa using hi') = (rs[i].T, rs[i].xs) := by simp
    rw [← this]; congr 1; exact h.eq.symm
  refine ⟨rs[i].A, rs[i].m, rs[i].c, ?_, ?_, ?_⟩
  · rw [he]; simpa using k0
  · rw [← Nat.add_assoc] at k1; exact k1
  · rw [he]; exact (h.lent _ hr).1.sl (h.val _ hr).1
theorem PRs.fatw {w0 w : World} {rs : List PR} {fs : List (Int × List Nat)} (h : PRs w0 w rs fs) {A : Option Addr} {n c : Nat} {e : TypeId} {g : Option Nat} (hO : Ow w e 5 A n c (rs.flatMap PR.wantCells) g) : FAt w 5 A n fs := by
  have hl := h.len
  have hn : n = rs.length := by
    have := hO.1; rw [rows_len PR.wantCells 5 PR.wantCells_len] at this; omega
  refine ⟨by omega, fun h0 => ?_⟩
  have hx : ∀ i (hi : i < rs.length) j, j < 5 → (rs.flatMap PR.wantCells)[i * 5 + j]? = (PR.wantCells rs[i])[j]? := fun i hi j hj => rows_get PR.wantCells 5 PR.wantCells_len rs i j hi hj
  obtain ⟨b, o, hA, _, _⟩ := hO.look (hx 0 (by omega) 0 (by omega))
  refine ⟨b, o, hA, fun i hi => ?_⟩
  have hi' : i < rs.length := by omega
  have hr : rs[i] ∈ rs := List.getElem_mem hi'
  obtain ⟨b0, o0, hA0, _, k0, _⟩ := hO.look (hx i hi' 0 (by omega))
  obtain ⟨b1, o1, hA1, _, k1, _⟩ := hO.look (hx i hi' 1 (by omega))
  rw [hA] at hA0 hA1; cases hA0; cases hA1
  have he : fs[i] = (rs[i].T, rs[i].xs) := by
    have : (rs.map fun r => (r.T, r.xs))[i]'(by simpa using hi') = (rs[i].T, rs[i].xs) := by simp
    rw [← this]; congr 1; exact h.eq.symm
  refine ⟨rs[i].V, rs[i].m, rs[i].d, ?_, ?_, ?_⟩
  · rw [he]; simpa using k0
  · rw [← Nat.add_assoc] at k1; exact k1
  · rw [he]; exact (h.val _ hr).2
end Go.Proofs.Ytlcjhbemgagchaa
end

section
/-
  same and kept again, the world told: at most draws.
-/
namespace Go.Proofs.Ytlcjhbemgagchaa
open Go.RowKit
set_option linter.unusedVariables false
theorem fr_of_drewN {w w' : World} (h : ∃ m, w' = w.drewN m) : Fr (fun _ => False) w w' := by obtain ⟨m, rfl⟩ := h; exact (Fr.refl _ _).drewN _

theorem quiet_ex {P : Program} {f : FuncId} {args : Array Value} {w : World} {n : Nat} {v : Value}
    (h : Calls P f args (w.drewN n) fun e w' => e = .returned v ∧ ∃ m, w' = (w.drewN n).drewN m) : Calls P f args (w.drewN n) fun e w'' => e = .returned v ∧ ∃ m, w'' = w.drewN m := Calls.quiet_of h

end Go.Proofs.Ytlcjhbemgagchaa
end

section
/-
  TlvPuts: the walk.
-/
namespace Go.Proofs.Ytlcjhbemgagchaa
open Go.RowKit
set_option linter.unusedVariables false
attribute [local go_sem ↓] Go.wp_at_zero Go.wp_at_succ

theorem info42 : (Try.prog.info? 173).map (fun i => (i.zero, i.size, i.bytes)) = some (some (.agg #[.int .i64 0, .slice none 0 0, .int .i64 0, .int .i64 0, .bool false]), 5, 56) := by kernel_rfl

theorem Sl.row (w : World) (cs : Array Value) (t : TypeId) (s n : Nat) (h : cs.size = n * s) : Sl (w.alloc (.cells cs t)) s (some ⟨w.heap.size, 0, none⟩) n cs.toList :=
  ⟨by simpa using h, fun _ => ⟨w.heap.size, 0, rfl, fun j u hu => by
    have h := (Bl.new w t cs).cell j
    simp only [Nat.zero_add]
    rw [h]; simpa using hu⟩⟩

theorem Lent.ow {w : World} {A : Option Addr} {n c : Nat} {xs : List Nat} {g : Nat} (h : Lent w A n c xs g) (hl : n = xs.length) : Ow w 5 1 A n c (xs.map bn) (some g) := by
  have := Ow.take h (k := n) (by omega)
  rwa [Nat.mul_one, List.map_append, List.take_left' (by simp [hl])] at this

end Go.Proofs.Ytlcjhbemgagchaa
end

section
/-
  tlv.Get.
-/
namespace Go.Proofs.Ytlcjhbemgagchaa
open Go.RowKit
set_option linter.unusedVariables false
attribute [local go_sem ↓] Go.wp_at_zero Go.wp_at_succ

/-- A field that was got: where it stands, its bytes in memory of their own. -/
structure FO where
  F : GF
  A : Option Addr
  n : Nat
  c : Nat
  g : Option Nat
def FO.tCells (r : FO) : List Value := [.int .i64 r.F.tag, .slice r.A r.n r.c]
def FO.rCells (r : FO) : List Value := [.int .i64 r.F.tag, .slice r.A r.n r.c, .int .i64 r.F.at_, .int .i64 r.F.from_, .bool false]
theorem FO.tCells_len (r : FO) : r.tCells.length = 2 := rfl
theorem FO.rCells_len (r : FO) : r.rCells.length = 5 := rfl
/-- The fields' bytes: each in memory of its own, behind block B. -/
structure FOs (w : World) (bs : List Nat) (B : Nat) (rs : List FO) : Prop where
  own : ∀ r ∈ rs, Ow w 5 1 r.A r.n r.c ((r.F.val bs).map bn) r.g
  new : ∀ r ∈ rs, ∀ b, r.g = some b → B ≤ b
  ord : rs.Pairwise fun a b => ∀ x y, a.g = some x → b.g = some y → x < y
theorem FOs.fr {w w' : World} {bs : List Nat} {B : Nat} {rs : List FO} {S : Nat → Prop} (h : FOs w bs B rs) (hf : Fr S w w') (hS : ∀ k, B ≤ k → k < w.heap.size → ¬ S k) : FOs w' bs B rs :=
  ⟨fun r hr => (h.own r hr).fr hf fun b e => hS b (h.new r hr b e) ((h.own r hr).lt b e), h.new, h.ord⟩
theorem FOs.more {w : World} {bs : List Nat} {B B' : Nat} {rs : List FO} (h : FOs w bs B rs) (hB : B' ≤ B) : FOs w bs B' rs := ⟨h.own, fun r hr b e => Nat.le_trans hB (h.new r hr b e), h.ord⟩
theorem FOs.quiet {w w' : World} {bs : List Nat} {B : Nat} {rs : List FO} (h : FOs w bs B rs) (hf : Fr (fun _ => False) w w') : FOs w' bs B rs := h.fr hf fun _ _ _ => id
theorem FOs.nil_ (w : World) (bs : List Nat) (B : Nat) : FOs w bs B [] := ⟨(fun r h => by cases h), (fun r h => by cases h), List.Pairwise.nil⟩
/-- One more, in a world where only block g (of another type) has turned. -/
theorem FOs.add {w w' : World} {bs : List Nat} {B : Nat} {rs : List FO} {S : Nat → Prop} (h : FOs w bs B rs) (hf : Fr S w w') (hS : ∀ r ∈ rs, ∀ k, r.g = some k → ¬ S k) {r : FO} (ho : Ow w' 5 1 r.A r.n r.c ((r.F.val bs).map bn) r.g) (hn : ∀ b, r.g = some b → w.heap.size ≤ b) (hB : B ≤ w.heap.size) : FOs w' bs B (rs ++ [r]) := by
  refine ⟨fun x hx => ?_, fun x hx b e => ?_, ?_⟩
  · rcases List.mem_append.1 hx with hx | hx
    · exact (h.own x hx).fr hf fun k e => hS x hx k e
    · simp at hx; subst hx; exact ho
  · rcases List.mem_append.1 hx with hx | hx
    · exact h.new x hx b e
    · simp at hx; subst hx; exact Nat.le_trans hB (hn b e)
  · rw [List.pairwise_append]
    refine ⟨h.ord, by simp, fun x hx y hy a b ha hb => ?_⟩
    simp at hy; subst hy
    have := (h.own x hx).lt a ha
    have := hn b hb
    omega
def GetPost (f : FO → List Value) (e0 : TypeId) (size : Nat) (bs : List Nat) (w : World) (e : Ending) (w' : World) : Prop :=
  ∃ (rs : List FO) (A : Option Addr) (k c : Nat) (g : Option Nat), e = .returned (.tuple #[.slice A k c, .int .i64 ((getAll bs).2.1 : Int), .int .i64 (getAll bs).2.2]) ∧ k = rs.length ∧ rs.map (·.F) = (getAll bs).1 ∧
    Ow w' e0 size A k c (rs.flatMap f) g ∧ (∀ b, g = some b → w.heap.size ≤ b) ∧ FOs w' bs w.heap.size rs ∧ Fr (fun _ => False) w w'

end Go.Proofs.Ytlcjhbemgagchaa
end
