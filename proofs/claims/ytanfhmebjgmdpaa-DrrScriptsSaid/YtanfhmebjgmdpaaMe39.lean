/-
  Texts merged into one, to keep the claim small: DxK, DxL.
-/
import Derived.Test.YtanfhmebjgmdpaaMe38
section
/-
  DrrScripts: what Drop answers, both ways.
-/
namespace Go.Proofs.Ytanfhmebjgmdpaa.Qi
open Go.RowKit Go.Shelf
set_option linter.unusedVariables false
set_option linter.unusedSimpArgs false
attribute [local go_sem] Oper.semAt_some
/-- The server behind Drop: no new block of its own. -/
def DDn (w : World) (d L : Nat) (D : Int) (s : DS (Int × Int)) (M : List (List (Int × Int) × Int)) (w' : World) : Prop :=
  ∃ s', DrrAt w' d L D s' ∧ s'.busy = false ∧ s'.quantum = s.quantum ∧ s'.room = s.room ∧ s'.lines.map con = M ∧ (∀ x, drfoot d L s' x → drfoot d L s x) ∧ Fr (drfoot d L s) w w'
def DrP (w : World) (d L : Nat) (D : Int) (s : DS (Int × Int)) (M : List (List (Int × Int) × Int)) (zs : List Int) (c' : Int) (e : Ending) (w' : World) : Prop :=
  ∃ A c g', e = .returned (.tuple #[.slice A zs.length c, .int .i64 c']) ∧ Ow w' 3 1 A zs.length c (zs.map giv) g' ∧ (∀ b, g' = some b → w.heap.size ≤ b) ∧ DDn w d L D s M w'
def MrP (w : World) (q : Nat) (b : DB) (r : DR) (M : List (List (Int × Int) × Int)) (zs : List Int) (c' : Int) (e : Ending) (w' : World) : Prop :=
  ∃ B c, e = .returned (.tuple #[.slice B zs.length c, .int .i64 c']) ∧ Sl w' 1 B zs.length (zs.map giv) ∧ MUp w q b r M w'
section
variable {w w' : World} {d L : Nat} {D : Int} {s : DS (Int × Int)} {q : Nat} {b : DB} {r : DR}
set_option maxHeartbeats 1000000 in
theorem drops_any (w0 : World) (h0 : DrrAt w0 d L D s) (hb : s.busy = false) (ha : r.at_ = -1) (hk : Like s r) (qu : Int) :
    ∃ (e : Int) (zs : List Int) (M : List (List (Int × Int) × Int)), zs.length ≤ 65536 ∧
      (∀ w, DrrAt w d L D s → Calls Try.prog 17 #[.pointer (some ⟨d, 0, none⟩), .int .i64 qu] w (DrP w d L D s M zs e)) ∧
      (∀ w, DAt w q b r → Calls Try.prog 42 #[.pointer (some ⟨q, 0, none⟩), .int .i64 qu] w (MrP w q b r M zs e)) := by
  have hlen := hk.len
  have hoe : openN s qu = openD r qu := by
    unfold openN openD
    rw [hb, if_neg (show ¬ (0 ≤ r.at_) by omega), hlen]; rfl
  by_cases ho : openN s qu = 0
  · have hi : 0 ≤ qu ∧ qu < (s.lines.length : Int) := by
      unfold openN at ho
      rw [hb] at ho
      by_cases c : qu < 0 ∨ (s.lines.length : Int) ≤ qu
      · rw [if_pos c] at ho; simp at ho
      · omega
    obtain ⟨j, l, rfl, hl, -⟩ := line_of hi
    obtain ⟨m, hm, hmt, hmd⟩ := hk.get hl
    have hj : j < s.lines.length := (List.getElem?_eq_some_iff.1 hl).1
    have hln : l.things.length ≤ 65536 := by
      have := (h0.ring l (List.mem_of_getElem? hl)).bounds
      omega
    refine ⟨0, l.things.map (·.1), (s.lines.map con).set j ([], 0), by simpa using hln, fun w h => (Drop_ok w h hb j l hl).mono ?_, fun w h => (rDrop_ok w h j m hm (by omega)).mono ?_⟩
    · rintro e' w' ⟨A, c, g', rfl, h1, h2, h3, h4⟩
      refine ⟨A, c, g', by rw [List.length_map], ?_, h2, _, h3, hb, rfl, rfl, ?_, fun y hy => ?_, h4⟩
      · rw [List.length_map, List.map_map]; exact h1
      · show (s.lines.set j _).map con = _
        rw [List.map_set]; rfl
      · have := drfoot_put (n := y + 1) (l' := { l with things := [], df := 0 }) hl rfl (.inl rfl) hy
        exact this.elim id fun h => by omega
    · rintro e' w' ⟨rfl, h1, h2⟩
      have hmm := List.mem_of_getElem? hm
      refine ⟨m.tA, m.tc, by rw [List.length_map, hmt], ?_, _, h1, ha, rfl, rfl, ?_, fun y hy => .inl ?_, h2.mono fun y _ e => .inr (e.elim .inl fun e => .inr (e.elim .inl fun e => .inr (.inl e)))⟩
      · have := ((h.lt m hmm).fr h2 (fun x hx e => e.elim (fun e => h.tl hmm e (.inl hx)) fun e => e.elim (fun e => h.cl hmm e (.inl hx)) fun e => h.dl m hmm x e (.inl hx))).sl
        rw [List.length_map, List.map_map, ← hmt]; exact this
      · show (r.lines.set j DQ.none_).map conD = _
        rw [List.map_set, hk.lines]; rfl
      · rcases hy with e | e | e | e | ⟨m', hm', e⟩
        · exact .inl e
        · exact .inr (.inl e)
        · exact .inr (.inr (.inl e))
        · exact .inr (.inr (.inr (.inl e)))
        · rcases List.mem_or_eq_of_mem_set hm' with hm' | rfl
          · exact .inr (.inr (.inr (.inr ⟨m', hm', e⟩)))
          · exact e.elim (fun e => by cases e) fun e => by cases e
  · refine ⟨openN s qu, [], s.lines.map con, by simp, fun w h => (Drop_no w h qu ho).mono ?_, fun w h => ?_⟩
    · rintro e' w' ⟨rfl, hf⟩; exact ⟨none, 0, none, rfl, Ow.nil_ _ _ _, (fun _ e => by cases e), s, h.quiet hf, hb, rfl, rfl, rfl, fun _ h => h, hf.weak _⟩
    · rw [hoe]
      refine (rDrop_no w h qu (by rw [← hoe]; exact ho)).mono ?_
      rintro e' w' ⟨rfl, rfl⟩; exact ⟨none, 0, rfl, (Ow.nil_ w 3 1).sl, MUp.still h ha hk (Fr.refl _ _)⟩
end
end Go.Proofs.Ytanfhmebjgmdpaa.Qi
end

section
/-
  DrrScripts: does: Drop, and what came out written over.
-/
namespace Go.Proofs.Ytanfhmebjgmdpaa.Qi
open Go.RowKit Go.Shelf
set_option linter.unusedVariables false
set_option linter.unusedSimpArgs false
attribute [local go_sem] Oper.semAt_some
section
variable {w w1 w2 w4 w5 : World} {d L : Nat} {D : Int} {s : DS (Int × Int)} {q : Nat} {b : DB} {rd : DR} {M : List (List (Int × Int) × Int)} {S : Nat → Prop}
theorem DDn.fr_ (h : DDn w d L D s M w1) : Fr (drfoot d L s) w w1 := by obtain ⟨_, _, _, _, _, _, _, h⟩ := h; exact h
theorem DoesOut.dropped (hd : DrrAt w d L D s) (hm : DAt w q b rd) (hk : Like s rd) (hap : ∀ x, drfoot d L s x → ¬ dfoot q b rd x) (hD : 0 ≤ D) (hD2 : D + 4096 ≤ 4611686018427387904)
    (hf0 : Fr (fun _ => False) w w1) (h1 : DDn w1 d L D s M w2) (h2 : MUp w2 q b rd M w4) (hS : ∀ x, S x → w1.heap.size ≤ x ∧ x < w2.heap.size) (hf4 : Fr S w4 w5) : DoesOut w d L D s q b rd w5 := by
  obtain ⟨s', a1, a2, a3, a4, a5, a6, a7⟩ := h1
  obtain ⟨r', b1, b2, b3, b4, b5, b6, b7⟩ := h2
  have z1 := hf0.size
  have z2 := a7.size
  have hap' : ∀ x, drfoot d L s' x → ¬ dfoot q b rd x := fun x hx e => hap x (a6 x hx) e
  have hs1 : ∀ x, drfoot d L s' x → ¬ S x := fun x hx e => by have := hS x e; have := hd.lt (a6 x hx); omega
  have hs2 : ∀ x, dfoot q b r' x → ¬ S x := fun x hx e => by
    have := hS x e
    rcases b6 x hx with h | h
    · have := hm.lt_ h; omega
    · omega
  have hall : Fr (fun x => drfoot d L s x ∨ dfoot q b rd x ∨ S x) w w5 := (((hf0.weak _).trans (a7.mono fun x _ e => .inl e)).trans (b7.mono fun x _ e => .inr (.inl e))).trans (hf4.mono fun x _ e => .inr (.inr e))
  refine ⟨s', r', ((a1.fr b7 hap').fr hf4 hs1).up (by omega) (by omega), a2, b1.fr hf4 hs2, b2, ⟨by rw [a3, b3]; exact hk.quantum, by rw [a4, b4]; exact hk.room, by rw [a5, b5]⟩,
    fun x hx => .inl (a6 x hx), fun x hx => (b6 x hx).imp id fun h => by omega, fun x hx e => (b6 x e).elim (hap' x hx) fun h => ?_, hall.mono fun x hx e => e.elim .inl fun e => e.elim .inr fun e => ?_⟩
  · have := hd.lt (a6 x hx); omega
  · have := hS x e; omega
set_option maxHeartbeats 4000000 in
set_option maxRecDepth 100000 in
theorem does_drop (hd : DrrAt w d L D s) (hb : s.busy = false) (hm : DAt w q b rd) (ha : rd.at_ = -1) (hk : Like s rd) (hap : ∀ x, drfoot d L s x → ¬ dfoot q b rd x) (hD : 0 ≤ D) (hD2 : D + 4096 ≤ 4611686018427387904) (wh qu co x mo : Int) :
    Calls Try.prog 20 #[.pointer (some ⟨d, 0, none⟩), .pointer (some ⟨q, 0, none⟩), .agg #[.int .i64 2, .int .i64 wh, .int .i64 qu, .int .i64 co, .int .i64 x, .int .i64 mo]] w fun e w' => e = .returned (.bool true) ∧ DoesOut w d L D s q b rd w' := by
  obtain ⟨e1, zs, M, hn, hA, hB⟩ := drops_any (q := q) (b := b) w hd hb ha hk qu
  obtain ⟨n, hlen⟩ : ∃ n, zs.length = n := ⟨_, rfl⟩
  have hn6 : n ≤ 65536 := by rw [← hlen]; exact hn
  have Hlen := hide hlen
  have HA := hide hA
  have HB := hide hB
  have Hd := hide hd
  have Hm := hide hm
  have Hk := hide hk
  have Hap := hide hap
  have hob := Bl.new w 35 #[.int .i64 2, .int .i64 wh, .int .i64 qu, .int .i64 co, .int .i64 x, .int .i64 mo]
  have hfA := (Fr.refl (fun _ => False) w).alloc (.cells #[.int .i64 2, .int .i64 wh, .int .i64 qu, .int .i64 co, .int .i64 x, .int .i64 mo] 35)
  clear hA hB hd hm hk hap hb ha hlen hn
  go_enter Try.func20, Try.ntmps20
  go_wp2_with fail
  generalize hw0 : w.alloc (.cells #[.int .i64 2, .int .i64 wh, .int .i64 qu, .int .i64 co, .int .i64 x, .int .i64 mo] 35) = wA at hob hfA ⊢
  clear hw0
  refine (HA.out wA (Hd.out.quiet hfA)).mono ?_
  rintro e w2 ⟨A, c, g', rfl, hO, hg, hU⟩
  rw [Hlen.out] at hO ⊢
  have hob2 := hob.fr hU.fr_ (fun e => absurd (Hd.out.lt e) (Nat.lt_irrefl _))
  have c2 : w2.cell? ⟨w.heap.size, 2, none⟩ = some (.int .i64 qu) := hob2.cell' rfl
  have hB2 := HB.out w2 ((Hm.out.quiet hfA).fr hU.fr_ (fun y hy e => Hap.out y e hy))
  have HO := hide (And.intro hO (And.intro hg hU))
  clear hO hg hU
  go_wp2_with fail
  refine hB2.mono ?_
  rintro e w4 ⟨B, c', rfl, hS, hV⟩
  rw [Hlen.out] at hS ⊢
  have hzA := hfA.size
  have hO4 := HO.out.1.fr hV.fr_ (fun y hy e => by have := HO.out.2.1 y hy; have := Hm.out.lt_ e; omega)
  have hsm := same_int w4 zs A B c c' n Hlen.out.symm (by omega) hO4.sl hS
  have HV := hide hV
  have HO4 := hide hO4
  have bb1 : (e1 == e1) = true := by simp
  clear hB2 hS hV hO4 hzA
  go_wp2_with fail
  refine hsm.mono ?_
  rintro e w5 ⟨rfl, hf5⟩
  have HO5 := hide (HO4.out.fr hf5 fun _ _ => id)
  have Hf5 := hide hf5
  clear hsm hf5 HO4
  go_wp2_with fail
  go_loopw [12] (fun i wr => ∃ (k : Nat) (ys : List Int), i = .int .i64 (k : Int) ∧ k ≤ n ∧ Fr (fun x => g' = some x) w5 wr ∧ Hid (ys.length = n) ∧ Ow wr 3 1 A n c (ys.map giv) g') (fun i _ => n - (intOf i).toNat)
  case atStart => exact ⟨0, zs, rfl, Nat.zero_le _, Fr.refl _ _, Hlen.out, HO5.out⟩
  case round =>
    obtain ⟨k, ys, rfl, hkn, hfr, hys, hOw⟩ := hrel
    have Hfr := hide hfr
    have HOw := hide hOw
    clear hfr hOw
    by_cases hlt : k < n
    · obtain ⟨y, oy, eA, eg, cy, zy⟩ := HOw.out.look (j := k) (u := giv (ys.getD k 0)) (giv_get (by rw [hys.out]; exact hlt))
      subst eA
      have hput := hide (HOw.out.put (j := k) (by omega) (.int .i64 (-1)))
      have HF := hide (Hfr.out.trans ((Fr.refl (fun x => g' = some x) wr).setIn (p := y) (i := oy + k) (.inl eg) (.int .i64 (-1))))
      have cy' : wr.cell? ⟨y, oy + k, none⟩ = some (.int .i64 (ys.getD k 0)) := cy
      have i1 : (0 : Int) ≤ (k : Int) := by omega
      have i2 : (k : Int) < (n : Int) := by omega
      have i3 : IntKind.i64.wrap ((k : Int) + 1) = ((k + 1 : Nat) : Int) := by rw [show (k : Int) + 1 = ((k + 1 : Nat) : Int) by omega]; exact IntWalk.i64_in _ (by omega)
      go_wp2_with fail
      refine ⟨⟨k + 1, ys.set k (-1), rfl, by omega, HF.out, (by rw [List.length_set]; exact hys.out), ?_⟩, by simp only [intOf]; omega⟩
      have h1 := hput.out
      rw [List.map_set]
      exact h1
    · have i2 : ¬ (k : Int) < (n : Int) := by omega
      go_wp2_with fail
      go_ret
      exact ⟨rfl, DoesOut.dropped Hd.out Hm.out Hk.out Hap.out hD hD2 hfA HO.out.2.2 HV.out (fun x e => ⟨HO.out.2.1 x e, HO.out.1.lt x e⟩) (Hf5.out.weak _ |>.trans Hfr.out)⟩
end
end Go.Proofs.Ytanfhmebjgmdpaa.Qi
end
