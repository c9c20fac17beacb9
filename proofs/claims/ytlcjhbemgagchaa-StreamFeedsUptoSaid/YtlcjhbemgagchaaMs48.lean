/-
  Texts merged into one, to keep the claim small: SuB, SuC.
-/
import Derived.Test.YtlcjhbemgagchaaMs47
import Derived.Test.YtlcjhbemgagchaaMc2
section
/-
  StreamFeeds: the walk.
-/
namespace Go.Proofs.Ytlcjhbemgagchaa
open Go.RowKit
set_option linter.unusedVariables false
abbrev tPS : TypeId := 57
abbrev tPR : TypeId := 60
/-- A stream and the document's: the same was fed to both. -/
def Pair (w0 w : World) (p r : Nat) (T : List Nat) (s l : Option Nat) : Prop :=
  ∃ u d, StM w p T u d s ∧ RSM w r T u d l ∧ (∀ x, s = some x → l ≠ some x ∧ w0.heap.size ≤ x) ∧ (∀ x, l = some x → w0.heap.size ≤ x) ∧ w0.heap.size ≤ p ∧ w0.heap.size ≤ r ∧ ∀ x ∈ T, x < 256
theorem Pair.fr {w0 w w' : World} {p r : Nat} {T : List Nat} {s l : Option Nat} {S : Nat → Prop} (h : Pair w0 w p r T s l) (hf : Fr S w w') (h1 : ¬ S p) (h2 : ¬ S r) (h3 : ∀ x, s = some x → ¬ S x) (h4 : ∀ x, l = some x → ¬ S x) : Pair w0 w' p r T s l := by
  obtain ⟨u, d, a, b, c⟩ := h
  exact ⟨u, d, a.fr hf h1 h3, b.fr hf h2 h4, c⟩
theorem StAt.stm {w : World} {p : Nat} (h : StAt w p [] 3 0 (fnL p) false none 0 none) : StM w p [] 0 false none :=
  ⟨[], 3, 0, fnL p, none, 0, h.bl, h.ow, .inr (.inl ⟨rfl, by decide, Nat.le_refl _, rfl, rfl, rfl, rfl⟩)⟩
/-- Two pairs, and where they are listed. -/
structure FSt (w0 w : World) (sb rb p0 p1 r0 r1 : Nat) (m : Nat) : Prop where
  ss : Bl w sb tPS #[.pointer (some ⟨p0, 0, none⟩), .pointer (some ⟨p1, 0, none⟩), .pointer none]
  rs : Bl w rb tPR #[.pointer (some ⟨r0, 0, none⟩), .pointer (some ⟨r1, 0, none⟩), .pointer none]
  ps : ∃ T0 T1 s0 s1 l0 l1, Pair w0 w p0 r0 T0 s0 l0 ∧ Pair w0 w p1 r1 T1 s1 l1 ∧ T0.length ≤ m ∧ T1.length ≤ m ∧ (∀ x, s0 = some x ∨ l0 = some x → s1 ≠ some x ∧ l1 ≠ some x)
  np : p0 ≠ p1
  nr : r0 ≠ r1
  fr : Fr (fun x => w0.heap.size ≤ x) w0 w
theorem Pcr.keepT {W w w' : World} {l : List PC} {A : Option Addr} {n c : Nat} {g : Option Nat} {S : Nat → Prop} (h : Pcr W w l tRp A n c g) (hf : Fr S w w') (hS : ∀ x, S x → Typed w x tStm ∨ Typed w x 5) : Pcr W w' l tRp A n c g := by
  have key : ∀ {x : Nat} {t : TypeId}, Typed w x t → t ≠ tStm → t ≠ 5 → ¬ S x := fun {x t} hx h1 h2 hs => by
    rcases hS x hs with h3 | h3
    · exact h1 (hx.same h3)
    · exact h2 (hx.same h3)
  exact ⟨h.len, h.ow.fr hf fun b e => key (h.ow.typed b e) (by decide) (by decide), h.new, fun q hq => (h.rt q hq).frt hf (fun x hx => key hx (by decide) (by decide)) (fun x hx => key hx (by decide) (by decide))⟩
theorem Typed.lt {w : World} {x : Nat} {t : TypeId} (h : Typed w x t) : x < w.heap.size := by
  obtain ⟨cs, hc⟩ := h
  exact (Array.getElem?_eq_some_iff.1 hc).1
theorem Typed.no {w : World} {x : Nat} {t t' : TypeId} (h : Typed w x t) (h' : Typed w x t') (hne : t ≠ t') : False := hne (h.same h')
theorem Pair.typed {w0 w : World} {p r : Nat} {T : List Nat} {s l : Option Nat} (h : Pair w0 w p r T s l) : Typed w p tStm ∧ Typed w r tRs ∧ (∀ x, s = some x → Typed w x 5) ∧ ∀ x, l = some x → Typed w x 5 := by
  obtain ⟨u, d, a, b, c⟩ := h
  exact ⟨a.typed.1, b.typed.1, a.typed.2, b.typed.2⟩
section
variable {w0 w : World} {sb rb p0 p1 r0 r1 m : Nat}
theorem FSt.quiet (h : FSt w0 w sb rb p0 p1 r0 r1 m) {w' : World} (hf : Fr (fun _ => False) w w') {m' : Nat} (hm : m ≤ m') : FSt w0 w' sb rb p0 p1 r0 r1 m' := by
  obtain ⟨T0, T1, s0, s1, l0, l1, h1, h2, h3, h4, h5⟩ := h.ps
  exact ⟨h.ss.fr hf id, h.rs.fr hf id, ⟨T0, T1, s0, s1, l0, l1, h1.fr hf id id (fun _ _ => id) (fun _ _ => id), h2.fr hf id id (fun _ _ => id) (fun _ _ => id), by omega, by omega, h5⟩, h.np, h.nr, h.fr.trans (hf.weak _)⟩
/-- What a step on one pair leaves of the other. -/
theorem Pair.other {p r p' r' : Nat} {T T' : List Nat} {s l s' l' : Option Nat} (h : Pair w0 w p r T s l) (h' : Pair w0 w p' r' T' s' l') (hp : p' ≠ p) (hr : r' ≠ r) (ha : ∀ x, s' = some x ∨ l' = some x → s ≠ some x ∧ l ≠ some x) {w' : World} (hf : Fr (fun x => x = p ∨ x = r ∨ some x = s ∨ some x = l) w w') : Pair w0 w' p' r' T' s' l' := by
  obtain ⟨t1, t2, t3, t4⟩ := h.typed
  obtain ⟨q1, q2, q3, q4⟩ := h'.typed
  refine h'.fr hf (fun e => ?_) (fun e => ?_) (fun x hx e => ?_) (fun x hx e => ?_)
  · rcases e with e | e | e | e
    · exact hp e
    · exact q1.no (e ▸ t2) (by decide)
    · exact q1.no (t3 _ e.symm) (by decide)
    · exact q1.no (t4 _ e.symm) (by decide)
  · rcases e with e | e | e | e
    · exact q2.no (e ▸ t1) (by decide)
    · exact hr e
    · exact q2.no (t3 _ e.symm) (by decide)
    · exact q2.no (t4 _ e.symm) (by decide)
  · rcases e with e | e | e | e
    · exact (q3 x hx).no (e ▸ t1) (by decide)
    · exact (q3 x hx).no (e ▸ t2) (by decide)
    · exact (ha x (.inl hx)).1 e.symm
    · exact (ha x (.inl hx)).2 e.symm
  · rcases e with e | e | e | e
    · exact (q4 x hx).no (e ▸ t1) (by decide)
    · exact (q4 x hx).no (e ▸ t2) (by decide)
    · exact (ha x (.inr hx)).1 e.symm
    · exact (ha x (.inr hx)).2 e.symm
/-- One pair is taken, stepped, and put back. -/
theorem FSt.pick (h : FSt w0 w sb rb p0 p1 r0 r1 m) {k : Nat} (hk : k ≤ 1) : ∃ p r T s l, w.cell? ⟨sb, k, none⟩ = some (.pointer (some ⟨p, 0, none⟩)) ∧ w.cell? ⟨rb, k, none⟩ = some (.pointer (some ⟨r, 0, none⟩)) ∧ Pair w0 w p r T s l ∧ T.length ≤ m ∧
    ∀ (w' : World) (T' : List Nat) (s' l' : Option Nat) (m' : Nat), Pair w0 w' p r T' s' l' → T'.length ≤ m' → m ≤ m' → Fr (fun x => x = p ∨ x = r ∨ some x = s ∨ some x = l) w w' → (∀ x, s' = some x → w.heap.size ≤ x) → (∀ x, l' = some x → some x = l ∨ w.heap.size ≤ x) → FSt w0 w' sb rb p0 p1 r0 r1 m' := by
  obtain ⟨T0, T1, s0, s1, l0, l1, h1, h2, h3, h4, h5⟩ := h.ps
  have htS := Bl.typed h.ss
  have htR := Bl.typed h.rs
  have blk : ∀ {p r : Nat} {T : List Nat} {s l : Option Nat}, Pair w0 w p r T s l → ∀ {w'}, Fr (fun x => x = p ∨ x = r ∨ some x = s ∨ some x = l) w w' → ∀ {y : Nat} {t : TypeId}, Typed w y t → t ≠ tStm → t ≠ tRs → t ≠ 5 → ¬ (y = p ∨ y = r ∨ some y = s ∨ some y = l) := fun hp w' hf y t hy n1 n2 n3 e => by
    obtain ⟨t1, t2, t3, t4⟩ := hp.typed
    rcases e with e | e | e | e
    · exact hy.no (e ▸ t1) n1
    · exact hy.no (e ▸ t2) n2
    · exact hy.no (t3 _ e.symm) n3
    · exact hy.no (t4 _ e.symm) n3
  have old : ∀ {p r : Nat} {T : List Nat} {s l : Option Nat}, Pair w0 w p r T s l → ∀ x, (x = p ∨ x = r ∨ some x = s ∨ some x = l) → w0.heap.size ≤ x := fun hp x e => by
    obtain ⟨u, d, a, b, c1, c2, c3, c4, -⟩ := hp
    rcases e with e | e | e | e
    · omega
    · omega
    · exact (c1 x e.symm).2
    · exact c2 x e.symm
  have hk01 : k = 0 ∨ k = 1 := by omega
  rcases hk01 with rfl | rfl
  · refine ⟨p0, r0, T0, s0, l0, Bl.cell' (i := 0) h.ss rfl, Bl.cell' (i := 0) h.rs rfl, h1, h3, fun w' T' s' l' m' hP hT hm hf hs hl => ?_⟩
    refine ⟨h.ss.fr hf (blk h1 hf htS (by decide) (by decide) (by decide)), h.rs.fr hf (blk h1 hf htR (by decide) (by decide) (by decide)), ⟨T', T1, s', s1, l', l1, hP, h1.other h2 h.np.symm h.nr.symm (fun x e => ?_) hf, hT, by omega, fun x e => ?_⟩, h.np, h.nr, h.fr.trans (hf.mono fun x _ e => old h1 x e)⟩
    · refine ⟨fun e1 => ?_, fun e1 => ?_⟩
      · rcases e with e | e
        · exact (h5 x (.inl e1)).1 e
        · exact (h5 x (.inl e1)).2 e
      · rcases e with e | e
        · exact (h5 x (.inr e1)).1 e
        · exact (h5 x (.inr e1)).2 e
    · obtain ⟨-, -, q3, q4⟩ := h2.typed
      have new : w.heap.size ≤ x → s1 ≠ some x ∧ l1 ≠ some x := fun hx => ⟨fun e1 => by have := (q3 x e1).lt; omega, fun e1 => by have := (q4 x e1).lt; omega⟩
      rcases e with e | e
      · exact new (hs x e)
      · rcases hl x e with e1 | e1
        · exact h5 x (.inr e1.symm)
        · exact new e1
  · refine ⟨p1, r1, T1, s1, l1, Bl.cell' (i := 1) h.ss rfl, Bl.cell' (i := 1) h.rs rfl, h2, h4, fun w' T' s' l' m' hP hT hm hf hs hl => ?_⟩
    refine ⟨h.ss.fr hf (blk h2 hf htS (by decide) (by decide) (by decide)), h.rs.fr hf (blk h2 hf htR (by decide) (by decide) (by decide)), ⟨T0, T', s0, s', l0, l', h2.other h1 h.np h.nr h5 hf, hP, by omega, hT, fun x e => ?_⟩, h.np, h.nr, h.fr.trans (hf.mono fun x _ e => old h2 x e)⟩
    obtain ⟨-, -, q3, q4⟩ := h1.typed
    have hx : x < w.heap.size := by
      rcases e with e | e
      · exact (q3 x e).lt
      · exact (q4 x e).lt
    refine ⟨fun e1 => by have := hs x e1; omega, fun e1 => ?_⟩
    rcases hl x e1 with e2 | e2
    · exact (h5 x e).2 e2.symm
    · omega
theorem FSt.nil_ (h : FSt w0 w sb rb p0 p1 r0 r1 m) : w.cell? ⟨sb, 2, none⟩ = some (.pointer none) ∧ w.cell? ⟨rb, 2, none⟩ = some (.pointer none) := ⟨Bl.cell' (i := 2) h.ss rfl, Bl.cell' (i := 2) h.rs rfl⟩
end
theorem take_sum (fs : List (Int × List Nat)) {i : Nat} (hi : i < fs.length) : ((fs.take (i + 1)).map fun f => f.2.length + 1).sum = ((fs.take i).map fun f => f.2.length + 1).sum + (fs[i].2.length + 1) := by
  rw [List.take_succ_eq_append_getElem hi, List.map_append, List.sum_append]
  simp only [List.map_cons, List.map_nil, List.sum_cons, List.sum_nil]
  omega
theorem take_le (fs : List (Int × List Nat)) (i : Nat) : ((fs.take i).map fun f => f.2.length + 1).sum ≤ (fs.map fun f => f.2.length + 1).sum := by
  conv => rhs; rw [← List.take_append_drop i fs, List.map_append, List.sum_append]
  omega
set_option maxHeartbeats 2000000 in
set_option maxRecDepth 8000 in
theorem feeds_walk (w : World) (fs : List (Int × List Nat)) (A : Option Addr) (n c : Nat) (hn : n ≤ 1048576) (hA : FAt w 2 A n fs) (hsum : (fs.map fun f => f.2.length + 1).sum ≤ 1048576) (h256 : ∀ f ∈ fs, ∀ y ∈ f.2, y < 256) :
    Calls Try.prog 5 #[.slice A n c] w fun e w' => e = .returned (.bool true) ∧ Below w.heap.size w w' := by
  have HA := hide hA
  have Hs := hide hsum
  have H256 := hide h256
  clear hA hsum h256
  go_enter Try.func5, Try.ntmps5
  go_wp2_with fail
  refine (newS_any w).mono ?_
  rintro e w1 ⟨rfl, hp0, f1⟩
  obtain ⟨p0, hp0e⟩ : ∃ p0, w.heap.size = p0 := ⟨_, rfl⟩
  simp only [hp0e] at hp0 ⊢
  go_wp2_with fail
  refine (newS_any w1).mono ?_
  rintro e w2 ⟨rfl, hp1, f2⟩
  obtain ⟨p1, hp1e⟩ : ∃ p1, w1.heap.size = p1 := ⟨_, rfl⟩
  simp only [hp1e] at hp1 ⊢
  go_wp2_with fail
  obtain ⟨w3, hw3⟩ : ∃ w3, w2.alloc (.cells #[.pointer (some ⟨p0, 0, none⟩), .pointer (some ⟨p1, 0, none⟩), .pointer none] tPS) = w3 := ⟨_, rfl⟩
  have hss3 : Bl w3 w2.heap.size tPS #[.pointer (some ⟨p0, 0, none⟩), .pointer (some ⟨p1, 0, none⟩), .pointer none] := by rw [← hw3]; exact Bl.new _ _ _
  have f3 : Fr (fun _ => False) w2 w3 := by rw [← hw3]; exact (Fr.refl _ _).alloc _
  obtain ⟨sb, hsb⟩ : ∃ sb, w2.heap.size = sb := ⟨_, rfl⟩
  rw [show w2.alloc (.cells #[.pointer (some ⟨p0, 0, none⟩), .pointer (some ⟨p1, 0, none⟩), .pointer none] 57) = w3 from hw3]
  rw [hsb] at hss3
  simp only [hsb]
  clear hw3
  refine (rnewS_any w3).mono ?_
  rintro e w4 ⟨rfl, hr0, f4⟩
  obtain ⟨r0, hr0e⟩ : ∃ r0, w3.heap.size = r0 := ⟨_, rfl⟩
  simp only [hr0e] at hr0 ⊢
  go_wp2_with fail
  refine (rnewS_any w4).mono ?_
  rintro e w5 ⟨rfl, hr1, f5⟩
  obtain ⟨r1, hr1e⟩ : ∃ r1, w4.heap.size = r1 := ⟨_, rfl⟩
  simp only [hr1e] at hr1 ⊢
  obtain ⟨w6, hw6⟩ : ∃ w6, w5.alloc (.cells #[.pointer (some ⟨r0, 0, none⟩), .pointer (some ⟨r1, 0, none⟩), .pointer none] tPR) = w6 := ⟨_, rfl⟩
  have hrs6 : Bl w6 w5.heap.size tPR #[.pointer (some ⟨r0, 0, none⟩), .pointer (some ⟨r1, 0, none⟩), .pointer none] := by rw [← hw6]; exact Bl.new _ _ _
  have f6 : Fr (fun _ => False) w5 w6 := by rw [← hw6]; exact (Fr.refl _ _).alloc _
  obtain ⟨rb, hrb⟩ : ∃ rb, w5.heap.size = rb := ⟨_, rfl⟩
  rw [hrb] at hrs6
  have hss6 := hss3.fr (f4.trans (f5.trans f6)) id
  have cs0 : w6.cell? ⟨sb, 0, none⟩ = some (.pointer (some ⟨p0, 0, none⟩)) := Bl.cell' (i := 0) hss6 rfl
  have cs1 : w6.cell? ⟨sb, 1, none⟩ = some (.pointer (some ⟨p1, 0, none⟩)) := Bl.cell' (i := 1) hss6 rfl
  have hSt : FSt w w6 sb rb p0 p1 r0 r1 0 := by
    have g1 := f1.size
    have g2 := f2.size
    have g3 := f3.size
    have g4 := f4.size
    have g5 := f5.size
    have l0 := Bl.lt hp0.bl
    have l1 := Bl.lt hp1.bl
    refine ⟨hss6, hrs6, ⟨[], [], none, none, none, none, ⟨0, false, (hp0.stm).fr (f2.trans (f3.trans (f4.trans (f5.trans f6)))) id (fun x e => by cases e), hr0.fr (f5.trans f6) id (fun x e => by cases e), (fun x e => by cases e), (fun x e => by cases e), by omega, by omega, (fun x e => by cases e)⟩,
      ⟨0, false, (hp1.stm).fr (f3.trans (f4.trans (f5.trans f6))) id (fun x e => by cases e), hr1.fr f6 id (fun x e => by cases e), (fun x e => by cases e), (fun x e => by cases e), by omega, by omega, (fun x e => by cases e)⟩, Nat.le_refl _, Nat.le_refl _, fun x e => by rcases e with e | e <;> cases e⟩, ?_, ?_, ((f1.trans (f2.trans (f3.trans (f4.trans (f5.trans f6))))).weak _)⟩
    · omega
    · have l3 := hr0.typed.1
      obtain ⟨cs, hc⟩ := l3
      have := (Array.getElem?_eq_some_iff.1 hc).1
      omega
  have HSt := hide hSt
  clear hSt hp0 hp1 hr0 hr1 hss3 hss6 hrs6 f1 f2 f3 f4 f5 f6 hp0e hp1e hr0e hr1e hsb
  go_wp2_with fail
  (try rw [show w5.alloc (.cells #[.pointer (some ⟨r0, 0, none⟩), .pointer (some ⟨r1, 0, none⟩), .pointer none] 60) = w6 from hw6])
  go_wp2_with fail
  go_loopw [5, 6] (fun v5 v6 wr => ∃ i m : Nat, v5 = .int .i64 (m : Int) ∧ v6 = .int .i64 (i : Int) ∧ i ≤ n ∧ Hid (m ≤ ((fs.take i).map fun f => f.2.length + 1).sum) ∧ Hid (FSt w wr sb rb p0 p1 r0 r1 m)) (fun _ v _ => n - (intOf v).toNat)
  case atStart => exact ⟨0, 0, rfl, rfl, Nat.zero_le _, Nat.zero_le _, HSt.out⟩
  case round =>
    obtain ⟨i, m, rfl, rfl, hi, hm, hS⟩ := hrel
    clear HSt cs0 cs1
    by_cases hlt : i < n
    · have hil : i < fs.length := by rw [← HA.out.1]; exact hlt
      have hs1 := take_sum fs hil
      have hs2 := take_le fs (i + 1)
      have hs3 := Hs.out
      have hm0 := hm.out
      obtain ⟨b, o, rfl, hcc⟩ := HA.out.2 (by omega)
      obtain ⟨V, md, d, c0w, c1w, hVw⟩ := hcc i hil
      have hbw : b < w.heap.size := World.block_lt_of_cell? w _ c0w
      have hF := hS.out.fr
      have c0 := (hF.cell hbw (fun h => Nat.not_le.2 hbw h)).trans c0w
      have c1 := (hF.cell hbw (fun h => Nat.not_le.2 hbw h)).trans c1w
      obtain ⟨ds, hds⟩ : ∃ ds, fs[i].2 = ds := ⟨_, rfl⟩
      obtain ⟨who, hwho⟩ : ∃ who, fs[i].1 = who := ⟨_, rfl⟩
      have hd256 : ∀ x ∈ ds, x < 256 := by rw [← hds]; exact H256.out fs[i] (List.getElem_mem hil)
      rw [hds] at hVw hs1
      rw [hwho] at c0
      have hmd : md = ds.length := by have := hVw.1; simpa using this.symm
      have hmm : m + md ≤ 1048576 := by omega
      have HM : Hid (m + md ≤ ((fs.take (i + 1)).map fun f => f.2.length + 1).sum) := by show _ ≤ _; omega
      have HV := hide (fun w' (hf : Fr (fun x => w.heap.size ≤ x) w w') => (hVw.fr (B := 0) hf (fun y _ h1 h2 => by omega) : Sl w' 1 V md (ds.map bn)))
      have Hmd := hide hmd
      have HC := hide (fun w' (hf : Fr (fun x => w.heap.size ≤ x) w w') => (And.intro ((hf.cell hbw (fun h => Nat.not_le.2 hbw h)).trans c0w) ((hf.cell hbw (fun h => Nat.not_le.2 hbw h)).trans c1w)))
      have HD := hide hd256
      clear hs1 hs2 hs3 hm0 hcc c0w c1w hVw hF hds hwho hmd hd256 hm
      have i0 : (0 : Int) ≤ (i : Int) := by omega
      have i1 : (i : Int) < (n : Int) := by omega
      have iw : IntKind.i64.wrap ((m : Int) + (md : Int)) = (m : Int) + (md : Int) := IntWalk.i64_in _ (by omega)
      by_cases hk0 : who < 0
      · go_wp2_with fail
        exact ⟨⟨i + 1, m + md, by simp, by go_num, by omega, HM, hS.out.quiet (Fr.refl _ _) (by omega)⟩, by simp [intOf]; omega⟩
      by_cases hk2 : 2 < who
      · go_wp2_with fail
        exact ⟨⟨i + 1, m + md, by simp, by go_num, by omega, HM, hS.out.quiet (Fr.refl _ _) (by omega)⟩, by simp [intOf]; omega⟩
      by_cases hz : 65536 < m + md
      · have hz2 : (65536 : Int) < (m : Int) + (md : Int) := by omega
        go_wp2_with fail
        exact ⟨⟨i + 1, m + md, by simp, by go_num, by omega, HM, hS.out.quiet (Fr.refl _ _) (by omega)⟩, by simp [intOf]; omega⟩
      have hz2 : ¬ (65536 : Int) < (m : Int) + (md : Int) := by omega
      obtain ⟨k, rfl⟩ : ∃ k : Nat, who = k := ⟨who.toNat, by omega⟩
      go_wp2_with fail
      by_cases hk1 : k ≤ 1
      · obtain ⟨p, r, T, s, l, cs, cr, hP, hT, hback⟩ := hS.out.pick hk1
        have HB := hide hback
        obtain ⟨u, d0, hM, hR, hap, hnl, hpw, hrw, hT6⟩ := hP
        have htM := hM.typed
        have htR := hR.typed
        have hTl : (T ++ ds).length ≤ 1048576 := by rw [List.length_append, ← Hmd.out]; omega
        have h256' : ∀ x ∈ T ++ ds, x < 256 := fun x hx => by
          rcases List.mem_append.1 hx with h | h
          · exact hT6 x h
          · exact HD.out x h
        have hFw := hS.out.fr
        have hsbl := World.block_lt_of_cell? wr _ cs
        have hrbl := World.block_lt_of_cell? wr _ cr
        have sty := Bl.typed hS.out.ss
        have rty := Bl.typed hS.out.rs
        refine (lent29_any wr ds V md d (by omega) (HV.out wr hFw)).mono ?_
        rintro e w1 ⟨A1, cA, g1, rfl, hL, hg1, hf1⟩
        have hFw1 := hFw.trans (hf1.weak _)
        obtain ⟨c0', c1'⟩ := HC.out w1 hFw1
        have hR1 := hR.fr hf1 id (fun _ _ => id)
        have HRF := hide (fun w' (hf : Fr (fun _ => False) w1 w') => rfeed_any w' r T u d0 l (hR1.fr hf id (fun _ _ => id)) ds V md d Hmd.out hTl h256' ((HV.out w1 hFw1).below hf (fun _ _ => id)))
        have HCR := hide cr
        have hrb1 : ¬ (rb = r ∨ some rb = l) := fun e => by
          rcases e with e | e
          · exact rty.no (e ▸ htR.1) (by decide)
          · exact rty.no (htR.2 _ e.symm) (by decide)
        have hbb1 : ¬ (b = r ∨ some b = l) := fun e => by
          rcases e with e | e
          · omega
          · have := hnl b e.symm; omega
        have l1 : ∀ w', Fr (fun x => x = r ∨ some x = l) w1 w' → w'.cell? ⟨rb, k, none⟩ = some (.pointer (some ⟨r, 0, none⟩)) := fun w' hf => (hf.cell (Nat.lt_of_lt_of_le hrbl hf1.size) hrb1).trans ((hf1.cell hrbl id).trans cr)
        have l2 : ∀ w', Fr (fun x => x = r ∨ some x = l) w1 w' → w'.cell? ⟨b, o + i * 2 + 1, none⟩ = some (.slice V md d) := fun w' hf => (hf.cell (World.block_lt_of_cell? w1 _ c1') hbb1).trans c1'
        have hS13 : Fr (fun x => x = r ∨ some x = l) w1 w1 := Fr.refl _ _
        have k0 : (0 : Int) ≤ (k : Int) := by omega
        have k3 : (k : Int) < 3 := by omega
        have HX := hide (And.intro hM (And.intro hR (And.intro hap (And.intro hnl (And.intro hpw (And.intro hrw (And.intro hT6 (And.intro htM htR))))))))
        have HX2 := hide (And.intro hFw (And.intro sty (And.intro rty (And.intro hL (And.intro hg1 hf1)))))
        have HT := hide (And.intro hT (And.intro hTl h256'))
        clear hback hM hR hap hnl hpw hrw hT6 htM htR hT hTl h256' hFw hFw1 hR1 cr c0 c1 hL hf1 sty rty c0' c1' hg1 hrb1 hbb1
        go_wp2_with fail
        go_region_held3 (fun w' => Fr (fun x => x = r ∨ some x = l) w1 w') (first | assumption | exact Fr.drew (by assumption))
          ((go_at_call 26; refine (HRF.out _ (by first | exact Fr.refl _ _ | exact (Fr.refl _ _).drew)).mono ?_; rintro e w2 ⟨L, M, u1, d1, B, m0, e0, g0, l', rfl, q1, q2, q3, q4, q5, q6⟩; have hf5 : Fr (fun x => x = r ∨ some x = l) w1 w2 := Fr.trans (by first | exact Fr.refl _ _ | exact (Fr.refl _ _).drew) q6))
        obtain ⟨hM, hR, hap, hnl, hpw, hrw, hT6, htM, htR⟩ := HX.out
        obtain ⟨hFw, sty, rty, hL, hg1, hf1⟩ := HX2.out
        have hsp : ∀ x, s = some x → x < wr.heap.size := fun x e => (htM.2 x e).lt
        have hlp : ∀ x, l = some x → x < wr.heap.size := fun x e => (htR.2 x e).lt
        have hpp : p < wr.heap.size := htM.1.lt
        have hrp : r < wr.heap.size := htR.1.lt
        have z1 := hf1.size
        have z2 := hf5.size
        have hg1l : g1 < w1.heap.size := Ow.lt hL g1 rfl
        have hL2 : Lent29 w2 A1 md cA ds g1 := Ow.fr hL hf5 fun x e e' => by
          cases e
          rcases e' with e' | e'
          · omega
          · have := hlp g1 e'.symm; omega
        have hM2 : StM w2 p T u d0 s := (hM.fr hf1 id (fun _ _ => id)).fr hf5 (fun e => by
          rcases e with e | e
          · exact htM.1.no (e ▸ htR.1) (by decide)
          · exact htM.1.no (htR.2 _ e.symm) (by decide)) (fun x hx e => by
          rcases e with e | e
          · exact (htM.2 x hx).no (e ▸ htR.1) (by decide)
          · exact (hap x hx).1 e.symm)
        have hSl2 : Sl w2 1 A1 md (ds.map bn) := by
          have := (Ow.take hL2 (k := md) (by omega)).sl
          rwa [Nat.mul_one, List.map_append, List.take_left' (by simp [Hmd.out])] at this
        have hfe := feed_any w2 p T u d0 s hM2 ds A1 md cA Hmd.out HT.out.2.1 HT.out.2.2 hSl2
        have hsbn : ¬ (sb = p ∨ sb = r ∨ some sb = s ∨ some sb = l) := fun e => by
          rcases e with e | e | e | e
          · exact sty.no (e ▸ htM.1) (by decide)
          · exact sty.no (e ▸ htR.1) (by decide)
          · exact sty.no (htM.2 _ e.symm) (by decide)
          · exact sty.no (htR.2 _ e.symm) (by decide)
        have hrbn : ¬ (rb = p ∨ rb = r ∨ some rb = s ∨ some rb = l) := fun e => by
          rcases e with e | e | e | e
          · exact rty.no (e ▸ htM.1) (by decide)
          · exact rty.no (e ▸ htR.1) (by decide)
          · exact rty.no (htM.2 _ e.symm) (by decide)
          · exact rty.no (htR.2 _ e.symm) (by decide)
        have FT2 : Fr (fun x => x = p ∨ x = r ∨ some x = s ∨ some x = l) wr w2 := (hf1.weak _).trans (hf5.mono fun x _ e => e.elim (fun e => .inr (.inl e)) (fun e => .inr (.inr (.inr e))))
        have cs2 := (FT2.cell hsbl hsbn).trans cs
        have HR2 := hide q4.typed
        have HY := hide (And.intro q1 (And.intro q2 (And.intro q3 (And.intro q4 (And.intro q5 (And.intro hL2 (And.intro FT2 (And.intro hsbn hrbn))))))))
        have HM2 := hide hM2.typed
        have HZ := hide (And.intro hsp (And.intro hlp (And.intro hpp (And.intro hrp (And.intro z1 (And.intro z2 hg1l))))))
        clear hM hR hap hnl hpw hrw hT6 htM htR hFw sty rty hL hg1 hf1 q1 q2 q3 q4 q5 q6 hL2 FT2 hsbn hrbn hM2 hSl2 hsp hlp hpp hrp z1 z2 hg1l l1 l2 hS13 hf5 HRF
        go_wp2_with fail
        refine hfe.mono ?_
        rintro e w3 ⟨lp, u2, d2, B1, m1, g2, s', rfl, t1, t2, t3, t4, t5⟩
        obtain ⟨hM, hR, hap, hnl, hpw, hrw, hT6, htM, htR⟩ := HX.out
        obtain ⟨hFw, sty, rty, hL, hg1, hf1⟩ := HX2.out
        obtain ⟨q1, q2, q3, q4, q5, hL2, FT2, hsbn, hrbn⟩ := HY.out
        obtain ⟨hsp, hlp, hpp, hrp, z1, z2, hg1l⟩ := HZ.out
        have hall := FedP.all q1 t1
        obtain ⟨eu, ed, hlk⟩ := hall.same q2
        subst eu ed
        have hlk2 := hlk.tail
        have n1 := t2.len
        have n2 := q3.len
        have n3 := hlk2.len
        obtain rfl : m0 = m1 := by omega
        have hm1 : m0 ≤ 1048576 := by
          have h1 := hall.bound
          have h2 := HT.out.2.1
          rw [List.length_append] at h1
          omega
        have z3 := t5.size
        have tp2 := HM2.out
        have q33 : Pcr _ w3 (M.drop L.length) tRp B m0 e0 g0 := q3.keepT t5 (fun x e => by
          rcases e with rfl | e
          · exact .inl tp2.1
          · exact .inr (tp2.2 x e.symm))
        have hL3 : Lent29 w3 A1 md cA ds g1 := Ow.fr hL2 t5 fun x e e' => by
          cases e
          rcases e' with e' | e'
          · omega
          · have := hsp g1 e'.symm; omega
        have FT3 : Fr (fun x => x = p ∨ x = r ∨ some x = s ∨ some x = l) wr w3 := FT2.trans (t5.mono fun x _ e => e.elim .inl (fun e => .inr (.inr (.inl e))))
        have FS : ∀ x, (x = p ∨ x = r ∨ some x = s ∨ some x = l) → w.heap.size ≤ x := fun x e => by
          rcases e with e | e | e | e
          · omega
          · omega
          · exact (hap x e.symm).2
          · exact hnl x e.symm
        have hFw3 : Fr (fun x => w.heap.size ≤ x) w w3 := hFw.trans (FT3.mono fun x _ e => FS x e)
        have HP := hide (fun w' (hf : Fr (fun _ => False) w3 w') => pcsLike_any w' _ _ lp (M.drop L.length) hlk2 B1 B m0 m0 e0 g2 g0 hm1 (t2.quiet hf).pr (q33.quiet hf))
        have HK := hide (fun w' (hf : Fr (fun _ => False) w3 w') => kept29_true w' ds A1 V md cA d g1 (by omega) Hmd.out (Ow.fr hL3 hf (fun _ _ => id)) (HV.out w' (hFw3.trans (hf.weak _))))
        have l1 : ∀ w', Fr (fun _ => False) w3 w' → w'.cell? ⟨b, o + i * 2 + 1, none⟩ = some (.slice V md d) := fun w' hf => (HC.out w' (hFw3.trans (hf.weak _))).2
        have HW := hide (And.intro q33 (And.intro hL3 (And.intro FT3 (And.intro FS hFw3))))
        have HU := hide (And.intro t2 (And.intro t3 (And.intro t4 (And.intro t5 hm1))))
        clear hM hR hap hnl hpw hrw hT6 htM htR hFw sty rty hL hg1 hf1 q1 q2 q3 q4 q5 hL2 FT2 hsbn hrbn hsp hlp hpp hrp z1 z2 z3 hg1l hall hlk hlk2 n1 n2 n3 tp2 q33 hL3 FT3 FS hFw3 t1 t2 t3 t4 t5 hm1 cs2 hfe
        have l10 := l1 w3 (Fr.refl _ _)
        go_wp2_with fail
        refine (HP.out _ (Fr.refl _ _)).mono ?_
        rintro e w4 ⟨rfl, hf4⟩
        have l11 := l1 w4 hf4
        go_wp2_with fail
        refine (HK.out _ hf4).mono ?_
        rintro e w5 ⟨rfl, hf5⟩
        have hf35 := hf4.trans hf5
        obtain ⟨q33, hL3, FT3, FS, hFw3⟩ := HW.out
        obtain ⟨t2, t3, t4, t5, hm1⟩ := HU.out
        have hL5 : Lent29 w5 A1 md cA ds g1 := Ow.fr hL3 hf35 (fun _ _ => id)
        have hO5 : Ow w5 5 1 A1 md cA (ds.map bn) (some g1) := by
          have := Ow.take hL5 (k := md) (by omega)
          rwa [Nat.mul_one, List.map_append, List.take_left' (by simp [Hmd.out])] at this
        have tg1 : Typed w5 g1 5 := hO5.typed g1 rfl
        have t25 := t2.quiet hf35
        have hov := over29_any w5 ds A1 md cA (some g1) hO5 (by omega)
        have HW5 := hide (And.intro tg1 (And.intro t25 hf35))
        clear q33 hL3 FT3 FS hFw3 t2 t3 t4 t5 hL5 hO5 tg1 t25 hf35 l1 l10 l11 hf4 hf5
        go_wp2_with fail
        refine hov.mono ?_
        rintro e w6 ⟨rfl, hf6⟩
        obtain ⟨tg1, t25, hf35⟩ := HW5.out
        have t26 := t25.frt hf6 (fun x t hx ht e => by
          cases e
          have := hx.same tg1
          subst this
          revert ht; decide)
        have hsl := spoil_any w2 w6 lp B1 m0 m0 g2 t26 hm1
        have HF6 := hide (And.intro hf6 t26)
        clear tg1 t25 hf35 hf6 t26 hov
        go_wp2_with fail
        refine hsl.mono ?_
        rintro e w7 ⟨rfl, hf7⟩
        obtain ⟨hM, hR, hap, hnl, hpw, hrw, hT6, htM, htR⟩ := HX.out
        obtain ⟨hFw, sty, rty, hL, hg1, hf1⟩ := HX2.out
        obtain ⟨q1, q2, q3, q4, q5, hL2, FT2, hsbn, hrbn⟩ := HY.out
        obtain ⟨hsp, hlp, hpp, hrp, z1, z2, hg1l⟩ := HZ.out
        obtain ⟨q33, hL3, FT3, FS, hFw3⟩ := HW.out
        obtain ⟨t2, t3, t4, t5, hm1⟩ := HU.out
        obtain ⟨tg1, t25, hf35⟩ := HW5.out
        obtain ⟨hf6, t26⟩ := HF6.out
        have z4 := hf35.size
        have z6 := hf6.size
        have z5 := t5.size
        have M5 := t3.fr hf35 id (fun _ _ => id)
        have M6 := M5.fr hf6 (fun e => by cases e; exact M5.typed.1.no tg1 (by decide)) (fun x hx e => by cases e; have := t4 g1 hx; omega)
        have M7 := M6.fr hf7 (fun e => e.2.elim (fun e => M6.typed.1.no e (by decide)) (fun e => M6.typed.1.no e (by decide))) (fun x hx e => e.2.elim (fun e => (M6.typed.2 x hx).no e (by decide)) (fun e => (M6.typed.2 x hx).no e (by decide)))
        have R3 := q4.fr t5 (fun e => by
          rcases e with e | e
          · exact HR2.out.1.no (e ▸ HM2.out.1) (by decide)
          · exact HR2.out.1.no (HM2.out.2 _ e.symm) (by decide)) (fun x hx e => by
          rcases e with e | e
          · exact (HR2.out.2 x hx).no (e ▸ HM2.out.1) (by decide)
          · have h1 := hsp x e.symm
            rcases q5 x hx with h2 | h2
            · exact (hap x e.symm).1 h2.symm
            · simp at h2; omega)
        have R5 := R3.fr hf35 id (fun _ _ => id)
        have R6 := R5.fr hf6 (fun e => by cases e; exact R5.typed.1.no tg1 (by decide)) (fun x hx e => by
          cases e
          rcases q5 g1 hx with h2 | h2
          · have := hlp g1 h2.symm; omega
          · simp at h2; omega)
        have R7 := R6.fr hf7 (fun e => e.2.elim (fun e => R6.typed.1.no e (by decide)) (fun e => R6.typed.1.no e (by decide))) (fun x hx e => e.2.elim (fun e => (R6.typed.2 x hx).no e (by decide)) (fun e => (R6.typed.2 x hx).no e (by decide)))
        have FT7 : Fr (fun x => x = p ∨ x = r ∨ some x = s ∨ some x = l) wr w7 := ((FT3.trans (hf35.weak _)).comp hf6 (fun x hx e => by cases e; omega)).comp hf7 (fun x hx e => by have := e.1; omega)
        have cs7 : ∀ w', Fr (fun _ => False) w7 w' → w'.cell? ⟨sb, k, none⟩ = some (.pointer (some ⟨p, 0, none⟩)) := fun w' hf => ((FT7.trans (hf.weak _)).cell hsbl hsbn).trans cs
        have cr7 : ∀ w', Fr (fun _ => False) w7 w' → w'.cell? ⟨rb, k, none⟩ = some (.pointer (some ⟨r, 0, none⟩)) := fun w' hf => ((FT7.trans (hf.weak _)).cell hrbl hrbn).trans HCR.out
        have HQ1 := hide (fun w' (hf : Fr (fun _ => False) w7 w') => waiting_any w' p (T ++ ds) _ _ s' (M7.fr hf id (fun _ _ => id)) HT.out.2.1)
        have HQ2 := hide (fun w' (hf : Fr (fun _ => False) w7 w') => rwaiting_any w' r (T ++ ds) _ _ l' (R7.fr hf id (fun _ _ => id)) HT.out.2.1 HT.out.2.2)
        have HQ3 := hide (fun w' (hf : Fr (fun _ => False) w7 w') => deaf_any w' p (T ++ ds) _ _ s' (M7.fr hf id (fun _ _ => id)))
        have HQ4 := hide (fun w' (hf : Fr (fun _ => False) w7 w') => rdeaf_any w' r (T ++ ds) _ _ l' (R7.fr hf id (fun _ _ => id)) HT.out.2.1 HT.out.2.2)
        have HE := hide (And.intro M7 (And.intro R7 FT7))
        have hS7 : Fr (fun _ => False) w7 w7 := Fr.refl _ _
        clear hM hR hap hnl hpw hrw hT6 htM htR hFw sty rty hL hg1 hf1 q1 q2 q3 q4 q5 hL2 FT2 hsbn hrbn hsp hlp hpp hrp z1 z2 hg1l q33 hL3 FT3 FS hFw3 t2 t3 t4 t5 hm1 tg1 t25 hf35 hf6 t26 z4 z5 z6 M5 M6 M7 R3 R5 R6 R7 FT7 hf7 hsl
        go_wp2_with fail
        go_region_held3 (fun w' => Fr (fun _ => False) w7 w') (first | assumption | exact Fr.drew (by assumption))
          (first
            | (go_at_call 30; refine (HQ1.out _ (by first | assumption | exact Fr.drew (by assumption))).mono ?_; rintro e wa ⟨rfl, ha⟩; have ha2 : Fr (fun _ => False) w7 wa := Fr.trans (by first | assumption | exact Fr.drew (by assumption)) ha)
            | (go_at_call 31; refine (HQ2.out _ (by first | assumption | exact Fr.drew (by assumption))).mono ?_; rintro e wa ⟨rfl, hb⟩; have hb2 : Fr (fun _ => False) w7 wa := Fr.trans (by first | assumption | exact Fr.drew (by assumption)) hb)
            | (go_at_call 32; refine (HQ3.out _ (by first | assumption | exact Fr.drew (by assumption))).mono ?_; rintro e wa ⟨rfl, rfl⟩)
            | (go_at_call 33; refine (HQ4.out _ (by first | assumption | exact Fr.drew (by assumption))).mono ?_; rintro e wa ⟨rfl, hc⟩; have hc2 : Fr (fun _ => False) w7 wa := Fr.trans (by first | assumption | exact Fr.drew (by assumption)) hc))
        have hend : Fr (fun _ => False) w7 wa := by assumption
        obtain ⟨hM, hR, hap, hnl, hpw, hrw, hT6, htM, htR⟩ := HX.out
        obtain ⟨hFw, sty, rty, hL, hg1, hf1⟩ := HX2.out
        obtain ⟨q1, q2, q3, q4, q5, hL2, FT2, hsbn, hrbn⟩ := HY.out
        obtain ⟨t2, t3, t4, t5, hm1⟩ := HU.out
        obtain ⟨M7, R7, FT7⟩ := HE.out
        have y1 := hFw.size
        have y2 := FT2.size
        have y3 := hf1.size
        have HFIN : Hid (FSt w wa sb rb p0 p1 r0 r1 (m + md)) := by
          refine HB.out wa (T ++ ds) s' l' (m + md) ⟨_, _, M7.fr hend id (fun _ _ => id), R7.fr hend id (fun _ _ => id), fun x hx => ⟨fun e => ?_, ?_⟩, fun x hx => ?_, hpw, hrw, HT.out.2.2⟩ ?_ (by omega) (FT7.trans (hend.weak _)) (fun x hx => ?_) (fun x hx => ?_)
          · have h1 := t4 x hx
            have h2 := (HR2.out.2 x e).lt
            omega
          · have h1 := t4 x hx
            omega
          · rcases q5 x hx with h2 | h2
            · exact hnl x h2.symm
            · simp at h2; omega
          · rw [List.length_append, ← Hmd.out]
            have := HT.out.1
            omega
          · have h1 := t4 x hx
            omega
          · rcases q5 x hx with h2 | h2
            · exact .inl h2
            · right; simp at h2; omega
        clear hM hR hap hnl hpw hrw hT6 htM htR hFw sty rty hL hg1 hf1 q1 q2 q3 q4 q5 hL2 FT2 hsbn hrbn t2 t3 t4 t5 hm1 M7 R7 FT7 y1 y2 y3 cs7 cr7
        go_wp2_with fail
        exact ⟨⟨i + 1, m + md, by simp, by go_num, by omega, HM, HFIN.out⟩, by simp [intOf]; omega⟩
      · obtain rfl : k = 2 := by omega
        have hFw := hS.out.fr
        obtain ⟨cs, cr⟩ := hS.out.nil_
        have hsbl := World.block_lt_of_cell? wr _ cs
        have hrbl := World.block_lt_of_cell? wr _ cr
        refine (lent29_any wr ds V md d (by omega) (HV.out wr hFw)).mono ?_
        rintro e w1 ⟨A1, cA, g1, rfl, hL, hg1, hf1⟩
        have hFw1 := hFw.trans (hf1.weak _)
        have l1 : ∀ w', Fr (fun _ => False) w1 w' → w'.cell? ⟨rb, 2, none⟩ = some (.pointer none) := fun w' hf => ((hf1.trans hf).cell hrbl id).trans cr
        have l2 : ∀ w', Fr (fun _ => False) w1 w' → w'.cell? ⟨b, o + i * 2 + 1, none⟩ = some (.slice V md d) := fun w' hf => (HC.out w' (hFw1.trans (hf.weak _))).2
        have l3 : ∀ w', Fr (fun _ => False) w1 w' → w'.cell? ⟨sb, 2, none⟩ = some (.pointer none) := fun w' hf => ((hf1.trans hf).cell hsbl id).trans cs
        have hS13 : Fr (fun _ => False) w1 w1 := Fr.refl _ _
        have HX := hide (And.intro hFw (And.intro cs (And.intro cr (And.intro hL (And.intro hg1 (And.intro hf1 (And.intro hFw1 (And.intro l2 l3))))))))
        clear hFw cs cr hL hg1 hf1 hFw1 c0 c1 l3
        go_wp2_with fail
        go_region_held3 (fun w' => Fr (fun _ => False) w1 w') (first | assumption | exact Fr.drew (by assumption))
          ((go_at_call 26; refine (rfeed_nil _ _).mono ?_; rintro e w2 ⟨rfl, rfl⟩))
        obtain ⟨w2, hw2⟩ : ∃ w2, w1.drew = w2 := ⟨_, rfl⟩
        have hf12 : Fr (fun _ => False) w1 w2 := by rw [← hw2]; exact (Fr.refl _ _).drew
        rw [hw2]
        have HF12 := hide hf12
        have cs2 := HX.out.2.2.2.2.2.2.2.2 w2 hf12
        clear hw2 hf12 l1 l2 hS13
        go_wp2_with fail
        refine (feed_nil _ _).mono ?_
        rintro e w' ⟨rfl, rfl⟩
        clear cs2
        have l10 := HX.out.2.2.2.2.2.2.2.1 w2 HF12.out
        go_wp2_with fail
        refine (pcsLike_any w2 w2 w2 [] [] .nil none none 0 0 0 none none (by omega) (Pcm.nil_ w2 w2).pr (Pcr.nil_ w2 w2 tRp)).mono ?_
        rintro e w3 ⟨rfl, hf3⟩
        have HF13 := hide (HF12.out.trans hf3)
        have l11 := HX.out.2.2.2.2.2.2.2.1 w3 HF13.out
        clear l10 hf3
        go_wp2_with fail
        obtain ⟨hFw, cs, cr, hL, hg1, hf1, hFw1, l2, l3⟩ := HX.out
        have hg1l : g1 < w1.heap.size := Ow.lt hL g1 rfl
        refine (kept29_true w3 ds A1 V md cA d g1 (by omega) Hmd.out (Ow.fr hL HF13.out (fun _ _ => id)) (HV.out w3 (hFw1.trans (HF13.out.weak _)))).mono ?_
        rintro e w4 ⟨rfl, hf4⟩
        have hf14 := HF13.out.trans hf4
        have hO4 : Ow w4 5 1 A1 md cA (ds.map bn) (some g1) := by
          have := Ow.take (Ow.fr hL hf14 (fun _ _ => id)) (k := md) (by omega)
          rwa [Nat.mul_one, List.map_append, List.take_left' (by simp [Hmd.out])] at this
        have hov := over29_any w4 ds A1 md cA (some g1) hO4 (by omega)
        have H4 := hide (And.intro hf14 hg1l)
        clear hFw cs cr hL hg1 hf1 hFw1 l2 l3 hf4 hf14 hO4 l11 hg1l
        go_wp2_with fail
        refine hov.mono ?_
        rintro e w5 ⟨rfl, hf5⟩
        have hsl := spoil_any w5 w5 [] none 0 0 none (Pcm.nil_ w5 w5) (by omega)
        have H5 := hide hf5
        clear hov hf5
        go_wp2_with fail
        refine hsl.mono ?_
        rintro e w7 ⟨rfl, hf7⟩
        obtain ⟨hFw, cs, cr, hL, hg1, hf1, hFw1, l2, l3⟩ := HX.out
        have z1 := hf1.size
        have z4 := H4.out.1.size
        have z5 := H5.out.size
        have FT7 : Fr (fun _ => False) wr w7 := ((hf1.trans H4.out.1).comp H5.out (fun x hx e => by cases e; omega)).comp hf7 (fun x hx e => by have := e.1; omega)
        have cs7 : ∀ w', Fr (fun _ => False) w7 w' → w'.cell? ⟨sb, 2, none⟩ = some (.pointer none) := fun w' hf => ((FT7.trans hf).cell hsbl id).trans cs
        have cr7 : ∀ w', Fr (fun _ => False) w7 w' → w'.cell? ⟨rb, 2, none⟩ = some (.pointer none) := fun w' hf => ((FT7.trans hf).cell hrbl id).trans cr
        have HE := hide FT7
        have hS7 : Fr (fun _ => False) w7 w7 := Fr.refl _ _
        clear hFw cs cr hL hg1 hf1 hFw1 l2 l3 z1 z4 z5 FT7 hf7 hsl
        go_wp2_with fail
        go_region_held3 (fun w' => Fr (fun _ => False) w7 w') (first | assumption | exact Fr.drew (by assumption))
          (first
            | (go_at_call 30; refine (waiting_nil _).mono ?_; rintro e wa ⟨rfl, rfl⟩)
            | (go_at_call 31; refine (rwaiting_nil _).mono ?_; rintro e wa ⟨rfl, rfl⟩)
            | (go_at_call 32; refine (deaf_nil _).mono ?_; rintro e wa ⟨rfl, rfl⟩)
            | (go_at_call 33; refine (rdeaf_nil _).mono ?_; rintro e wa ⟨rfl, rfl⟩))
        have HFIN : Hid (FSt w w7.drew sb rb p0 p1 r0 r1 (m + md)) := hS.out.quiet (HE.out.trans (Fr.refl _ _).drew) (by omega)
        clear cs7 cr7 hS7
        go_wp2_with fail
        exact ⟨⟨i + 1, m + md, by simp, by go_num, by omega, HM, HFIN.out⟩, by simp [intOf]; omega⟩
    · go_wp2_with fail
      go_ret
      exact ⟨rfl, hS.out.fr.toBelow (Nat.le_refl _) (fun k hk h => by omega)⟩
end Go.Proofs.Ytlcjhbemgagchaa
end

section
/-
  StreamFeeds: a list of cuts is no longer than its bulk.
-/
namespace Go.Proofs.Ytlcjhbemgagchaa
theorem cuts_len : ∀ (fs : List (Int × List Nat)), fs.length ≤ (fs.map fun f => f.2.length + 1).sum
  | [] => by simp
  | f :: fs => by
    have := cuts_len fs
    simp only [List.length_cons, List.map_cons, List.sum_cons]
    omega
end Go.Proofs.Ytlcjhbemgagchaa
end
