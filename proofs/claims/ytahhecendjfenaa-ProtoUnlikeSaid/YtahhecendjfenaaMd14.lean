/-
  Texts merged into one, to keep the claim small: Pd1, Pr2.
-/
import Derived.Test.YtahhecendjfenaaMd13
import Derived.Test.YtahhecendjfenaaMd7
import Derived.Test.YtahhecendjfenaaMd12
section
/-
  proto: what is read of bytes, in plain lists: a record's fields read with care. No program in sight.
-/
namespace Go.Proofs.Ytahhecendjfenaa
set_option linter.unusedVariables false
set_option linter.unusedSimpArgs false
def M50 : Nat := 1125899906842624
/-- A record's fields. -/
def FF (d : RD) : List Fd := d.fs.map fun F => ((F.tag : Int), F.val d.bs)
structure RD.good (d : RD) : Prop where
  asc : Asc 0 (FF d)
  ne : ∀ f ∈ FF d, f.2 ≠ []
  ok : d.ok
theorem live_self {l : List Fd} (h : ∀ f ∈ l, f.2 ≠ []) : live l = l := List.filter_eq_self.2 fun f hf => by
  have := h f hf
  cases hv : f.2 with
  | nil => exact absurd hv this
  | cons x v => rfl
theorem RD.good.shows {d : RD} (h : d.good) : Shows d (FF d) := ⟨(live_self h.ne).symm, h.asc⟩
theorem RD.empty_good {b : Nat} (h : b ≤ 1048576) : (RD.empty b).good := ⟨trivial, (fun f hf => by cases hf), RD.empty_ok h⟩
theorem asc_of_scan : ∀ (l : List Fd) (a : Int), putScan a l = 0 → Asc a l ∧ ∀ f ∈ l, f.2 ≠ []
  | [], _, _ => ⟨trivial, fun f h => by cases h⟩
  | (t, v) :: r, a, h => by
    rw [putScan] at h
    split at h
    · simp at h
    · split at h
      · simp at h
      · rename_i h1 h2
        obtain ⟨i1, i2⟩ := asc_of_scan r t h
        refine ⟨⟨by show a < t; omega, by show t ≤ 255; omega, i1⟩, fun f hf => ?_⟩
        rcases List.mem_cons.1 hf with rfl | hf
        · intro e; exact h2 (by rw [show v = [] from e]; rfl)
        · exact i2 f hf
theorem putErr_scan {l : List Fd} (h : putErr l = 0) : putScan 0 l = 0 := by
  unfold putErr at h
  split at h
  · rename_i h1; exact absurd h h1
  · rename_i h1; exact Decidable.not_not.1 h1
/-- A fault is not taken back. -/
theorem RF.wrong_e {f : RF} {a e : Int} (he : e ≠ 0) (h : (f.wrong a e).e = 0) : False := by
  unfold RF.wrong at h
  split at h
  · exact he h
  · rename_i h1; exact h1 h
theorem readS_good {f : RF} {base : Nat} {bs : List Nat} (hb : ∀ x ∈ bs, x < 256) (hl : base ≤ 1048576) (h2 : base = 0 ∨ base + bs.length ≤ 1048576) (h : (readS f base bs).2.e = 0) :
    f.e = 0 ∧ (readS f base bs).2 = f ∧ (readS f base bs).1.good ∧ putAll (FF (readS f base bs).1) = bs := by
  have hok := readS_ok (f := f) hb hl h2
  by_cases hf : f.e = 0
  · unfold readS at h hok ⊢
    rw [if_neg (by simp [hf])] at h hok ⊢
    simp only at h hok ⊢
    by_cases h0 : (getAll bs).2.2 = 0
    · rw [if_neg (by simp [h0])] at h hok ⊢
      obtain ⟨g1, g2, -⟩ := getAll_form hb h0
      obtain ⟨a1, a2⟩ := asc_of_scan _ 0 (putErr_scan g2)
      exact ⟨hf, rfl, ⟨a1, a2, hok⟩, g1⟩
    · rw [if_pos h0] at h
      exact (RF.wrong_e h0 h).elim
  · unfold readS at h
    rw [if_pos hf] at h
    exact absurd h hf
theorem fld_zero {d : RD} {f : RF} (h : f.e = 0) (t : Int) : d.fld f t = d.fld F0 t := by
  unfold RD.fld RD.idx
  rw [if_neg (by simp [h]), if_neg (by decide)]
theorem fld_bad {d : RD} {f : RF} (h : f.e ≠ 0) (t : Int) : d.fld f t = none := by
  unfold RD.fld RD.idx
  rw [if_pos h]
  simp
theorem fld_val {d : RD} (hg : d.good) {f : RF} (h : f.e = 0) {t : Int} {F : GF} (hF : d.fld f t = some F) : valOf (FF d) t = F.val d.bs ∧ F.val d.bs ≠ [] := by
  have := fld_live hg.shows t
  rw [← fld_zero h, hF] at this
  split at this
  · cases this
  · rename_i hn
    simp only [Option.map_some, Option.some.injEq] at this
    exact ⟨this.symm, by rw [this]; exact hn⟩
theorem fld_val0 {d : RD} (hg : d.good) {f : RF} (h : f.e = 0) {t : Int} (hF : d.fld f t = none) : valOf (FF d) t = [] := by
  have := fld_live hg.shows t
  rw [← fld_zero h, hF] at this
  split at this
  · assumption
  · cases this
/-- A number that was read. -/
theorem num_sound {d : RD} {f f' : RF} {t : Int} {above n : Nat} (hg : d.good) (h : numberS d f t above = (n, f')) (h0 : f'.e = 0) : f.e = 0 ∧ f' = f ∧ valOf (FF d) t = Nv n ∧ n ≤ above ∧ n < U64 := by
  by_cases hf : f.e = 0
  · unfold numberS at h
    rcases hF : d.fld f t with _ | F
    · rw [hF] at h
      cases h
      exact ⟨hf, rfl, by rw [fld_val0 hg hf hF]; rfl, Nat.zero_le _, by decide⟩
    · rw [hF] at h
      simp only at h
      split at h
      · cases h; exact (RF.wrong_e (by decide) h0).elim
      · split at h
        · cases h; exact (RF.wrong_e (by decide) h0).elim
        · rename_i h1 h2
          cases h
          obtain ⟨e1, e2⟩ := fld_val hg hf hF
          obtain ⟨v, hv⟩ : ∃ v, F.val d.bs = v := ⟨_, rfl⟩
          rw [hv] at h1 h2 e1 ⊢
          have hb : ∀ x ∈ v, x < 256 := by rw [← hv]; exact GF.val_bytes hg.ok.byte
          have hr : readShort v ((0 : Nat) : Int) = ((readShort v 0).1, (readShort v 0).2.1, 0) := by
            exact Prod.ext rfl (Prod.ext rfl (show (readShort v 0).2.2 = 0 by omega))
          have hs := readShort_short hr hb
          have hl : (readShort v 0).2.1 = v.length := by omega
          rw [hl] at hs
          simp at hs
          refine ⟨hf, rfl, ?_, by omega, readShort_lt hr⟩
          rw [e1, Nv, if_neg (by omega), hs]
  · unfold numberS at h
    rw [fld_bad hf] at h
    cases h
    exact absurd h0 hf
theorem raw_sound {d : RD} {f f' : RF} {t most : Int} {v : List Nat} (hg : d.good) (h : rawS d f t most = (v, f')) (h0 : f'.e = 0) : f.e = 0 ∧ f' = f ∧ valOf (FF d) t = v ∧ (v.length : Int) ≤ max most 0 ∧ ∀ x ∈ v, x < 256 := by
  by_cases hf : f.e = 0
  · unfold rawS at h
    rcases hF : d.fld f t with _ | F
    · rw [hF] at h
      cases h
      exact ⟨hf, rfl, fld_val0 hg hf hF, by simp; omega, fun x hx => by cases hx⟩
    · rw [hF] at h
      simp only at h
      split at h
      · cases h; exact (RF.wrong_e (by decide) h0).elim
      · rename_i h1
        cases h
        exact ⟨hf, rfl, (fld_val hg hf hF).1, by omega, GF.val_bytes hg.ok.byte⟩
  · unfold rawS at h
    rw [fld_bad hf] at h
    cases h
    exact absurd h0 hf
theorem it_sound {d : RD} {f : RF} {t most : Int} (hg : d.good) (h0 : (itS d f t most).2.2.e = 0) : f.e = 0 ∧ (itS d f t most).2.2 = f ∧ valOf (FF d) t = listAll (itVals d (itS d f t most)) ∧ ((itVals d (itS d f t most)).length : Int) ≤ max most 0 ∧ (∀ x ∈ itVals d (itS d f t most), ∀ y ∈ x, y < 256) ∧
    ((itS d f t most).1 = none → (itS d f t most).2.1 = []) := by
  by_cases hf : f.e = 0
  · unfold itS at h0 ⊢
    rcases hF : d.fld f t with _ | F
    · rw [hF] at h0
      exact ⟨hf, rfl, fld_val0 hg hf hF, by simp [itVals]; omega, (fun x hx => by simp [itVals] at hx), fun _ => rfl⟩
    · rw [hF] at h0
      simp only at h0 ⊢
      by_cases h1 : (itemsAll (F.val d.bs)).2.2 = 0
      · rw [if_neg (by simp [h1])] at h0 ⊢
        by_cases h2 : max most 0 < ((itemsAll (F.val d.bs)).1.length : Int)
        · rw [if_pos h2] at h0; exact (RF.wrong_e (by decide) h0).elim
        · rw [if_neg h2]
          have hb : ∀ x ∈ F.val d.bs, x < 256 := GF.val_bytes hg.ok.byte
          refine ⟨hf, rfl, ?_, ?_, ?_, fun h => by cases h⟩
          · rw [(fld_val hg hf hF).1]
            exact (itemsAll_form hb h1).2.symm
          · show ((List.map _ _).length : Int) ≤ _
            rw [List.length_map]; show ((itemsAll (F.val d.bs)).1.length : Int) ≤ _; omega
          · intro x hx
            obtain ⟨G, -, rfl⟩ := List.mem_map.1 hx
            exact GF.val_bytes hb
      · rw [if_pos h1] at h0; exact (RF.wrong_e h1 h0).elim
  · unfold itS at h0
    rw [fld_bad hf] at h0
    exact absurd h0 hf
/-- A list's items as numbers. -/
def intsL : List (List Nat) → Option (List Nat)
  | [] => some []
  | x :: r => if (readShort x 0).2.2 ≠ 0 ∨ (readShort x 0).2.1 ≠ x.length ∨ M50 < (readShort x 0).1 then none else (intsL r).map ((readShort x 0).1 :: ·)
theorem intsL_sound : ∀ (xs : List (List Nat)) (ns : List Nat), (∀ x ∈ xs, ∀ y ∈ x, y < 256) → intsL xs = some ns → xs = ns.map short ∧ ∀ n ∈ ns, n ≤ M50
  | [], ns, _, h => by cases h; exact ⟨rfl, fun n h => by cases h⟩
  | x :: r, ns, hb, h => by
    rw [intsL] at h
    split at h
    · cases h
    · rename_i h1
      rcases hr : intsL r with _ | ms
      · rw [hr] at h; cases h
      · rw [hr] at h
        simp only [Option.map_some, Option.some.injEq] at h
        subst h
        obtain ⟨i1, i2⟩ := intsL_sound r ms (fun x hx => hb x (List.mem_cons_of_mem _ hx)) hr
        have hrs : readShort x ((0 : Nat) : Int) = ((readShort x 0).1, (readShort x 0).2.1, 0) := by
          exact Prod.ext rfl (Prod.ext rfl (show (readShort x 0).2.2 = 0 by omega))
        have hs := readShort_short hrs (hb x (List.mem_cons_self ..))
        have hl : (readShort x 0).2.1 = x.length := by omega
        rw [hl] at hs
        simp at hs
        refine ⟨by rw [List.map_cons, hs, ← i1], fun n hn => ?_⟩
        rcases List.mem_cons.1 hn with rfl | hn
        · omega
        · exact i2 n hn
theorem readShort_all {n : Nat} (h : n < U64) : readShort (short n) 0 = (n, ((short n).length : Int), 0) := by
  have := readShort_of [] [] h
  simpa using this
theorem intsL_of : ∀ (ns : List Nat), (∀ n ∈ ns, n ≤ M50) → intsL (ns.map short) = some ns
  | [], _ => rfl
  | n :: r, h => by
    have hn := h n (List.mem_cons_self ..)
    rw [List.map_cons, intsL, readShort_all (by unfold U64; unfold M50 at hn; omega)]
    simp only
    rw [if_neg (by simp; exact hn), intsL_of r fun m hm => h m (List.mem_cons_of_mem _ hm)]
    rfl
/-- What ints answers of a list's items. -/
def IntsR (xs : List (List Nat)) (b : Bool) (ws : List Int) (b' : Bool) : Prop := (intsL xs = none ∧ ws = [] ∧ b' = true) ∨ ∃ ns, intsL xs = some ns ∧ ws = ns.map Int.ofNat ∧ b' = b
theorem IntsR.sound {xs : List (List Nat)} {b b' : Bool} {ws : List Int} (h : IntsR xs b ws b') (hb : ∀ x ∈ xs, ∀ y ∈ x, y < 256) (h0 : b' = false) : b = false ∧ xs = shs ws ∧ okL ws = true ∧ ws.length = xs.length := by
  rcases h with ⟨-, -, e⟩ | ⟨ns, h1, rfl, rfl⟩
  · rw [h0] at e; cases e
  · obtain ⟨e1, e2⟩ := intsL_sound xs ns hb h1
    refine ⟨h0, ?_, ?_, by rw [e1]; simp⟩
    · rw [e1, shs, List.map_map]; rfl
    · refine List.all_eq_true.2 fun z hz => ?_
      obtain ⟨n, hn, rfl⟩ := List.mem_map.1 hz
      have := e2 n hn
      unfold M50 at this
      exact okN_iff.2 ⟨by simp, by simp; omega⟩
theorem IntsR.of {b b' : Bool} {ws us : List Int} (h : IntsR (shs us) b ws b') (hu : okL us = true) : ws = us ∧ b' = b := by
  obtain ⟨ns, rfl, hn⟩ : ∃ ns : List Nat, us = ns.map Int.ofNat ∧ ∀ n ∈ ns, n ≤ M50 := by
    refine ⟨us.map Int.toNat, ?_, ?_⟩
    · rw [List.map_map]
      refine (List.map_id us).symm.trans (List.map_congr_left fun z hz => ?_)
      have := (okL_mem hu hz).1
      show z = ((z.toNat : Nat) : Int)
      omega
    · intro n hn
      obtain ⟨z, hz, rfl⟩ := List.mem_map.1 hn
      have := okL_mem hu hz
      unfold M50; omega
  have e : shs (ns.map Int.ofNat) = ns.map short := by rw [shs, List.map_map]; rfl
  rw [e] at h
  rcases h with ⟨h1, -, -⟩ | ⟨ms, h1, rfl, rfl⟩
  · rw [intsL_of ns hn] at h1; cases h1
  · rw [intsL_of ns hn] at h1; cases h1; exact ⟨rfl, rfl⟩
/-- Only fields of these tags are taken. -/
def Only (d : RD) (T : List Int) : Prop := ∀ j (h : j < d.fs.length), d.tk.getD j false = true → (d.fs[j].tag : Int) ∈ T
theorem Only.took {d : RD} {T : List Int} (h : Only d T) (f : RF) (t : Int) : Only (d.took f t) (t :: T) := by
  intro j hj hm
  have hj' : j < d.fs.length := hj
  show (d.fs[j].tag : Int) ∈ t :: T
  change (d.tk.set (d.idx f t) true).getD j false = true at hm
  rw [List.getD_eq_getElem?_getD, List.getElem?_set] at hm
  by_cases hx : d.idx f t = j
  · refine List.mem_cons.2 (.inl ?_)
    unfold RD.idx at hx
    split at hx
    · omega
    · subst hx; exact tagAt_is hj'
  · rw [if_neg hx] at hm
    exact List.mem_cons_of_mem _ (h j hj' (by rw [List.getD_eq_getElem?_getD]; exact hm))
theorem end_sound {d : RD} {f : RF} {T : List Int} (hO : Only d T) (hk : d.tk.length = d.fs.length) (h0 : (endS d f).e = 0) : f.e = 0 ∧ endS d f = f ∧ ∀ g ∈ FF d, g.1 ∈ T := by
  unfold endS at h0 ⊢
  by_cases hf : f.e = 0
  · rw [if_neg (by simp [hf])] at h0 ⊢
    rcases hF : d.fs[leftAt d.fs d.tk]? with _ | F
    · refine ⟨hf, rfl, fun g hg => ?_⟩
      obtain ⟨F, hm, rfl⟩ := List.mem_map.1 hg
      obtain ⟨j, hj, rfl⟩ := List.getElem_of_mem hm
      refine hO j hj ?_
      have hge := List.getElem?_eq_none_iff.1 hF
      have hjl : j < leftAt d.fs d.tk := by omega
      have := List.not_of_lt_findIdx hjl
      rw [List.getD_eq_getElem?_getD, List.getElem?_eq_getElem (by omega)]
      simpa using this
    · rw [hF] at h0
      exact (RF.wrong_e (by decide) h0).elim
  · rw [if_pos hf] at h0; exact absurd h0 hf
theorem live_tags : ∀ (T : List Int) (L : List Fd) (a : Int), Asc a L → (∀ f ∈ L, f.2 ≠ []) → (∀ f ∈ L, f.1 ∈ T) → T.Pairwise (· < ·) → live (T.map fun t => (t, valOf L t)) = L
  | [], L, a, _, _, hT, _ => by
    cases L with
    | nil => rfl
    | cons f r => exact absurd (hT f (List.mem_cons_self ..)) (by simp)
  | t :: T, [], a, _, _, _, hp => by
    have e : (t :: T).map (fun t => ((t, valOf [] t) : Fd)) = (t :: T).map fun t => (t, []) := rfl
    rw [e]
    unfold live
    rw [List.filter_eq_nil_iff]
    intro f hf
    obtain ⟨u, -, rfl⟩ := List.mem_map.1 hf
    simp
  | t :: T, (u, v) :: r, a, hA, hn, hT, hp => by
    have hv : v ≠ [] := hn (u, v) (List.mem_cons_self ..)
    obtain ⟨hp1, hp2⟩ := List.pairwise_cons.1 hp
    by_cases e : u = t
    · subst e
      rw [List.map_cons, valOf_yes rfl, live_cons u _ hv]
      congr 1
      have hc : T.map (fun t => ((t, valOf ((u, v) :: r) t) : Fd)) = T.map fun t => (t, valOf r t) := List.map_congr_left fun s hs => by
        rw [valOf_no (by have := hp1 s hs; omega)]
      rw [hc]
      exact live_tags T r u hA.2.2 (fun f hf => hn f (List.mem_cons_of_mem _ hf)) (fun f hf => by
        have h1 := hA.2.2.gt f hf
        rcases List.mem_cons.1 (hT f (List.mem_cons_of_mem _ hf)) with h2 | h2
        · simp only at h1; omega
        · exact h2) hp2
    · have hut : u ∈ T := by
        rcases List.mem_cons.1 (hT (u, v) (List.mem_cons_self ..)) with h2 | h2
        · exact absurd h2 e
        · exact h2
      have hlt := hp1 u hut
      have h0 : valOf ((u, v) :: r) t = [] := by
        rw [valOf_no e]
        exact valOf_absent fun f hf => by have := hA.2.2.gt f hf; simp only at this; omega
      rw [List.map_cons, h0, live_nil]
      refine live_tags T ((u, v) :: r) a hA hn (fun f hf => ?_) hp2
      rcases List.mem_cons.1 (hT f hf) with h2 | h2
      · rcases List.mem_cons.1 hf with rfl | hf
        · exact absurd h2 e
        · have := hA.2.2.gt f hf; simp only at this; omega
      · exact h2
end Go.Proofs.Ytahhecendjfenaa
end

section
/-
  proto: numbers, entry, contract, reply (may it be?).
-/
namespace Go.Proofs.Ytahhecendjfenaa
open Go.RowKit
set_option linter.unusedVariables false
set_option linter.unusedSimpArgs false
structure ER.at_ (w : World) (r : ER) : Prop where
  sl : Sl w 1 r.A r.n (r.ws.map iv)
  le : r.n ≤ 17592186043904
  cap : r.n ≤ r.c ∧ r.c ≤ 9223372036854775807
structure CR.at_ (w : World) (r : CR) : Prop where
  sl : Sl w 5 r.A r.n (r.es.flatMap ER.cells)
  le : r.n ≤ 2513169434843
  cap : r.n ≤ r.c ∧ r.c ≤ 9223372036854775807
  es : ∀ e ∈ r.es, e.at_ w
structure RR.at_ (w : World) (r : RR) : Prop where
  sl : Sl w 1 r.A r.n (r.items.map iv)
  le : r.n ≤ 17592186043904
  cap : r.n ≤ r.c ∧ r.c ≤ 9223372036854775807
  k : r.k.at_ w
theorem Sl.quiet {w w' : World} {s n : Nat} {A : Option Addr} {xs : List Value} (h : Sl w s A n xs) (hf : Fr (fun _ => False) w w') : Sl w' s A n xs := h.below hf fun _ _ => id
theorem ER.at_.quiet {w w' : World} {r : ER} (h : r.at_ w) (hf : Fr (fun _ => False) w w') : r.at_ w' := ⟨h.sl.quiet hf, h.le, h.cap⟩
theorem CR.at_.quiet {w w' : World} {r : CR} (h : r.at_ w) (hf : Fr (fun _ => False) w w') : r.at_ w' := ⟨h.sl.quiet hf, h.le, h.cap, fun e he => (h.es e he).quiet hf⟩
theorem RR.at_.quiet {w w' : World} {r : RR} (h : r.at_ w) (hf : Fr (fun _ => False) w w') : r.at_ w' := ⟨h.sl.quiet hf, h.le, h.cap, h.k.quiet hf⟩
theorem Sl.ilen {w : World} {A : Option Addr} {n : Nat} {xs : List Int} (h : Sl w 1 A n (xs.map iv)) : n = xs.length := by have := h.1; simpa using this.symm
theorem CR.at_.len {w : World} {r : CR} (h : r.at_ w) : r.n = r.es.length := by
  have := h.sl.1
  rw [rows_len ER.cells 5 ER.cells_len] at this
  omega
theorem CR.at_.row {w : World} {r : CR} (h : r.at_ w) {i : Nat} (hi : i < r.es.length) : ∃ b o, r.A = some ⟨b, o, none⟩ ∧ ∀ j u, (r.es[i].cells)[j]? = some u → w.cell? ⟨b, o + i * 5 + j, none⟩ = some u := by
  obtain ⟨b, o, hA, -⟩ := h.sl.at_ (j := i * 5 + 0) (u := .int .i64 r.es[i].acc) (by rw [rows_get ER.cells 5 ER.cells_len _ _ _ hi (by omega)]; rfl)
  refine ⟨b, o, hA, fun j u hu => ?_⟩
  have hj : j < 5 := by
    rcases Nat.lt_or_ge j 5 with h | h
    · exact h
    · rw [List.getElem?_eq_none (by rw [ER.cells_len]; exact h)] at hu; cases hu
  obtain ⟨b', o', hA', hc⟩ := h.sl.at_ (j := i * 5 + j) (u := u) (by rw [rows_get ER.cells 5 ER.cells_len _ _ _ hi hj]; exact hu)
  rw [hA] at hA'
  cases hA'
  rwa [← Nat.add_assoc] at hc

set_option maxHeartbeats 2000000 in
set_option maxRecDepth 4000 in
theorem numbers_any (w : World) (xs : List Int) (A : Option Addr) (n c : Nat) (hn : n ≤ 17592186043904) (hA : Sl w 1 A n (xs.map iv)) :
    Calls Try.prog 71 #[.slice A n c] w fun e w' => e = .returned (.bool (okL xs)) ∧ w = w' := by
  have Hn := hide (hA.ilen)
  have HA := hide hA
  clear hA
  go_enter Try.func71, Try.ntmps71
  go_wp2_with fail
  go_loopw [7] (fun vi wr => ∃ j : Nat, j ≤ n ∧ vi = .int .i64 (j : Int) ∧ Hid (okL xs = okL (xs.drop j)) ∧ Hid (wr = w)) (fun vi _ => n - (intOf vi).toNat)
  case atStart => exact ⟨0, Nat.zero_le _, rfl, rfl, rfl⟩
  case round =>
    obtain ⟨j, hj, rfl, hk, hw⟩ := hrel
    have hw2 := hw.out
    subst hw2
    by_cases hlt : j < n
    · have hjl : j < xs.length := by rw [← Hn.out]; exact hlt
      obtain ⟨z, hz⟩ : ∃ z, xs[j] = z := ⟨_, rfl⟩
      have hd : xs.drop j = z :: xs.drop (j + 1) := by rw [List.drop_eq_getElem_cons hjl, hz]
      obtain ⟨b, o, rfl, c0⟩ := HA.out.at_ (j := j) (u := .int .i64 z) (by rw [List.getElem?_map, List.getElem?_eq_getElem hjl, hz]; rfl)
      have i0 : (0 : Int) ≤ (j : Int) := by omega
      have i1 : (j : Int) < (n : Int) := by omega
      have q1 : IntKind.i64.wrap ((j : Int) + 1) = ((j + 1 : Nat) : Int) := by rw [IntWalk.i64_in _ (by omega)]; omega
      have Hd := hide hd
      have Hlt := hide hlt
      clear hz hd hjl hlt hj
      by_cases h1 : z < 0
      · have hf : Hid (okL xs = false) := by
          show _ = _
          rw [hk.out, Hd.out]
          have : okN z = false := by simp [okN]; omega
          simp [okL, this]
        go_wp2_with fail
        go_ret
        exact ⟨by rw [hf.out]; rfl, rfl⟩
      by_cases h2 : (1125899906842624 : Int) < z
      · have hf : Hid (okL xs = false) := by
          show _ = _
          rw [hk.out, Hd.out]
          have : okN z = false := by simp [okN]; omega
          simp [okL, this]
        go_wp2_with fail
        go_ret
        exact ⟨by rw [hf.out]; rfl, rfl⟩
      have hk2 : Hid (okL xs = okL (xs.drop (j + 1))) := by
        show _ = _
        rw [hk.out, Hd.out]
        have : okN z = true := by simp [okN]; omega
        simp [okL, this]
      have h3 : decide (z < 0) = false := decide_eq_false h1
      have h4 : decide ((1125899906842624 : Int) < z) = false := decide_eq_false h2
      clear h1 h2 hk
      go_wp2_with fail
      have := Hlt.out
      exact ⟨⟨j + 1, by omega, by first | rfl | go_num, hk2, trivial⟩, by simp [intOf]; try omega⟩
    · have hf : Hid (okL xs = true) := by
        show _ = _
        rw [hk.out, List.drop_eq_nil_of_le (by rw [← Hn.out]; omega)]; rfl
      obtain rfl : j = n := by omega
      clear hlt hj
      go_wp2_with fail
      go_ret
      exact ⟨by rw [hf.out]; rfl, rfl⟩
/-- numbers, of a row that is laid for the call. -/
theorem numbers_lit (w0 : World) (xs : List Int) (g n : Nat) (hg : g = w0.heap.size) (hn : n = xs.length) (hb : n ≤ 100) (cs : Array Value) (hc : cs.toList = xs.map iv) {b : Bool} (hr : okL xs = b) :
    Calls Try.prog 71 #[.slice (some ⟨g, 0, none⟩) n n] (w0.alloc (.cells cs 3)) fun e w' => e = .returned (.bool b) ∧ w0.alloc (.cells cs 3) = w' := by
  subst hg hr
  refine numbers_any _ xs _ n n (by omega) ?_
  rw [← hc]
  refine Sl.row w0 cs 3 1 n ?_
  rw [← Array.length_toList, hc, List.length_map, hn]; omega
set_option maxHeartbeats 2000000 in
set_option maxRecDepth 4000 in
theorem entry_any (w : World) (r : ER) (h : r.at_ w) :
    Calls Try.prog 83 #[.agg #[.int .i64 r.acc, .int .i64 r.item, .int .u64 (r.co : Int), .int .u64 (r.pr : Int), .slice r.A r.n r.c]] w fun e w' => e = .returned (.bool r.ok) ∧ Fr (fun _ => False) w w' := by
  obtain ⟨acc, item, co, pr, A, n, c, ws⟩ := r
  have hlen : n = ws.length := h.sl.ilen
  have hle : n ≤ 17592186043904 := h.le
  have hsl := hide h.sl
  simp only at hsl ⊢
  have hN2 : ∀ w1 : World, Fr (fun _ => False) w w1 → Calls Try.prog 71 #[.slice A n c] w1 fun e w' => e = .returned (.bool (okL ws)) ∧ w1 = w' := fun w1 hf => numbers_any w1 ws A n c hle (hsl.out.quiet hf)
  have HN2 := hide hN2
  have Hlen := hide hlen
  clear hN2 hlen h hsl
  cases h1 : okL [acc, item] with
  | false =>
    have hr : Hid (ER.ok ⟨acc, item, co, pr, A, n, c, ws⟩ = false) := by show ER.ok _ = _; simp [ER.ok, h1]
    have C1 := numbers_lit (w.alloc (.cells #[.int .i64 acc, .int .i64 item, .int .u64 (co : Int), .int .u64 (pr : Int), .slice A n c] 45)) [acc, item] (w.heap.size + 1) 2 (by simp) rfl (by omega) #[.int .i64 acc, .int .i64 item] rfl h1
    have HC1 := hide C1
    clear h1 C1
    go_enter Try.func83, Try.ntmps83
    go_wp2_with fail
    refine HC1.out.mono ?_
    rintro e w' ⟨rfl, rfl⟩
    go_wp2_with fail
    go_ret
    exact ⟨by rw [hr.out]; rfl, ((Fr.refl _ _).alloc _).alloc _⟩
  | true =>
    have C1 := numbers_lit (w.alloc (.cells #[.int .i64 acc, .int .i64 item, .int .u64 (co : Int), .int .u64 (pr : Int), .slice A n c] 45)) [acc, item] (w.heap.size + 1) 2 (by simp) rfl (by omega) #[.int .i64 acc, .int .i64 item] rfl h1
    have HC1 := hide C1
    have H1 := hide h1
    clear h1 C1
    by_cases h2 : 16 < n
    · have hr : Hid (ER.ok ⟨acc, item, co, pr, A, n, c, ws⟩ = false) := by
        have : decide (ws.length ≤ 16) = false := decide_eq_false (by have := Hlen.out; omega)
        show ER.ok _ = _; simp only [ER.ok, this, Bool.and_false, Bool.false_and]
      have i2 : decide ((n : Int) ≤ 16) = false := decide_eq_false (by omega)
      have i3 : decide (n ≤ 16) = false := decide_eq_false (by omega)
      clear h2
      go_enter Try.func83, Try.ntmps83
      go_wp2_with fail
      refine HC1.out.mono ?_
      rintro e w' ⟨rfl, rfl⟩
      go_wp2_with fail
      go_ret
      exact ⟨by rw [hr.out]; rfl, ((Fr.refl _ _).alloc _).alloc _⟩
    · have hr : Hid (ER.ok ⟨acc, item, co, pr, A, n, c, ws⟩ = okL ws) := by
        have : decide (ws.length ≤ 16) = true := decide_eq_true (by have := Hlen.out; omega)
        show ER.ok _ = _; simp only [ER.ok, this, H1.out, Bool.true_and]
      have i2 : decide ((n : Int) ≤ 16) = true := decide_eq_true (by omega)
      have i3 : decide (n ≤ 16) = true := decide_eq_true (by omega)
      clear h2
      go_enter Try.func83, Try.ntmps83
      go_wp2_with fail
      refine HC1.out.mono ?_
      rintro e w' ⟨rfl, rfl⟩
      go_wp2_with fail
      refine (HN2.out _ (((Fr.refl _ _).alloc _).alloc _)).mono ?_
      rintro e w' ⟨rfl, rfl⟩
      go_wp2_with fail
      all_goals go_ret
      all_goals exact ⟨by rw [hr.out]; rfl, ((Fr.refl _ _).alloc _).alloc _⟩
end Go.Proofs.Ytahhecendjfenaa
end
