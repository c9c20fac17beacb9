/-
  Texts merged into one, to keep the claim small: Pd1, PrC, PrD, PrE, PrF, PrG.
-/
import Derived.Test.YtlcjhbemgagchaaMr19
import Derived.Test.YtlcjhbemgagchaaMr10
import Derived.Test.YtlcjhbemgagchaaMr20
import Derived.Test.YtlcjhbemgagchaaMr12
import Derived.Test.YtlcjhbemgagchaaMr6
import Derived.Laws.Rows
section
/-
  proto: what is read of bytes, in plain lists: a record's fields read with care. No program in sight.
-/
namespace Go.Proofs.Ytlcjhbemgagchaa
set_option linter.unusedVariables false
set_option linter.unusedSimpArgs false
def M50 : Nat := 1125899906842624
/-- A record's fields. -/
def FF (d : RD) : List Fd := d.fs.map fun F => ((F.tag : Int), F.val d.bs)
structure RD.good (d : RD) : Prop where
  asc : Asc 0 (FF d)
  ne : ∀ f ∈ FF d, f.2 ≠ []
  ok : d.ok
theorem live_self {l : List Fd} (h : ∀ f ∈ l, f.2 ≠ []) : live l = l := List.filter_eq_self.2 fun f hf => by
  have := h f hf
  cases hv : f.2 with
  | nil => exact absurd hv this
  | cons x v => rfl
theorem RD.good.shows {d : RD} (h : d.good) : Shows d (FF d) := ⟨(live_self h.ne).symm, h.asc⟩
theorem RD.empty_good {b : Nat} (h : b ≤ 1048576) : (RD.empty b).good := ⟨trivial, (fun f hf => by cases hf), RD.empty_ok h⟩
theorem asc_of_scan : ∀ (l : List Fd) (a : Int), putScan a l = 0 → Asc a l ∧ ∀ f ∈ l, f.2 ≠ []
  | [], _, _ => ⟨trivial, fun f h => by cases h⟩
  | (t, v) :: r, a, h => by
    rw [putScan] at h
    split at h
    · simp at h
    · split at h
      · simp at h
      · rename_i h1 h2
        obtain ⟨i1, i2⟩ := asc_of_scan r t h
        refine ⟨⟨by show a < t; omega, by show t ≤ 255; omega, i1⟩, fun f hf => ?_⟩
        rcases List.mem_cons.1 hf with rfl | hf
        · intro e; exact h2 (by rw [show v = [] from e]; rfl)
        · exact i2 f hf
theorem putErr_scan {l : List Fd} (h : putErr l = 0) : putScan 0 l = 0 := by
  unfold putErr at h
  split at h
  · rename_i h1; exact absurd h h1
  · rename_i h1; exact Decidable.not_not.1 h1
/-- A fault is not taken back. -/
theorem RF.wrong_e {f : RF} {a e : Int} (he : e ≠ 0) (h : (f.wrong a e).e = 0) : False := by
  unfold RF.wrong at h
  split at h
  · exact he h
  · rename_i h1; exact h1 h
theorem readS_good {f : RF} {base : Nat} {bs : List Nat} (hb : ∀ x ∈ bs, x < 256) (hl : base ≤ 1048576) (h2 : base = 0 ∨ base + bs.length ≤ 1048576) (h : (readS f base bs).2.e = 0) :
    f.e = 0 ∧ (readS f base bs).2 = f ∧ (readS f base bs).1.good ∧ putAll (FF (readS f base bs).1) = bs := by
  have hok := readS_ok (f := f) hb hl h2
  by_cases hf : f.e = 0
  · unfold readS at h hok ⊢
    rw [if_neg (by simp [hf])] at h hok ⊢
    simp only at h hok ⊢
    by_cases h0 : (getAll bs).2.2 = 0
    · rw [if_neg (by simp [h0])] at h hok ⊢
      obtain ⟨g1, g2, -⟩ := getAll_form hb h0
      obtain ⟨a1, a2⟩ := asc_of_scan _ 0 (putErr_scan g2)
      exact ⟨hf, rfl, ⟨a1, a2, hok⟩, g1⟩
    · rw [if_pos h0] at h
      exact (RF.wrong_e h0 h).elim
  · unfold readS at h
    rw [if_pos hf] at h
    exact absurd h hf
theorem fld_zero {d : RD} {f : RF} (h : f.e = 0) (t : Int) : d.fld f t = d.fld F0 t := by
  unfold RD.fld RD.idx
  rw [if_neg (by simp [h]), if_neg (by decide)]
theorem fld_bad {d : RD} {f : RF} (h : f.e ≠ 0) (t : Int) : d.fld f t = none := by
  unfold RD.fld RD.idx
  rw [if_pos h]
  simp
theorem fld_val {d : RD} (hg : d.good) {f : RF} (h : f.e = 0) {t : Int} {F : GF} (hF : d.fld f t = some F) : valOf (FF d) t = F.val d.bs ∧ F.val d.bs ≠ [] := by
  have := fld_live hg.shows t
  rw [← fld_zero h, hF] at this
  split at this
  · cases this
  · rename_i hn
    simp only [Option.map_some, Option.some.injEq] at this
    exact ⟨this.symm, by rw [this]; exact hn⟩
theorem fld_val0 {d : RD} (hg : d.good) {f : RF} (h : f.e = 0) {t : Int} (hF : d.fld f t = none) : valOf (FF d) t = [] := by
  have := fld_live hg.shows t
  rw [← fld_zero h, hF] at this
  split at this
  · assumption
  · cases this
/-- A number that was read. -/
theorem num_sound {d : RD} {f f' : RF} {t : Int} {above n : Nat} (hg : d.good) (h : numberS d f t above = (n, f')) (h0 : f'.e = 0) : f.e = 0 ∧ f' = f ∧ valOf (FF d) t = Nv n ∧ n ≤ above ∧ n < U64 := by
  by_cases hf : f.e = 0
  · unfold numberS at h
    rcases hF : d.fld f t with _ | F
    · rw [hF] at h
      cases h
      exact ⟨hf, rfl, by rw [fld_val0 hg hf hF]; rfl, Nat.zero_le _, by decide⟩
    · rw [hF] at h
      simp only at h
      split at h
      · cases h; exact (RF.wrong_e (by decide) h0).elim
      · split at h
        · cases h; exact (RF.wrong_e (by decide) h0).elim
        · rename_i h1 h2
          cases h
          obtain ⟨e1, e2⟩ := fld_val hg hf hF
          obtain ⟨v, hv⟩ : ∃ v, F.val d.bs = v := ⟨_, rfl⟩
          rw [hv] at h1 h2 e1 ⊢
          have hb : ∀ x ∈ v, x < 256 := by rw [← hv]; exact GF.val_bytes hg.ok.byte
          have hr : readShort v ((0 : Nat) : Int) = ((readShort v 0).1, (readShort v 0).2.1, 0) := by
            exact Prod.ext rfl (Prod.ext rfl (show (readShort v 0).2.2 = 0 by omega))
          have hs := readShort_short hr hb
          have hl : (readShort v 0).2.1 = v.length := by omega
          rw [hl] at hs
          simp at hs
          refine ⟨hf, rfl, ?_, by omega, readShort_lt hr⟩
          rw [e1, Nv, if_neg (by omega), hs]
  · unfold numberS at h
    rw [fld_bad hf] at h
    cases h
    exact absurd h0 hf
theorem raw_sound {d : RD} {f f' : RF} {t most : Int} {v : List Nat} (hg : d.good) (h : rawS d f t most = (v, f')) (h0 : f'.e = 0) : f.e = 0 ∧ f' = f ∧ valOf (FF d) t = v ∧ (v.length : Int) ≤ max most 0 ∧ ∀ x ∈ v, x < 256 := by
  by_cases hf : f.e = 0
  · unfold rawS at h
    rcases hF : d.fld f t with _ | F
    · rw [hF] at h
      cases h
      exact ⟨hf, rfl, fld_val0 hg hf hF, by simp; omega, fun x hx => by cases hx⟩
    · rw [hF] at h
      simp only at h
      split at h
      · cases h; exact (RF.wrong_e (by decide) h0).elim
      · rename_i h1
        cases h
        exact ⟨hf, rfl, (fld_val hg hf hF).1, by omega, GF.val_bytes hg.ok.byte⟩
  · unfold rawS at h
    rw [fld_bad hf] at h
    cases h
    exact absurd h0 hf
theorem it_sound {d : RD} {f : RF} {t most : Int} (hg : d.good) (h0 : (itS d f t most).2.2.e = 0) : f.e = 0 ∧ (itS d f t most).2.2 = f ∧ valOf (FF d) t = listAll (itVals d (itS d f t most)) ∧ ((itVals d (itS d f t most)).length : Int) ≤ max most 0 ∧ (∀ x ∈ itVals d (itS d f t most), ∀ y ∈ x, y < 256) ∧
    ((itS d f t most).1 = none → (itS d f t most).2.1 = []) := by
  by_cases hf : f.e = 0
  · unfold itS at h0 ⊢
    rcases hF : d.fld f t with _ | F
    · rw [hF] at h0
      exact ⟨hf, rfl, fld_val0 hg hf hF, by simp [itVals]; omega, (fun x hx => by simp [itVals] at hx), fun _ => rfl⟩
    · rw [hF] at h0
      simp only at h0 ⊢
      by_cases h1 : (itemsAll (F.val d.bs)).2.2 = 0
      · rw [if_neg (by simp [h1])] at h0 ⊢
        by_cases h2 : max most 0 < ((itemsAll (F.val d.bs)).1.length : Int)
        · rw [if_pos h2] at h0; exact (RF.wrong_e (by decide) h0).elim
        · rw [if_neg h2]
          have hb : ∀ x ∈ F.val d.bs, x < 256 := GF.val_bytes hg.ok.byte
          refine ⟨hf, rfl, ?_, ?_, ?_, fun h => by cases h⟩
          · rw [(fld_val hg hf hF).1]
            exact (itemsAll_form hb h1).2.symm
          · show ((List.map _ _).length : Int) ≤ _
            rw [List.length_map]; show ((itemsAll (F.val d.bs)).1.length : Int) ≤ _; omega
          · intro x hx
            obtain ⟨G, -, rfl⟩ := List.mem_map.1 hx
            exact GF.val_bytes hb
      · rw [if_pos h1] at h0; exact (RF.wrong_e h1 h0).elim
  · unfold itS at h0
    rw [fld_bad hf] at h0
    exact absurd h0 hf
/-- A list's items as numbers. -/
def intsL : List (List Nat) → Option (List Nat)
  | [] => some []
  | x :: r => if (readShort x 0).2.2 ≠ 0 ∨ (readShort x 0).2.1 ≠ x.length ∨ M50 < (readShort x 0).1 then none else (intsL r).map ((readShort x 0).1 :: ·)
theorem intsL_sound : ∀ (xs : List (List Nat)) (ns : List Nat), (∀ x ∈ xs, ∀ y ∈ x, y < 256) → intsL xs = some ns → xs = ns.map short ∧ ∀ n ∈ ns, n ≤ M50
  | [], ns, _, h => by cases h; exact ⟨rfl, fun n h => by cases h⟩
  | x :: r, ns, hb, h => by
    rw [intsL] at h
    split at h
    · cases h
    · rename_i h1
      rcases hr : intsL r with _ | ms
      · rw [hr] at h; cases h
      · rw [hr] at h
        simp only [Option.map_some, Option.some.injEq] at h
        subst h
        obtain ⟨i1, i2⟩ := intsL_sound r ms (fun x hx => hb x (List.mem_cons_of_mem _ hx)) hr
        have hrs : readShort x ((0 : Nat) : Int) = ((readShort x 0).1, (readShort x 0).2.1, 0) := by
          exact Prod.ext rfl (Prod.ext rfl (show (readShort x 0).2.2 = 0 by omega))
        have hs := readShort_short hrs (hb x (List.mem_cons_self ..))
        have hl : (readShort x 0).2.1 = x.length := by omega
        rw [hl] at hs
        simp at hs
        refine ⟨by rw [List.map_cons, hs, ← i1], fun n hn => ?_⟩
        rcases List.mem_cons.1 hn with rfl | hn
        · omega
        · exact i2 n hn
theorem readShort_all {n : Nat} (h : n < U64) : readShort (short n) 0 = (n, ((short n).length : Int), 0) := by
  have := readShort_of [] [] h
  simpa using this
theorem intsL_of : ∀ (ns : List Nat), (∀ n ∈ ns, n ≤ M50) → intsL (ns.map short) = some ns
  | [], _ => rfl
  | n :: r, h => by
    have hn := h n (List.mem_cons_self ..)
    rw [List.map_cons, intsL, readShort_all (by unfold U64; unfold M50 at hn; omega)]
    simp only
    rw [if_neg (by simp; exact hn), intsL_of r fun m hm => h m (List.mem_cons_of_mem _ hm)]
    rfl
/-- What ints answers of a list's items. -/
def IntsR (xs : List (List Nat)) (b : Bool) (ws : List Int) (b' : Bool) : Prop := (intsL xs = none ∧ ws = [] ∧ b' = true) ∨ ∃ ns, intsL xs = some ns ∧ ws = ns.map Int.ofNat ∧ b' = b
theorem IntsR.sound {xs : List (List Nat)} {b b' : Bool} {ws : List Int} (h : IntsR xs b ws b') (hb : ∀ x ∈ xs, ∀ y ∈ x, y < 256) (h0 : b' = false) : b = false ∧ xs = shs ws ∧ okL ws = true ∧ ws.length = xs.length := by
  rcases h with ⟨-, -, e⟩ | ⟨ns, h1, rfl, rfl⟩
  · rw [h0] at e; cases e
  · obtain ⟨e1, e2⟩ := intsL_sound xs ns hb h1
    refine ⟨h0, ?_, ?_, by rw [e1]; simp⟩
    · rw [e1, shs, List.map_map]; rfl
    · refine List.all_eq_true.2 fun z hz => ?_
      obtain ⟨n, hn, rfl⟩ := List.mem_map.1 hz
      have := e2 n hn
      unfold M50 at this
      exact okN_iff.2 ⟨by simp, by simp; omega⟩
theorem IntsR.of {b b' : Bool} {ws us : List Int} (h : IntsR (shs us) b ws b') (hu : okL us = true) : ws = us ∧ b' = b := by
  obtain ⟨ns, rfl, hn⟩ : ∃ ns : List Nat, us = ns.map Int.ofNat ∧ ∀ n ∈ ns, n ≤ M50 := by
    refine ⟨us.map Int.toNat, ?_, ?_⟩
    · rw [List.map_map]
      refine (List.map_id us).symm.trans (List.map_congr_left fun z hz => ?_)
      have := (okL_mem hu hz).1
      show z = ((z.toNat : Nat) : Int)
      omega
    · intro n hn
      obtain ⟨z, hz, rfl⟩ := List.mem_map.1 hn
      have := okL_mem hu hz
      unfold M50; omega
  have e : shs (ns.map Int.ofNat) = ns.map short := by rw [shs, List.map_map]; rfl
  rw [e] at h
  rcases h with ⟨h1, -, -⟩ | ⟨ms, h1, rfl, rfl⟩
  · rw [intsL_of ns hn] at h1; cases h1
  · rw [intsL_of ns hn] at h1; cases h1; exact ⟨rfl, rfl⟩
/-- Only fields of these tags are taken. -/
def Only (d : RD) (T : List Int) : Prop := ∀ j (h : j < d.fs.length), d.tk.getD j false = true → (d.fs[j].tag : Int) ∈ T
theorem Only.took {d : RD} {T : List Int} (h : Only d T) (f : RF) (t : Int) : Only (d.took f t) (t :: T) := by
  intro j hj hm
  have hj' : j < d.fs.length := hj
  show (d.fs[j].tag : Int) ∈ t :: T
  change (d.tk.set (d.idx f t) true).getD j false = true at hm
  rw [List.getD_eq_getElem?_getD, List.getElem?_set] at hm
  by_cases hx : d.idx f t = j
  · refine List.mem_cons.2 (.inl ?_)
    unfold RD.idx at hx
    split at hx
    · omega
    · subst hx; exact tagAt_is hj'
  · rw [if_neg hx] at hm
    exact List.mem_cons_of_mem _ (h j hj' (by rw [List.getD_eq_getElem?_getD]; exact hm))
theorem end_sound {d : RD} {f : RF} {T : List Int} (hO : Only d T) (hk : d.tk.length = d.fs.length) (h0 : (endS d f).e = 0) : f.e = 0 ∧ endS d f = f ∧ ∀ g ∈ FF d, g.1 ∈ T := by
  unfold endS at h0 ⊢
  by_cases hf : f.e = 0
  · rw [if_neg (by simp [hf])] at h0 ⊢
    rcases hF : d.fs[leftAt d.fs d.tk]? with _ | F
    · refine ⟨hf, rfl, fun g hg => ?_⟩
      obtain ⟨F, hm, rfl⟩ := List.mem_map.1 hg
      obtain ⟨j, hj, rfl⟩ := List.getElem_of_mem hm
      refine hO j hj ?_
      have hge := List.getElem?_eq_none_iff.1 hF
      have hjl : j < leftAt d.fs d.tk := by omega
      have := List.not_of_lt_findIdx hjl
      rw [List.getD_eq_getElem?_getD, List.getElem?_eq_getElem (by omega)]
      simpa using this
    · rw [hF] at h0
      exact (RF.wrong_e (by decide) h0).elim
  · rw [if_pos hf] at h0; exact absurd h0 hf
theorem live_tags : ∀ (T : List Int) (L : List Fd) (a : Int), Asc a L → (∀ f ∈ L, f.2 ≠ []) → (∀ f ∈ L, f.1 ∈ T) → T.Pairwise (· < ·) → live (T.map fun t => (t, valOf L t)) = L
  | [], L, a, _, _, hT, _ => by
    cases L with
    | nil => rfl
    | cons f r => exact absurd (hT f (List.mem_cons_self ..)) (by simp)
  | t :: T, [], a, _, _, _, hp => by
    have e : (t :: T).map (fun t => ((t, valOf [] t) : Fd)) = (t :: T).map fun t => (t, []) := rfl
    rw [e]
    unfold live
    rw [List.filter_eq_nil_iff]
    intro f hf
    obtain ⟨u, -, rfl⟩ := List.mem_map.1 hf
    simp
  | t :: T, (u, v) :: r, a, hA, hn, hT, hp => by
    have hv : v ≠ [] := hn (u, v) (List.mem_cons_self ..)
    obtain ⟨hp1, hp2⟩ := List.pairwise_cons.1 hp
    by_cases e : u = t
    · subst e
      rw [List.map_cons, valOf_yes rfl, live_cons u _ hv]
      congr 1
      have hc : T.map (fun t => ((t, valOf ((u, v) :: r) t) : Fd)) = T.map fun t => (t, valOf r t) := List.map_congr_left fun s hs => by
        rw [valOf_no (by have := hp1 s hs; omega)]
      rw [hc]
      exact live_tags T r u hA.2.2 (fun f hf => hn f (List.mem_cons_of_mem _ hf)) (fun f hf => by
        have h1 := hA.2.2.gt f hf
        rcases List.mem_cons.1 (hT f (List.mem_cons_of_mem _ hf)) with h2 | h2
        · simp only at h1; omega
        · exact h2) hp2
    · have hut : u ∈ T := by
        rcases List.mem_cons.1 (hT (u, v) (List.mem_cons_self ..)) with h2 | h2
        · exact absurd h2 e
        · exact h2
      have hlt := hp1 u hut
      have h0 : valOf ((u, v) :: r) t = [] := by
        rw [valOf_no e]
        exact valOf_absent fun f hf => by have := hA.2.2.gt f hf; simp only at this; omega
      rw [List.map_cons, h0, live_nil]
      refine live_tags T ((u, v) :: r) a hA hn (fun f hf => ?_) hp2
      rcases List.mem_cons.1 (hT f hf) with h2 | h2
      · rcases List.mem_cons.1 hf with rfl | hf
        · exact absurd h2 e
        · have := hA.2.2.gt f hf; simp only at this; omega
      · exact h2
end Go.Proofs.Ytlcjhbemgagchaa
end

section
/-
  proto's law: ints, entry, same, num; lentInts, marked.
-/
namespace Go.Proofs.Ytlcjhbemgagchaa
open Go.RowKit
set_option linter.unusedVariables false
set_option linter.unusedSimpArgs false
theorem infoInt : (Try.prog.info? 3).map (fun i => (i.zero, i.size, i.bytes)) = some (some (.int .i64 0), 1, 8) := by kernel_rfl
theorem iv_one (xs : List Int) : ∀ u ∈ xs.map iv, u.oneCell' = true := by
  intro u hu
  obtain ⟨x, -, rfl⟩ := List.mem_map.1 hu
  rfl
/-- Two entries that are the same, wherever their wishes lie. -/
def ER.like (a b : ER) : Prop := a.acc = b.acc ∧ a.item = b.item ∧ a.co = b.co ∧ a.pr = b.pr ∧ a.ws = b.ws
/-- Numbers lent: in memory of their own, two marks behind them. -/
structure LI (W w : World) (A : Option Addr) (n c : Nat) (xs : List Int) (g : Nat) : Prop where
  ow : Ow w 3 1 A (n + 2) c ((xs ++ [-77, -78]).map iv) (some g)
  len : n = xs.length
  new : W.heap.size ≤ g
end Go.Proofs.Ytlcjhbemgagchaa
end

section
/-
  proto's law: lentEntry.
-/
namespace Go.Proofs.Ytlcjhbemgagchaa
open Go.RowKit
set_option linter.unusedVariables false
set_option linter.unusedSimpArgs false
abbrev tEnt : TypeId := 26
theorem LI.fr {W w w' : World} {A : Option Addr} {n c : Nat} {xs : List Int} {g : Nat} {S : Nat → Prop} (h : LI W w A n c xs g) (hf : Fr S w w') (hS : ¬ S g) : LI W w' A n c xs g :=
  ⟨h.ow.fr hf (fun b e hb => hS (by cases e; exact hb)), h.len, h.new⟩
theorem LI.sl {W w : World} {A : Option Addr} {n c : Nat} {xs : List Int} {g : Nat} (h : LI W w A n c xs g) : Sl w 1 A n (xs.map iv) := by
  have := (h.ow.take (k := n) (by omega)).sl
  rwa [Nat.mul_one, List.map_append, List.take_left' (by simp [h.len])] at this
theorem LI.cap {W w : World} {A : Option Addr} {n c : Nat} {xs : List Int} {g : Nat} (h : LI W w A n c xs g) : n ≤ c ∧ c ≤ 9223372036854775807 := by
  have := h.ow.cap
  exact ⟨by have := this.1; omega, by have := this.2; unfold maxLen at this; exact this⟩
end Go.Proofs.Ytlcjhbemgagchaa
end

section
/-
  proto's law: lentContract. (printed by pr_lent.py)
-/
namespace Go.Proofs.Ytlcjhbemgagchaa
open Go.RowKit
set_option linter.unusedVariables false
set_option linter.unusedSimpArgs false
def mk2 : List Value := [.int .i64 (-77), .int .i64 0, .int .u64 0, .int .u64 0, .slice none 0 0, .int .i64 (-78), .int .i64 0, .int .u64 0, .int .u64 0, .slice none 0 0]
/-- Entries lent: in memory of their own, each one's wishes too. -/
structure LEr (W w : World) (es : List ER) (L : Option Addr) (N cl : Nat) (rs : List ER) (g : Option Nat) (more : List Value) : Prop where
  le : rs.length ≤ es.length
  like : ∀ i (h : i < rs.length) (h' : i < es.length), (rs[i]).like es[i]
  ow : Ow w tEnt 5 L N cl (rs.flatMap ER.cells ++ more) g
  li : ∀ r ∈ rs, ∃ gi, LI W w r.A r.n r.c r.ws gi
  small : ∀ r ∈ rs, r.n ≤ 17592186043904
  new : ∀ b, g = some b → W.heap.size ≤ b
  fr : Fr (fun _ => False) W w
theorem LEr.begin {W w : World} (es : List ER) (hf : Fr (fun _ => False) W w) : LEr W w es none 0 0 [] none [] :=
  ⟨Nat.zero_le _, (fun i h => absurd h (by simp)), Ow.nil_ _ _ _, (fun r h => by cases h), (fun r h => by cases h), (fun b h => by cases h), hf⟩
theorem LI.ne {W w : World} {A : Option Addr} {n c : Nat} {xs : List Int} {gi : Nat} (h : LI W w A n c xs gi) {L : Option Addr} {N cl s : Nat} {ys : List Value} {g : Option Nat} (hO : Ow w tEnt s L N cl ys g) : ¬ some gi = g := fun e => by
  rw [← e] at hO
  exact Ow.ne hO h.ow (by decide) rfl
theorem LEr.quiet {W w w' : World} {es : List ER} {L : Option Addr} {N cl : Nat} {rs : List ER} {g : Option Nat} {more : List Value} (h : LEr W w es L N cl rs g more) (hf : Fr (fun _ => False) w w') : LEr W w' es L N cl rs g more :=
  ⟨h.le, h.like, h.ow.fr hf (fun _ _ => id), (fun r hr => by obtain ⟨gi, hi⟩ := h.li r hr; exact ⟨gi, hi.fr hf id⟩), h.small, h.new, h.fr.trans hf⟩
/-- One more. -/
theorem LEr.app {W w w2 w3 : World} {es : List ER} {L L3 : Option Addr} {j cl cl3 : Nat} {rs : List ER} {g g3 : Option Nat} (h : LEr W w es L j cl rs g []) (hj : j = rs.length) {r : ER} (hl : j < es.length) (hlike : r.like es[j]) (hf2 : Fr (fun _ => False) w w2) {gi : Nat} (hi : LI w w2 r.A r.n r.c r.ws gi) (hs : r.n ≤ 17592186043904)
    (hO : Ow w3 tEnt 5 L3 (j + 1) cl3 (rs.flatMap ER.cells ++ r.cells) g3) (hf23 : Fr (fun x => some x = g) w2 w3) (hg3 : g3 = g ∨ ∃ b, g3 = some b ∧ w2.heap.size ≤ b) : LEr W w3 es L3 (j + 1) cl3 (rs ++ [r]) g3 [] := by
  have s0 := h.fr.size
  have s2 := hf2.size
  have hO2 := h.ow.fr hf2 (fun _ _ => id)
  refine ⟨by rw [List.length_append]; show rs.length + 1 ≤ _; omega, fun i hi' h' => ?_, ?_, fun q hq => ?_, fun q hq => ?_, fun b e => ?_, ?_⟩
  · by_cases hij : i < rs.length
    · have e : (rs ++ [r])[i] = rs[i] := List.getElem_append_left hij
      rw [e]; exact h.like i hij h'
    · have hi2 : i = j := by have := hi'; rw [List.length_append] at this; have h1 : ([r] : List ER).length = 1 := rfl; omega
      subst hi2
      have e : (rs ++ [r])[i] = r := by rw [List.getElem_append_right (by omega)]; simp
      rw [e]; exact hlike
  · rw [List.flatMap_append, List.append_nil]
    have e : [r].flatMap ER.cells = r.cells := by simp
    rw [e]; exact hO
  · rcases List.mem_append.1 hq with hq | hq
    · obtain ⟨gq, hgq⟩ := h.li q hq
      exact ⟨gq, (hgq.fr hf2 id).fr hf23 ((hgq.fr hf2 id).ne hO2)⟩
    · have : q = r := by simpa using hq
      subst this
      have := hi.fr hf23 (hi.ne hO2)
      exact ⟨gi, this.ow, this.len, Nat.le_trans s0 this.new⟩
  · rcases List.mem_append.1 hq with hq | hq
    · exact h.small q hq
    · have : q = r := by simpa using hq
      subst this; exact hs
  · rcases hg3 with e3 | ⟨x, e3, hx⟩
    · exact h.new b (by rw [← e3]; exact e)
    · rw [e3] at e; cases e; omega
  · exact (h.fr.trans hf2).comp hf23 fun x hx e => by have := h.new x e.symm; omega
/-- Two blocks turn that stand ahead of all of these. -/
theorem LEr.turn {W W0 w w' : World} {es : List ER} {L : Option Addr} {N cl : Nat} {rs : List ER} {g : Option Nat} {more : List Value} {a : Nat} (hE : LEr W0 w es L N cl rs g more) (hf : Fr (fun x => x = a ∨ x = a + 1) w w') (ha : a + 1 < W0.heap.size) (hW : W.heap.size ≤ a) (hF : Fr (fun _ => False) W W0) : LEr W w' es L N cl rs g more :=
  ⟨hE.le, hE.like, hE.ow.fr hf (fun b e hb => by have := hE.new b e; omega), fun q hq => by
    obtain ⟨gq, hgq⟩ := hE.li q hq
    have hn := hgq.new
    have h1 := hgq.fr hf (by omega)
    exact ⟨gq, h1.ow, h1.len, by omega⟩, hE.small, fun b e => by have := hE.new b e; omega, (hF.trans hE.fr).comp hf fun x hx e => by omega⟩
theorem infoEnt : (Try.prog.info? tEnt).map (fun i => (i.zero, i.size, i.bytes)) = some (some (.agg #[.int .i64 0, .int .i64 0, .int .u64 0, .int .u64 0, .slice none 0 0]), 5, 56) := by kernel_rfl
end Go.Proofs.Ytlcjhbemgagchaa
end

section
/-
  proto's law: contract and reply, where both are the same; markedContract.
-/
namespace Go.Proofs.Ytlcjhbemgagchaa
open Go.RowKit
set_option linter.unusedVariables false
set_option linter.unusedSimpArgs false
theorem LEr.row {W w : World} {es : List ER} {L : Option Addr} {N cl : Nat} {rs : List ER} {g : Option Nat} {more : List Value} (h : LEr W w es L N cl rs g more) {i : Nat} (hi : i < rs.length) : ∃ b o, L = some ⟨b, o, none⟩ ∧ ∀ j u, (rs[i].cells)[j]? = some u → w.cell? ⟨b, o + i * 5 + j, none⟩ = some u := by
  have hat : ∀ j u, (rs[i].cells)[j]? = some u → (rs.flatMap ER.cells ++ more)[i * 5 + j]? = some u := fun j u hu => by
    have hj : j < 5 := by
      rcases Nat.lt_or_ge j 5 with h | h
      · exact h
      · rw [List.getElem?_eq_none (by rw [ER.cells_len]; exact h)] at hu; cases hu
    rw [List.getElem?_append_left (by rw [rows_len ER.cells 5 ER.cells_len]; omega), rows_get ER.cells 5 ER.cells_len _ _ _ hi hj]
    exact hu
  obtain ⟨b, o, hA, -, -⟩ := h.ow.look (hat 0 _ rfl)
  refine ⟨b, o, hA, fun j u hu => ?_⟩
  obtain ⟨b', o', hA', -, hc, -⟩ := h.ow.look (hat j u hu)
  rw [hA] at hA'
  cases hA'
  rwa [← Nat.add_assoc] at hc
theorem LEr.at_ {W w : World} {es : List ER} {L : Option Addr} {N cl : Nat} {rs : List ER} {g : Option Nat} {more : List Value} (h : LEr W w es L N cl rs g more) {r : ER} (hr : r ∈ rs) : r.at_ w := by
  obtain ⟨gi, hi⟩ := h.li r hr
  exact ⟨hi.sl, h.small r hr, hi.cap⟩
end Go.Proofs.Ytlcjhbemgagchaa
end

section
/-
  proto's law: contract and reply, where both are the same; markedContract. (printed by pr_like.py)
-/
namespace Go.Proofs.Ytlcjhbemgagchaa
open Go.RowKit
set_option linter.unusedVariables false
set_option linter.unusedSimpArgs false
abbrev tCon : TypeId := 29
abbrev tRep : TypeId := 35
structure CR.like (a b : CR) : Prop where
  num : a.num = b.num
  kind : a.kind = b.kind
  by_ : a.by_ = b.by_
  dl : a.dl = b.dl
  to_ : a.to_ = b.to_
  want : a.want = b.want
  pr : a.pr = b.pr
  rs : a.rs = b.rs
  st : a.st = b.st
  of_ : a.of_ = b.of_
  len : a.es.length = b.es.length
  es : ∀ i (h : i < a.es.length) (h' : i < b.es.length), (a.es[i]).like b.es[i]
/-- What is lent, as a contract. -/
def CR.lent (r : CR) (L : Option Addr) (cl : Nat) (rs : List ER) : CR := { r with A := L, c := cl, es := rs }
theorem LEr.con_like {W w : World} {r : CR} {L : Option Addr} {N cl : Nat} {rs : List ER} {g : Option Nat} {more : List Value} (h : LEr W w r.es L N cl rs g more) (hl : rs.length = r.es.length) : (r.lent L cl rs).like r :=
  ⟨rfl, rfl, rfl, rfl, rfl, rfl, rfl, rfl, rfl, rfl, hl, h.like⟩
theorem LEr.con_at {W w : World} {r : CR} {L : Option Addr} {cl : Nat} {rs : List ER} {g : Option Nat} {more : List Value} (h : LEr W w r.es L (r.n + 2) cl rs g more) (hl : rs.length = r.n) (hle : r.n ≤ 2513169434843) : (r.lent L cl rs).at_ w := by
  refine ⟨?_, hle, ?_, fun e he => h.at_ he⟩
  · have := (h.ow.take (k := r.n) (by omega)).sl
    rwa [List.take_left' (by rw [rows_len ER.cells 5 ER.cells_len, hl])] at this
  · have := h.ow.cap
    exact ⟨by have := this.1; show r.n ≤ cl; omega, by have := this.2; unfold maxLen at this; exact this⟩

structure RR.like (a b : RR) : Prop where
  id : a.id = b.id
  err : a.err = b.err
  num : a.num = b.num
  co : a.co = b.co
  items : a.items = b.items
  txt : a.txt = b.txt
  bits : a.bits = b.bits
  k : a.k.like b.k

theorem ER.like.ok {a b : ER} (h : a.like b) : a.ok = b.ok := by
  obtain ⟨h1, h2, h3, h4, h5⟩ := h
  unfold ER.ok; rw [h1, h2, h5]
theorem ER.like.form {a b : ER} (h : a.like b) : a.form = b.form := by
  obtain ⟨h1, h2, h3, h4, h5⟩ := h
  unfold ER.form ER.fl; rw [h1, h2, h3, h4, h5]
theorem CR.like.map {β : Type} {a b : CR} (h : a.like b) (f : ER → β) (hf : ∀ x y : ER, x.like y → f x = f y) : a.es.map f = b.es.map f :=
  List.ext_getElem (by simp [h.len]) fun i h1 h2 => by
    rw [List.getElem_map, List.getElem_map]
    exact hf _ _ (h.es i _ _)
theorem CR.like.ok {a b : CR} (h : a.like b) : a.ok = b.ok := by
  have e : ∀ l : List ER, l.all ER.ok = (l.map ER.ok).all (fun x => x) := fun l => by rw [List.all_map]; rfl
  unfold CR.ok CR.seven
  rw [e, e, h.map ER.ok (fun _ _ => ER.like.ok), h.len, h.num, h.kind, h.by_, h.dl, h.to_, h.want, h.of_]
theorem CR.like.form {a b : CR} (h : a.like b) : a.form = b.form := by
  unfold CR.form CR.fl
  rw [h.map ER.form (fun _ _ => ER.like.form), h.num, h.kind, h.by_, h.dl, h.to_, h.want, h.of_, h.pr, h.rs, h.st]
theorem CR.like.wf {a b : CR} (h : a.like b) (hb : b.wf) : a.wf := by
  refine ⟨by rw [h.pr]; exact hb.pr, by rw [h.rs]; exact hb.rs, by rw [h.st]; exact hb.st, fun e he => ?_⟩
  obtain ⟨i, hi, rfl⟩ := List.getElem_of_mem he
  have hi' : i < b.es.length := by rw [← h.len]; exact hi
  obtain ⟨h1, h2, h3, h4, h5⟩ := h.es i hi hi'
  have hw := hb.es _ (List.getElem_mem hi')
  exact ⟨by rw [h3]; exact hw.co, by rw [h4]; exact hw.pr⟩
theorem RR.like.ok {a b : RR} (h : a.like b) : a.ok = b.ok := by
  unfold RR.ok
  rw [h.id, h.err, h.num, h.items, h.txt, h.k.ok]
theorem RR.like.form {a b : RR} (h : a.like b) : a.form = b.form := by
  unfold RR.form RR.fl
  rw [h.id, h.err, h.num, h.co, h.items, h.txt, h.bits, h.k.form]
theorem RR.like.wf {a b : RR} (h : a.like b) (hb : b.wf) : a.wf := by
  refine ⟨by rw [h.co]; exact hb.co, by rw [h.bits]; exact hb.bits, h.k.wf hb.k, by rw [h.txt]; exact hb.txt⟩

end Go.Proofs.Ytlcjhbemgagchaa
end
