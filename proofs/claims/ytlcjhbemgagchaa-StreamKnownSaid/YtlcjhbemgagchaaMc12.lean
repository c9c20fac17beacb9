/-
  Texts merged into one, to keep the claim small: TlvU1, Pr1.
-/
import Derived.Test.YtlcjhbemgagchaaMc7
import Derived.Test.YtlcjhbemgagchaaMc10
import Derived.Test.YtlcjhbemgagchaaMc11
section
/-
  Records within records, there and back: what is written as a row of fields is read by a reader's calls. No program in sight.
-/
namespace Go.Proofs.Ytlcjhbemgagchaa
set_option linter.unusedVariables false
set_option linter.unusedSimpArgs false

abbrev Fd := Int × List Nat
def live (l : List Fd) : List Fd := l.filter fun f => !f.2.isEmpty
theorem live_nil (t : Int) (l : List Fd) : live ((t, []) :: l) = live l := rfl
theorem live_cons {v : List Nat} (t : Int) (l : List Fd) (h : v ≠ []) : live ((t, v) :: l) = (t, v) :: live l := by
  cases v with
  | nil => exact absurd rfl h
  | cons x v => rfl
def Asc : Int → List Fd → Prop
  | _, [] => True
  | a, f :: r => a < f.1 ∧ f.1 ≤ 255 ∧ Asc f.1 r
theorem Asc.mono {a b : Int} (hab : b ≤ a) : ∀ {l : List Fd}, Asc a l → Asc b l
  | [], _ => trivial
  | f :: r, h => ⟨by have := h.1; omega, h.2.1, h.2.2⟩
theorem Asc.gt {a : Int} : ∀ {l : List Fd}, Asc a l → ∀ f ∈ l, a < f.1
  | [], _, f, h => by cases h
  | g :: r, h, f, hf => by
    rcases List.mem_cons.1 hf with rfl | hf
    · exact h.1
    · have := Asc.gt h.2.2 f hf; have := h.1; omega
theorem Asc.live {a : Int} : ∀ {l : List Fd}, Asc a l → Asc a (live l)
  | [], _ => trivial
  | (t, []) :: r, h => by
    rw [live_nil]
    exact Asc.live (h.2.2.mono (by have := h.1; show a ≤ _; simp only at this ⊢; omega))
  | (t, x :: v) :: r, h => by
    rw [live_cons t r (by simp)]
    exact ⟨h.1, h.2.1, h.2.2.live⟩
theorem live_ne {l : List Fd} : ∀ f ∈ live l, f.2 ≠ [] := fun f hf e => by
  have := (List.mem_filter.1 hf).2
  rw [e] at this
  cases this
theorem asc_scan : ∀ (l : List Fd) (a : Int), Asc a l → (∀ f ∈ l, f.2 ≠ []) → putScan a l = 0
  | [], _, _, _ => rfl
  | (t, v) :: r, a, h, hn => by
    have hv : v ≠ [] := hn (t, v) (List.mem_cons_self ..)
    have h1 : a < t := h.1
    have h2 : t ≤ 255 := h.2.1
    rw [putScan, if_neg (by omega), if_neg (by intro e; exact hv (List.length_eq_zero_iff.1 e))]
    exact asc_scan r t h.2.2 fun f hf => hn f (List.mem_cons_of_mem _ hf)
theorem putAll_cons (f : Fd) (l : List Fd) : putAll (f :: l) = formF f.1.toNat f.2 ++ putAll l := rfl

def WS.puts (s : WS) (l : List Fd) : WS := l.foldl (fun s f => s.put f.1 f.2) s
theorem puts_live : ∀ (l : List Fd) (s : WS), s.e = 0 → Asc (s.last : Int) l → s.B.length + (putAll (live l)).length ≤ 1048576 → (s.puts l).B = s.B ++ putAll (live l) ∧ (s.puts l).e = 0
  | [], s, he, _, _ => ⟨by simp [WS.puts, live, putAll], he⟩
  | (t, []) :: r, s, he, ha, hl => by
    show ((s.put t []).puts r).B = _ ∧ ((s.put t []).puts r).e = 0
    rw [WS.put_nil, live_nil]
    exact puts_live r s he (ha.2.2.mono (by have := ha.1; simp only at this ⊢; omega)) (by rwa [live_nil] at hl)
  | (t, x :: v) :: r, s, he, ha, hl => by
    rw [live_cons t r (by simp)] at hl ⊢
    rw [putAll_cons, List.length_append] at hl
    have h1 : (s.last : Int) < t := ha.1
    have h2 : t ≤ 255 := ha.2.1
    have hp : s.put t (x :: v) = ⟨s.B ++ formF t.toNat (x :: v), t.toNat, 0⟩ := by
      have hf := formF_len t.toNat (x :: v)
      simp only at hl
      unfold WS.put
      rw [if_neg (by simp [he]), if_neg (by omega), if_neg (by omega)]
    obtain ⟨p1, p2⟩ := puts_live r ⟨s.B ++ formF t.toNat (x :: v), t.toNat, 0⟩ rfl (by
      refine ha.2.2.mono ?_
      simp only; omega) (by simp only [List.length_append]; simp only at hl; omega)
    show ((s.put t (x :: v)).puts r).B = _ ∧ ((s.put t (x :: v)).puts r).e = 0
    rw [hp]
    exact ⟨by rw [p1, putAll_cons, List.append_assoc], p2⟩
/-- A writer that is asked for these fields. -/
theorem puts_fresh {l : List Fd} (ha : Asc 0 l) (hl : (putAll (live l)).length ≤ 1048576) : (WS.fresh.puts l).B = putAll (live l) ∧ (WS.fresh.puts l).e = 0 := by
  have := puts_live l WS.fresh rfl ha (by simpa [WS.fresh] using hl)
  simpa [WS.fresh] using this
theorem live_err {l : List Fd} (ha : Asc 0 l) (hl : (putAll (live l)).length ≤ 1048576) : putErr (live l) = 0 := by
  unfold putErr
  rw [asc_scan _ 0 ha.live live_ne, if_neg (by simp), if_neg (by omega)]

/-- A reader's fields are these. -/
structure Shows (d : RD) (l : List Fd) : Prop where
  eq : d.fs.map (fun F => ((F.tag : Int), F.val d.bs)) = live l
  asc : Asc 0 l
def F0 : RF := ⟨0, 0⟩
theorem getAll_live {l : List Fd} (ha : Asc 0 l) (hl : (putAll (live l)).length ≤ 1048576) (hU : ∀ f ∈ l, f.2.length < U64) : (getAll (putAll (live l))).2 = (0, 0) ∧ (getAll (putAll (live l))).1.map (fun F => ((F.tag : Int), F.val (putAll (live l)))) = live l :=
  getAll_of (live_err ha hl) fun f hf => hU f (List.mem_filter.1 hf).1
theorem readS_live {l : List Fd} (ha : Asc 0 l) (hl : (putAll (live l)).length ≤ 1048576) (hU : ∀ f ∈ l, f.2.length < U64) (base : Nat) : Shows (readS F0 base (putAll (live l))).1 l ∧ (readS F0 base (putAll (live l))).2 = F0 := by
  obtain ⟨h1, h2⟩ := getAll_live ha hl hU
  unfold readS
  rw [if_neg (by decide)]
  simp only [h1]
  exact ⟨⟨h2, ha⟩, rfl⟩
theorem Shows.took {d : RD} {l : List Fd} (h : Shows d l) (f : RF) (t : Int) : Shows (d.took f t) l := ⟨h.eq, h.asc⟩

/-- The value of a tag. -/
def valOf : List Fd → Int → List Nat
  | [], _ => []
  | f :: r, t => if f.1 = t then f.2 else valOf r t
theorem valOf_yes {u t : Int} {v : List Nat} {r : List Fd} (h : u = t) : valOf ((u, v) :: r) t = v := by rw [valOf, if_pos h]
theorem valOf_no {u t : Int} {v : List Nat} {r : List Fd} (h : ¬ u = t) : valOf ((u, v) :: r) t = valOf r t := by rw [valOf, if_neg h]
theorem valOf_absent : ∀ {l : List Fd} {t : Int}, (∀ f ∈ l, f.1 ≠ t) → valOf l t = []
  | [], _, _ => rfl
  | f :: r, t, h => by rw [valOf, if_neg (h f (List.mem_cons_self ..))]; exact valOf_absent fun g hg => h g (List.mem_cons_of_mem _ hg)
theorem find_live : ∀ {l : List Fd} {a t : Int}, Asc a l → ((live l).find? fun f => decide (f.1 = t)) = if valOf l t = [] then none else some (t, valOf l t)
  | [], _, _, _ => rfl
  | (u, []) :: r, a, t, h => by
    rw [live_nil]
    by_cases e : u = t
    · subst e
      rw [valOf_yes rfl, if_pos rfl, find_live (t := u) h.2.2, valOf_absent fun f hf => by have := h.2.2.gt f hf; simp only at this; omega]; rfl
    · rw [valOf_no e]; exact find_live h.2.2
  | (u, x :: v) :: r, a, t, h => by
    rw [live_cons u r (by simp)]
    by_cases e : u = t
    · subst e
      rw [valOf_yes rfl, if_neg (by simp), List.find?_cons_of_pos (by simp)]
    · rw [valOf_no e, List.find?_cons_of_neg (by simpa using e)]
      exact find_live h.2.2
theorem fld_live {d : RD} {l : List Fd} (h : Shows d l) (t : Int) : (d.fld F0 t).map (fun F => F.val d.bs) = if valOf l t = [] then none else some (valOf l t) := by
  have h1 : d.fld F0 t = d.fs.find? fun F => decide ((F.tag : Int) = t) := by
    unfold RD.fld RD.idx
    rw [if_neg (by decide)]
    unfold tagAt
    rw [List.find?_eq_getElem?_findIdx]
  have h2 := find_live (t := t) h.asc
  rw [← h.eq, List.find?_map] at h2
  rw [h1]
  have h3 : (d.fs.find? ((fun f : Fd => decide (f.1 = t)) ∘ fun F => ((F.tag : Int), F.val d.bs))) = d.fs.find? fun F => decide ((F.tag : Int) = t) := rfl
  rw [h3] at h2
  cases hF : d.fs.find? fun F => decide ((F.tag : Int) = t) with
  | none => rw [hF] at h2; split at h2 <;> simp_all
  | some F =>
    rw [hF] at h2
    split at h2
    · cases h2
    · rename_i hne
      rw [if_neg hne]
      simp only [Option.map_some, Option.some.injEq, Prod.mk.injEq] at h2 ⊢
      exact h2.2
theorem fld_no {d : RD} {l : List Fd} (h : Shows d l) {t : Int} (hv : valOf l t = []) : d.fld F0 t = none := by
  have := fld_live h t
  rw [if_pos hv] at this
  simpa using this
theorem fld_is {d : RD} {l : List Fd} (h : Shows d l) {t : Int} {v : List Nat} (hv : valOf l t = v) (hn : v ≠ []) : ∃ F, d.fld F0 t = some F ∧ F.val d.bs = v := by
  have := fld_live h t
  rw [if_neg (by rw [hv]; exact hn), hv] at this
  simpa using this
/-- A number's value: none for 0. -/
def Nv (n : Nat) : List Nat := if n = 0 then [] else short n
theorem short_ne {n : Nat} (h : n < U64) : short n ≠ [] := fun e => by have := (short_le h).1; rw [e] at this; simp at this
theorem number_nv (s : WS) (t : Int) (n : Nat) : s.number t n = s.put t (Nv n) := by
  unfold WS.number Nv
  split
  · rw [WS.put_nil]
  · rfl
theorem numberS_of {d : RD} {l : List Fd} (h : Shows d l) {t : Int} {n above : Nat} (hv : valOf l t = Nv n) (hn : n < U64) (ha : n ≤ above) : numberS d F0 t above = (n, F0) := by
  unfold numberS
  by_cases h0 : n = 0
  · subst h0
    rw [fld_no h hv]
  · obtain ⟨F, h1, h2⟩ := fld_is h (t := t) (v := short n) (by rw [hv, Nv, if_neg h0]) (short_ne hn)
    rw [h1]
    simp only
    rw [h2]
    have h3 := readShort_of [] [] hn
    simp only [List.nil_append, List.append_nil, List.length_nil] at h3
    rw [show ((0 : Nat) : Int) = (0 : Int) from rfl] at h3
    rw [h3]
    simp only
    rw [if_neg (by simp; omega), if_neg (by omega)]
theorem rawS_of {d : RD} {l : List Fd} (h : Shows d l) {t most : Int} {v : List Nat} (hv : valOf l t = v) (hm : (v.length : Int) ≤ max most 0) : rawS d F0 t most = (v, F0) := by
  unfold rawS
  by_cases h0 : v = []
  · rw [fld_no h (by rw [hv, h0]), h0]
  · obtain ⟨F, h1, h2⟩ := fld_is h hv h0
    rw [h1]
    simp only
    rw [h2, if_neg (by omega)]
theorem listAll_nil_iff {xss : List (List Nat)} (hU : ∀ x ∈ xss, x.length < U64) : listAll xss = [] → xss = [] := fun h => by
  cases xss with
  | nil => rfl
  | cons v r =>
    have hsl := (short_le (hU v (List.mem_cons_self ..))).1
    have := congrArg List.length h
    simp only [listAll, List.flatMap_cons, List.length_append, List.length_nil] at this
    omega
theorem itS_of {d : RD} {l : List Fd} (h : Shows d l) {t most : Int} {xss : List (List Nat)} (hv : valOf l t = listAll xss) (hU : ∀ x ∈ xss, x.length < U64) (hm : (xss.length : Int) ≤ max most 0) : itVals d (itS d F0 t most) = xss ∧ (itS d F0 t most).2.2 = F0 := by
  unfold itS
  by_cases h0 : xss = []
  · subst h0
    rw [fld_no h hv]; exact ⟨rfl, rfl⟩
  · obtain ⟨F, h1, h2⟩ := fld_is h hv (fun e => h0 (listAll_nil_iff hU e))
    obtain ⟨h3, h4⟩ := itemsAll_of h0 hU
    rw [h1]
    simp only
    rw [h2, h3]
    have h5 : (itemsAll (listAll xss)).1.length = xss.length := by have := congrArg List.length h4; simpa using this
    rw [if_neg (by decide), if_neg (by omega)]
    refine ⟨?_, rfl⟩
    unfold itVals
    simp only
    rw [h2]
    exact h4
theorem recordS_of {d : RD} {l : List Fd} (h : Shows d l) {t : Int} {v : List Nat} (hv : valOf l t = v) (hn : v ≠ []) : ∃ base, recordS d F0 t = readS F0 base v := by
  obtain ⟨F, h1, h2⟩ := fld_is h hv hn
  refine ⟨d.base + F.from_, ?_⟩
  unfold recordS
  rw [h1]
  simp only
  rw [h2]
theorem recordsS_of {d : RD} {l k : List Fd} (h : Shows d l) {t : Int} (ha : Asc 0 k) (hl : (putAll (live k)).length ≤ 1048576) (hk : ∀ f ∈ k, f.2.length < U64) (hv : valOf l t = listAll [putAll (live k), putAll (live k)]) :
    ∃ d1 d2, recordsS d F0 t 2 = ([d1, d2], F0) ∧ Shows d1 k ∧ Shows d2 k := by
  have hU : ∀ x ∈ [putAll (live k), putAll (live k)], x.length < U64 := fun x hx => by
    have : x = putAll (live k) := by simpa using hx
    subst this; unfold U64; omega
  obtain ⟨F, h1, h2⟩ := fld_is h hv (fun e => by cases listAll_nil_iff hU e)
  obtain ⟨h3, h4⟩ := itemsAll_of (by simp) hU
  have h5 : (itemsAll (listAll [putAll (live k), putAll (live k)])).1.length = 2 := by have := congrArg List.length h4; simpa using this
  have hit : itS d F0 t 2 = (some F, (itemsAll (listAll [putAll (live k), putAll (live k)])).1, F0) := by
    unfold itS
    rw [h1]
    simp only
    rw [h2, h3, if_neg (by decide), if_neg (by rw [h5]; decide)]
  unfold recordsS
  rw [hit]
  simp only
  rw [h2]
  match hg : (itemsAll (listAll [putAll (live k), putAll (live k)])).1, h5 with
  | [G1, G2], _ =>
    rw [hg] at h4
    simp only [List.map_cons, List.map_nil, List.cons.injEq, and_true] at h4
    obtain ⟨r1, r2⟩ := readS_live ha hl hk (d.base + F.from_ + G1.from_)
    obtain ⟨r3, r4⟩ := readS_live ha hl hk (d.base + F.from_ + G2.from_)
    have hrs : readersS F0 (d.base + F.from_) (listAll [putAll (live k), putAll (live k)]) [G1, G2] = ([(readS F0 (d.base + F.from_ + G1.from_) (putAll (live k))).1, (readS F0 (d.base + F.from_ + G2.from_) (putAll (live k))).1], F0) := by
      simp only [readersS]
      rw [h4.1, h4.2, r2, r4]
    rw [hrs, if_neg (by simp [F0])]
    exact ⟨_, _, rfl, r1, r3⟩
/-- These tags' fields were taken. -/
def Taken (d : RD) (T : List Int) : Prop := ∀ j (h : j < d.fs.length), (d.fs[j].tag : Int) ∈ T → d.tk.getD j false = true
theorem Taken.nil_ (d : RD) : Taken d [] := fun j h hm => by cases hm
theorem Shows.uniq {d : RD} {l : List Fd} (h : Shows d l) {i j : Nat} (hi : i < d.fs.length) (hj : j < d.fs.length) (he : d.fs[i].tag = d.fs[j].tag) : i = j := by
  have hp : (live l).Pairwise fun x y => x.1 < y.1 := by
    have : ∀ {l : List Fd} {a : Int}, Asc a l → l.Pairwise fun x y => x.1 < y.1 := by
      intro l
      induction l with
      | nil => intro a _; exact List.Pairwise.nil
      | cons f r ih => intro a ha; exact List.Pairwise.cons (fun g hg => ha.2.2.gt g hg) (ih ha.2.2)
    exact this h.asc.live
  rw [← h.eq] at hp
  rw [List.pairwise_map] at hp
  rcases Nat.lt_trichotomy i j with hl | hl | hl
  · have := List.pairwise_iff_getElem.1 hp i j hi hj hl; simp only at this; omega
  · exact hl
  · have := List.pairwise_iff_getElem.1 hp j i hj hi hl; simp only at this; omega
theorem Taken.took {d : RD} {l : List Fd} {T : List Int} (h : Taken d T) (hs : Shows d l) (hk : d.tk.length = d.fs.length) (t : Int) : Taken (d.took F0 t) (t :: T) := by
  intro j hj hm
  have hj' : j < d.fs.length := hj
  have hjt : j < d.tk.length := by omega
  show (d.tk.set (d.idx F0 t) true).getD j false = true
  rw [List.getD_eq_getElem?_getD, List.getElem?_set]
  rcases List.mem_cons.1 hm with e | hm
  · have hx : d.idx F0 t = j := by
      unfold RD.idx
      rw [if_neg (by decide)]
      refine tagAt_first hj' (fun i hi ei => ?_) e
      have e3 : (d.fs[j].tag : Int) = t := e
      have := hs.uniq (i := i) (j := j) (by omega) hj' (by omega)
      omega
    rw [if_pos hx, if_pos (by omega)]; rfl
  · by_cases hx : d.idx F0 t = j
    · rw [if_pos hx, if_pos (by omega)]; rfl
    · rw [if_neg hx]
      have := h j hj' hm
      rwa [List.getD_eq_getElem?_getD] at this
theorem took_tk {d : RD} (hk : d.tk.length = d.fs.length) (t : Int) : (d.took F0 t).tk.length = (d.took F0 t).fs.length := by
  show (d.tk.set _ _).length = d.fs.length
  rw [List.length_set]; exact hk
theorem endS_of {d : RD} {l : List Fd} {T : List Int} (hs : Shows d l) (ho : d.ok) (h : Taken d T) (hT : ∀ f ∈ l, f.1 ∈ T) : endS d F0 = F0 := by
  unfold endS
  rw [if_neg (by decide), leftAt_none ho]
  intro j hj
  refine h j hj (hT ((d.fs[j].tag : Int), d.fs[j].val d.bs) ?_ )
  have hm : ((d.fs[j].tag : Int), d.fs[j].val d.bs) ∈ live l := by
    rw [← hs.eq]
    exact List.mem_map.2 ⟨d.fs[j], List.getElem_mem _, rfl⟩
  exact (List.mem_filter.1 hm).1
theorem putAll_live_le : ∀ (l : List Fd), (∀ f ∈ l, f.2.length < U64) → (putAll (live l)).length ≤ (l.map fun f => f.2.length + 11).sum
  | [], _ => by simp [live, putAll]
  | (t, []) :: r, h => by
    rw [live_nil]
    have := putAll_live_le r fun f hf => h f (List.mem_cons_of_mem _ hf)
    simp only [List.map_cons, List.sum_cons]; omega
  | (t, x :: v) :: r, h => by
    rw [live_cons t r (by simp), putAll_cons]
    have := putAll_live_le r fun f hf => h f (List.mem_cons_of_mem _ hf)
    have h1 := (short_le (h (t, x :: v) (List.mem_cons_self ..))).2
    have h2 := formF_len t.toNat (x :: v)
    simp only [List.map_cons, List.sum_cons, List.length_append]
    simp only at h1 h2
    omega
theorem Nv_le {n : Nat} (h : n < U64) : (Nv n).length ≤ 10 := by
  unfold Nv
  split
  · simp
  · exact (short_le h).2
end Go.Proofs.Ytlcjhbemgagchaa
end

section
/-
  proto: entries, contracts, replies as rows of fields. No program in sight.
-/
namespace Go.Proofs.Ytlcjhbemgagchaa
set_option linter.unusedVariables false
set_option linter.unusedSimpArgs false
def iv (z : Int) : Value := .int .i64 z
def okN (n : Int) : Bool := decide (0 ≤ n) && decide (n ≤ 1125899906842624)
def okL (l : List Int) : Bool := l.all okN
theorem okN_iff {n : Int} : okN n = true ↔ 0 ≤ n ∧ n ≤ 1125899906842624 := by simp [okN]
theorem okL_mem {l : List Int} (h : okL l = true) {n : Int} (hn : n ∈ l) : 0 ≤ n ∧ n ≤ 1125899906842624 := okN_iff.1 (List.all_eq_true.1 h n hn)
/-- An entry, and where its wishes lie. -/
structure ER where
  acc : Int
  item : Int
  co : Nat
  pr : Nat
  A : Option Addr
  n : Nat
  c : Nat
  ws : List Int
def ER.cells (r : ER) : List Value := [.int .i64 r.acc, .int .i64 r.item, .int .u64 (r.co : Int), .int .u64 (r.pr : Int), .slice r.A r.n r.c]
theorem ER.cells_len (r : ER) : r.cells.length = 5 := rfl
def ER.ok (r : ER) : Bool := okL [r.acc, r.item] && decide (r.ws.length ≤ 16) && okL r.ws
def shs (l : List Int) : List (List Nat) := l.map fun n => short n.toNat
def ER.fl (r : ER) : List Fd := [(5, Nv r.co), (6, Nv r.item.toNat), (10, Nv r.pr), (11, listAll (shs r.ws)), (22, Nv r.acc.toNat)]
def ER.form (r : ER) : List Nat := putAll (live r.fl)
/-- A contract, and where its entries lie. -/
structure CR where
  num : Int
  kind : Int
  by_ : Int
  dl : Int
  to_ : Int
  want : Int
  pr : Nat
  rs : Nat
  st : Nat
  of_ : Int
  A : Option Addr
  n : Nat
  c : Nat
  es : List ER
def CR.cells (r : CR) : List Value := [.int .i64 r.num, .int .i64 r.kind, .int .i64 r.by_, .int .i64 r.dl, .int .i64 r.to_, .int .i64 r.want, .int .u64 (r.pr : Int), .int .u64 (r.rs : Int), .int .u64 (r.st : Int), .int .i64 r.of_, .slice r.A r.n r.c]
def CR.seven (r : CR) : List Int := [r.num, r.kind, r.by_, r.dl, r.to_, r.want, r.of_]
def CR.ok (r : CR) : Bool := decide (r.es.length ≤ 16) && r.es.all ER.ok && okL r.seven
def CR.fl (r : CR) : List Fd := [(2, Nv r.kind.toNat), (4, Nv r.to_.toNat), (7, Nv r.num.toNat), (8, Nv r.of_.toNat), (10, Nv r.pr), (13, Nv r.dl.toNat), (14, Nv r.want.toNat), (15, Nv r.rs), (16, Nv r.st), (20, Nv r.by_.toNat), (21, listAll (r.es.map ER.form))]
def CR.form (r : CR) : List Nat := putAll (live r.fl)
/-- A reply. -/
structure RR where
  id : Int
  err : Int
  num : Int
  co : Nat
  A : Option Addr
  n : Nat
  c : Nat
  items : List Int
  txt : List Nat
  bits : Nat
  k : CR
def RR.ok (r : RR) : Bool := decide (0 ≤ r.id) && decide (r.id ≤ 4294967295) && decide (0 ≤ r.err) && decide (r.err ≤ 999) && decide (r.txt.length ≤ 128) && okL [r.num] && decide (r.items.length ≤ 512) && okL r.items && r.k.ok
def RR.fl (r : RR) : List Fd := [(1, Nv r.id.toNat), (3, r.txt), (5, Nv r.co), (7, Nv r.num.toNat), (12, r.k.form), (17, Nv r.err.toNat), (18, listAll (shs r.items)), (19, Nv r.bits)]
def RR.form (r : RR) : List Nat := putAll (live r.fl)
theorem ER.asc (r : ER) : Asc 0 r.fl := by simp [ER.fl, Asc]
theorem CR.asc (r : CR) : Asc 0 r.fl := by simp [CR.fl, Asc]
theorem RR.asc (r : RR) : Asc 0 r.fl := by simp [RR.fl, Asc]
/-- The numbers are those of 64 bits. -/
structure ER.wf (r : ER) : Prop where
  co : r.co < U64
  pr : r.pr < U64
structure CR.wf (r : CR) : Prop where
  pr : r.pr < U64
  rs : r.rs < U64
  st : r.st < U64
  es : ∀ e ∈ r.es, e.wf
structure RR.wf (r : RR) : Prop where
  co : r.co < U64
  bits : r.bits < 4294967296
  k : r.k.wf
  txt : ∀ x ∈ r.txt, x < 256
theorem toNat_U {n : Int} (h : 0 ≤ n ∧ n ≤ 1125899906842624) : n.toNat < U64 := by unfold U64; omega
theorem listAll_len {M : Nat} : ∀ (l : List (List Nat)), (∀ x ∈ l, x.length ≤ M) → M < U64 → (listAll l).length ≤ l.length * (10 + M)
  | [], _, _ => by simp [listAll]
  | v :: r, h, hM => by
    have ih := listAll_len r (fun x hx => h x (List.mem_cons_of_mem _ hx)) hM
    have h1 := h v (List.mem_cons_self ..)
    have h2 := (short_le (n := v.length) (by omega)).2
    have e : listAll (v :: r) = short v.length ++ (v ++ listAll r) := by simp [listAll]
    rw [e]
    simp only [List.length_append, List.length_cons, Nat.add_mul, Nat.one_mul]
    omega
theorem shs_len {l : List Int} (h : okL l = true) : ∀ x ∈ shs l, x.length ≤ 10 := fun x hx => by
  obtain ⟨n, hn, rfl⟩ := List.mem_map.1 hx
  exact (short_le (toNat_U (okL_mem h hn))).2
theorem shsAll_len {l : List Int} (h : okL l = true) : (listAll (shs l)).length ≤ l.length * 20 := by
  have := listAll_len (M := 10) (shs l) (shs_len h) (by unfold U64; omega)
  rw [show (shs l).length = l.length from List.length_map _] at this
  omega
theorem ER.ok_split {r : ER} (h : r.ok = true) : okL [r.acc, r.item] = true ∧ r.ws.length ≤ 16 ∧ okL r.ws = true := by
  unfold ER.ok at h
  simp only [Bool.and_eq_true, decide_eq_true_eq] at h
  exact ⟨h.1.1, h.1.2, h.2⟩
theorem ER.len {r : ER} (h : r.ok = true) (hw : r.wf) : r.form.length ≤ 1000 ∧ ∀ f ∈ r.fl, f.2.length ≤ 1000 := by
  obtain ⟨h1, h2, h3⟩ := ER.ok_split h
  have a1 := okL_mem h1 (n := r.acc) (by simp)
  have a2 := okL_mem h1 (n := r.item) (by simp)
  have l1 := Nv_le hw.co
  have l2 := Nv_le (toNat_U a2)
  have l3 := Nv_le hw.pr
  have l4 := shsAll_len h3
  have l5 := Nv_le (toNat_U a1)
  have hl : ∀ f ∈ r.fl, f.2.length ≤ 1000 := by
    intro f hf
    simp only [ER.fl, List.mem_cons, List.mem_nil_iff, or_false] at hf
    rcases hf with rfl | rfl | rfl | rfl | rfl <;> simp only <;> omega
  refine ⟨?_, hl⟩
  have hp := putAll_live_le r.fl fun f hf => by have := hl f hf; unfold U64; omega
  have e : (r.fl.map fun f : Fd => f.2.length + 11).sum = (Nv r.co).length + 11 + ((Nv r.item.toNat).length + 11 + ((Nv r.pr).length + 11 + ((listAll (shs r.ws)).length + 11 + ((Nv r.acc.toNat).length + 11 + 0)))) := rfl
  unfold ER.form; omega
theorem CR.ok_split {r : CR} (h : r.ok = true) : r.es.length ≤ 16 ∧ (∀ e ∈ r.es, e.ok = true) ∧ okL r.seven = true := by
  unfold CR.ok at h
  simp only [Bool.and_eq_true, decide_eq_true_eq] at h
  exact ⟨h.1.1, List.all_eq_true.1 h.1.2, h.2⟩
theorem CR.forms_len {r : CR} (h : r.ok = true) (hw : r.wf) : (listAll (r.es.map ER.form)).length ≤ 16160 ∧ ∀ x ∈ r.es.map ER.form, x.length ≤ 1000 := by
  obtain ⟨h1, h2, h3⟩ := CR.ok_split h
  have hx : ∀ x ∈ r.es.map ER.form, x.length ≤ 1000 := fun x hx => by
    obtain ⟨e, he, rfl⟩ := List.mem_map.1 hx
    exact (ER.len (h2 e he) (hw.es e he)).1
  have l1 := listAll_len (M := 1000) _ hx (by unfold U64; omega)
  rw [List.length_map] at l1
  exact ⟨by omega, hx⟩
theorem CR.len {r : CR} (h : r.ok = true) (hw : r.wf) : r.form.length ≤ 20000 ∧ ∀ f ∈ r.fl, f.2.length ≤ 20000 := by
  obtain ⟨h1, h2, h3⟩ := CR.ok_split h
  have l11 := (CR.forms_len h hw).1
  have a : ∀ z ∈ r.seven, (Nv z.toNat).length ≤ 10 := fun z hz => Nv_le (toNat_U (okL_mem h3 hz))
  have l1 := a r.kind (by simp [CR.seven])
  have l2 := a r.to_ (by simp [CR.seven])
  have l3 := a r.num (by simp [CR.seven])
  have l4 := a r.of_ (by simp [CR.seven])
  have l6 := a r.dl (by simp [CR.seven])
  have l7 := a r.want (by simp [CR.seven])
  have l10 := a r.by_ (by simp [CR.seven])
  have l5 := Nv_le hw.pr
  have l8 := Nv_le hw.rs
  have l9 := Nv_le hw.st
  have hl : ∀ f ∈ r.fl, f.2.length ≤ 20000 := by
    intro f hf
    simp only [CR.fl, List.mem_cons, List.mem_nil_iff, or_false] at hf
    rcases hf with rfl | rfl | rfl | rfl | rfl | rfl | rfl | rfl | rfl | rfl | rfl <;> simp only <;> omega
  refine ⟨?_, hl⟩
  have hp := putAll_live_le r.fl fun f hf => by have := hl f hf; unfold U64; omega
  have e : (r.fl.map fun f : Fd => f.2.length + 11).sum = (Nv r.kind.toNat).length + 11 + ((Nv r.to_.toNat).length + 11 + ((Nv r.num.toNat).length + 11 + ((Nv r.of_.toNat).length + 11 + ((Nv r.pr).length + 11 + ((Nv r.dl.toNat).length + 11 + ((Nv r.want.toNat).length + 11 + ((Nv r.rs).length + 11 + ((Nv r.st).length + 11 + ((Nv r.by_.toNat).length + 11 + ((listAll (r.es.map ER.form)).length + 11 + 0)))))))))) := rfl
  unfold CR.form; omega
theorem RR.ok_split {r : RR} (h : r.ok = true) : (0 ≤ r.id ∧ r.id ≤ 4294967295) ∧ (0 ≤ r.err ∧ r.err ≤ 999) ∧ r.txt.length ≤ 128 ∧ okL [r.num] = true ∧ r.items.length ≤ 512 ∧ okL r.items = true ∧ r.k.ok = true := by
  unfold RR.ok at h
  simp only [Bool.and_eq_true, decide_eq_true_eq] at h
  obtain ⟨⟨⟨⟨⟨⟨⟨⟨a, b⟩, c⟩, d⟩, e⟩, f⟩, g⟩, i⟩, j⟩ := h
  exact ⟨⟨a, b⟩, ⟨c, d⟩, e, f, g, i, j⟩
theorem RR.len {r : RR} (h : r.ok = true) (hw : r.wf) : r.form.length ≤ 40000 ∧ ∀ f ∈ r.fl, f.2.length ≤ 40000 := by
  obtain ⟨h1, h2, h3, h4, h5, h6, h7⟩ := RR.ok_split h
  have l1 := Nv_le (n := r.id.toNat) (by unfold U64; omega)
  have l3 := Nv_le hw.co
  have l4 := Nv_le (toNat_U (okL_mem h4 (n := r.num) (by simp)))
  have l5 := (CR.len h7 hw.k).1
  have l6 := Nv_le (n := r.err.toNat) (by unfold U64; omega)
  have l7 := shsAll_len h6
  have l8 := Nv_le (n := r.bits) (by have := hw.bits; unfold U64; omega)
  have hl : ∀ f ∈ r.fl, f.2.length ≤ 40000 := by
    intro f hf
    simp only [RR.fl, List.mem_cons, List.mem_nil_iff, or_false] at hf
    rcases hf with rfl | rfl | rfl | rfl | rfl | rfl | rfl | rfl <;> simp only <;> omega
  refine ⟨?_, hl⟩
  have hp := putAll_live_le r.fl fun f hf => by have := hl f hf; unfold U64; omega
  have e : (r.fl.map fun f : Fd => f.2.length + 11).sum = (Nv r.id.toNat).length + 11 + (r.txt.length + 11 + ((Nv r.co).length + 11 + ((Nv r.num.toNat).length + 11 + (r.k.form.length + 11 + ((Nv r.err.toNat).length + 11 + ((listAll (shs r.items)).length + 11 + ((Nv r.bits).length + 11 + 0))))))) := rfl
  unfold RR.form; omega
end Go.Proofs.Ytlcjhbemgagchaa
end
