/-
  TlvBack: the records within records, as bytes; what readers of them tell.
-/
import Derived.Test.YtbglloafbmamoaaTlvU2
import Derived.Test.YtbglloafbmamoaaTlvT2
namespace Go.Proofs.Ytbglloafbmamoaa
open Go.RowKit
set_option linter.unusedVariables false
set_option linter.unusedSimpArgs false

def Ni (n i : Nat) : Nat := (n + i) % 18446744073709551616
theorem Ni_lt (n i : Nat) : Ni n i < U64 := Nat.mod_lt _ (by decide)
def lk (n i : Nat) (B s : List Nat) : List Fd := [(1, Nv (Ni n i)), (9, B), (255, s)]
theorem lk_asc (n i : Nat) (B s : List Nat) : Asc 0 (lk n i B s) := by simp [lk, Asc]
def chain (n : Nat) (s raw : List Nat) (xss : List (List Nat)) : Nat → List Nat
  | 0 => putAll (live (l0 n s raw xss))
  | i + 1 => putAll (live (lk n i (chain n s raw xss i) s))
def lst (n : Nat) (s raw : List Nat) (xss : List (List Nat)) : Nat → List Fd
  | 0 => l0 n s raw xss
  | i + 1 => lk n i (chain n s raw xss i) s
theorem chain_eq (n : Nat) (s raw : List Nat) (xss : List (List Nat)) (i : Nat) : chain n s raw xss i = putAll (live (lst n s raw xss i)) := by
  cases i <;> rfl
theorem lst_asc (n : Nat) (s raw : List Nat) (xss : List (List Nat)) (i : Nat) : Asc 0 (lst n s raw xss i) := by
  cases i
  · exact l0_asc n s raw xss
  · exact lk_asc ..
/-- What the sizes allow. -/
structure Small (n : Nat) (s raw : List Nat) (xss : List (List Nat)) : Prop where
  nU : n < U64
  sL : s.length ≤ 10000
  rL : raw.length ≤ 10000
  kL : xss.length ≤ 10000
  xL : ∀ x ∈ xss, x.length ≤ 10000
  lL : (listAll xss).length ≤ 10000
  s256 : ∀ x ∈ s, x < 256
  r256 : ∀ x ∈ raw, x < 256
  x256 : ∀ x ∈ xss, ∀ y ∈ x, y < 256
section
variable {n : Nat} {s raw : List Nat} {xss : List (List Nat)} (h : Small n s raw xss)
include h
theorem chain_len : ∀ i, i ≤ 4 → (chain n s raw xss i).length ≤ 60000 + 10100 * i
  | 0, _ => by
    have hU : ∀ f ∈ l0 n s raw xss, f.2.length < U64 := by
      have := Nv_le h.nU
      have := h.sL
      have := h.rL
      have := h.lL
      have := listAll2_len (rb_len h.nU h.sL)
      intro f hf
      simp only [l0, List.mem_cons, List.mem_nil_iff, or_false] at hf
      unfold U64
      rcases hf with rfl | rfl | rfl | rfl | rfl <;> simp only <;> omega
    have h1 := putAll_live_le _ hU
    have h2 : ((l0 n s raw xss).map fun f => f.2.length + 11).sum = (Nv n).length + 11 + (s.length + 11 + (raw.length + 11 + ((listAll xss).length + 11 + ((listAll [rbOf n s, rbOf n s]).length + 11 + 0)))) := rfl
    have := Nv_le h.nU
    have := h.sL
    have := h.rL
    have := h.lL
    have := listAll2_len (rb_len h.nU h.sL)
    rw [chain]; omega
  | i + 1, hi => by
    have ih := chain_len i (by omega)
    have hU : ∀ f ∈ lk n i (chain n s raw xss i) s, f.2.length < U64 := by
      have := Nv_le (Ni_lt n i)
      have := h.sL
      intro f hf
      simp only [lk, List.mem_cons, List.mem_nil_iff, or_false] at hf
      unfold U64
      rcases hf with rfl | rfl | rfl <;> simp only <;> omega
    have h1 := putAll_live_le _ hU
    have h2 : ((lk n i (chain n s raw xss i) s).map fun f => f.2.length + 11).sum = (Nv (Ni n i)).length + 11 + ((chain n s raw xss i).length + 11 + (s.length + 11 + 0)) := rfl
    have := Nv_le (Ni_lt n i)
    have := h.sL
    rw [chain]; omega
theorem lst_U {i : Nat} (hi : i ≤ 4) : ∀ f ∈ lst n s raw xss i, f.2.length < U64 := by
  cases i with
  | zero =>
    have := Nv_le h.nU
    have := h.sL
    have := h.rL
    have := h.lL
    have := listAll2_len (rb_len h.nU h.sL)
    intro f hf
    simp only [lst, l0, List.mem_cons, List.mem_nil_iff, or_false] at hf
    unfold U64
    rcases hf with rfl | rfl | rfl | rfl | rfl <;> simp only <;> omega
  | succ i =>
    have := Nv_le (Ni_lt n i)
    have := h.sL
    have := chain_len h i (by omega)
    intro f hf
    simp only [lst, lk, List.mem_cons, List.mem_nil_iff, or_false] at hf
    unfold U64
    rcases hf with rfl | rfl | rfl <;> simp only <;> omega
theorem chain_small {i : Nat} (hi : i ≤ 4) : (putAll (live (lst n s raw xss i))).length ≤ 1048576 := by
  rw [← chain_eq]
  have := chain_len h i hi
  omega
theorem chain_puts {i : Nat} (hi : i ≤ 4) : (WS.fresh.puts (lst n s raw xss i)).B = chain n s raw xss i ∧ (WS.fresh.puts (lst n s raw xss i)).e = 0 := by
  rw [chain_eq]
  exact puts_fresh (lst_asc n s raw xss i) (chain_small h hi)
theorem chain_shows {i : Nat} (hi : i ≤ 4) (base : Nat) : Shows (readS F0 base (chain n s raw xss i)).1 (lst n s raw xss i) ∧ (readS F0 base (chain n s raw xss i)).2 = F0 := by
  rw [chain_eq]
  exact readS_live (lst_asc n s raw xss i) (chain_small h hi) (lst_U h hi) base
omit h in
theorem live_bytes {l : List Fd} (ha : Asc 0 l) (h : ∀ f ∈ l, ∀ y ∈ f.2, y < 256) : ∀ x ∈ putAll (live l), x < 256 :=
  putAll_bytes _ 0 (by omega) (asc_scan _ 0 ha.live live_ne) fun f hf => h f (List.mem_filter.1 hf).1
omit h in
theorem Nv_bytes (n : Nat) : ∀ y ∈ Nv n, y < 256 := by
  unfold Nv
  split
  · intro y hy; cases hy
  · exact short_bytes n n (Nat.le_refl _)
theorem chain_bytes : ∀ i, ∀ x ∈ chain n s raw xss i, x < 256
  | 0 => by
    refine live_bytes (l0_asc n s raw xss) fun f hf => ?_
    simp only [l0, List.mem_cons, List.mem_nil_iff, or_false] at hf
    rcases hf with rfl | rfl | rfl | rfl | rfl
    · exact Nv_bytes n
    · exact h.s256
    · exact h.r256
    · exact listAll_bytes h.x256
    · refine listAll_bytes fun x hx => ?_
      have : x = rbOf n s := by simpa using hx
      subst this
      refine live_bytes (inL_asc n s) fun f hf => ?_
      simp only [inL, List.mem_cons, List.mem_nil_iff, or_false] at hf
      rcases hf with rfl | rfl
      · exact Nv_bytes n
      · exact h.s256
  | i + 1 => by
    refine live_bytes (lk_asc ..) fun f hf => ?_
    simp only [lk, List.mem_cons, List.mem_nil_iff, or_false] at hf
    rcases hf with rfl | rfl | rfl
    · exact Nv_bytes _
    · exact chain_bytes i
    · exact h.s256
omit h in
theorem putAll_ne {l : List Fd} {t : Int} {v : List Nat} (hm : (t, v) ∈ l) (hv : v ≠ []) : putAll (live l) ≠ [] := by
  have h1 : (t, v) ∈ live l := List.mem_filter.2 ⟨hm, by cases v with
    | nil => exact absurd rfl hv
    | cons x v => rfl⟩
  intro e
  have h2 : t.toNat ∈ putAll (live l) := List.mem_flatMap.2 ⟨(t, v), h1, List.mem_cons_self ..⟩
  rw [e] at h2
  cases h2
omit h in
theorem chain_ne : ∀ i, chain n s raw xss i ≠ []
  | 0 => putAll_ne (t := 6) (v := listAll [rbOf n s, rbOf n s]) (by simp [l0]) (by simp only [listAll, List.flatMap_cons]; rw [short]; split <;> simp)
  | i + 1 => putAll_ne (t := 9) (v := chain n s raw xss i) (by simp [lk]) (chain_ne i)
end
/-- A reader of such a record. -/
def RRd (W wr : World) (pf : Nat) (l : List Fd) (T : List Int) (r : TRd) : Prop := ∃ b d, TR wr pf b r d ∧ Shows d l ∧ d.tk.length = d.fs.length ∧ Taken d T ∧ Flt wr 135 pf F0 ∧ W.heap.size ≤ pf ∧ (∀ y, r.foot y → W.heap.size ≤ y) ∧ Fr (fun _ => False) W wr
section
variable {W wr w' : World} {pf : Nat} {l : List Fd} {T : List Int} {r : TRd}
theorem RRd.fr (h : RRd W wr pf l T r) : Fr (fun _ => False) W wr := by obtain ⟨b, d, h1, h2, h3, h4, h5, h6, h7, h8⟩ := h; exact h8
theorem RRd.quiet (h : RRd W wr pf l T r) (hf : Fr (fun _ => False) wr w') : RRd W w' pf l T r := by
  obtain ⟨b, d, h1, h2, h3, h4, h5, h6, h7, h8⟩ := h
  exact ⟨b, d, h1.quiet hf, h2, h3, h4, h5.fr hf id, h6, h7, h8.trans hf⟩
theorem RRd.post {b : Nat} {d d' : RD} {f' : RF} (h6 : W.heap.size ≤ pf) (h7 : ∀ y, r.foot y → W.heap.size ≤ y) (h8 : Fr (fun _ => False) W wr) (hP : TPost wr pf b r d' f' w') : Fr (fun _ => False) W w' :=
  h8.comp hP.fr fun x hx e => by
    rcases e with e | e
    · omega
    · have := h7 x e; omega
/-- What the calls of this reader turn. -/
def RTurn (pf : Nat) (r : TRd) (wr w' : World) : Prop := Fr (fun x => x = pf ∨ r.foot x) wr w'
theorem rd_num (h : RRd W wr pf l T r) {t : Int} {n above : Nat} (hv : valOf l t = Nv n) (hn : n < U64) (ha : n ≤ above) (hU : above < U64) :
    Calls Try.prog 49 #[.pointer (some ⟨r.p, 0, none⟩), .int .i64 t, .int .u64 (above : Int)] wr fun e w' => e = .returned (.int .u64 (n : Int)) ∧ RRd W w' pf l (t :: T) r ∧ RTurn pf r wr w' := by
  obtain ⟨b, d, h1, h2, h3, h4, h5, h6, h7, h8⟩ := h
  have c := trnum_any wr pf b r d F0 t above hU h1 h5
  rw [numberS_of h2 hv hn ha] at c
  refine c.mono ?_
  rintro e w' ⟨rfl, hP⟩
  exact ⟨rfl, ⟨b, _, hP.tr, h2.took _ _, took_tk h3 t, h4.took h2 h3 t, hP.flt, h6, h7, RRd.post h6 h7 h8 hP (d := d)⟩, hP.fr⟩
theorem rd_text (h : RRd W wr pf l T r) {t most : Int} {v : List Nat} (hv : valOf l t = v) (hm : (v.length : Int) ≤ max most 0) :
    Calls Try.prog 50 #[.pointer (some ⟨r.p, 0, none⟩), .int .i64 t, .int .i64 most] wr fun e w' => e = .returned (.string (strOf v)) ∧ RRd W w' pf l (t :: T) r ∧ RTurn pf r wr w' := by
  obtain ⟨b, d, h1, h2, h3, h4, h5, h6, h7, h8⟩ := h
  have c := trtext_any wr pf b r d F0 t most h1 h5
  rw [rawS_of h2 hv hm] at c
  refine c.mono ?_
  rintro e w' ⟨rfl, hP⟩
  exact ⟨rfl, ⟨b, _, hP.tr, h2.took _ _, took_tk h3 t, h4.took h2 h3 t, hP.flt, h6, h7, RRd.post h6 h7 h8 hP (d := d)⟩, hP.fr⟩
theorem rd_raw (h : RRd W wr pf l T r) {t most : Int} {v : List Nat} (hv : valOf l t = v) (hm : (v.length : Int) ≤ max most 0) :
    Calls Try.prog 53 #[.pointer (some ⟨r.p, 0, none⟩), .int .i64 t, .int .i64 most] wr fun e w' => ∃ A n c, e = .returned (.slice A n c) ∧ Sl w' 1 A n (v.map bn) ∧ RRd W w' pf l (t :: T) r ∧ RTurn pf r wr w' := by
  obtain ⟨b, d, h1, h2, h3, h4, h5, h6, h7, h8⟩ := h
  have c := trawR_any wr pf b r d F0 t most h1 h5
  rw [rawS_of h2 hv hm] at c
  refine c.mono ?_
  rintro e w' ⟨A, n, c, g, rfl, -, hO, -, hP⟩
  exact ⟨A, n, c, rfl, hO.sl, ⟨b, _, hP.tr, h2.took _ _, took_tk h3 t, h4.took h2 h3 t, hP.flt, h6, h7, RRd.post h6 h7 h8 hP (d := d)⟩, hP.fr⟩
theorem rd_list (h : RRd W wr pf l T r) {t most : Int} {xss : List (List Nat)} (hv : valOf l t = listAll xss) (hU : ∀ x ∈ xss, x.length < U64) (hm : (xss.length : Int) ≤ max most 0) :
    Calls Try.prog 54 #[.pointer (some ⟨r.p, 0, none⟩), .int .i64 t, .int .i64 most] wr fun e w' => ∃ D k, e = .returned (.slice D k k) ∧ LAt w' w'.heap.size D k xss ∧ RRd W w' pf l (t :: T) r ∧ RTurn pf r wr w' := by
  obtain ⟨b, d, h1, h2, h3, h4, h5, h6, h7, h8⟩ := h
  have c := trlist_any wr pf b r d F0 t most h1 h5
  obtain ⟨e1, e2⟩ := itS_of h2 hv hU hm
  rw [e1, e2] at c
  refine c.mono ?_
  rintro e w' ⟨rs, D, k, g, rfl, hx, -, hO, -, hB, hP⟩
  exact ⟨D, k, rfl, by have := hB.lat' hO; rwa [hx] at this, ⟨b, _, hP.tr, h2.took _ _, took_tk h3 t, h4.took h2 h3 t, hP.flt, h6, h7, RRd.post h6 h7 h8 hP (d := d)⟩, hP.fr⟩
theorem rd_end (h : RRd W wr pf l T r) (hT : ∀ f ∈ l, f.1 ∈ T) :
    Calls Try.prog 52 #[.pointer (some ⟨r.p, 0, none⟩)] wr fun e w' => e = .returned (.tuple #[.int .i64 0, .int .i64 0]) ∧ RRd W w' pf l T r ∧ RTurn pf r wr w' := by
  obtain ⟨b, d, h1, h2, h3, h4, h5, h6, h7, h8⟩ := h
  have c := tend_any wr pf b r d F0 h1 h5
  rw [endS_of h2 h1.ok h4 hT] at c
  refine c.mono ?_
  rintro e w' ⟨rfl, hP⟩
  exact ⟨rfl, ⟨b, _, hP.tr, h2, h3, h4, hP.flt, h6, h7, RRd.post h6 h7 h8 hP (d := d)⟩, hP.fr⟩
theorem readS_tk (f : RF) (base : Nat) (bs : List Nat) : (readS f base bs).1.tk.length = (readS f base bs).1.fs.length := by
  unfold readS
  split
  · rfl
  · simp only
    split
    · rfl
    · simp
theorem rd_rec (h : RRd W wr pf l T r) {t : Int} {v : List Nat} {k : List Fd} (hv : valOf l t = v) (hn : v ≠ []) (hk : ∀ base, Shows (readS F0 base v).1 k ∧ (readS F0 base v).2 = F0) :
    Calls Try.prog 51 #[.pointer (some ⟨r.p, 0, none⟩), .int .i64 t] wr fun e w' => ∃ r', e = .returned (.pointer (some ⟨r'.p, 0, none⟩)) ∧ RRd W w' pf l (t :: T) r ∧ RRd W w' pf k [] r' ∧ (∀ y, r'.foot y → ¬ r.foot y) ∧ RTurn pf r wr w' := by
  obtain ⟨b, d, h1, h2, h3, h4, h5, h6, h7, h8⟩ := h
  have c := trrecord_any wr pf b r d F0 t h1 h5
  obtain ⟨base, hr⟩ := recordS_of h2 hv hn
  obtain ⟨k1, k2⟩ := hk base
  rw [hr, k2] at c
  refine c.mono ?_
  rintro e w' ⟨r', rfl, hP, hT, hnew⟩
  have hf := RRd.post h6 h7 h8 hP (d := d)
  have hs := h8.size
  exact ⟨r', rfl, ⟨b, _, hP.tr, h2.took _ _, took_tk h3 t, h4.took h2 h3 t, hP.flt, h6, h7, hf⟩, ⟨b, _, hT, k1, readS_tk _ _ _, Taken.nil_ _, hP.flt, h6, fun y hy => Nat.le_trans hs (hnew y hy), hf⟩, fun y hy' hy => by have := h1.lt y hy; have := hnew y hy'; omega, hP.fr⟩
/-- Another reader's calls. -/
theorem RRd.other {r2 : TRd} {l2 : List Fd} {T2 T3 : List Int} (h : RRd W wr pf l T r) (hk : RRd W wr pf l2 T2 r2) (hw : RRd W w' pf l2 T3 r2) (hap : ∀ y, r.foot y → ¬ r2.foot y) (hf : RTurn pf r2 wr w') : RRd W w' pf l T r := by
  obtain ⟨b, d, h1, h2, h3, h4, h5, h6, h7, h8⟩ := h
  obtain ⟨b2, d2, g1, g2, g3, g4, g5, g6, g7, g8⟩ := hw
  obtain ⟨b4, d4, f1, -⟩ := hk
  exact ⟨b, d, h1.fr hf (h5.within.or f1.within) (fun x hx e => by
    rcases e with e | e
    · exact h5.notFoot h1 (e ▸ hx)
    · exact hap x hx e), h2, h3, h4, g5, h6, h7, g8⟩
theorem rd_recs (h : RRd W wr pf l T r) {t : Int} {k : List Fd} (ha : Asc 0 k) (hl : (putAll (live k)).length ≤ 1048576) (hk : ∀ f ∈ k, f.2.length < U64) (hv : valOf l t = listAll [putAll (live k), putAll (live k)]) :
    Calls Try.prog 55 #[.pointer (some ⟨r.p, 0, none⟩), .int .i64 t, .int .i64 2] wr fun e w' => ∃ r1 r2 O, e = .returned (.slice O 2 2) ∧ Sl w' 1 O 2 [.pointer (some ⟨r1.p, 0, none⟩), .pointer (some ⟨r2.p, 0, none⟩)] ∧ (∀ b o, O = some ⟨b, o, none⟩ → W.heap.size ≤ b ∧ Typed w' b 84) ∧ RRd W w' pf l (t :: T) r ∧ RRd W w' pf k [] r1 ∧ RRd W w' pf k [] r2 ∧
      (∀ y, r.foot y → ¬ r1.foot y ∧ ¬ r2.foot y) ∧ (∀ y, r1.foot y → ¬ r2.foot y) ∧ RTurn pf r wr w' := by
  obtain ⟨b, d, h1, h2, h3, h4, h5, h6, h7, h8⟩ := h
  have c := trrecords_any wr pf b r d F0 t 2 h1 h5
  obtain ⟨d1, d2, hr, k1, k2⟩ := recordsS_of h2 ha hl hk hv
  rw [hr] at c
  refine c.mono ?_
  rintro e w' ⟨rs, O, kk, g, rfl, hO, hg, hR, -, hP⟩
  have hf := RRd.post h6 h7 h8 hP (d := d)
  have hs := h8.size
  have hlen : rs.length = 2 := hR.len
  match rs, hlen with
  | [r1, r2], _ =>
    obtain rfl : kk = 2 := by have := hO.1; simpa using this.symm
    have t1 := hR.tr 0 (by simp) (by simp)
    have t2 := hR.tr 1 (by simp) (by simp)
    simp at t1 t2
    have n1 := hR.new r1 (by simp)
    have n2 := hR.new r2 (by simp)
    have hap := hR.ap
    simp at hap
    refine ⟨r1, r2, O, rfl, hO.sl, fun bb o e => ?_, ⟨b, _, hP.tr, h2.took _ _, took_tk h3 t, h4.took h2 h3 t, hP.flt, h6, h7, hf⟩, ?_, ?_, fun y hy => ⟨fun hy' => by have := h1.lt y hy; have := n1 y hy'; omega, fun hy' => by have := h1.lt y hy; have := n2 y hy'; omega⟩, hap, hP.fr⟩
    · subst e
      have := hO.blk
      exact ⟨Nat.le_trans hs (hg bb this), hO.typed bb this⟩
    · exact ⟨b, d1, t1, k1, t1.ok.tk, Taken.nil_ _, hP.flt, h6, fun y hy => Nat.le_trans hs (n1 y hy), hf⟩
    · exact ⟨b, d2, t2, k2, t2.ok.tk, Taken.nil_ _, hP.flt, h6, fun y hy => Nat.le_trans hs (n2 y hy), hf⟩
/-- The fault, of a reader whose first cell is known. -/
theorem rd_fault (h : RRd W wr pf l T r) {p : Nat} (hp : wr.cell? ⟨p, 0, none⟩ = some (.pointer (some ⟨pf, 0, none⟩))) :
    Calls Try.prog 56 #[.pointer (some ⟨p, 0, none⟩)] wr fun e w' => e = .returned (.tuple #[.int .i64 0, .int .i64 0]) ∧ Fr (fun _ => False) wr w' := by
  obtain ⟨b, d, h1, h2, h3, h4, h5, h6, h7, h8⟩ := h
  have e0 : wr.cell? ⟨pf, 0, none⟩ = some (.int .i64 0) := Bl.cell' h5 rfl
  have e1 : wr.cell? ⟨pf, 1, none⟩ = some (.int .i64 0) := Bl.cell' h5 rfl
  have hn := none_some wr p pf hp
  unfold rp at hn
  clear h1 h2 h3 h4 h5 h6 h7 h8
  go_enter Try.func56, Try.ntmps56
  go_wp2_with fail
  refine hn.mono ?_
  rintro e w' ⟨rfl, rfl⟩
  go_wp2_with fail
  go_quiet (fail)
  go_wp2_with fail
  go_ret2
  exact ⟨rfl, (Fr.refl _ _).drewN _⟩
/-- The reader at the top: its first cell. -/
def TopAt (wr : World) (pr pf : Nat) : Prop := wr.cell? ⟨pr, 0, none⟩ = some (.pointer (some ⟨pf, 0, none⟩)) ∧ pr < wr.heap.size ∧ Typed wr pr 147
theorem RTurn.not (h : RRd W wr pf l T r) {b : Nat} {t : TypeId} (hb : Typed wr b t) (ht : ¬ Turns t) : ¬ (b = pf ∨ r.foot b) := by
  obtain ⟨_, d, h1, h2, h3, h4, h5, h6, h7, h8⟩ := h
  exact Within.not (h5.within.or h1.within) hb ht
theorem TopAt.turn {pr : Nat} (h : TopAt wr pr pf) (hR : RRd W wr pf l T r) (hf : RTurn pf r wr w') : TopAt w' pr pf := by
  have hn := RTurn.not hR h.2.2 (by unfold Turns; decide)
  exact ⟨(hf.cell (p := ⟨pr, 0, none⟩) h.2.1 hn).trans h.1, Nat.lt_of_lt_of_le h.2.1 hf.size, h.2.2.fr hf hn⟩
theorem TopAt.quiet {pr : Nat} (h : TopAt wr pr pf) (hf : Fr (fun _ => False) wr w') : TopAt w' pr pf :=
  ⟨(hf.cell (p := ⟨pr, 0, none⟩) h.2.1 id).trans h.1, Nat.lt_of_lt_of_le h.2.1 hf.size, h.2.2.fr hf id⟩
end
end Go.Proofs.Ytbglloafbmamoaa
