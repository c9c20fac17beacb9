/-
  Texts merged into one, to keep the claim small: Pd7, PdE, PdF.
-/
import Derived.Test.YtlcjhbemgagchaaMc16
import Derived.Test.YtlcjhbemgagchaaMc5
import Derived.Test.YtlcjhbemgagchaaMc7
import Derived.Test.YtlcjhbemgagchaaMc1
import Derived.Test.YtlcjhbemgagchaaMc14
import Derived.Test.YtlcjhbemgagchaaMc17
import Derived.Test.YtlcjhbemgagchaaMc9
section
/-
  proto: commands and replies read without care, in plain lists: the document's way. No program in sight.
-/
namespace Go.Proofs.Ytlcjhbemgagchaa
set_option linter.unusedVariables false
set_option linter.unusedSimpArgs false
/-- The value of a tag; nothing, if there is none, or nothing can be read. -/
def saidS (bs : List Nat) (t : Int) : List Nat := valOf ((getAll bs).1.map fun F => ((F.tag : Int), F.val bs)) t
def bigS (bs : List Nat) (t : Int) : Nat := (readShort (saidS bs t) 0).1
def smallS (bs : List Nat) (t : Int) : Int := if 1125899906842624 < bigS bs t then -1 else (bigS bs t : Int)
def itemsV (v : List Nat) : List (List Nat) := (itemsAll v).1.map (GF.val v)
def firstsL : List (List Nat) → Option (List Nat)
  | [] => some []
  | x :: r => if 1125899906842624 < (readShort x 0).1 then none else (firstsL r).map ((readShort x 0).1 :: ·)
def firstsI (xs : List (List Nat)) : List Int := match firstsL xs with | none => [-1] | some ns => ns.map Int.ofNat
def listS (bs : List Nat) (t : Int) : List Int := firstsI (itemsV (saidS bs t))
def entS (v : List Nat) : ER := ⟨smallS v 22, smallS v 6, bigS v 5, bigS v 10, none, 0, 0, listS v 11⟩
def conS (v : List Nat) : CR := ⟨smallS v 7, smallS v 2, smallS v 20, smallS v 13, smallS v 4, smallS v 14, bigS v 10, bigS v 15, bigS v 16, smallS v 8, none, 0, 0, ((itemsV (saidS v 21)).take 17).map entS⟩
def cmdS (bs : List Nat) : KC := ⟨smallS bs 1, smallS bs 2, saidS bs 3, smallS bs 4, bigS bs 5, smallS bs 6, smallS bs 7, smallS bs 8, entS (saidS bs 9), conS (saidS bs 12)⟩
def repS (bs : List Nat) : RR := ⟨smallS bs 1, (bigS bs 17 : Int), smallS bs 7, bigS bs 5, none, 0, 0, listS bs 18, saidS bs 3, bigS bs 19 % 4294967296, conS (saidS bs 12)⟩
theorem valOf_live : ∀ {l : List Fd} {a : Int}, Asc a l → ∀ t, valOf (live l) t = valOf l t
  | [], _, _, _ => rfl
  | (u, []) :: r, a, h, t => by
    rw [live_nil, valOf_live h.2.2]
    by_cases e : u = t
    · subst e
      rw [valOf_yes rfl]
      exact valOf_absent fun f hf => by have := h.2.2.gt f hf; simp only at this; omega
    · rw [valOf_no e]
  | (u, x :: v) :: r, a, h, t => by
    rw [live_cons u r (by simp)]
    by_cases e : u = t
    · rw [valOf_yes e, valOf_yes e]
    · rw [valOf_no e, valOf_no e, valOf_live h.2.2]
theorem saidS_of {k : List Fd} (hk : Fits k) (t : Int) : saidS (putAll (live k)) t = valOf k t := by
  unfold saidS
  rw [(getAll_live hk.asc hk.small hk.len).2, valOf_live hk.asc]
theorem readShort_fst_lt (bs : List Nat) : (readShort bs 0).1 < U64 := by
  by_cases h : (readShort bs 0).2.2 = 0
  · exact readShort_lt (bs := bs) (a := 0) (t := (readShort bs 0).2.1) (Prod.ext rfl (Prod.ext rfl h))
  · unfold readShort at h ⊢
    split
    · decide
    · rename_i h1
      rw [if_neg h1] at h
      simp only at h ⊢
      split
      · rename_i h2; rw [if_pos h2] at h; exact absurd rfl h
      · show (0 : Nat) < U64; decide
theorem bigS_lt (bs : List Nat) (t : Int) : bigS bs t < U64 := readShort_fst_lt _
theorem readShort_nv {n : Nat} (h : n < U64) : (readShort (Nv n) 0).1 = n := by
  unfold Nv
  split
  · subst_vars; rfl
  · rw [readShort_all h]
theorem bigS_of {k : List Fd} {bs : List Nat} (hk : Fits k) (hb : putAll (live k) = bs) {t : Int} {n : Nat} (hv : valOf k t = Nv n) (h : n < U64) : bigS bs t = n := by
  unfold bigS
  rw [← hb]
  rw [saidS_of hk, hv, readShort_nv h]
theorem smallS_of {k : List Fd} {bs : List Nat} (hk : Fits k) (hb : putAll (live k) = bs) {t z : Int} (hv : valOf k t = Nv z.toNat) (h : 0 ≤ z ∧ z ≤ 1125899906842624) : smallS bs t = z := by
  unfold smallS
  rw [bigS_of hk hb hv (toNat_U h), if_neg (by omega)]
  omega
theorem itemsV_of {xss : List (List Nat)} (hU : ∀ x ∈ xss, x.length < U64) : itemsV (listAll xss) = xss := by
  by_cases h0 : xss = []
  · subst h0; rfl
  · exact (itemsAll_of h0 hU).2
theorem firstsL_of : ∀ (ns : List Nat), (∀ n ∈ ns, n ≤ M50) → firstsL (ns.map short) = some ns
  | [], _ => rfl
  | n :: r, h => by
    have hn := h n (List.mem_cons_self ..)
    rw [List.map_cons, firstsL, readShort_all (by unfold U64; unfold M50 at hn; omega)]
    simp only
    rw [if_neg (by unfold M50 at hn; omega), firstsL_of r fun m hm => h m (List.mem_cons_of_mem _ hm)]
    rfl
theorem firstsI_of {us : List Int} (hu : okL us = true) : firstsI (shs us) = us := by
  obtain ⟨ns, rfl, hn⟩ : ∃ ns : List Nat, us = ns.map Int.ofNat ∧ ∀ n ∈ ns, n ≤ M50 := by
    refine ⟨us.map Int.toNat, ?_, ?_⟩
    · rw [List.map_map]
      refine (List.map_id us).symm.trans (List.map_congr_left fun z hz => ?_)
      have := (okL_mem hu hz).1
      show z = ((z.toNat : Nat) : Int)
      omega
    · intro n hn
      obtain ⟨z, hz, rfl⟩ := List.mem_map.1 hn
      have := okL_mem hu hz
      unfold M50; omega
  have e : shs (ns.map Int.ofNat) = ns.map short := by rw [shs, List.map_map]; rfl
  unfold firstsI
  rw [e, firstsL_of ns hn]
theorem listS_of {k : List Fd} {bs : List Nat} (hk : Fits k) (hb : putAll (live k) = bs) {t : Int} {us : List Int} (hv : valOf k t = listAll (shs us)) (hu : okL us = true) : listS bs t = us := by
  unfold listS
  rw [← hb]
  rw [saidS_of hk, hv, itemsV_of (fun x hx => by have := shs_len hu x hx; unfold U64; omega), firstsI_of hu]
theorem ER.form_eq (q : ER) : putAll (live q.fl) = q.form := rfl
theorem CR.form_eq (q : CR) : putAll (live q.fl) = q.form := rfl
theorem entS_of {q : ER} (hq : q.ok = true) (hw : q.wf) : (entS q.form).like q := by
  obtain ⟨k1, k2, k3⟩ := ER.ok_split hq
  have hk := ER.fits hq hw
  have hb := q.form_eq
  have a1 : smallS q.form 22 = q.acc := smallS_of hk hb (by simp [valOf, ER.fl]) (okL_mem k1 (by simp))
  have a2 : smallS q.form 6 = q.item := smallS_of hk hb (by simp [valOf, ER.fl]) (okL_mem k1 (by simp))
  have a3 : bigS q.form 5 = q.co := bigS_of hk hb (by simp [valOf, ER.fl]) hw.co
  have a4 : bigS q.form 10 = q.pr := bigS_of hk hb (by simp [valOf, ER.fl]) hw.pr
  have a5 : listS q.form 11 = q.ws := listS_of hk hb (by simp [valOf, ER.fl]) k3
  unfold entS
  rw [a1, a2, a3, a4, a5]
  exact ER.like_mk rfl rfl rfl rfl rfl
theorem conS_of {q : CR} (hq : q.ok = true) (hw : q.wf) : (conS q.form).like q := by
  obtain ⟨k1, k2, k3⟩ := CR.ok_split hq
  have hk := CR.fits hq hw
  have hb := q.form_eq
  have a : ∀ z ∈ q.seven, 0 ≤ z ∧ z ≤ 1125899906842624 := fun z hz => okL_mem k3 hz
  have a1 : smallS q.form 7 = q.num := smallS_of hk hb (by simp [valOf, CR.fl]) (a _ (by simp [CR.seven]))
  have a2 : smallS q.form 2 = q.kind := smallS_of hk hb (by simp [valOf, CR.fl]) (a _ (by simp [CR.seven]))
  have a3 : smallS q.form 20 = q.by_ := smallS_of hk hb (by simp [valOf, CR.fl]) (a _ (by simp [CR.seven]))
  have a4 : smallS q.form 13 = q.dl := smallS_of hk hb (by simp [valOf, CR.fl]) (a _ (by simp [CR.seven]))
  have a5 : smallS q.form 4 = q.to_ := smallS_of hk hb (by simp [valOf, CR.fl]) (a _ (by simp [CR.seven]))
  have a6 : smallS q.form 14 = q.want := smallS_of hk hb (by simp [valOf, CR.fl]) (a _ (by simp [CR.seven]))
  have a7 : bigS q.form 10 = q.pr := bigS_of hk hb (by simp [valOf, CR.fl]) hw.pr
  have a8 : bigS q.form 15 = q.rs := bigS_of hk hb (by simp [valOf, CR.fl]) hw.rs
  have a9 : bigS q.form 16 = q.st := bigS_of hk hb (by simp [valOf, CR.fl]) hw.st
  have a10 : smallS q.form 8 = q.of_ := smallS_of hk hb (by simp [valOf, CR.fl]) (a _ (by simp [CR.seven]))
  have hes : ((itemsV (saidS q.form 21)).take 17).map entS = q.es.map (fun e => entS e.form) := by
    rw [← hb, saidS_of hk, show valOf q.fl 21 = listAll (q.es.map ER.form) by simp [valOf, CR.fl], itemsV_of (fun x hx => by have := (CR.forms_len hq hw).2 x hx; unfold U64; omega), List.take_of_length_le (by rw [List.length_map]; omega), List.map_map]
    rfl
  unfold conS
  rw [a1, a2, a3, a4, a5, a6, a7, a8, a9, a10, hes]
  refine ⟨rfl, rfl, rfl, rfl, rfl, rfl, rfl, rfl, rfl, rfl, by simp, fun i h h' => ?_⟩
  simp only [List.getElem_map]
  exact entS_of (k2 _ (List.getElem_mem h')) (hw.es _ (List.getElem_mem h'))
theorem cmdS_of {bs : List Nat} {q : KC} (h : KForm bs q) : (cmdS bs).like q := by
  obtain ⟨k1, k2, k3, k4, k5, k6, k7, k8, k9, k10⟩ := KC.fine_split (KC.ok_fine h.ok)
  have hk := KC.fits h.ok h.wf
  have hb : putAll (live q.fl) = bs := h.eq
  have a : ∀ z ∈ [q.to_, q.item, q.num, q.of_], 0 ≤ z ∧ z ≤ 1125899906842624 := fun z hz => okL_mem k4 hz
  have a1 : smallS bs 1 = q.id := smallS_of hk hb (by simp [valOf, KC.fl]) (by omega)
  have a2 : smallS bs 2 = q.kind := smallS_of hk hb (by simp [valOf, KC.fl]) (by omega)
  have a3 : saidS bs 3 = q.name := by rw [← hb, saidS_of hk]; simp [valOf, KC.fl]
  have a4 : smallS bs 4 = q.to_ := smallS_of hk hb (by simp [valOf, KC.fl]) (a _ (by simp))
  have a5 : bigS bs 5 = q.co := bigS_of hk hb (by simp [valOf, KC.fl]) h.wf.co
  have a6 : smallS bs 6 = q.item := smallS_of hk hb (by simp [valOf, KC.fl]) (a _ (by simp))
  have a7 : smallS bs 7 = q.num := smallS_of hk hb (by simp [valOf, KC.fl]) (a _ (by simp))
  have a8 : smallS bs 8 = q.of_ := smallS_of hk hb (by simp [valOf, KC.fl]) (a _ (by simp))
  have a9 : saidS bs 9 = q.e.form := by rw [← hb, saidS_of hk]; simp [valOf, KC.fl]
  have a12 : saidS bs 12 = q.k.form := by rw [← hb, saidS_of hk]; simp [valOf, KC.fl]
  unfold cmdS
  rw [a1, a2, a3, a4, a5, a6, a7, a8, a9, a12]
  exact ⟨rfl, rfl, rfl, rfl, rfl, rfl, rfl, rfl, entS_of k5 h.wf.e, conS_of k7 h.wf.k⟩
theorem repS_of {bs : List Nat} {q : RR} (h : RForm bs q) : (repS bs).like q := by
  obtain ⟨k1, k2, k3, k4, k5, k6, k7⟩ := RR.ok_split h.ok
  have hk := RR.fits h.ok h.wf
  have hb : putAll (live q.fl) = bs := h.eq
  have c := h.wf.bits
  have a1 : smallS bs 1 = q.id := smallS_of hk hb (by simp [valOf, RR.fl]) (by omega)
  have a3 : saidS bs 3 = q.txt := by rw [← hb, saidS_of hk]; simp [valOf, RR.fl]
  have a5 : bigS bs 5 = q.co := bigS_of hk hb (by simp [valOf, RR.fl]) h.wf.co
  have a7 : smallS bs 7 = q.num := smallS_of hk hb (by simp [valOf, RR.fl]) (okL_mem k4 (by simp))
  have a17 : bigS bs 17 = q.err.toNat := bigS_of hk hb (by simp [valOf, RR.fl]) (by unfold U64; omega)
  have a18 : listS bs 18 = q.items := listS_of hk hb (by simp [valOf, RR.fl]) k6
  have a19 : bigS bs 19 = q.bits := bigS_of hk hb (by simp [valOf, RR.fl]) (by unfold U64; omega)
  have a12 : saidS bs 12 = q.k.form := by rw [← hb, saidS_of hk]; simp [valOf, RR.fl]
  unfold repS
  rw [a1, a3, a5, a7, a17, a18, a19, a12]
  exact ⟨rfl, by show ((q.err.toNat : Nat) : Int) = q.err; omega, rfl, rfl, rfl, rfl, Nat.mod_eq_of_lt c, conS_of k7 h.wf.k⟩
theorem valOf_byte : ∀ {l : List Fd}, (∀ f ∈ l, ∀ x ∈ f.2, x < 256) → ∀ t, ∀ x ∈ valOf l t, x < 256
  | [], _, _, x, hx => by cases hx
  | f :: r, h, t, x, hx => by
    rw [valOf] at hx
    split at hx
    · exact h f (List.mem_cons_self ..) x hx
    · exact valOf_byte (fun g hg => h g (List.mem_cons_of_mem _ hg)) t x hx
theorem saidS_byte {bs : List Nat} (hb : ∀ x ∈ bs, x < 256) (t : Int) : ∀ x ∈ saidS bs t, x < 256 := valOf_byte (fun f hf => by
  obtain ⟨F, -, rfl⟩ := List.mem_map.1 hf
  exact GF.val_bytes hb) t
theorem valOf_len {M : Nat} : ∀ {l : List Fd}, (∀ f ∈ l, f.2.length ≤ M) → ∀ t, (valOf l t).length ≤ M
  | [], _, _ => Nat.zero_le _
  | f :: r, h, t => by
    rw [valOf]
    split
    · exact h f (List.mem_cons_self ..)
    · exact valOf_len (fun g hg => h g (List.mem_cons_of_mem _ hg)) t
theorem saidS_len (bs : List Nat) (t : Int) : (saidS bs t).length ≤ bs.length := valOf_len (fun f hf => by
  obtain ⟨F, -, rfl⟩ := List.mem_map.1 hf
  show (F.val bs).length ≤ _
  unfold GF.val
  simp only [List.length_take, List.length_drop]; omega) t
theorem entS_wf (v : List Nat) : (entS v).wf := ⟨bigS_lt _ _, bigS_lt _ _⟩
theorem conS_wf (v : List Nat) : (conS v).wf := ⟨bigS_lt _ _, bigS_lt _ _, bigS_lt _ _, fun e he => by
  obtain ⟨x, -, rfl⟩ := List.mem_map.1 he
  exact entS_wf x⟩
theorem cmdS_wf {bs : List Nat} (hb : ∀ x ∈ bs, x < 256) : (cmdS bs).wf := ⟨bigS_lt _ _, entS_wf _, conS_wf _, saidS_byte hb 3⟩
theorem repS_wf {bs : List Nat} (hb : ∀ x ∈ bs, x < 256) : (repS bs).wf := ⟨bigS_lt _ _, Nat.mod_lt _ (by decide), conS_wf _, saidS_byte hb 3⟩
/-- The document's test says just whether there is such a command. -/
theorem cmdS_iff {bs : List Nat} (hb : ∀ x ∈ bs, x < 256) : ((cmdS bs).ok = true ∧ (cmdS bs).form = bs) ↔ ∃ q, KForm bs q := by
  constructor
  · rintro ⟨h1, h2⟩
    exact ⟨_, h1, cmdS_wf hb, h2⟩
  · rintro ⟨q, hq⟩
    have := hq.like (cmdS_of hq)
    exact ⟨this.ok, this.eq⟩
theorem repS_iff {bs : List Nat} (hb : ∀ x ∈ bs, x < 256) : ((repS bs).ok = true ∧ (repS bs).form = bs) ↔ ∃ q, RForm bs q := by
  constructor
  · rintro ⟨h1, h2⟩
    exact ⟨_, h1, repS_wf hb, h2⟩
  · rintro ⟨q, hq⟩
    have := hq.like (repS_of hq)
    exact ⟨this.ok, this.eq⟩
end Go.Proofs.Ytlcjhbemgagchaa
end

section
/-
  proto, the document's way: the value of a tag, numbers.
-/
namespace Go.Proofs.Ytlcjhbemgagchaa
open Go.RowKit
set_option linter.unusedVariables false
set_option linter.unusedSimpArgs false
/-- Bytes that can be read, no more than a reply may have. -/
structure RB (w : World) (xs : List Nat) (A : Option Addr) (n c : Nat) : Prop where
  len : n = xs.length
  le : n ≤ 65536
  cap : n ≤ c
  cap2 : c ≤ 9223372036854775807
  byte : ∀ x ∈ xs, x < 256
  sl : Sl w 1 A n (xs.map bn)
theorem RB.quiet {w w' : World} {xs : List Nat} {A : Option Addr} {n c : Nat} (h : RB w xs A n c) (hf : Fr (fun _ => False) w w') : RB w' xs A n c := ⟨h.len, h.le, h.cap, h.cap2, h.byte, h.sl.quiet hf⟩
theorem RB.nil_ (w : World) : RB w [] none 0 0 := ⟨rfl, by omega, by omega, by omega, (fun x h => by cases h), Sl.nil_ _ _ _⟩
def fdOf (xs : List Nat) (r : FO) : Fd := ((r.F.tag : Int), r.F.val xs)
theorem saidS_rs {xs : List Nat} {rs : List FO} (h : rs.map (·.F) = (getAll xs).1) (t : Int) : saidS xs t = valOf (rs.map (fdOf xs)) t := by
  unfold saidS
  rw [← h, List.map_map]
  rfl
set_option maxHeartbeats 2000000 in
set_option maxRecDepth 8000 in
theorem rsaid_any (w : World) (xs : List Nat) (A : Option Addr) (n c : Nat) (h : RB w xs A n c) (t : Int) :
    Calls Try.prog 87 #[.slice A n c, .int .i64 t] w fun e w' => ∃ B m d, e = .returned (.slice B m d) ∧ Hid (RB w' (saidS xs t) B m d) ∧ Fr (fun _ => False) w w' := by
  have HC := hide (rget_any w xs A n c (by have := h.le; omega) h.cap h.cap2 h.len h.byte h.sl)
  have Hh := hide h
  clear h
  go_enter Try.func87, Try.ntmps87
  go_wp2_with fail
  refine HC.out.mono ?_
  rintro e w1 ⟨rs, D, k, cd, g, rfl, hk, hF, hO, -, hFO, hf⟩
  have Hk := hide hk
  have HF := hide (saidS_rs hF t)
  have HFO := hide hFO
  have Hkle : Hid (k ≤ 9223372036854775807) := by have := hO.cap; unfold maxLen at this; show k ≤ _; omega
  clear hk hF hFO HC
  have hkl := Hkle.out
  go_wp2_with fail
  go_loopw [8] (fun i wr => ∃ (j : Nat), j ≤ k ∧ i = .int .i64 (j : Int) ∧ Hid (valOf (rs.map (fdOf xs)) t = valOf ((rs.map (fdOf xs)).drop j) t) ∧ Hid (w1 = wr)) (fun i _ => k - (intOf i).toNat)
  case atStart => exact ⟨0, Nat.zero_le _, rfl, rfl, rfl⟩
  case round =>
    obtain ⟨j, hj, rfl, hv, hw⟩ := hrel
    have hw2 := hw.out
    subst hw2
    by_cases hlt : j < k
    · have hjl : j < rs.length := by rw [← Hk.out]; exact hlt
      obtain ⟨y, hy⟩ : ∃ y, rs[j] = y := ⟨_, rfl⟩
      obtain ⟨b0, o0, rfl, c0⟩ := hO.sl.at_ (j := j * 5 + 0) (u := .int .i64 y.F.tag) (by rw [rows_get FO.rCells 5 FO.rCells_len _ _ _ hjl (by omega), hy]; rfl)
      obtain ⟨b1, o1, e1, c1⟩ := hO.sl.at_ (j := j * 5 + 1) (u := .slice y.A y.n y.c) (by rw [rows_get FO.rCells 5 FO.rCells_len _ _ _ hjl (by omega), hy]; rfl)
      cases e1
      have hown := HFO.out.own y (by rw [← hy]; exact List.getElem_mem _)
      have hd : (rs.map (fdOf xs)).drop j = fdOf xs y :: (rs.map (fdOf xs)).drop (j + 1) := by
        rw [List.drop_eq_getElem_cons (by rw [List.length_map]; exact hjl)]
        congr 1
        rw [List.getElem_map, hy]
      have hv1 := hv.out
      rw [hd] at hv1
      rw [Nat.add_zero] at c0
      rw [← Nat.add_assoc] at c1
      obtain ⟨⟨tg, a1, a2, a3⟩, YA, yn, yc, yg⟩ := y
      simp only at c0 c1 hown
      have i0 : (0 : Int) ≤ (j : Int) := by omega
      have i1 : (j : Int) < (k : Int) := by omega
      have q1 : IntKind.i64.wrap ((j : Int) + 1) = ((j + 1 : Nat) : Int) := by rw [IntWalk.i64_in _ (by omega)]; omega
      have Hlt := hide hlt
      by_cases ht : (tg : Int) = t
      · have hR : Hid (RB w1 (saidS xs t) YA yn yc) := by
          have e2 : saidS xs t = (GF.mk tg a1 a2 a3).val xs := by
            rw [HF.out, hv1, fdOf]; exact valOf_yes ht
          have hc := hown.cap
          unfold maxLen at hc
          have hlen : yn = ((GF.mk tg a1 a2 a3).val xs).length := by have := hown.1; simpa using this.symm
          have h3 : ((GF.mk tg a1 a2 a3).val xs).length ≤ xs.length := by unfold GF.val; simp only [List.length_take, List.length_drop]; omega
          rw [e2]
          exact ⟨hlen, by have := Hh.out.le; have := Hh.out.len; omega, hc.1, hc.2, GF.val_bytes Hh.out.byte, hown.sl⟩
        have ht2 : ((tg : Int) == t) = true := by simpa using ht
        clear hv hv1 hd hy hjl hown hlt ht hj
        subst_vars
        go_wp2_with fail
        go_ret
        exact ⟨YA, yn, yc, rfl, hR, hf⟩
      · have hnext : Hid (valOf (rs.map (fdOf xs)) t = valOf ((rs.map (fdOf xs)).drop (j + 1)) t) := hv1.trans (by rw [fdOf]; exact valOf_no ht)
        have ht2 : ((tg : Int) == t) = false := by simpa using ht
        clear hv hv1 hd hy hjl hown hlt hj
        go_wp2_with fail
        have := Hlt.out
        exact ⟨⟨j + 1, by omega, by first | rfl | go_num, hnext, by first | exact rfl | exact trivial⟩, by simp [intOf]; try omega⟩
    · obtain rfl : j = k := by omega
      have hR : Hid (saidS xs t = []) := by
        show _ = _
        rw [HF.out, hv.out, List.drop_eq_nil_of_le (by rw [List.length_map, ← Hk.out]; exact Nat.le_refl _)]
        rfl
      clear hlt hj hv
      go_wp2_with fail
      go_ret
      exact ⟨none, 0, 0, rfl, by rw [hR.out]; exact RB.nil_ _, hf⟩
set_option maxHeartbeats 2000000 in
theorem rbig_any (w : World) (xs : List Nat) (A : Option Addr) (n c : Nat) (h : RB w xs A n c) (t : Int) :
    Calls Try.prog 85 #[.slice A n c, .int .i64 t] w fun e w' => e = .returned (.int .u64 (bigS xs t : Int)) ∧ Fr (fun _ => False) w w' := by
  have HC := hide (rsaid_any w xs A n c h t)
  clear h
  go_enter Try.func85, Try.ntmps85
  go_wp2_with fail
  refine HC.out.mono ?_
  rintro e w1 ⟨B, m, d, rfl, hR, hf⟩
  have HS := hide (rread_any w1 (saidS xs t) B m d 0 (by have := hR.out.le; omega) hR.out.len hR.out.byte hR.out.sl)
  obtain ⟨N, en, er, hrd⟩ : ∃ N en er, readShort (saidS xs t) 0 = (N, en, er) := ⟨_, _, _, rfl⟩
  have hN : Hid (bigS xs t = N) := by show _ = _; unfold bigS; rw [hrd]
  have HS2 : Hid (Calls Try.prog 118 #[.slice B m d, .int .i64 0] w1 fun e w' => e = .returned (.tuple #[.int .u64 (N : Int), .int .i64 en, .int .i64 (er : Int)]) ∧ w1 = w') := by
    have := HS.out
    unfold ReadVal at this
    rw [hrd] at this
    exact this
  clear HS hrd hR HC
  go_wp2_with fail
  refine HS2.out.mono ?_
  rintro e w2 ⟨rfl, rfl⟩
  go_wp2_with fail
  go_ret
  exact ⟨by rw [hN.out]; rfl, hf⟩
set_option maxHeartbeats 2000000 in
theorem rsmall_any (w : World) (xs : List Nat) (A : Option Addr) (n c : Nat) (h : RB w xs A n c) (t : Int) :
    Calls Try.prog 86 #[.slice A n c, .int .i64 t] w fun e w' => e = .returned (.int .i64 (smallS xs t)) ∧ Fr (fun _ => False) w w' := by
  have HC := hide (rbig_any w xs A n c h t)
  obtain ⟨N, hN⟩ : ∃ N, bigS xs t = N := ⟨_, rfl⟩
  rw [hN] at HC
  clear h
  by_cases hbig : 1125899906842624 < N
  · have hs : Hid (smallS xs t = -1) := by show _ = _; unfold smallS; rw [hN, if_pos hbig]
    have hb : (1125899906842624 : Int) < (N : Int) := by omega
    clear hN
    go_enter Try.func86, Try.ntmps86
    go_wp2_with fail
    refine HC.out.mono ?_
    rintro e w1 ⟨rfl, hf⟩
    go_wp2_with fail
    go_ret
    exact ⟨by rw [hs.out]; rfl, hf⟩
  · have hs : Hid (smallS xs t = (N : Int)) := by show _ = _; unfold smallS; rw [hN, if_neg hbig]
    have hb : ¬ (1125899906842624 : Int) < (N : Int) := by omega
    have hq : IntKind.i64.wrap (N : Int) = (N : Int) := IntWalk.i64_in _ (by omega)
    clear hN
    go_enter Try.func86, Try.ntmps86
    go_wp2_with fail
    refine HC.out.mono ?_
    rintro e w1 ⟨rfl, hf⟩
    go_wp2_with fail
    go_ret
    exact ⟨by rw [hs.out]; rfl, hf⟩
end Go.Proofs.Ytlcjhbemgagchaa
end

section
/-
  proto, the document's way: a list of numbers, an entry.
-/
namespace Go.Proofs.Ytlcjhbemgagchaa
open Go.RowKit
set_option linter.unusedVariables false
set_option linter.unusedSimpArgs false
theorem Ow.sblk' {w : World} {e : TypeId} {size n c : Nat} {A : Option Addr} {xs : List Value} {g : Option Nat} (h : Ow w e size A n c xs g) {x o : Nat} (hA : A = some ⟨x, o, none⟩) : g = some x := by
  rcases h.2 with ⟨h1, -⟩ | ⟨b, o', cur, h1, h2, -⟩
  · rw [h1] at hA; cases hA
  · rw [h1] at hA; cases hA; exact h2
/-- Numbers that can be read. -/
structure RL (w : World) (ws : List Int) (A : Option Addr) (n c : Nat) : Prop where
  le : n ≤ 65536
  cap : n ≤ c
  cap2 : c ≤ 9223372036854775807
  sl : Sl w 1 A n (ws.map iv)
theorem RL.quiet {w w' : World} {ws : List Int} {A : Option Addr} {n c : Nat} (h : RL w ws A n c) (hf : Fr (fun _ => False) w w') : RL w' ws A n c := ⟨h.le, h.cap, h.cap2, h.sl.quiet hf⟩
theorem RB.frt {w w' : World} {xs : List Nat} {A : Option Addr} {n c : Nat} (h : RB w xs A n c) {S : Nat → Prop} (hf : Fr S w w') (hS : ∀ b o, A = some ⟨b, o, none⟩ → ¬ S b) : RB w' xs A n c := ⟨h.len, h.le, h.cap, h.cap2, h.byte, h.sl.fr (B := 0) hf fun b ⟨o, e⟩ _ => hS b o e⟩
/-- The items of a value, read. -/
theorem itemsV_read {w : World} {v : List Nat} {A : Option Addr} {n c : Nat} (h : RB w v A n c) :
    Calls Try.prog 120 #[.slice A n c] w fun e w' => ∃ (rs : List BS) (D : Option Addr) (k d : Nat) (E : Option Addr) (d2 : Nat) (p er : Int), e = .returned (.tuple #[.slice D k d, .slice E k d2, .int .i64 p, .int .i64 er]) ∧
      Hid (rs.map (·.xs) = itemsV v ∧ k = rs.length ∧ k ≤ 65536 ∧ Sl w' 1 D k (rs.map BS.cell) ∧ (∀ r ∈ rs, RB w' r.xs r.A r.n r.c ∧ ∀ b o, r.A = some ⟨b, o, none⟩ → Typed w' b 5) ∧ ∀ b o, D = some ⟨b, o, none⟩ → Typed w' b 22) ∧ Fr (fun _ => False) w w' := by
  refine (ritems_any w v A n c (by have := h.le; omega) h.cap h.cap2 h.len h.byte h.sl).mono ?_
  rintro e w' ⟨rs, D, k, d, g, E, d2, g2, rfl, hT, -, -⟩
  have hlen : k = rs.length := by have := hT.ow.1; simpa using this.symm
  have hle : k ≤ v.length := by rw [hT.len]; exact itemsAll_len v
  have hv := h.len
  have hn := h.le
  refine ⟨rs, D, k, d, E, d2, _, _, rfl, ⟨hT.eq, hlen, by omega, hT.ow.sl, fun r hr => ?_, fun b o e => hT.ow.typed b (hT.ow.sblk' e)⟩, hT.fr⟩
  have ho := hT.own.own r hr
  simp only [marks, List.range_zero, List.map_nil, List.append_nil, Nat.add_zero] at ho
  have hc := ho.cap
  unfold maxLen at hc
  have hl : r.n = r.xs.length := by have := ho.1; simpa using this.symm
  have hm : r.xs ∈ (itemsAll v).1.map (GF.val v) := by rw [← hT.eq]; exact List.mem_map_of_mem hr
  obtain ⟨G, -, hG⟩ := List.mem_map.1 hm
  have h3 : r.xs.length ≤ v.length := by rw [← hG]; unfold GF.val; simp only [List.length_take, List.length_drop]; omega
  exact ⟨⟨hl, by omega, hc.1, hc.2, by rw [← hG]; exact GF.val_bytes h.byte, ho.sl⟩, fun b o e => ho.typed b (ho.sblk' e)⟩
theorem firstsL_step {xs : List (List Nat)} {j : Nat} (h : j < xs.length) (ns : List Nat) (hns : firstsL xs = (firstsL (xs.drop j)).map (ns ++ ·)) :
    (1125899906842624 < (readShort xs[j] 0).1 → firstsL xs = none) ∧ (¬ 1125899906842624 < (readShort xs[j] 0).1 → firstsL xs = (firstsL (xs.drop (j + 1))).map ((ns ++ [(readShort xs[j] 0).1]) ++ ·)) := by
  have hd : xs.drop j = xs[j] :: xs.drop (j + 1) := List.drop_eq_getElem_cons h
  rw [hd, firstsL] at hns
  constructor
  · intro hc
    rw [hns, if_pos hc]; rfl
  · intro hc
    rw [hns, if_neg hc, Option.map_map]
    congr 1
    funext l
    simp
set_option maxHeartbeats 4000000 in
set_option maxRecDepth 8000 in
theorem rlistI_any (w : World) (xs : List Nat) (A : Option Addr) (n c : Nat) (h : RB w xs A n c) (t : Int) :
    Calls Try.prog 88 #[.slice A n c, .int .i64 t] w fun e w' => ∃ B m d, e = .returned (.slice B m d) ∧ Hid (RL w' (listS xs t) B m d ∧ ∀ b o, B = some ⟨b, o, none⟩ → Typed w' b 3) ∧ Fr (fun _ => False) w w' := by
  obtain ⟨j0, hj, hj0, hj1, hj2⟩ := info_parts infoInt
  have HC := hide (rsaid_any w xs A n c h t)
  clear h
  go_enter Try.func88, Try.ntmps88
  go_wp2_with fail
  refine HC.out.mono ?_
  rintro e w1 ⟨B, m, d, rfl, hR, hf1⟩
  have HI := hide (itemsV_read hR.out)
  clear HC hR
  go_wp2_with fail
  refine HI.out.mono ?_
  rintro e W2 ⟨rs, D, k, dd, E, d2, p, er, rfl, HT, hf2⟩
  have Hf : Hid (Fr (fun _ => False) w W2) := hf1.trans hf2
  have hk := HT.out.2.2.1
  clear HI hf1 hf2
  go_wp2_with fail
  go_loopw [9, 10] (fun u i wr => ∃ (j : Nat) (ns : List Nat) (A : Option Addr) (ca : Nat) (ga : Option Nat), j ≤ k ∧ i = .int .i64 (j : Int) ∧ u = .slice A j ca ∧ Hid (firstsL (rs.map (·.xs)) = (firstsL ((rs.map (·.xs)).drop j)).map (ns ++ ·)) ∧ Ow wr 3 1 A j ca ((ns.map Int.ofNat).map iv) ga ∧ Hid ((∀ x, ga = some x → W2.heap.size ≤ x) ∧ Fr (fun _ => False) W2 wr)) (fun _ i _ => k - (intOf i).toNat)
  case atStart => exact ⟨0, [], none, 0, none, Nat.zero_le _, rfl, rfl, (by show _ = _; simp), Ow.nil_ _ _ _, (fun x e => by cases e), Fr.refl _ _⟩
  case round =>
    obtain ⟨j, ns, A2, ca, ga, hjk, rfl, rfl, hin, hA, hfr⟩ := hrel
    obtain ⟨w3, rfl⟩ : ∃ w3, w3 = wr := ⟨_, rfl⟩
    by_cases hlt : j < k
    · have hjl : j < rs.length := by rw [← HT.out.2.1]; exact hlt
      obtain ⟨y, hy⟩ : ∃ y, rs[j] = y := ⟨_, rfl⟩
      obtain ⟨b0, o0, rfl, c0⟩ := (HT.out.2.2.2.1.quiet hfr.out.2).at_ (j := j) (u := y.cell) (by rw [List.getElem?_map, List.getElem?_eq_getElem hjl, hy]; rfl)
      have hyr := (HT.out.2.2.2.2.1 y (by rw [← hy]; exact List.getElem_mem _)).1.quiet hfr.out.2
      have hxj : (rs.map (·.xs))[j]'(by rw [List.length_map]; exact hjl) = y.xs := by rw [List.getElem_map, hy]
      obtain ⟨s1, s2⟩ := firstsL_step (xs := rs.map (·.xs)) (by rw [List.length_map]; exact hjl) ns hin.out
      rw [hxj] at s1 s2
      obtain ⟨ys, YB, ym, yc, yg⟩ := y
      simp only [BS.cell] at c0 hyr s1 s2
      have HS0 := rread_any w3 ys YB ym yc 0 (by have := hyr.le; omega) hyr.len hyr.byte hyr.sl
      obtain ⟨N, en, er2, hrd⟩ : ∃ N en er, readShort ys 0 = (N, en, er) := ⟨_, _, _, rfl⟩
      rw [hrd] at s1 s2
      simp only at s1 s2
      have HS : Hid (Calls Try.prog 118 #[.slice YB ym yc, .int .i64 0] w3 fun e w' => e = .returned (.tuple #[.int .u64 (N : Int), .int .i64 en, .int .i64 (er2 : Int)]) ∧ w3 = w') := by
        unfold ReadVal at HS0
        rw [hrd] at HS0
        exact HS0
      have i0 : (0 : Int) ≤ (j : Int) := by omega
      have i1 : (j : Int) < (k : Int) := by omega
      have q1 : IntKind.i64.wrap ((j : Int) + 1) = ((j + 1 : Nat) : Int) := by rw [IntWalk.i64_in _ (by omega)]; omega
      have Hlt := hide hlt
      by_cases hbig : 1125899906842624 < N
      · have hb : (1125899906842624 : Int) < (N : Int) := by omega
        have Hl : Hid (listS xs t = [-1]) := by
          have h1 := s1 hbig
          rw [HT.out.1] at h1
          show _ = _
          unfold listS firstsI
          rw [h1]
        clear s1 s2 hrd hxj hy hjl hlt hyr HS0 hin hA hbig
        go_wp2_with fail
        refine HS.out.mono ?_
        rintro e w' ⟨rfl, rfl⟩
        go_wp2_with fail
        go_ret
        refine ⟨_, _, _, rfl, ?_, (Hf.out.trans hfr.out.2).alloc _⟩
        rw [Hl.out]
        exact ⟨⟨by omega, by omega, by omega, Sl.one _ _ _⟩, fun b o e => by cases e; exact (Bl.new w3 3 _).typed⟩
      · have hb : ¬ (1125899906842624 : Int) < (N : Int) := by omega
        have hNi : IntKind.i64.wrap (N : Int) = (N : Int) := IntWalk.i64_in _ (by omega)
        have Hnext := hide (s2 hbig)
        clear s1 s2 hrd hxj hy hjl hlt hyr HS0 hin hbig
        go_wp2_with fail
        refine HS.out.mono ?_
        rintro e w' ⟨rfl, rfl⟩
        go_wp2_with (first | (at_builtin; refine wpList_append_ow _ rfl _ _ 24 rfl 3 j0 (.int .i64 0) 1 8 Try.underlying24 hj hj0 hj1 hj2 rfl (by decide) _ _ _ _ _ rfl (hA.fr ((Fr.refl (fun _ => False) _).alloc _) (fun _ _ => id)) _ _ _ [.int .i64 (N : Int)] rfl (Sl.one _ _ _) (by intro u hu; simp at hu; subst hu; rfl) (by unfold maxLen; omega) (by omega) ?_) | go_in)
        intro A3 c3 w4 g3 hO3 hf3 hg3
        have hs := hfr.out.2.size
        have HR : Hid ((∀ x, g3 = some x → W2.heap.size ≤ x) ∧ Fr (fun _ => False) W2 w4) := by
          refine ⟨fun x e => ?_, ?_⟩
          · rcases hg3 with e2 | ⟨z, e2, hz⟩
            · rw [e2] at e; exact hfr.out.1 x e
            · rw [e2] at e; cases e
              (try simp at hz); omega
          · refine hfr.out.2.comp (((Fr.refl _ _).alloc _).comp hf3 (fun _ _ e => e)) fun x hx e => ?_
            have := hfr.out.1 x e.symm
            omega
        have hO4 : Ow w4 3 1 A3 (j + 1) c3 (((ns ++ [N]).map Int.ofNat).map iv) g3 := by
          have h9 := hO3
          simp only [List.map_append, List.map_map, List.map_cons, List.map_nil] at h9 ⊢
          exact h9
        clear hO3 hf3 hg3 hA
        go_wp2_with fail
        have := Hlt.out
        exact ⟨⟨j + 1, ns ++ [N], A3, c3, g3, by omega, by first | rfl | go_num, rfl, Hnext, hO4, HR⟩, by simp [intOf]; try omega⟩
    · obtain rfl : j = k := by omega
      have Hl : Hid (listS xs t = ns.map Int.ofNat) := by
        have h1 := hin.out
        rw [List.drop_eq_nil_of_le (by rw [List.length_map, ← HT.out.2.1]; exact Nat.le_refl _), HT.out.1] at h1
        show _ = _
        unfold listS firstsI
        rw [h1]; simp [firstsL]
      have hcap := hA.cap
      unfold maxLen at hcap
      clear hlt hin
      go_wp2_with fail
      go_ret
      have hs1 := Hf.out.size
      exact ⟨A2, j, ca, rfl, by rw [Hl.out]; exact ⟨⟨by omega, hcap.1, hcap.2, hA.sl⟩, fun b o e => hA.typed b (hA.sblk' e)⟩, Hf.out.trans hfr.out.2⟩
set_option maxHeartbeats 4000000 in
set_option maxRecDepth 8000 in
theorem rreadEntry_any (w : World) (xs : List Nat) (A : Option Addr) (n c : Nat) (h : RB w xs A n c) :
    Calls Try.prog 121 #[.slice A n c] w fun e w' => ∃ q : ER, e = .returned (.agg #[.int .i64 q.acc, .int .i64 q.item, .int .u64 (q.co : Int), .int .u64 (q.pr : Int), .slice q.A q.n q.c]) ∧ Hid (q.like (entS xs) ∧ q.at_ w' ∧ ∀ b o, q.A = some ⟨b, o, none⟩ → Typed w' b 3) ∧ Fr (fun _ => False) w w' := by
  have Hh := hide h
  clear h
  obtain ⟨a, ha⟩ : ∃ a, smallS xs 22 = a := ⟨_, rfl⟩
  obtain ⟨i, hi⟩ : ∃ i, smallS xs 6 = i := ⟨_, rfl⟩
  obtain ⟨co, hco⟩ : ∃ a, bigS xs 5 = a := ⟨_, rfl⟩
  obtain ⟨pr, hpr⟩ : ∃ a, bigS xs 10 = a := ⟨_, rfl⟩
  have H1 : Hid (∀ w1, Fr (fun _ => False) w w1 → Calls Try.prog 86 #[.slice A n c, .int .i64 22] w1 fun e w' => e = .returned (.int .i64 a) ∧ Fr (fun _ => False) w1 w') := fun w1 hf => by rw [← ha]; exact rsmall_any w1 xs A n c (Hh.out.quiet hf) 22
  have H2 : Hid (∀ w1, Fr (fun _ => False) w w1 → Calls Try.prog 86 #[.slice A n c, .int .i64 6] w1 fun e w' => e = .returned (.int .i64 i) ∧ Fr (fun _ => False) w1 w') := fun w1 hf => by rw [← hi]; exact rsmall_any w1 xs A n c (Hh.out.quiet hf) 6
  have H3 : Hid (∀ w1, Fr (fun _ => False) w w1 → Calls Try.prog 85 #[.slice A n c, .int .i64 5] w1 fun e w' => e = .returned (.int .u64 (co : Int)) ∧ Fr (fun _ => False) w1 w') := fun w1 hf => by rw [← hco]; exact rbig_any w1 xs A n c (Hh.out.quiet hf) 5
  have H4 : Hid (∀ w1, Fr (fun _ => False) w w1 → Calls Try.prog 85 #[.slice A n c, .int .i64 10] w1 fun e w' => e = .returned (.int .u64 (pr : Int)) ∧ Fr (fun _ => False) w1 w') := fun w1 hf => by rw [← hpr]; exact rbig_any w1 xs A n c (Hh.out.quiet hf) 10
  have H5 : Hid (∀ w1, Fr (fun _ => False) w w1 → Calls Try.prog 88 #[.slice A n c, .int .i64 11] w1 fun e w' => ∃ B m d, e = .returned (.slice B m d) ∧ Hid (RL w' (listS xs 11) B m d ∧ ∀ b o, B = some ⟨b, o, none⟩ → Typed w' b 3) ∧ Fr (fun _ => False) w1 w') := fun w1 hf => rlistI_any w1 xs A n c (Hh.out.quiet hf) 11
  have HE : Hid (entS xs = ⟨a, i, co, pr, none, 0, 0, listS xs 11⟩) := by show _ = _; unfold entS; rw [ha, hi, hco, hpr]
  have HB : Hid (Bl (w.alloc (.cells #[.int .i64 0, .int .i64 0, .int .u64 0, .int .u64 0, .slice none 0 0] tEnt)) w.heap.size tEnt #[.int .i64 0, .int .i64 0, .int .u64 0, .int .u64 0, .slice none 0 0]) := Bl.new _ _ _
  clear ha hi hco hpr Hh
  go_enter Try.func121, Try.ntmps121
  go_wp2_with fail
  refine (H1.out _ (by (repeat (first | with_reducible exact Fr.refl _ _ | with_reducible assumption | with_reducible refine Fr.drew ?_ | with_reducible refine Fr.drewN ?_ _ | with_reducible refine Fr.alloc ?_ _ | with_reducible refine Fr.setIn ?_ (by first | exact Or.inl rfl | exact Or.inr (by simp; done) | exact Or.inr (by simp; omega) | exact Or.inr (by omega)) _)))).mono ?_
  rintro e w1 ⟨rfl, hf1⟩
  have F1 : Hid (Fr (fun _ => False) (w.alloc (.cells #[.int .i64 0, .int .i64 0, .int .u64 0, .int .u64 0, .slice none 0 0] tEnt)) w1) := hf1
  have G0 : Hid (Fr (fun _ => False) w (w.alloc (.cells #[.int .i64 0, .int .i64 0, .int .u64 0, .int .u64 0, .slice none 0 0] tEnt))) := by show Fr _ _ _; (repeat (first | with_reducible exact Fr.refl _ _ | with_reducible assumption | with_reducible refine Fr.drew ?_ | with_reducible refine Fr.drewN ?_ _ | with_reducible refine Fr.alloc ?_ _ | with_reducible refine Fr.setIn ?_ (by first | exact Or.inl rfl | exact Or.inr (by simp; done) | exact Or.inr (by simp; omega) | exact Or.inr (by omega)) _))
  go_wp2_with fail
  refine (H2.out _ (G0.out.trans F1.out)).mono ?_
  rintro e w2 ⟨rfl, hf2⟩
  have F2 := hide (F1.out.trans hf2)
  go_wp2_with fail
  refine (H3.out _ (G0.out.trans F2.out)).mono ?_
  rintro e w3 ⟨rfl, hf3⟩
  have F3 := hide (F2.out.trans hf3)
  go_wp2_with fail
  refine (H4.out _ (G0.out.trans F3.out)).mono ?_
  rintro e w4 ⟨rfl, hf4⟩
  have F4 := hide (F3.out.trans hf4)
  go_wp2_with fail
  refine (H5.out _ (G0.out.trans F4.out)).mono ?_
  rintro e w5 ⟨B, m, d, rfl, hR, hf5⟩
  have F5 := hide (F4.out.trans hf5)
  have hB5 : Bl w5 w.heap.size tEnt #[.int .i64 0, .int .i64 0, .int .u64 0, .int .u64 0, .slice none 0 0] := HB.out.fr F5.out id
  have hB5h := hB5
  unfold Bl at hB5h
  clear H1 H2 H3 H4 H5 F1 F2 F3 F4 hf1 hf2 hf3 hf4 hf5 HB
  go_wp2_with (refine wpList_store_at rfl tEnt _ _ rfl w.heap.size 0 #[.int .i64 a, .int .i64 i, .int .u64 (co : Int), .int .u64 (pr : Int), .slice B m d] rfl rfl tEnt _ #[.int .i64 a, .int .i64 i, .int .u64 (co : Int), .int .u64 (pr : Int), .slice B m d] hB5h (by kernel_rfl) 5 5 rfl rfl (by decide) rfl rfl ?_)
  have hB9 := hB5.setRow #[.int .i64 a, .int .i64 i, .int .u64 (co : Int), .int .u64 (pr : Int), .slice B m d]
  try simp only [Exit.inBlock, Exit.then]
  refine bodyPost_ret (results_cell_row rfl _ _ w.heap.size tEnt #[.int .i64 a, .int .i64 i, .int .u64 (co : Int), .int .u64 (pr : Int), .slice B m d] (0, 0) _ rfl hB9 Try.underlying26 rfl (by kernel_rfl)) rfl ?_
  have hF : Fr (fun _ => False) w (w5.setRow w.heap.size #[.int .i64 a, .int .i64 i, .int .u64 (co : Int), .int .u64 (pr : Int), .slice B m d]) := (G0.out.trans F5.out).setRow (.inr (Nat.le_refl _)) _
  refine ⟨⟨a, i, co, pr, B, m, d, listS xs 11⟩, rfl, ⟨by rw [HE.out]; exact ER.like_mk rfl rfl rfl rfl rfl, ?_⟩, hF⟩
  have hne : ∀ b o, B = some ⟨b, o, none⟩ → b ≠ w.heap.size := fun b o e e2 => by subst e2; exact absurd ((hR.out.2 _ o e).same hB5.typed) (by decide)
  exact ⟨⟨hR.out.1.sl.fr (B := 0) (Fr.row _) (fun b ⟨o, e⟩ _ => hne b o e), by have := hR.out.1.le; show m ≤ _; omega, hR.out.1.cap, hR.out.1.cap2⟩, fun b o e => (hR.out.2 b o e).fr (Fr.row _) (hne b o e)⟩
end Go.Proofs.Ytlcjhbemgagchaa
end
