/-
  Texts merged into one, to keep the claim small: Pd2.
-/
import Derived.Test.YtlcjhbemgagchaaMc13
import Derived.Test.YtlcjhbemgagchaaMc14
/-
  proto: entries, contracts, commands and replies read with care: what is read without a fault has just these bytes as its form, and what has a form is read of it. No program in sight.
-/
namespace Go.Proofs.Ytlcjhbemgagchaa
set_option linter.unusedVariables false
set_option linter.unusedSimpArgs false
theorem ER.like_mk {a b : ER} (h1 : a.acc = b.acc) (h2 : a.item = b.item) (h3 : a.co = b.co) (h4 : a.pr = b.pr) (h5 : a.ws = b.ws) : a.like b := And.intro h1 (And.intro h2 (And.intro h3 (And.intro h4 h5)))
theorem or_e {b : Bool} {f : RF} {b' : Bool} (h : b' = (b || decide (f.e ≠ 0))) (h0 : b' = false) : b = false ∧ f.e = 0 := by
  rw [h0] at h
  have hb : b = false := by cases b with
    | false => rfl
    | true => cases h
  rw [hb] at h
  exact ⟨hb, by simpa using h.symm⟩
theorem okN_nat {n : Nat} {z : Int} (h : z = (n : Int)) (hn : n ≤ 1125899906842624) : okN z = true := okN_iff.2 (by omega)
theorem toNat_back {z y : Int} (h : z = ((y.toNat : Nat) : Int)) (h0 : 0 ≤ y) : z = y := by omega
theorem tags_of {l : List Fd} {T : List Int} (h : ∀ y ∈ l.map (·.1), y ∈ T) : ∀ f ∈ l, f.1 ∈ T := fun f hf => h f.1 (List.mem_map_of_mem hf)
/-- A record just begun. -/
structure RD.fresh (d : RD) : Prop where
  only : Only d []
  tk : d.tk.length = d.fs.length
theorem readS_fresh (f : RF) (base : Nat) (bs : List Nat) : (readS f base bs).1.fresh := by
  unfold readS
  split
  · exact ⟨fun j h => absurd h (by simp [RD.empty]), rfl⟩
  · simp only
    split
    · exact ⟨fun j h => absurd h (by simp [RD.empty]), rfl⟩
    · refine ⟨fun j h hm => ?_, by simp⟩
      simp only [List.getD_eq_getElem?_getD, List.getElem?_map] at hm
      cases hx : (getAll bs).1[j]? <;> rw [hx] at hm <;> cases hm
theorem took_tk' {d : RD} (hk : d.tk.length = d.fs.length) (f : RF) (t : Int) : (d.took f t).tk.length = (d.took f t).fs.length := by
  show (d.tk.set _ _).length = d.fs.length
  rw [List.length_set]; exact hk
def TkL (d : RD) : Prop := d.tk.length = d.fs.length
theorem TkL.took {d : RD} (h : TkL d) (f : RF) (t : Int) : TkL (d.took f t) := took_tk' h f t
theorem end_sound' {d : RD} {f : RF} {T : List Int} (hO : Only d T) (hk : TkL d) (h0 : (endS d f).e = 0) : f.e = 0 ∧ endS d f = f ∧ ∀ g ∈ FF d, g.1 ∈ T := end_sound hO hk h0
theorem FF_took (d : RD) (f : RF) (t : Int) : FF (d.took f t) = FF d := rfl
theorem took_okr {d : RD} (h : d.ok) (f : RF) (t : Int) : (d.took f t).ok := RD.took_ok h f t
/-- A record within: what is read of it. -/
theorem record_sound {d d' : RD} {f f' : RF} {t : Int} (hg : d.good) (h : recordS d f t = (d', f')) (h0 : f'.e = 0) : f.e = 0 ∧ f' = f ∧ d'.good ∧ d'.fresh ∧ valOf (FF d) t = putAll (FF d') := by
  by_cases hf : f.e = 0
  · unfold recordS at h
    rcases hF : d.fld f t with _ | F
    · rw [hF] at h
      cases h
      exact ⟨hf, rfl, RD.empty_good (by have := hg.ok.le; omega), ⟨fun j h => absurd h (by simp [RD.empty]), rfl⟩, fld_val0 hg hf hF⟩
    · rw [hF] at h
      simp only at h
      have hm := hg.ok.at_ F (fld_mem hF)
      have hle := hg.ok.le
      have hb : ∀ x ∈ F.val d.bs, x < 256 := GF.val_bytes hg.ok.byte
      have hl := GF.val_len (bs := d.bs) (F := F) hm.2.1
      have h1 : (readS f (d.base + F.from_) (F.val d.bs)).2.e = 0 := by rw [h]; exact h0
      obtain ⟨g1, g2, g3, g4⟩ := readS_good hb (by omega) (.inr (by omega)) h1
      have hfr := readS_fresh f (d.base + F.from_) (F.val d.bs)
      rw [h] at g2 g3 g4 hfr
      exact ⟨hf, g2, g3, hfr, by rw [(fld_val hg hf hF).1]; exact g4.symm⟩
  · unfold recordS at h
    rw [fld_bad hf] at h
    cases h
    exact absurd h0 hf
theorem readers_sound : ∀ (l : List GF) (f : RF) (base : Nat) (v : List Nat), (∀ x ∈ v, x < 256) → (∀ G ∈ l, G.from_ ≤ G.to_ ∧ G.to_ ≤ v.length) → base + v.length ≤ 1048576 → (readersS f base v l).2.e = 0 →
    f.e = 0 ∧ (readersS f base v l).2 = f ∧ l.map (GF.val v) = (readersS f base v l).1.map (fun d => putAll (FF d)) ∧ ∀ d ∈ (readersS f base v l).1, d.good ∧ d.fresh
  | [], f, base, v, _, _, _, h => ⟨h, rfl, rfl, fun d h => by cases h⟩
  | G :: l, f, base, v, hb, hl, hs, h => by
    simp only [readersS] at h ⊢
    obtain ⟨i1, i2, i3, i4⟩ := readers_sound l (readS f (base + G.from_) (G.val v)).2 base v hb (fun G hG => hl G (List.mem_cons_of_mem _ hG)) hs h
    have hG := hl G (List.mem_cons_self ..)
    have hlen := GF.val_len (bs := v) (F := G) hG.2
    obtain ⟨g1, g2, g3, g4⟩ := readS_good (GF.val_bytes hb) (by omega) (.inr (by omega)) i1
    refine ⟨g1, i2.trans g2, ?_, fun d hd => ?_⟩
    · rw [List.map_cons, List.map_cons, g4, i3]
    · rcases List.mem_cons.1 hd with rfl | hd
      · exact ⟨g3, readS_fresh _ _ _⟩
      · exact i4 d hd
theorem records_sound {d : RD} {f f' : RF} {t most : Int} {ds : List RD} (hg : d.good) (h : recordsS d f t most = (ds, f')) (h0 : f'.e = 0) :
    f.e = 0 ∧ f' = f ∧ valOf (FF d) t = listAll (ds.map fun d => putAll (FF d)) ∧ (ds.length : Int) ≤ max most 0 ∧ ∀ e ∈ ds, e.good ∧ e.fresh := by
  unfold recordsS at h
  simp only at h
  rcases hF : (itS d f t most).1 with _ | F
  · rw [hF] at h
    simp only at h
    cases h
    obtain ⟨g1, g2, g3, g4, g5, g6⟩ := it_sound hg h0
    refine ⟨g1, g2, ?_, by simp; omega, fun e he => by cases he⟩
    rw [g3]
    unfold itVals
    rw [hF]
    rfl
  · rw [hF] at h
    simp only at h
    have hs : (readersS (itS d f t most).2.2 (d.base + F.from_) (F.val d.bs) (itS d f t most).2.1) = (ds, f') := by
      split at h
      · rename_i hc; cases h; exact absurd h0 hc.2
      · exact h
    have hi0 : (itS d f t most).2.2.e = 0 := by
      by_cases hf : f.e = 0
      · unfold itS at hF ⊢
        rcases hfl : d.fld f t with _ | G
        · rw [hfl] at hF; cases hF
        · rw [hfl] at hF
          simp only at hF ⊢
          by_cases h1 : (itemsAll (G.val d.bs)).2.2 ≠ 0
          · rw [if_pos h1] at hF; cases hF
          · rw [if_neg h1] at hF ⊢
            by_cases h2 : max most 0 < ((itemsAll (G.val d.bs)).1.length : Int)
            · rw [if_pos h2] at hF; cases hF
            · rw [if_neg h2]; exact hf
      · exfalso
        unfold itS at hF
        rw [fld_bad hf] at hF
        cases hF
    obtain ⟨g1, g2, g3, g4, g5, g6⟩ := it_sound hg hi0
    have hF2 : d.fld f t = some F ∧ ∀ G ∈ (itS d f t most).2.1, G.from_ ≤ G.to_ ∧ G.to_ ≤ (F.val d.bs).length := by
      unfold itS at hF ⊢
      split at hF
      · cases hF
      · rename_i F' hfl
        rw [hfl]
        simp only at hF ⊢
        split at hF
        · cases hF
        · split at hF
          · cases hF
          · rename_i h1 h2
            simp only [Option.some.injEq] at hF
            subst hF
            rw [if_neg h1, if_neg h2]
            exact ⟨rfl, itemsAll_at _⟩
    have hm := hg.ok.at_ F (fld_mem hF2.1)
    have hle := hg.ok.le
    have hl := GF.val_len (bs := d.bs) (F := F) hm.2.1
    obtain ⟨r1, r2, r3, r4⟩ := readers_sound (itS d f t most).2.1 (itS d f t most).2.2 (d.base + F.from_) (F.val d.bs) (GF.val_bytes hg.ok.byte) hF2.2 (by omega) (by rw [hs]; exact h0)
    rw [hs] at r2 r3 r4
    have hv : itVals d (itS d f t most) = ds.map fun d => putAll (FF d) := by
      rw [← r3]
      unfold itVals
      rw [hF]
    rw [hv] at g3 g4
    rw [List.length_map] at g4
    exact ⟨g1, r2.trans g2, g3, g4, r4⟩
theorem putAll_live_nil {l : List Fd} (h : putAll (live l) = []) : live l = [] := by
  have h1 := (put_live_nil l).1 (by rw [h]; rfl)
  exact List.filter_eq_nil_iff.2 fun f hf => by rw [h1 f hf]; simp
/-- What a record's bytes are: those of these fields. -/
structure Fits (k : List Fd) : Prop where
  asc : Asc 0 k
  small : (putAll (live k)).length ≤ 1048576
  len : ∀ f ∈ k, f.2.length < U64
structure Sees (d : RD) (k : List Fd) : Prop where
  shows : Shows d k
  ok : d.ok
  fresh : d.fresh
theorem record_of {d : RD} {l k : List Fd} (hs : Shows d l) (ho : d.ok) (hk : Fits k) {t : Int} (hv : valOf l t = putAll (live k)) : ∃ d', recordS d F0 t = (d', F0) ∧ Sees d' k := by
  by_cases h0 : putAll (live k) = []
  · have hF := fld_no hs (t := t) (by rw [hv, h0])
    refine ⟨RD.empty d.base, by unfold recordS; rw [hF], ⟨?_, hk.asc⟩, RD.empty_ok (by have := ho.le; omega), ⟨fun j h => absurd h (by simp [RD.empty]), rfl⟩⟩
    rw [putAll_live_nil h0]; rfl
  · obtain ⟨F, h1, h2⟩ := fld_is hs hv h0
    obtain ⟨r1, r2⟩ := readS_live hk.asc hk.small hk.len (d.base + F.from_)
    have hm := ho.at_ F (fld_mem h1)
    have hle := ho.le
    have hl := GF.val_len (bs := d.bs) (F := F) hm.2.1
    rw [h2] at hl
    have hok := readS_ok (f := F0) (base := d.base + F.from_) (bs := putAll (live k)) (by rw [← h2]; exact GF.val_bytes ho.byte) (by omega) (.inr (by omega))
    refine ⟨(readS F0 (d.base + F.from_) (putAll (live k))).1, ?_, ⟨r1, hok, readS_fresh _ _ _⟩⟩
    unfold recordS
    rw [h1]
    simp only
    rw [h2]
    exact Prod.ext rfl r2
def SeesL : List RD → List (List Fd) → Prop
  | [], [] => True
  | d :: ds, k :: ks => Sees d k ∧ SeesL ds ks
  | _, _ => False
theorem readers_of : ∀ (l : List GF) (ks : List (List Fd)) (base : Nat) (v : List Nat), (∀ x ∈ v, x < 256) → (∀ G ∈ l, G.from_ ≤ G.to_ ∧ G.to_ ≤ v.length) → base + v.length ≤ 1048576 → (∀ k ∈ ks, Fits k) → l.map (GF.val v) = ks.map (fun k => putAll (live k)) →
    (readersS F0 base v l).2 = F0 ∧ SeesL (readersS F0 base v l).1 ks
  | [], [], _, _, _, _, _, _, _ => ⟨rfl, trivial⟩
  | [], _ :: _, _, _, _, _, _, _, h => by simp at h
  | _ :: _, [], _, _, _, _, _, _, h => by simp at h
  | G :: l, k :: ks, base, v, hb, hl, hs, hk, h => by
    simp only [List.map_cons, List.cons.injEq] at h
    obtain ⟨h1, h2⟩ := h
    have hK := hk k (List.mem_cons_self ..)
    have hG := hl G (List.mem_cons_self ..)
    have hlen := GF.val_len (bs := v) (F := G) hG.2
    obtain ⟨r1, r2⟩ := readS_live hK.asc hK.small hK.len (base + G.from_)
    have hok := readS_ok (f := F0) (base := base + G.from_) (bs := G.val v) (GF.val_bytes hb) (by omega) (.inr (by omega))
    rw [← h1] at r1 r2
    obtain ⟨i1, i2⟩ := readers_of l ks base v hb (fun G hG => hl G (List.mem_cons_of_mem _ hG)) hs (fun k hk' => hk k (List.mem_cons_of_mem _ hk')) h2
    simp only [readersS]
    rw [r2]
    exact ⟨i1, ⟨r1, hok, readS_fresh _ _ _⟩, i2⟩
theorem records_of {d : RD} {l : List Fd} {ks : List (List Fd)} (hs : Shows d l) (ho : d.ok) (hk : ∀ k ∈ ks, Fits k) {t most : Int} (hv : valOf l t = listAll (ks.map fun k => putAll (live k))) (hm : (ks.length : Int) ≤ max most 0) :
    ∃ ds, recordsS d F0 t most = (ds, F0) ∧ SeesL ds ks := by
  have hU : ∀ x ∈ ks.map fun k => putAll (live k), x.length < U64 := fun x hx => by
    obtain ⟨k, hk', rfl⟩ := List.mem_map.1 hx
    have := (hk k hk').small
    unfold U64; omega
  by_cases h0 : ks = []
  · subst h0
    refine ⟨[], ?_, trivial⟩
    unfold recordsS itS
    rw [fld_no hs (t := t) (by rw [hv]; rfl)]
  · have hn : ks.map (fun k => putAll (live k)) ≠ [] := by simpa using h0
    obtain ⟨F, h1, h2⟩ := fld_is hs hv (fun e => hn (listAll_nil_iff hU e))
    obtain ⟨h3, h4⟩ := itemsAll_of hn hU
    rw [← h2] at h3 h4
    have h5 : (itemsAll (F.val d.bs)).1.length = ks.length := by have := congrArg List.length h4; simpa using this
    have hit : itS d F0 t most = (some F, (itemsAll (F.val d.bs)).1, F0) := by
      unfold itS
      rw [h1]
      simp only
      rw [h3, if_neg (by decide), if_neg (by rw [h5]; omega)]
    have hm' := ho.at_ F (fld_mem h1)
    have hle := ho.le
    have hl := GF.val_len (bs := d.bs) (F := F) hm'.2.1
    obtain ⟨r1, r2⟩ := readers_of (itemsAll (F.val d.bs)).1 ks (d.base + F.from_) (F.val d.bs) (GF.val_bytes ho.byte) (itemsAll_at _) (by omega) hk h4
    refine ⟨_, ?_, r2⟩
    unfold recordsS
    rw [hit]
    simp only
    rw [r1, if_neg (by simp [F0])]
    exact Prod.ext rfl r1
/-! ### entries -/
def EntR (d : RD) (f : RF) (b : Bool) (r : ER) (f' : RF) (b' : Bool) : Prop :=
  ∃ (a i : Nat) (f1 f2 f3 f4 : RF) (b1 : Bool), r.acc = (a : Int) ∧ r.item = (i : Int) ∧ numberS d f 22 1125899906842624 = (a, f1) ∧ numberS d f1 6 1125899906842624 = (i, f2) ∧ numberS d f2 5 18446744073709551615 = (r.co, f3) ∧ numberS d f3 10 18446744073709551615 = (r.pr, f4) ∧
    IntsR (itVals d (itS d f4 11 16)) b r.ws b1 ∧ endS (((((d.took f 22).took f1 6).took f2 5).took f3 10).took f4 11) (itS d f4 11 16).2.2 = f' ∧ b' = (b1 || decide (f'.e ≠ 0))
theorem nv_toNat {n : Nat} {z : Int} (h : z = (n : Int)) : Nv z.toNat = Nv n := by rw [h]; rfl
set_option maxHeartbeats 1000000 in
theorem EntR.sound {d : RD} {f f' : RF} {b b' : Bool} {r : ER} (h : EntR d f b r f' b') (hg : d.good) (hf : d.fresh) (h0 : b' = false) : f.e = 0 ∧ f' = f ∧ b = false ∧ FF d = live r.fl ∧ r.ok = true ∧ r.wf := by
  obtain ⟨a, i, f1, f2, f3, f4, b1, ea, ei, h1, h2, h3, h4, h5, h6, h7⟩ := h
  obtain ⟨hb1, he⟩ := or_e h7 h0
  have hO := ((((hf.only.took f 22).took f1 6).took f2 5).took f3 10).took f4 11
  obtain ⟨g1, g2, g3⟩ := end_sound hO (took_tk' (took_tk' (took_tk' (took_tk' (took_tk' hf.tk _ _) _ _) _ _) _ _) _ _) (by rw [h6]; exact he)
  obtain ⟨k1, k2, k3, k4, k5, -⟩ := it_sound hg g1
  obtain ⟨p1, p2, p3, p4, p5⟩ := num_sound hg h4 k1
  obtain ⟨q1, q2, q3, q4, q5⟩ := num_sound hg h3 p1
  obtain ⟨s1, s2, s3, s4, s5⟩ := num_sound hg h2 q1
  obtain ⟨t1, t2, t3, t4, t5⟩ := num_sound hg h1 s1
  obtain ⟨u1, u2, u3, u4⟩ := h5.sound k5 hb1
  refine ⟨t1, ?_, u1, ?_, ?_, ⟨q5, p5⟩⟩
  · rw [← h6, g2, k2, p2, q2, s2, t2]
  · have hT := live_tags [5, 6, 10, 11, 22] (FF d) 0 hg.asc hg.ne (fun g hg' => (show ∀ y ∈ ([11, 10, 5, 6, 22] : List Int), y ∈ ([5, 6, 10, 11, 22] : List Int) by decide) _ (g3 g hg')) (by decide)
    rw [← hT]
    congr 1
    simp only [List.map_cons, List.map_nil, ER.fl, q3, s3, p3, k3, t3, u2, nv_toNat ea, nv_toNat ei]
  · unfold ER.ok
    simp only [Bool.and_eq_true, decide_eq_true_eq]
    refine ⟨⟨?_, by omega⟩, u3⟩
    unfold okL
    simp only [List.all_cons, List.all_nil, Bool.and_true, Bool.and_eq_true]
    exact ⟨okN_nat ea t4, okN_nat ei s4⟩
theorem ER.fits {q : ER} (hq : q.ok = true) (hw : q.wf) : Fits q.fl := ⟨q.asc, by have := (ER.len hq hw).1; unfold ER.form at this; omega, fun f hf => by have := (ER.len hq hw).2 f hf; unfold U64; omega⟩
set_option maxHeartbeats 1000000 in
theorem EntR.of {d : RD} {f' : RF} {b' : Bool} {r q : ER} (h : EntR d F0 false r f' b') (hs : Sees d q.fl) (hq : q.ok = true) (hw : q.wf) : r.like q ∧ f' = F0 ∧ b' = false := by
  obtain ⟨a, i, f1, f2, f3, f4, b1, ea, ei, h1, h2, h3, h4, h5, h6, h7⟩ := h
  obtain ⟨k1, k2, k3⟩ := ER.ok_split hq
  have a1 := okL_mem k1 (n := q.acc) (by simp)
  have a2 := okL_mem k1 (n := q.item) (by simp)
  rw [numberS_of hs.shows (t := 22) (n := q.acc.toNat) (by simp [valOf, ER.fl]) (toNat_U a1) (by omega)] at h1
  obtain ⟨rfl, rfl⟩ := Prod.mk.inj h1
  rw [numberS_of hs.shows (t := 6) (n := q.item.toNat) (by simp [valOf, ER.fl]) (toNat_U a2) (by omega)] at h2
  obtain ⟨rfl, rfl⟩ := Prod.mk.inj h2
  have c1 := hw.co
  have c2 := hw.pr
  rw [numberS_of hs.shows (t := 5) (n := q.co) (by simp [valOf, ER.fl]) c1 (by unfold U64 at c1; omega)] at h3
  obtain ⟨e3, rfl⟩ := Prod.mk.inj h3
  rw [numberS_of hs.shows (t := 10) (n := q.pr) (by simp [valOf, ER.fl]) c2 (by unfold U64 at c2; omega)] at h4
  obtain ⟨e4, rfl⟩ := Prod.mk.inj h4
  obtain ⟨i1, i2⟩ := itS_of hs.shows (t := 11) (most := 16) (xss := shs q.ws) (by simp [valOf, ER.fl]) (fun x hx => by have := shs_len k3 x hx; unfold U64; omega) (by rw [shs, List.length_map]; omega)
  rw [i1] at h5
  obtain ⟨j1, j2⟩ := h5.of k3
  have hT := (((((Taken.nil_ d).took hs.shows hs.fresh.tk 22).took (hs.shows.took _ _) (took_tk hs.fresh.tk _) 6).took ((hs.shows.took _ _).took _ _) (took_tk (took_tk hs.fresh.tk _) _) 5).took (((hs.shows.took _ _).took _ _).took _ _) (took_tk (took_tk (took_tk hs.fresh.tk _) _) _) 10).took ((((hs.shows.took _ _).took _ _).took _ _).took _ _) (took_tk (took_tk (took_tk (took_tk hs.fresh.tk _) _) _) _) 11
  rw [i2, endS_of (((((hs.shows.took _ _).took _ _).took _ _).took _ _).took _ _) (took_okr (took_okr (took_okr (took_okr (took_okr hs.ok _ _) _ _) _ _) _ _) _ _) hT (tags_of (show ∀ y ∈ ([5, 6, 10, 11, 22] : List Int), y ∈ ([11, 10, 5, 6, 22] : List Int) by decide))] at h6
  subst h6
  refine ⟨ER.like_mk (toNat_back ea a1.1) (toNat_back ei a2.1) e3.symm e4.symm j1, rfl, ?_⟩
  rw [h7, j2]; simp [F0]
inductive EntsR : List RD → RF → Bool → List ER → RF → Bool → Prop
  | nil (f : RF) (b : Bool) : EntsR [] f b [] f b
  | snoc {ds : List RD} {f : RF} {b : Bool} {rs : List ER} {f1 : RF} {b1 : Bool} {d : RD} {r : ER} {f2 : RF} {b2 : Bool} : EntsR ds f b rs f1 b1 → EntR d f1 b1 r f2 b2 → EntsR (ds ++ [d]) f b (rs ++ [r]) f2 b2
theorem EntsR.sound {ds : List RD} {f f' : RF} {b b' : Bool} {rs : List ER} (h : EntsR ds f b rs f' b') : (∀ d ∈ ds, d.good ∧ d.fresh) → f'.e = 0 → b' = false → f.e = 0 ∧ f' = f ∧ b = false ∧ ds.map (fun d => putAll (FF d)) = rs.map ER.form ∧ ∀ r ∈ rs, r.ok = true ∧ r.wf := by
  induction h with
  | nil f b => exact fun _ h1 h2 => ⟨h1, rfl, h2, rfl, fun r h => by cases h⟩
  | snoc h1 h2 ih =>
    intro hd h0 hb
    obtain ⟨g1, g2, g3, g4, g5, g6⟩ := h2.sound (hd _ (by simp)).1 (hd _ (by simp)).2 hb
    obtain ⟨i1, i2, i3, i4, i5⟩ := ih (fun d hm => hd d (by simp [hm])) g1 g3
    refine ⟨i1, g2.trans i2, i3, ?_, fun r hr => ?_⟩
    · rw [List.map_append, List.map_append, i4, List.map_cons, List.map_nil, List.map_cons, List.map_nil, g4]; rfl
    · rcases List.mem_append.1 hr with hr | hr
      · exact i5 r hr
      · obtain rfl := List.mem_singleton.1 hr; exact ⟨g5, g6⟩
theorem SeesL.snoc_inv : ∀ {ds : List RD} {d : RD} {ks : List (List Fd)}, SeesL (ds ++ [d]) ks → ∃ ks' k, ks = ks' ++ [k] ∧ SeesL ds ks' ∧ Sees d k
  | [], d, [], h => h.elim
  | [], d, [k], h => ⟨[], k, rfl, trivial, h.1⟩
  | [], d, k :: k2 :: ks, h => h.2.elim
  | e :: ds, d, [], h => h.elim
  | e :: ds, d, k :: ks, h => by
    obtain ⟨ks', k', rfl, h2, h3⟩ := SeesL.snoc_inv h.2
    exact ⟨k :: ks', k', rfl, ⟨h.1, h2⟩, h3⟩
def LikeL (rs qs : List ER) : Prop := rs.length = qs.length ∧ ∀ i (h : i < rs.length) (h' : i < qs.length), (rs[i]).like qs[i]
theorem EntsR.of {ds : List RD} {f f' : RF} {b b' : Bool} {rs : List ER} (h : EntsR ds f b rs f' b') : ∀ (qs : List ER), f = F0 → b = false → SeesL ds (qs.map ER.fl) → (∀ q ∈ qs, q.ok = true ∧ q.wf) → LikeL rs qs ∧ f' = F0 ∧ b' = false := by
  induction h with
  | nil f b =>
    intro qs hf hb hs hq
    cases qs with
    | nil => exact ⟨⟨rfl, fun i h => absurd h (by simp)⟩, hf, hb⟩
    | cons q qs => exact hs.elim
  | snoc h1 h2 ih =>
    intro qs hf hb hs hq
    obtain ⟨ks', k, hk, s1, s2⟩ := hs.snoc_inv
    obtain ⟨q1, q2, rfl, rfl, e2⟩ := List.map_eq_append_iff.1 hk
    obtain ⟨q, rfl, rfl⟩ : ∃ q, q2 = [q] ∧ q.fl = k := by
      cases q2 with
      | nil => simp at e2
      | cons q t =>
        simp only [List.map_cons, List.cons.injEq, List.map_eq_nil_iff] at e2
        exact ⟨q, by rw [e2.2], e2.1⟩
    obtain ⟨⟨l1, l2⟩, i2, i3⟩ := ih q1 hf hb s1 (fun q hm => hq q (by simp [hm]))
    subst i2 i3
    obtain ⟨j1, j2, j3⟩ := h2.of s2 (hq q (by simp)).1 (hq q (by simp)).2
    refine ⟨⟨by simp [l1], fun i hi hi' => ?_⟩, j2, j3⟩
    by_cases hlt : i < q1.length
    · rw [List.getElem_append_left (by omega), List.getElem_append_left hlt]
      exact l2 i (by omega) hlt
    · have e : i = q1.length := by simp at hi'; omega
      subst e
      rw [List.getElem_append_right (by omega), List.getElem_append_right (by omega)]
      simpa using j1
/-! ### contracts -/
def ConR (d : RD) (f : RF) (b : Bool) (r : CR) (f' : RF) (b' : Bool) : Prop :=
  ∃ (n1 n2 n3 n4 n5 n6 n7 : Nat) (f1 f2 f3 f4 f5 f6 f7 f8 f9 f10 f11 f12 : RF) (ds : List RD) (b1 : Bool),
    (r.num = (n1 : Int) ∧ r.kind = (n2 : Int) ∧ r.by_ = (n3 : Int) ∧ r.dl = (n4 : Int) ∧ r.to_ = (n5 : Int) ∧ r.want = (n6 : Int) ∧ r.of_ = (n7 : Int)) ∧
    numberS d f 7 1125899906842624 = (n1, f1) ∧ numberS d f1 2 1125899906842624 = (n2, f2) ∧ numberS d f2 20 1125899906842624 = (n3, f3) ∧ numberS d f3 13 1125899906842624 = (n4, f4) ∧
    numberS d f4 4 1125899906842624 = (n5, f5) ∧ numberS d f5 14 1125899906842624 = (n6, f6) ∧ numberS d f6 8 1125899906842624 = (n7, f7) ∧
    numberS d f7 10 18446744073709551615 = (r.pr, f8) ∧ numberS d f8 15 18446744073709551615 = (r.rs, f9) ∧ numberS d f9 16 18446744073709551615 = (r.st, f10) ∧
    recordsS d f10 21 16 = (ds, f11) ∧ EntsR ds f11 b r.es f12 b1 ∧
    endS (((((((((((d.took f 7).took f1 2).took f2 20).took f3 13).took f4 4).took f5 14).took f6 8).took f7 10).took f8 15).took f9 16).took f10 21) f12 = f' ∧ b' = (b1 || decide (f'.e ≠ 0))
set_option maxHeartbeats 1000000 in
theorem ConR.sound {d : RD} {f f' : RF} {b b' : Bool} {r : CR} (h : ConR d f b r f' b') (hg : d.good) (hf : d.fresh) (h0 : b' = false) : f.e = 0 ∧ f' = f ∧ b = false ∧ FF d = live r.fl ∧ r.ok = true ∧ r.wf := by
  obtain ⟨n1, n2, n3, n4, n5, n6, n7, f1, f2, f3, f4, f5, f6, f7, f8, f9, f10, f11, f12, ds, b1, ⟨e1, e2, e3, e4, e5, e6, e7⟩, h1, h2, h3, h4, h5, h6, h7, h8, h9, h10, h11, h12, h13, h14⟩ := h
  obtain ⟨hb1, he⟩ := or_e h14 h0
  have hO := ((((((((((hf.only.took f 7).took f1 2).took f2 20).took f3 13).took f4 4).took f5 14).took f6 8).took f7 10).took f8 15).took f9 16).took f10 21
  have hK : TkL (((((((((((d.took f 7).took f1 2).took f2 20).took f3 13).took f4 4).took f5 14).took f6 8).took f7 10).took f8 15).took f9 16).took f10 21) := TkL.took (TkL.took (TkL.took (TkL.took (TkL.took (TkL.took (TkL.took (TkL.took (TkL.took (TkL.took (TkL.took (show TkL d from hf.tk) _ _) _ _) _ _) _ _) _ _) _ _) _ _) _ _) _ _) _ _) _ _
  obtain ⟨g1, g2, g3⟩ := end_sound' hO hK (by rw [h13]; exact he)
  simp only [FF_took] at g3
  have hds : ∀ e ∈ ds, e.good ∧ e.fresh := by
    by_cases hz : f11.e = 0
    · exact (records_sound hg h11 hz).2.2.2.2
    · -- a fault: no records at all, or none of them is asked without one
      exfalso
      exact hz (by
        clear h11
        revert g1
        have : ∀ {ds : List RD} {f f' : RF} {b b' : Bool} {rs : List ER}, EntsR ds f b rs f' b' → f'.e = 0 → b' = false → f.e = 0 := by
          intro ds f f' b b' rs h
          induction h with
          | nil => exact fun h _ => h
          | snoc h1 h2 ih =>
            intro h0 hb
            obtain ⟨a, i, f1, f2, f3, f4, b1, ea, ei, k1, k2, k3, k4, k5, k6, k7⟩ := h2
            have hb1' := (or_e k7 hb).1
            have hpre : ∀ {d : RD} {f f' : RF} {t : Int} {m n : Nat}, numberS d f t m = (n, f') → f'.e = 0 → f.e = 0 := by
              intro d f f' t m n h h0
              by_cases hf : f.e = 0
              · exact hf
              · unfold numberS at h
                rw [fld_bad hf] at h
                cases h; exact h0
            have hend : ∀ {d : RD} {f : RF}, (endS d f).e = 0 → f.e = 0 := by
              intro d f h
              by_cases hf : f.e = 0
              · exact hf
              · unfold endS at h
                rw [if_pos hf] at h; exact h
            have hit : ∀ {d : RD} {f : RF} {t m : Int}, (itS d f t m).2.2.e = 0 → f.e = 0 := by
              intro d f t m h
              by_cases hf : f.e = 0
              · exact hf
              · unfold itS at h
                rw [fld_bad hf] at h; exact h
            have z1 := hend (by rw [k6]; exact h0)
            have z2 := hit z1
            have z3 := hpre k1 (hpre k2 (hpre k3 (hpre k4 z2)))
            refine ih z3 ?_
            rcases k5 with ⟨-, -, e⟩ | ⟨ns, -, -, e⟩
            · rw [hb1'] at e; cases e
            · rw [← e]; exact hb1'
        intro g1
        exact this h12 g1 hb1)
  obtain ⟨y1, y2, y3, y4, y5⟩ := h12.sound hds g1 hb1
  obtain ⟨x1, x2, x3, x4, x5⟩ := records_sound hg h11 y1
  obtain ⟨p10, q10, r10, s10, t10⟩ := num_sound hg h10 x1
  obtain ⟨p9, q9, r9, s9, t9⟩ := num_sound hg h9 p10
  obtain ⟨p8, q8, r8, s8, t8⟩ := num_sound hg h8 p9
  obtain ⟨p7, q7, r7, s7, t7⟩ := num_sound hg h7 p8
  obtain ⟨p6, q6, r6, s6, t6⟩ := num_sound hg h6 p7
  obtain ⟨p5, q5, r5, s5, t5⟩ := num_sound hg h5 p6
  obtain ⟨p4, q4, r4, s4, t4⟩ := num_sound hg h4 p5
  obtain ⟨p3, q3, r3, s3, t3⟩ := num_sound hg h3 p4
  obtain ⟨p2, q2, r2, s2, t2⟩ := num_sound hg h2 p3
  obtain ⟨p1, q1, r1, s1, t1⟩ := num_sound hg h1 p2
  refine ⟨p1, ?_, y3, ?_, ?_, ⟨t8, t9, t10, fun e he => (y5 e he).2⟩⟩
  · rw [← h13, g2, y2, x2, q10, q9, q8, q7, q6, q5, q4, q3, q2, q1]
  · have hT := live_tags [2, 4, 7, 8, 10, 13, 14, 15, 16, 20, 21] (FF d) 0 hg.asc hg.ne (fun g hg' => (show ∀ y ∈ ([21, 16, 15, 10, 8, 14, 4, 13, 20, 2, 7] : List Int), y ∈ ([2, 4, 7, 8, 10, 13, 14, 15, 16, 20, 21] : List Int) by decide) _ (g3 g hg')) (by decide)
    rw [← hT]
    congr 1
    simp only [List.map_cons, List.map_nil, CR.fl, r1, r2, r3, r4, r5, r6, r7, r8, r9, r10, x3, y4, nv_toNat e1, nv_toNat e2, nv_toNat e3, nv_toNat e4, nv_toNat e5, nv_toNat e6, nv_toNat e7]
  · unfold CR.ok
    have hlen : r.es.length = ds.length := by have := congrArg List.length y4; simpa using this.symm
    simp only [Bool.and_eq_true, decide_eq_true_eq]
    refine ⟨⟨by rw [hlen]; exact Int.ofNat_le.1 (Int.le_trans x4 (by decide)), List.all_eq_true.2 fun e he => (y5 e he).1⟩, ?_⟩
    unfold okL CR.seven
    simp only [List.all_cons, List.all_nil, Bool.and_true, Bool.and_eq_true]
    exact ⟨okN_nat e1 s1, okN_nat e2 s2, okN_nat e3 s3, okN_nat e4 s4, okN_nat e5 s5, okN_nat e6 s6, okN_nat e7 s7⟩
theorem CR.fits {q : CR} (hq : q.ok = true) (hw : q.wf) : Fits q.fl := ⟨q.asc, by have := (CR.len hq hw).1; unfold CR.form at this; omega, fun f hf => by have := (CR.len hq hw).2 f hf; unfold U64; omega⟩
set_option maxHeartbeats 1000000 in
theorem ConR.of {d : RD} {f' : RF} {b' : Bool} {r q : CR} (h : ConR d F0 false r f' b') (hs : Sees d q.fl) (hq : q.ok = true) (hw : q.wf) : r.like q ∧ f' = F0 ∧ b' = false := by
  obtain ⟨n1, n2, n3, n4, n5, n6, n7, f1, f2, f3, f4, f5, f6, f7, f8, f9, f10, f11, f12, ds, b1, ⟨e1, e2, e3, e4, e5, e6, e7⟩, h1, h2, h3, h4, h5, h6, h7, h8, h9, h10, h11, h12, h13, h14⟩ := h
  obtain ⟨k1, k2, k3⟩ := CR.ok_split hq
  have a : ∀ z ∈ q.seven, 0 ≤ z ∧ z ≤ 1125899906842624 := fun z hz => okL_mem k3 hz
  have a1 := a q.num (by simp [CR.seven])
  have a2 := a q.kind (by simp [CR.seven])
  have a3 := a q.by_ (by simp [CR.seven])
  have a4 := a q.dl (by simp [CR.seven])
  have a5 := a q.to_ (by simp [CR.seven])
  have a6 := a q.want (by simp [CR.seven])
  have a7 := a q.of_ (by simp [CR.seven])
  have c1 := hw.pr
  have c2 := hw.rs
  have c3 := hw.st
  rw [numberS_of hs.shows (t := 7) (n := q.num.toNat) (by simp [valOf, CR.fl]) (toNat_U a1) (by omega)] at h1
  obtain ⟨rfl, rfl⟩ := Prod.mk.inj h1
  rw [numberS_of hs.shows (t := 2) (n := q.kind.toNat) (by simp [valOf, CR.fl]) (toNat_U a2) (by omega)] at h2
  obtain ⟨rfl, rfl⟩ := Prod.mk.inj h2
  rw [numberS_of hs.shows (t := 20) (n := q.by_.toNat) (by simp [valOf, CR.fl]) (toNat_U a3) (by omega)] at h3
  obtain ⟨rfl, rfl⟩ := Prod.mk.inj h3
  rw [numberS_of hs.shows (t := 13) (n := q.dl.toNat) (by simp [valOf, CR.fl]) (toNat_U a4) (by omega)] at h4
  obtain ⟨rfl, rfl⟩ := Prod.mk.inj h4
  rw [numberS_of hs.shows (t := 4) (n := q.to_.toNat) (by simp [valOf, CR.fl]) (toNat_U a5) (by omega)] at h5
  obtain ⟨rfl, rfl⟩ := Prod.mk.inj h5
  rw [numberS_of hs.shows (t := 14) (n := q.want.toNat) (by simp [valOf, CR.fl]) (toNat_U a6) (by omega)] at h6
  obtain ⟨rfl, rfl⟩ := Prod.mk.inj h6
  rw [numberS_of hs.shows (t := 8) (n := q.of_.toNat) (by simp [valOf, CR.fl]) (toNat_U a7) (by omega)] at h7
  obtain ⟨rfl, rfl⟩ := Prod.mk.inj h7
  rw [numberS_of hs.shows (t := 10) (n := q.pr) (by simp [valOf, CR.fl]) c1 (by unfold U64 at c1; omega)] at h8
  obtain ⟨e8, rfl⟩ := Prod.mk.inj h8
  rw [numberS_of hs.shows (t := 15) (n := q.rs) (by simp [valOf, CR.fl]) c2 (by unfold U64 at c2; omega)] at h9
  obtain ⟨e9, rfl⟩ := Prod.mk.inj h9
  rw [numberS_of hs.shows (t := 16) (n := q.st) (by simp [valOf, CR.fl]) c3 (by unfold U64 at c3; omega)] at h10
  obtain ⟨e10, rfl⟩ := Prod.mk.inj h10
  obtain ⟨ds', r1, r2⟩ := records_of hs.shows hs.ok (ks := q.es.map ER.fl) (fun k hk => by
    obtain ⟨e, he, rfl⟩ := List.mem_map.1 hk
    exact ER.fits (k2 e he) (hw.es e he)) (t := 21) (most := 16) (by rw [List.map_map]; exact (show valOf q.fl 21 = listAll (q.es.map ER.form) by simp [valOf, CR.fl])) (by rw [List.length_map]; omega)
  rw [r1] at h11
  obtain ⟨rfl, rfl⟩ := Prod.mk.inj h11
  obtain ⟨⟨l1, l2⟩, i2, i3⟩ := h12.of q.es rfl rfl r2 (fun e he => ⟨k2 e he, hw.es e he⟩)
  subst i2
  have hT1 := (((((Taken.nil_ d).took hs.shows hs.fresh.tk 7).took (hs.shows.took _ _) (took_tk hs.fresh.tk _) 2).took ((hs.shows.took _ _).took _ _) (took_tk (took_tk hs.fresh.tk _) _) 20).took (((hs.shows.took _ _).took _ _).took _ _) (took_tk (took_tk (took_tk hs.fresh.tk _) _) _) 13).took ((((hs.shows.took _ _).took _ _).took _ _).took _ _) (took_tk (took_tk (took_tk (took_tk hs.fresh.tk _) _) _) _) 4
  have hS1 := ((((hs.shows.took F0 7).took F0 2).took F0 20).took F0 13).took F0 4
  have hK1 := took_tk (took_tk (took_tk (took_tk (took_tk hs.fresh.tk 7) 2) 20) 13) 4
  have hO1 := took_okr (took_okr (took_okr (took_okr (took_okr hs.ok F0 7) F0 2) F0 20) F0 13) F0 4
  have hT2 := ((((hT1.took hS1 hK1 14).took (hS1.took _ _) (took_tk hK1 _) 8).took ((hS1.took _ _).took _ _) (took_tk (took_tk hK1 _) _) 10).took (((hS1.took _ _).took _ _).took _ _) (took_tk (took_tk (took_tk hK1 _) _) _) 15).took ((((hS1.took _ _).took _ _).took _ _).took _ _) (took_tk (took_tk (took_tk (took_tk hK1 _) _) _) _) 16
  have hS2 := ((((hS1.took F0 14).took F0 8).took F0 10).took F0 15).took F0 16
  have hK2 := took_tk (took_tk (took_tk (took_tk (took_tk hK1 14) 8) 10) 15) 16
  have hO2 := took_okr (took_okr (took_okr (took_okr (took_okr hO1 F0 14) F0 8) F0 10) F0 15) F0 16
  have hT3 := hT2.took hS2 hK2 21
  rw [endS_of (hS2.took F0 21) (took_okr hO2 F0 21) hT3 (tags_of (show ∀ y ∈ ([2, 4, 7, 8, 10, 13, 14, 15, 16, 20, 21] : List Int), y ∈ ([21, 16, 15, 10, 8, 14, 4, 13, 20, 2, 7] : List Int) by decide))] at h13
  subst h13
  refine ⟨⟨toNat_back e1 a1.1, toNat_back e2 a2.1, toNat_back e3 a3.1, toNat_back e4 a4.1, toNat_back e5 a5.1, toNat_back e6 a6.1, e8.symm, e9.symm, e10.symm, toNat_back e7 a7.1, l1, l2⟩, rfl, ?_⟩
  rw [h14, i3]; simp [F0]
end Go.Proofs.Ytlcjhbemgagchaa
