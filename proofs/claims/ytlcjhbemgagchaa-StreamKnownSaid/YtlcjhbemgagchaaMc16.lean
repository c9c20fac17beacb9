/-
  Texts merged into one, to keep the claim small: Pd3, Pd4.
-/
import Derived.Test.YtlcjhbemgagchaaMc15
import Derived.Test.YtlcjhbemgagchaaMc11
import Derived.Test.YtlcjhbemgagchaaMc2
section
/-
  proto: commands and replies read with care, and without: what is read is what has just these bytes as its form. No program in sight.
-/
namespace Go.Proofs.Ytlcjhbemgagchaa
set_option linter.unusedVariables false
set_option linter.unusedSimpArgs false
theorem ER.like.wf {a b : ER} (h : a.like b) (hb : b.wf) : a.wf := ⟨by rw [h.2.2.1]; exact hb.co, by rw [h.2.2.2.1]; exact hb.pr⟩
theorem ER.like.blank {a b : ER} (h : a.like b) : a.blank = b.blank := by unfold ER.blank; rw [h.2.1, h.2.2.1, h.2.2.2.1, h.2.2.2.2]
theorem CR.like.blank {a b : CR} (h : a.like b) : a.blank = b.blank := by unfold CR.blank; rw [h.num, h.kind, h.by_, h.dl, h.to_, h.want, h.of_, h.pr, h.rs, h.st, h.len]
/-- The same command, wherever its lists lie. -/
structure KC.like (a b : KC) : Prop where
  id : a.id = b.id
  kind : a.kind = b.kind
  name : a.name = b.name
  to_ : a.to_ = b.to_
  co : a.co = b.co
  item : a.item = b.item
  num : a.num = b.num
  of_ : a.of_ = b.of_
  e : a.e.like b.e
  k : a.k.like b.k
theorem KC.like.ok {a b : KC} (h : a.like b) : a.ok = b.ok := by
  unfold KC.ok KC.fine
  rw [h.id, h.kind, h.name, h.to_, h.co, h.item, h.num, h.of_, h.e.ok, h.k.ok, h.e.blank, h.k.blank, h.e.1, h.k.num, h.k.by_, h.k.len]
theorem KC.like.form {a b : KC} (h : a.like b) : a.form = b.form := by
  unfold KC.form KC.fl
  rw [h.id, h.kind, h.name, h.to_, h.co, h.item, h.num, h.of_, h.e.form, h.k.form]
theorem KC.like.wf {a b : KC} (h : a.like b) (hb : b.wf) : a.wf := ⟨by rw [h.co]; exact hb.co, h.e.wf hb.e, h.k.wf hb.k, by rw [h.name]; exact hb.name⟩
theorem ER.like.symm {a b : ER} (h : a.like b) : b.like a := ER.like_mk h.1.symm h.2.1.symm h.2.2.1.symm h.2.2.2.1.symm h.2.2.2.2.symm
theorem ER.like.trans {a b c : ER} (h : a.like b) (k : b.like c) : a.like c := ER.like_mk (h.1.trans k.1) (h.2.1.trans k.2.1) (h.2.2.1.trans k.2.2.1) (h.2.2.2.1.trans k.2.2.2.1) (h.2.2.2.2.trans k.2.2.2.2)
theorem CR.like.symm {a b : CR} (h : a.like b) : b.like a := ⟨h.num.symm, h.kind.symm, h.by_.symm, h.dl.symm, h.to_.symm, h.want.symm, h.pr.symm, h.rs.symm, h.st.symm, h.of_.symm, h.len.symm, fun i h1 h2 => (h.es i h2 h1).symm⟩
theorem CR.like.trans {a b c : CR} (h : a.like b) (k : b.like c) : a.like c := ⟨h.num.trans k.num, h.kind.trans k.kind, h.by_.trans k.by_, h.dl.trans k.dl, h.to_.trans k.to_, h.want.trans k.want, h.pr.trans k.pr, h.rs.trans k.rs, h.st.trans k.st, h.of_.trans k.of_, h.len.trans k.len, fun i h1 h2 => (h.es i h1 (by rw [← h.len]; exact h1)).trans (k.es i _ h2)⟩
theorem KC.like.symm {a b : KC} (h : a.like b) : b.like a := ⟨h.id.symm, h.kind.symm, h.name.symm, h.to_.symm, h.co.symm, h.item.symm, h.num.symm, h.of_.symm, h.e.symm, h.k.symm⟩
theorem KC.like.trans {a b c : KC} (h : a.like b) (k : b.like c) : a.like c := ⟨h.id.trans k.id, h.kind.trans k.kind, h.name.trans k.name, h.to_.trans k.to_, h.co.trans k.co, h.item.trans k.item, h.num.trans k.num, h.of_.trans k.of_, h.e.trans k.e, h.k.trans k.k⟩
theorem RR.like.symm {a b : RR} (h : a.like b) : b.like a := ⟨h.id.symm, h.err.symm, h.num.symm, h.co.symm, h.items.symm, h.txt.symm, h.bits.symm, h.k.symm⟩
theorem RR.like.trans {a b c : RR} (h : a.like b) (k : b.like c) : a.like c := ⟨h.id.trans k.id, h.err.trans k.err, h.num.trans k.num, h.co.trans k.co, h.items.trans k.items, h.txt.trans k.txt, h.bits.trans k.bits, h.k.trans k.k⟩
/-- These bytes are that command's form. -/
structure KForm (bs : List Nat) (c : KC) : Prop where
  ok : c.ok = true
  wf : c.wf
  eq : c.form = bs
structure RForm (bs : List Nat) (r : RR) : Prop where
  ok : r.ok = true
  wf : r.wf
  eq : r.form = bs
theorem KForm.like {bs : List Nat} {a b : KC} (h : KForm bs b) (hl : a.like b) : KForm bs a := ⟨hl.ok.trans h.ok, hl.wf h.wf, hl.form.trans h.eq⟩
theorem RForm.like {bs : List Nat} {a b : RR} (h : RForm bs b) (hl : a.like b) : RForm bs a := ⟨hl.ok.trans h.ok, hl.wf h.wf, hl.form.trans h.eq⟩
theorem KC.fits {q : KC} (hq : q.ok = true) (hw : q.wf) : Fits q.fl := ⟨q.asc, by have := (KC.len hq hw).1; unfold KC.form at this; omega, fun f hf => by have := (KC.len hq hw).2 f hf; unfold U64; omega⟩
theorem RR.fits {q : RR} (hq : q.ok = true) (hw : q.wf) : Fits q.fl := ⟨q.asc, by have := (RR.len hq hw).1; unfold RR.form at this; omega, fun f hf => by have := (RR.len hq hw).2 f hf; unfold U64; omega⟩
/-! ### the program's way: a command -/
def DecR (bs : List Nat) (c : KC) (bad : Bool) : Prop :=
  ∃ (d de dk : RD) (f0 f1 f2 f3 f4 f5 f6 f7 f8 f9 f10 f11 f12 f13 : RF) (n1 n2 n4 n6 n7 n8 : Nat) (b1 b2 : Bool),
    (c.id = (n1 : Int) ∧ c.kind = (n2 : Int) ∧ c.to_ = (n4 : Int) ∧ c.item = (n6 : Int) ∧ c.num = (n7 : Int) ∧ c.of_ = (n8 : Int)) ∧
    readS F0 0 bs = (d, f0) ∧ numberS d f0 1 1125899906842624 = (n1, f1) ∧ numberS d f1 2 1125899906842624 = (n2, f2) ∧ rawS d f2 3 128 = (c.name, f3) ∧ numberS d f3 4 1125899906842624 = (n4, f4) ∧
    numberS d f4 5 18446744073709551615 = (c.co, f5) ∧ numberS d f5 6 1125899906842624 = (n6, f6) ∧ numberS d f6 7 1125899906842624 = (n7, f7) ∧ numberS d f7 8 1125899906842624 = (n8, f8) ∧
    recordS d f8 9 = (de, f9) ∧ EntR de f9 false c.e f10 b1 ∧ recordS d f10 12 = (dk, f11) ∧ ConR dk f11 b1 c.k f12 b2 ∧
    endS ((((((((((d.took f0 1).took f1 2).took f2 3).took f3 4).took f4 5).took f5 6).took f6 7).took f7 8).took f8 9).took f10 12) f12 = f13 ∧ bad = (b2 || decide (f13.e ≠ 0))
theorem F0_e : F0.e = 0 := rfl
theorem readS_form {bs : List Nat} {d : RD} {f : RF} (hb : ∀ x ∈ bs, x < 256) (h : readS F0 0 bs = (d, f)) (h0 : f.e = 0) : d.good ∧ d.fresh ∧ f = F0 ∧ putAll (FF d) = bs := by
  have h1 : (readS F0 0 bs).2.e = 0 := by rw [h]; exact h0
  obtain ⟨-, g2, g3, g4⟩ := readS_good hb (by omega) (.inl rfl) h1
  have hf := readS_fresh F0 0 bs
  rw [h] at g2 g3 g4 hf
  exact ⟨g3, hf, g2, g4⟩
theorem readS_sees {k : List Fd} (hk : Fits k) (hb : ∀ x ∈ putAll (live k), x < 256) : ∃ d, readS F0 0 (putAll (live k)) = (d, F0) ∧ Sees d k := by
  obtain ⟨r1, r2⟩ := readS_live hk.asc hk.small hk.len 0
  exact ⟨_, Prod.ext rfl r2, ⟨r1, readS_ok hb (by omega) (.inl rfl), readS_fresh _ _ _⟩⟩
/-- A fault stays. -/
theorem num_e {d : RD} {f f' : RF} {t : Int} {m n : Nat} (h : numberS d f t m = (n, f')) (h0 : f'.e = 0) : f.e = 0 := by
  by_cases hf : f.e = 0
  · exact hf
  · unfold numberS at h
    rw [fld_bad hf] at h
    cases h; exact h0
theorem raw_e {d : RD} {f f' : RF} {t m : Int} {v : List Nat} (h : rawS d f t m = (v, f')) (h0 : f'.e = 0) : f.e = 0 := by
  by_cases hf : f.e = 0
  · exact hf
  · unfold rawS at h
    rw [fld_bad hf] at h
    cases h; exact h0
theorem it_e {d : RD} {f : RF} {t m : Int} (h : (itS d f t m).2.2.e = 0) : f.e = 0 := by
  by_cases hf : f.e = 0
  · exact hf
  · unfold itS at h
    rw [fld_bad hf] at h; exact h
theorem end_e {d : RD} {f : RF} (h : (endS d f).e = 0) : f.e = 0 := by
  by_cases hf : f.e = 0
  · exact hf
  · unfold endS at h
    rw [if_pos hf] at h; exact h
theorem readS_e {f : RF} {base : Nat} {bs : List Nat} (h : (readS f base bs).2.e = 0) : f.e = 0 := by
  by_cases hf : f.e = 0
  · exact hf
  · unfold readS at h
    rw [if_pos hf] at h; exact h
theorem readers_e : ∀ {l : List GF} {f : RF} {base : Nat} {v : List Nat}, (readersS f base v l).2.e = 0 → f.e = 0
  | [], _, _, _, h => h
  | _ :: _, _, _, _, h => readS_e (readers_e h)
theorem record_e {d d' : RD} {f f' : RF} {t : Int} (h : recordS d f t = (d', f')) (h0 : f'.e = 0) : f.e = 0 := by
  by_cases hf : f.e = 0
  · exact hf
  · unfold recordS at h
    rw [fld_bad hf] at h
    cases h; exact h0
theorem records_e {d : RD} {ds : List RD} {f f' : RF} {t m : Int} (h : recordsS d f t m = (ds, f')) (h0 : f'.e = 0) : f.e = 0 := by
  by_cases hf : f.e = 0
  · exact hf
  · unfold recordsS itS at h
    rw [fld_bad hf] at h
    cases h; exact h0
theorem IntsR.e {xs : List (List Nat)} {b b' : Bool} {ws : List Int} (h : IntsR xs b ws b') (h0 : b' = false) : b = false := by
  rcases h with ⟨-, -, e⟩ | ⟨ns, -, -, e⟩
  · rw [h0] at e; cases e
  · rw [← e]; exact h0
theorem EntR.e {d : RD} {f f' : RF} {b b' : Bool} {r : ER} (h : EntR d f b r f' b') (h0 : b' = false) : f.e = 0 ∧ b = false := by
  obtain ⟨a, i, f1, f2, f3, f4, b1, ea, ei, k1, k2, k3, k4, k5, k6, k7⟩ := h
  obtain ⟨hb, he⟩ := or_e k7 h0
  exact ⟨num_e k1 (num_e k2 (num_e k3 (num_e k4 (it_e (end_e (by rw [k6]; exact he)))))), k5.e hb⟩
theorem EntsR.e {ds : List RD} {f f' : RF} {b b' : Bool} {rs : List ER} (h : EntsR ds f b rs f' b') : f'.e = 0 → b' = false → f.e = 0 ∧ b = false := by
  induction h with
  | nil => exact fun h k => ⟨h, k⟩
  | snoc h1 h2 ih => exact fun h k => ih (h2.e k).1 (h2.e k).2
theorem ConR.e {d : RD} {f f' : RF} {b b' : Bool} {r : CR} (h : ConR d f b r f' b') (h0 : b' = false) : f.e = 0 ∧ b = false := by
  obtain ⟨n1, n2, n3, n4, n5, n6, n7, f1, f2, f3, f4, f5, f6, f7, f8, f9, f10, f11, f12, ds, b1, -, h1, h2, h3, h4, h5, h6, h7, h8, h9, h10, h11, h12, h13, h14⟩ := h
  obtain ⟨hb, he⟩ := or_e h14 h0
  obtain ⟨e1, e2⟩ := h12.e (end_e (by rw [h13]; exact he)) hb
  exact ⟨num_e h1 (num_e h2 (num_e h3 (num_e h4 (num_e h5 (num_e h6 (num_e h7 (num_e h8 (num_e h9 (num_e h10 (records_e h11 e1)))))))))), e2⟩
set_option maxHeartbeats 1000000 in
theorem DecR.sound {bs : List Nat} {c : KC} (hb : ∀ x ∈ bs, x < 256) (h : DecR bs c false) (hok : c.ok = true) : KForm bs c := by
  obtain ⟨d, de, dk, f0, f1, f2, f3, f4, f5, f6, f7, f8, f9, f10, f11, f12, f13, n1, n2, n4, n6, n7, n8, b1, b2, ⟨e1, e2, e4, e6, e7, e8⟩, h0, h1, h2, h3, h4, h5, h6, h7, h8, h9, he, h12, hk, h13, hbad⟩ := h
  obtain ⟨hb2, hf13⟩ := or_e hbad rfl
  have hf12 : f12.e = 0 := end_e (by rw [h13]; exact hf13)
  obtain ⟨hf11, hb1⟩ := hk.e hb2
  have hf10 := record_e h12 hf11
  have hf9 := (he.e hb1).1
  have hf8 := record_e h9 hf9
  have hf0 := num_e h1 (num_e h2 (raw_e h3 (num_e h4 (num_e h5 (num_e h6 (num_e h7 (num_e h8 hf8)))))))
  obtain ⟨hg, hfr, -, hbs⟩ := readS_form hb h0 hf0
  have hO := (((((((((hfr.only.took f0 1).took f1 2).took f2 3).took f3 4).took f4 5).took f5 6).took f6 7).took f7 8).took f8 9).took f10 12
  have hK : TkL ((((((((((d.took f0 1).took f1 2).took f2 3).took f3 4).took f4 5).took f5 6).took f6 7).took f7 8).took f8 9).took f10 12) := TkL.took (TkL.took (TkL.took (TkL.took (TkL.took (TkL.took (TkL.took (TkL.took (TkL.took (TkL.took (show TkL d from hfr.tk) _ _) _ _) _ _) _ _) _ _) _ _) _ _) _ _) _ _) _ _
  obtain ⟨-, -, g3⟩ := end_sound' hO hK (by rw [h13]; exact hf13)
  simp only [FF_took] at g3
  obtain ⟨-, -, gk, fk, vk⟩ := record_sound hg h12 hf11
  obtain ⟨-, -, -, tk, okk, wfk⟩ := hk.sound gk fk hb2
  obtain ⟨-, -, ge, fe, ve⟩ := record_sound hg h9 hf9
  obtain ⟨-, -, -, te, oke, wfe⟩ := he.sound ge fe hb1
  obtain ⟨p8, q8, r8, s8, t8⟩ := num_sound hg h8 hf8
  obtain ⟨p7, q7, r7, s7, t7⟩ := num_sound hg h7 p8
  obtain ⟨p6, q6, r6, s6, t6⟩ := num_sound hg h6 p7
  obtain ⟨p5, q5, r5, s5, t5⟩ := num_sound hg h5 p6
  obtain ⟨p4, q4, r4, s4, t4⟩ := num_sound hg h4 p5
  obtain ⟨p3, q3, r3, s3, t3⟩ := raw_sound hg h3 p4
  obtain ⟨p2, q2, r2, s2, t2⟩ := num_sound hg h2 p3
  obtain ⟨p1, q1, r1, s1, t1⟩ := num_sound hg h1 p2
  rw [tk] at vk
  rw [te] at ve
  refine ⟨hok, ⟨t5, wfe, wfk, t3⟩, ?_⟩
  rw [← hbs]
  have hT := live_tags [1, 2, 3, 4, 5, 6, 7, 8, 9, 12] (FF d) 0 hg.asc hg.ne (fun g hg' => (show ∀ y ∈ ([12, 9, 8, 7, 6, 5, 4, 3, 2, 1] : List Int), y ∈ ([1, 2, 3, 4, 5, 6, 7, 8, 9, 12] : List Int) by decide) _ (g3 g hg')) (by decide)
  rw [← hT]
  unfold KC.form
  congr 2
  simp only [List.map_cons, List.map_nil, KC.fl, r1, r2, r3, r4, r5, r6, r7, r8, ve, vk, nv_toNat e1, nv_toNat e2, nv_toNat e4, nv_toNat e6, nv_toNat e7, nv_toNat e8, ER.form, CR.form]
set_option maxHeartbeats 1000000 in
theorem DecR.of {bs : List Nat} {c q : KC} {bad : Bool} (h : DecR bs c bad) (hq : KForm bs q) : c.like q ∧ bad = false := by
  obtain ⟨d, de, dk, f0, f1, f2, f3, f4, f5, f6, f7, f8, f9, f10, f11, f12, f13, n1, n2, n4, n6, n7, n8, b1, b2, ⟨e1, e2, e4, e6, e7, e8⟩, h0, h1, h2, h3, h4, h5, h6, h7, h8, h9, he, h12, hk, h13, hbad⟩ := h
  obtain ⟨k1, k2, k3, k4, k5, k6, k7, k8, k9, k10⟩ := KC.fine_split (KC.ok_fine hq.ok)
  have a4 := okL_mem k4 (n := q.to_) (by simp)
  have a6 := okL_mem k4 (n := q.item) (by simp)
  have a7 := okL_mem k4 (n := q.num) (by simp)
  have a8 := okL_mem k4 (n := q.of_) (by simp)
  have c5 := hq.wf.co
  obtain ⟨d', g1, hs⟩ := readS_sees (KC.fits hq.ok hq.wf) (KC.form_b hq.wf)
  have hbs : putAll (live q.fl) = bs := hq.eq
  rw [hbs, h0] at g1
  obtain ⟨rfl, rfl⟩ := Prod.mk.inj g1
  rw [numberS_of hs.shows (t := 1) (n := q.id.toNat) (by simp [valOf, KC.fl]) (by unfold U64; omega) (by omega)] at h1
  obtain ⟨rfl, rfl⟩ := Prod.mk.inj h1
  rw [numberS_of hs.shows (t := 2) (n := q.kind.toNat) (by simp [valOf, KC.fl]) (by unfold U64; omega) (by omega)] at h2
  obtain ⟨rfl, rfl⟩ := Prod.mk.inj h2
  rw [rawS_of hs.shows (t := 3) (v := q.name) (by simp [valOf, KC.fl]) (by omega)] at h3
  obtain ⟨e3, rfl⟩ := Prod.mk.inj h3
  rw [numberS_of hs.shows (t := 4) (n := q.to_.toNat) (by simp [valOf, KC.fl]) (toNat_U a4) (by omega)] at h4
  obtain ⟨rfl, rfl⟩ := Prod.mk.inj h4
  rw [numberS_of hs.shows (t := 5) (n := q.co) (by simp [valOf, KC.fl]) c5 (by unfold U64 at c5; omega)] at h5
  obtain ⟨e5, rfl⟩ := Prod.mk.inj h5
  rw [numberS_of hs.shows (t := 6) (n := q.item.toNat) (by simp [valOf, KC.fl]) (toNat_U a6) (by omega)] at h6
  obtain ⟨rfl, rfl⟩ := Prod.mk.inj h6
  rw [numberS_of hs.shows (t := 7) (n := q.num.toNat) (by simp [valOf, KC.fl]) (toNat_U a7) (by omega)] at h7
  obtain ⟨rfl, rfl⟩ := Prod.mk.inj h7
  rw [numberS_of hs.shows (t := 8) (n := q.of_.toNat) (by simp [valOf, KC.fl]) (toNat_U a8) (by omega)] at h8
  obtain ⟨rfl, rfl⟩ := Prod.mk.inj h8
  obtain ⟨de', u1, u2⟩ := record_of hs.shows hs.ok (ER.fits k5 hq.wf.e) (t := 9) (by simp [valOf, KC.fl, ER.form])
  rw [u1] at h9
  obtain ⟨rfl, rfl⟩ := Prod.mk.inj h9
  obtain ⟨le, rfl, rfl⟩ := he.of u2 k5 hq.wf.e
  obtain ⟨dk', u3, u4⟩ := record_of hs.shows hs.ok (CR.fits k7 hq.wf.k) (t := 12) (by simp [valOf, KC.fl, CR.form])
  rw [u3] at h12
  obtain ⟨rfl, rfl⟩ := Prod.mk.inj h12
  obtain ⟨lk, rfl, rfl⟩ := hk.of u4 k7 hq.wf.k
  have hT1 := (((((Taken.nil_ d).took hs.shows hs.fresh.tk 1).took (hs.shows.took _ _) (took_tk hs.fresh.tk _) 2).took ((hs.shows.took _ _).took _ _) (took_tk (took_tk hs.fresh.tk _) _) 3).took (((hs.shows.took _ _).took _ _).took _ _) (took_tk (took_tk (took_tk hs.fresh.tk _) _) _) 4).took ((((hs.shows.took _ _).took _ _).took _ _).took _ _) (took_tk (took_tk (took_tk (took_tk hs.fresh.tk _) _) _) _) 5
  have hS1 := ((((hs.shows.took F0 1).took F0 2).took F0 3).took F0 4).took F0 5
  have hK1 := took_tk (took_tk (took_tk (took_tk (took_tk hs.fresh.tk 1) 2) 3) 4) 5
  have hO1 := took_okr (took_okr (took_okr (took_okr (took_okr hs.ok F0 1) F0 2) F0 3) F0 4) F0 5
  have hT2 := ((((hT1.took hS1 hK1 6).took (hS1.took _ _) (took_tk hK1 _) 7).took ((hS1.took _ _).took _ _) (took_tk (took_tk hK1 _) _) 8).took (((hS1.took _ _).took _ _).took _ _) (took_tk (took_tk (took_tk hK1 _) _) _) 9).took ((((hS1.took _ _).took _ _).took _ _).took _ _) (took_tk (took_tk (took_tk (took_tk hK1 _) _) _) _) 12
  have hS2 := ((((hS1.took F0 6).took F0 7).took F0 8).took F0 9).took F0 12
  have hO2 := took_okr (took_okr (took_okr (took_okr (took_okr hO1 F0 6) F0 7) F0 8) F0 9) F0 12
  rw [endS_of hS2 hO2 hT2 (tags_of (show ∀ y ∈ ([1, 2, 3, 4, 5, 6, 7, 8, 9, 12] : List Int), y ∈ ([12, 9, 8, 7, 6, 5, 4, 3, 2, 1] : List Int) by decide))] at h13
  subst h13
  refine ⟨⟨toNat_back e1 k2.1, toNat_back e2 (Int.le_trans (by decide) k1.1), e3.symm, toNat_back e4 a4.1, e5.symm, toNat_back e6 a6.1, toNat_back e7 a7.1, toNat_back e8 a8.1, le, lk⟩, ?_⟩
  rw [hbad]; simp [F0]
/-! ### a reply -/
def RepR (bs : List Nat) (r : RR) (bad : Bool) : Prop :=
  ∃ (d dk : RD) (f0 f1 f2 f3 f4 f5 f7 f8 f9 f10 : RF) (n1 n7 n17 : Nat) (b1 b2 : Bool),
    (r.id = (n1 : Int) ∧ r.num = (n7 : Int) ∧ r.err = (n17 : Int)) ∧
    readS F0 0 bs = (d, f0) ∧ numberS d f0 1 1125899906842624 = (n1, f1) ∧ rawS d f1 3 128 = (r.txt, f2) ∧ numberS d f2 5 18446744073709551615 = (r.co, f3) ∧ numberS d f3 7 1125899906842624 = (n7, f4) ∧ numberS d f4 17 1125899906842624 = (n17, f5) ∧
    IntsR (itVals d (itS d f5 18 512)) false r.items b1 ∧ numberS d (itS d f5 18 512).2.2 19 4294967295 = (r.bits, f7) ∧
    recordS d f7 12 = (dk, f8) ∧ ConR dk f8 b1 r.k f9 b2 ∧
    endS ((((((((d.took f0 1).took f1 3).took f2 5).took f3 7).took f4 17).took f5 18).took (itS d f5 18 512).2.2 19).took f7 12) f9 = f10 ∧ bad = (b2 || decide (f10.e ≠ 0))
set_option maxHeartbeats 1000000 in
theorem RepR.sound {bs : List Nat} {r : RR} (hb : ∀ x ∈ bs, x < 256) (h : RepR bs r false) (hok : r.ok = true) : RForm bs r := by
  obtain ⟨d, dk, f0, f1, f2, f3, f4, f5, f7, f8, f9, f10, n1, n7, n17, b1, b2, ⟨e1, e7, e17⟩, h0, h1, h2, h3, h4, h5, h6, h7, h8, hk, h9, hbad⟩ := h
  obtain ⟨hb2, hf10⟩ := or_e hbad rfl
  have hf9 : f9.e = 0 := end_e (by rw [h9]; exact hf10)
  obtain ⟨hf8, hb1⟩ := hk.e hb2
  have hf7 := record_e h8 hf8
  have hf6 := num_e h7 hf7
  have hf5 := it_e hf6
  have hf0 := num_e h1 (raw_e h2 (num_e h3 (num_e h4 (num_e h5 hf5))))
  obtain ⟨hg, hfr, -, hbs⟩ := readS_form hb h0 hf0
  have hO := (((((((hfr.only.took f0 1).took f1 3).took f2 5).took f3 7).took f4 17).took f5 18).took (itS d f5 18 512).2.2 19).took f7 12
  have hK : TkL ((((((((d.took f0 1).took f1 3).took f2 5).took f3 7).took f4 17).took f5 18).took (itS d f5 18 512).2.2 19).took f7 12) := TkL.took (TkL.took (TkL.took (TkL.took (TkL.took (TkL.took (TkL.took (TkL.took (show TkL d from hfr.tk) _ _) _ _) _ _) _ _) _ _) _ _) _ _) _ _
  obtain ⟨-, -, g3⟩ := end_sound' hO hK (by rw [h9]; exact hf10)
  simp only [FF_took] at g3
  obtain ⟨-, -, gk, fk, vk⟩ := record_sound hg h8 hf8
  obtain ⟨-, -, -, tk, okk, wfk⟩ := hk.sound gk fk hb2
  obtain ⟨p7, q7, r7, s7, t7⟩ := num_sound hg h7 hf7
  obtain ⟨i1, i2, i3, i4, i5, -⟩ := it_sound hg hf6
  obtain ⟨u1, u2, u3, u4⟩ := h6.sound i5 hb1
  obtain ⟨p5, q5, r5, s5, t5⟩ := num_sound hg h5 hf5
  obtain ⟨p4, q4, r4, s4, t4⟩ := num_sound hg h4 p5
  obtain ⟨p3, q3, r3, s3, t3⟩ := num_sound hg h3 p4
  obtain ⟨p2, q2, r2, s2, t2⟩ := raw_sound hg h2 p3
  obtain ⟨p1, q1, r1, s1, t1⟩ := num_sound hg h1 p2
  rw [tk] at vk
  refine ⟨hok, ⟨t3, Nat.lt_of_le_of_lt s7 (by decide), wfk, t2⟩, ?_⟩
  rw [← hbs]
  have hT := live_tags [1, 3, 5, 7, 12, 17, 18, 19] (FF d) 0 hg.asc hg.ne (fun g hg' => (show ∀ y ∈ ([12, 19, 18, 17, 7, 5, 3, 1] : List Int), y ∈ ([1, 3, 5, 7, 12, 17, 18, 19] : List Int) by decide) _ (g3 g hg')) (by decide)
  rw [← hT]
  unfold RR.form
  congr 2
  simp only [List.map_cons, List.map_nil, RR.fl, r1, r2, r3, r4, r5, i3, u2, r7, vk, nv_toNat e1, nv_toNat e7, nv_toNat e17, CR.form]
set_option maxHeartbeats 1000000 in
theorem RepR.of {bs : List Nat} {r q : RR} {bad : Bool} (h : RepR bs r bad) (hq : RForm bs q) (hb : ∀ x ∈ bs, x < 256) : r.like q ∧ bad = false := by
  obtain ⟨d, dk, f0, f1, f2, f3, f4, f5, f7, f8, f9, f10, n1, n7, n17, b1, b2, ⟨e1, e7, e17⟩, h0, h1, h2, h3, h4, h5, h6, h7, h8, hk, h9, hbad⟩ := h
  obtain ⟨k1, k2, k3, k4, k5, k6, k7⟩ := RR.ok_split hq.ok
  have a7 := okL_mem k4 (n := q.num) (by simp)
  have c5 := hq.wf.co
  have c19 := hq.wf.bits
  obtain ⟨d', g1, hs⟩ := readS_sees (RR.fits hq.ok hq.wf) (by have : putAll (live q.fl) = bs := hq.eq; rw [this]; exact hb)
  have hbs : putAll (live q.fl) = bs := hq.eq
  rw [hbs, h0] at g1
  obtain ⟨rfl, rfl⟩ := Prod.mk.inj g1
  rw [numberS_of hs.shows (t := 1) (n := q.id.toNat) (by simp [valOf, RR.fl]) (by unfold U64; omega) (by omega)] at h1
  obtain ⟨rfl, rfl⟩ := Prod.mk.inj h1
  rw [rawS_of hs.shows (t := 3) (v := q.txt) (by simp [valOf, RR.fl]) (by omega)] at h2
  obtain ⟨e3, rfl⟩ := Prod.mk.inj h2
  rw [numberS_of hs.shows (t := 5) (n := q.co) (by simp [valOf, RR.fl]) c5 (by unfold U64 at c5; omega)] at h3
  obtain ⟨e5, rfl⟩ := Prod.mk.inj h3
  rw [numberS_of hs.shows (t := 7) (n := q.num.toNat) (by simp [valOf, RR.fl]) (toNat_U a7) (by omega)] at h4
  obtain ⟨rfl, rfl⟩ := Prod.mk.inj h4
  rw [numberS_of hs.shows (t := 17) (n := q.err.toNat) (by simp [valOf, RR.fl]) (by unfold U64; omega) (by omega)] at h5
  obtain ⟨rfl, rfl⟩ := Prod.mk.inj h5
  obtain ⟨i1, i2⟩ := itS_of hs.shows (t := 18) (most := 512) (xss := shs q.items) (by simp [valOf, RR.fl]) (fun x hx => by have := shs_len k6 x hx; unfold U64; omega) (by rw [shs, List.length_map]; omega)
  rw [i1] at h6
  obtain ⟨j1, rfl⟩ := h6.of k6
  rw [i2] at h7 h9
  rw [numberS_of hs.shows (t := 19) (n := q.bits) (by simp [valOf, RR.fl]) (by unfold U64; omega) (by omega)] at h7
  obtain ⟨e19, rfl⟩ := Prod.mk.inj h7
  obtain ⟨dk', u3, u4⟩ := record_of hs.shows hs.ok (CR.fits k7 hq.wf.k) (t := 12) (by simp [valOf, RR.fl, CR.form])
  rw [u3] at h8
  obtain ⟨rfl, rfl⟩ := Prod.mk.inj h8
  obtain ⟨lk, rfl, rfl⟩ := hk.of u4 k7 hq.wf.k
  have hT1 := (((((Taken.nil_ d).took hs.shows hs.fresh.tk 1).took (hs.shows.took _ _) (took_tk hs.fresh.tk _) 3).took ((hs.shows.took _ _).took _ _) (took_tk (took_tk hs.fresh.tk _) _) 5).took (((hs.shows.took _ _).took _ _).took _ _) (took_tk (took_tk (took_tk hs.fresh.tk _) _) _) 7).took ((((hs.shows.took _ _).took _ _).took _ _).took _ _) (took_tk (took_tk (took_tk (took_tk hs.fresh.tk _) _) _) _) 17
  have hS1 := ((((hs.shows.took F0 1).took F0 3).took F0 5).took F0 7).took F0 17
  have hK1 := took_tk (took_tk (took_tk (took_tk (took_tk hs.fresh.tk 1) 3) 5) 7) 17
  have hO1 := took_okr (took_okr (took_okr (took_okr (took_okr hs.ok F0 1) F0 3) F0 5) F0 7) F0 17
  have hT2 := ((hT1.took hS1 hK1 18).took (hS1.took _ _) (took_tk hK1 _) 19).took ((hS1.took _ _).took _ _) (took_tk (took_tk hK1 _) _) 12
  have hS2 := ((hS1.took F0 18).took F0 19).took F0 12
  have hO2 := took_okr (took_okr (took_okr hO1 F0 18) F0 19) F0 12
  rw [endS_of hS2 hO2 hT2 (tags_of (show ∀ y ∈ ([1, 3, 5, 7, 12, 17, 18, 19] : List Int), y ∈ ([12, 19, 18, 17, 7, 5, 3, 1] : List Int) by decide))] at h9
  subst h9
  refine ⟨⟨toNat_back e1 k1.1, toNat_back e17 k2.1, toNat_back e7 a7.1, e5.symm, j1, e3.symm, e19.symm, lk⟩, ?_⟩
  rw [hbad]; simp [F0]
end Go.Proofs.Ytlcjhbemgagchaa
end

section
/-
  proto: readers of a record (int, all, done, in, open), in memory.
-/
namespace Go.Proofs.Ytlcjhbemgagchaa
open Go.RowKit
set_option linter.unusedVariables false
set_option linter.unusedSimpArgs false
abbrev tRdr : TypeId := 150
abbrev tBool : TypeId := 4
abbrev tFau : TypeId := 210
def Turns2 (t : TypeId) : Prop := Turns t ∨ t = tBool
def Within2 (w : World) (S : Nat → Prop) : Prop := ∀ x, S x → ∃ t, Typed w x t ∧ Turns2 t
theorem Within2.not {w : World} {S : Nat → Prop} (h : Within2 w S) {b : Nat} {t : TypeId} (hb : Typed w b t) (ht : ¬ Turns2 t) : ¬ S b := fun hs => by
  obtain ⟨t', h1, h2⟩ := h b hs
  exact ht (hb.same h1 ▸ h2)
theorem TR.fr2 {w w' : World} {pf b : Nat} {r : TRd} {d : RD} {S : Nat → Prop} (h : TR w pf b r d) (hf : Fr S w w') (hS : Within2 w S) (hp : ∀ x, r.foot x → ¬ S x) : TR w' pf b r d := by
  refine ⟨h.bl.fr hf (hS.not h.bl.typed (by unfold Turns2 Turns; decide)), h.ls.fr hf (fun b e => hS.not (h.ls.typed b e) (by unfold Turns2 Turns; decide)), h.eq, fun i hi => ?_, h.ord, fun h0 => (h.buf h0).fr hf (hS.not (h.buf h0) (by unfold Turns2 Turns; decide)), h.ok⟩
  exact (h.at_ i hi).fr hf (hp _ ⟨_, List.getElem_mem hi, rfl⟩) (hS.not (h.buf (by omega)) (by unfold Turns2 Turns; decide))
/-- Calls that were taken. -/
def takes (d : RD) (T : List (RF × Int)) : RD := T.foldl (fun d x => d.took x.1 x.2) d
theorem takes_snoc (d : RD) (T : List (RF × Int)) (f : RF) (t : Int) : takes d (T ++ [(f, t)]) = (takes d T).took f t := by simp [takes]
theorem takes_fs : ∀ (T : List (RF × Int)) (d : RD), (takes d T).fs = d.fs ∧ (takes d T).bs = d.bs ∧ (takes d T).base = d.base
  | [], d => ⟨rfl, rfl, rfl⟩
  | x :: T, d => takes_fs T (d.took x.1 x.2)
theorem fld_takes (d : RD) (T : List (RF × Int)) (f : RF) (t : Int) : (takes d T).fld f t = d.fld f t := by
  unfold RD.fld RD.idx
  rw [(takes_fs T d).1]
theorem num_takes (d : RD) (T : List (RF × Int)) (f : RF) (t : Int) (a : Nat) : numberS (takes d T) f t a = numberS d f t a := by
  unfold numberS
  rw [fld_takes, (takes_fs T d).2.1, (takes_fs T d).2.2]
theorem raw_takes (d : RD) (T : List (RF × Int)) (f : RF) (t a : Int) : rawS (takes d T) f t a = rawS d f t a := by
  unfold rawS
  rw [fld_takes, (takes_fs T d).2.1, (takes_fs T d).2.2]
theorem it_takes (d : RD) (T : List (RF × Int)) (f : RF) (t a : Int) : itS (takes d T) f t a = itS d f t a := by
  unfold itS
  rw [fld_takes, (takes_fs T d).2.1, (takes_fs T d).2.2]
theorem itVals_takes (d : RD) (T : List (RF × Int)) (x : Option GF × List GF × RF) : itVals (takes d T) x = itVals d x := by
  unfold itVals
  rw [(takes_fs T d).2.1]
theorem record_takes (d : RD) (T : List (RF × Int)) (f : RF) (t : Int) : recordS (takes d T) f t = recordS d f t := by
  unfold recordS
  rw [fld_takes, (takes_fs T d).2.1, (takes_fs T d).2.2]
theorem records_takes (d : RD) (T : List (RF × Int)) (f : RF) (t a : Int) : recordsS (takes d T) f t a = recordsS d f t a := by
  unfold recordsS
  rw [it_takes, (takes_fs T d).2.1, (takes_fs T d).2.2]
theorem numberS_le (d : RD) (f : RF) (t : Int) (a : Nat) : (numberS d f t a).1 ≤ a := by
  unfold numberS
  split
  · exact Nat.zero_le _
  · simp only
    split
    · exact Nat.zero_le _
    · split
      · exact Nat.zero_le _
      · omega
/-- A record's reader, its fault, and whether anything is bad. -/
structure RC (w : World) (pf pb b : Nat) (r : TRd) (d : RD) (f : RF) (bad : Bool) : Prop where
  tr : TR w pf b r d
  flt : Flt w tFau pf f
  bd : Bl w pb tBool #[.bool bad]
def rturn (pf pb : Nat) (r : TRd) (x : Nat) : Prop := x = pf ∨ x = pb ∨ r.foot x
section
variable {w w' : World} {pf pb b : Nat} {r : TRd} {d : RD} {f : RF} {bad : Bool}
theorem RC.within (h : RC w pf pb b r d f bad) : Within2 w (rturn pf pb r) := by
  rintro x (rfl | rfl | hx)
  · exact ⟨_, Bl.typed h.flt, .inl (.inl rfl)⟩
  · exact ⟨_, Bl.typed h.bd, .inr rfl⟩
  · obtain ⟨t, h1, h2⟩ := h.tr.within x hx
    exact ⟨t, h1, .inl h2⟩
theorem RC.not (h : RC w pf pb b r d f bad) {c : Nat} {t : TypeId} (hb : Typed w c t) (ht : ¬ Turns2 t) : ¬ rturn pf pb r c := h.within.not hb ht
theorem RC.quiet (h : RC w pf pb b r d f bad) (hf : Fr (fun _ => False) w w') : RC w' pf pb b r d f bad := ⟨h.tr.quiet hf, h.flt.fr hf id, h.bd.fr hf id⟩
theorem RC.fb (h : RC w pf pb b r d f bad) : pf ≠ pb := fun e => by
  have h1 := h.bd
  rw [← e] at h1
  have := (Bl.typed h.flt).same (Bl.typed h1)
  exact absurd this (by decide)
theorem RC.nb (h : RC w pf pb b r d f bad) : ¬ r.foot pb := fun e => by
  obtain ⟨t, h1, h2⟩ := h.tr.within pb e
  have := (Bl.typed h.bd).same h1
  subst this
  exact absurd h2 (by unfold Turns; decide)
theorem RC.post (h : RC w pf pb b r d f bad) {d' : RD} {f' : RF} (hP : TPost w pf b r d' f' w') : RC w' pf pb b r d' f' bad ∧ Fr (rturn pf pb r) w w' :=
  ⟨⟨hP.tr, hP.flt, h.bd.fr hP.fr fun e => e.elim (fun e => h.fb e.symm) h.nb⟩, hP.fr.mono fun _ _ e => e.elim .inl fun e => .inr (.inr e)⟩
/-- pb alone turns. -/
theorem RC.bad_ (h : RC w pf pb b r d f bad) {b' : Bool} (hb : Bl w' pb tBool #[.bool b']) (hf : Fr (fun x => x = pb) w w') : RC w' pf pb b r d f b' :=
  ⟨h.tr.fr2 hf (fun x e => ⟨_, e ▸ Bl.typed h.bd, .inr rfl⟩) (fun x hx e => h.nb (e ▸ hx)), h.flt.fr hf h.fb, hb⟩
end
abbrev rdv (r : TRd) (pb : Nat) : Value := .agg #[.pointer (some ⟨r.p, 0, none⟩), .pointer (some ⟨pb, 0, none⟩)]
section
variable {pf pb b : Nat} {r : TRd} {d : RD} {f : RF} {bad : Bool}
set_option maxHeartbeats 1000000 in
theorem rint_any (w : World) (h : RC w pf pb b r d f bad) (t : Int) :
    Calls Try.prog 91 #[rdv r pb, .int .i64 t] w fun e w' => ∃ (n : Nat) (f' : RF), e = .returned (.int .i64 (n : Int)) ∧ Hid (numberS d f t 1125899906842624 = (n, f')) ∧ RC w' pf pb b r (d.took f t) f' bad ∧ Fr (rturn pf pb r) w w' := by
  obtain ⟨n, f', hv⟩ : ∃ n f', numberS d f t 1125899906842624 = (n, f') := ⟨_, _, rfl⟩
  have hn : n ≤ 1125899906842624 := by have := numberS_le d f t 1125899906842624; rw [hv] at this; exact this
  have hq : IntKind.i64.wrap (n : Int) = (n : Int) := IntWalk.i64_in _ (by omega)
  have HC : Hid (∀ w1, Fr (fun _ => False) w w1 → Calls Try.prog 95 #[.pointer (some ⟨r.p, 0, none⟩), .int .i64 t, .int .u64 1125899906842624] w1 fun e w' => e = .returned (.int .u64 (n : Int)) ∧ Hid (RC w' pf pb b r (d.took f t) f' bad ∧ Fr (rturn pf pb r) w1 w')) := fun w1 hf => by
    have h1 := h.quiet hf
    have c := trnum_any w1 pf b r d f t 1125899906842624 (by decide) h1.tr h1.flt
    rw [hv] at c
    refine c.mono ?_
    rintro e w' ⟨rfl, hP⟩
    exact ⟨rfl, h1.post hP⟩
  have Hv := hide hv
  clear hv h
  go_enter Try.func91, Try.ntmps91
  go_wp2_with fail
  refine (HC.out _ (by (repeat (first | with_reducible exact Fr.refl _ _ | with_reducible assumption | with_reducible refine Fr.drew ?_ | with_reducible refine Fr.drewN ?_ _ | with_reducible refine Fr.alloc ?_ _ | with_reducible refine Fr.setIn ?_ (by first | exact Or.inl rfl | exact Or.inr (by simp; done) | exact Or.inr (by simp; omega) | exact Or.inr (by omega)) _)))).mono ?_
  rintro e w1 ⟨rfl, hP⟩
  go_wp2_with fail
  go_ret
  refine ⟨n, f', by first | rfl | rw [hq], Hv, hP.out.1, Fr.trans (by (repeat (first | with_reducible exact Fr.refl _ _ | with_reducible assumption | with_reducible refine Fr.drew ?_ | with_reducible refine Fr.drewN ?_ _ | with_reducible refine Fr.alloc ?_ _ | with_reducible refine Fr.setIn ?_ (by first | exact Or.inl rfl | exact Or.inr (by simp; done) | exact Or.inr (by simp; omega) | exact Or.inr (by omega)) _))) hP.out.2⟩
set_option maxHeartbeats 1000000 in
theorem rall_any (w : World) (h : RC w pf pb b r d f bad) (t : Int) :
    Calls Try.prog 93 #[rdv r pb, .int .i64 t] w fun e w' => ∃ (n : Nat) (f' : RF), e = .returned (.int .u64 (n : Int)) ∧ Hid (numberS d f t 18446744073709551615 = (n, f')) ∧ RC w' pf pb b r (d.took f t) f' bad ∧ Fr (rturn pf pb r) w w' := by
  obtain ⟨n, f', hv⟩ : ∃ n f', numberS d f t 18446744073709551615 = (n, f') := ⟨_, _, rfl⟩
  have HC : Hid (∀ w1, Fr (fun _ => False) w w1 → Calls Try.prog 95 #[.pointer (some ⟨r.p, 0, none⟩), .int .i64 t, .int .u64 18446744073709551615] w1 fun e w' => e = .returned (.int .u64 (n : Int)) ∧ Hid (RC w' pf pb b r (d.took f t) f' bad ∧ Fr (rturn pf pb r) w1 w')) := fun w1 hf => by
    have h1 := h.quiet hf
    have c := trnum_any w1 pf b r d f t 18446744073709551615 (by decide) h1.tr h1.flt
    rw [hv] at c
    refine c.mono ?_
    rintro e w' ⟨rfl, hP⟩
    exact ⟨rfl, h1.post hP⟩
  have Hv := hide hv
  clear hv h
  go_enter Try.func93, Try.ntmps93
  go_wp2_with fail
  refine (HC.out _ (by (repeat (first | with_reducible exact Fr.refl _ _ | with_reducible assumption | with_reducible refine Fr.drew ?_ | with_reducible refine Fr.drewN ?_ _ | with_reducible refine Fr.alloc ?_ _ | with_reducible refine Fr.setIn ?_ (by first | exact Or.inl rfl | exact Or.inr (by simp; done) | exact Or.inr (by simp; omega) | exact Or.inr (by omega)) _)))).mono ?_
  rintro e w1 ⟨rfl, hP⟩
  go_wp2_with fail
  go_ret
  exact ⟨n, f', rfl, Hv, hP.out.1, Fr.trans (by (repeat (first | with_reducible exact Fr.refl _ _ | with_reducible assumption | with_reducible refine Fr.drew ?_ | with_reducible refine Fr.drewN ?_ _ | with_reducible refine Fr.alloc ?_ _ | with_reducible refine Fr.setIn ?_ (by first | exact Or.inl rfl | exact Or.inr (by simp; done) | exact Or.inr (by simp; omega) | exact Or.inr (by omega)) _))) hP.out.2⟩
set_option maxHeartbeats 1000000 in
theorem rdone_any (w : World) (h : RC w pf pb b r d f bad) :
    Calls Try.prog 98 #[rdv r pb] w fun e w' => ∃ (f' : RF), e = .returned (.tuple #[]) ∧ Hid (endS d f = f') ∧ RC w' pf pb b r d f' (bad || decide (f'.e ≠ 0)) ∧ Fr (rturn pf pb r) w w' := by
  obtain ⟨f', hv⟩ : ∃ f', endS d f = f' := ⟨_, rfl⟩
  have HC : Hid (∀ w1, Fr (fun _ => False) w w1 → Calls Try.prog 131 #[.pointer (some ⟨r.p, 0, none⟩)] w1 fun e w' => e = .returned (.tuple #[.int .i64 f'.place, .int .i64 f'.e]) ∧ Hid (RC w' pf pb b r d f' bad ∧ Fr (rturn pf pb r) w1 w')) := fun w1 hf => by
    have h1 := h.quiet hf
    have c := tend_any w1 pf b r d f h1.tr h1.flt
    rw [hv] at c
    refine c.mono ?_
    rintro e w' ⟨rfl, hP⟩
    exact ⟨rfl, h1.post hP⟩
  have Hv := hide hv
  have Hb := hide h
  clear hv h
  obtain ⟨er, her⟩ : ∃ er, f'.e = er := ⟨_, rfl⟩
  obtain ⟨pl, hpl⟩ : ∃ pl, f'.place = pl := ⟨_, rfl⟩
  rw [her, hpl] at HC
  have HER := hide her
  clear her hpl
  by_cases h0 : er = 0
  · subst h0
    go_enter Try.func98, Try.ntmps98
    go_wp2_with fail
    refine (HC.out _ (by (repeat (first | with_reducible exact Fr.refl _ _ | with_reducible assumption | with_reducible refine Fr.drew ?_ | with_reducible refine Fr.drewN ?_ _ | with_reducible refine Fr.alloc ?_ _ | with_reducible refine Fr.setIn ?_ (by first | exact Or.inl rfl | exact Or.inr (by simp; done) | exact Or.inr (by simp; omega) | exact Or.inr (by omega)) _)))).mono ?_
    rintro e w1 ⟨rfl, hP⟩
    go_wp2_with fail
    ((try simp only [Exit.inBlock, Exit.then]); first | refine bodyPost_end (results_none rfl _ _ _) rfl ?_ | refine bodyPost_ret (results_none rfl _ _ _) rfl ?_)
    refine ⟨f', rfl, Hv, ?_, Fr.trans (by (repeat (first | with_reducible exact Fr.refl _ _ | with_reducible assumption | with_reducible refine Fr.drew ?_ | with_reducible refine Fr.drewN ?_ _ | with_reducible refine Fr.alloc ?_ _ | with_reducible refine Fr.setIn ?_ (by first | exact Or.inl rfl | exact Or.inr (by simp; done) | exact Or.inr (by simp; omega) | exact Or.inr (by omega)) _))) hP.out.2⟩
    rw [HER.out]
    simpa using hP.out.1
  · have hne : (er == 0) = false := by simpa using h0
    obtain ⟨W0, hW0⟩ : ∃ W0, W0 = w := ⟨_, rfl⟩
    go_enter Try.func98, Try.ntmps98
    go_wp2_with fail
    refine (HC.out _ (by (repeat (first | with_reducible exact Fr.refl _ _ | with_reducible assumption | with_reducible refine Fr.drew ?_ | with_reducible refine Fr.drewN ?_ _ | with_reducible refine Fr.alloc ?_ _ | with_reducible refine Fr.setIn ?_ (by first | exact Or.inl rfl | exact Or.inr (by simp; done) | exact Or.inr (by simp; omega) | exact Or.inr (by omega)) _)))).mono ?_
    rintro e w1 ⟨rfl, hP⟩
    have HP := hide hP.out
    have hbx : Bl w1 w.heap.size tRdr #[.pointer (some ⟨r.p, 0, none⟩), .pointer (some ⟨pb, 0, none⟩)] := (Bl.new w tRdr #[.pointer (some ⟨r.p, 0, none⟩), .pointer (some ⟨pb, 0, none⟩)]).fr hP.out.2 ((Hb.out.quiet ((Fr.refl _ _).alloc _)).not (Bl.new w tRdr #[.pointer (some ⟨r.p, 0, none⟩), .pointer (some ⟨pb, 0, none⟩)]).typed (by unfold Turns2 Turns; decide))
    have x0 : w1.cell? ⟨w.heap.size, 0, none⟩ = some (.pointer (some ⟨r.p, 0, none⟩)) := hbx.cell' rfl
    have x1 : w1.cell? ⟨w.heap.size, 1, none⟩ = some (.pointer (some ⟨pb, 0, none⟩)) := hbx.cell' rfl
    have x2 : w1.cell? ⟨pb, 0, none⟩ = some (.bool bad) := hP.out.1.bd.cell' rfl
    have x3 : w1.frozen? ⟨pb, 0, none⟩ = false := hP.out.1.bd.free _
    clear hP hbx
    go_wp2_with fail
    ((try simp only [Exit.inBlock, Exit.then]); first | refine bodyPost_end (results_none rfl _ _ _) rfl ?_ | refine bodyPost_ret (results_none rfl _ _ _) rfl ?_)
    have hb2 : Bl (w1.setCell ⟨pb, 0, none⟩ (.bool true)) pb tBool #[.bool true] := by have := HP.out.1.bd.set (i := 0) (.bool true); simpa using this
    have hf2 : Fr (fun x => x = pb) w1 (w1.setCell ⟨pb, 0, none⟩ (.bool true)) := (Fr.refl _ _).setAt _
    refine ⟨f', rfl, Hv, ?_, Fr.trans (by (repeat (first | with_reducible exact Fr.refl _ _ | with_reducible assumption | with_reducible refine Fr.drew ?_ | with_reducible refine Fr.drewN ?_ _ | with_reducible refine Fr.alloc ?_ _ | with_reducible refine Fr.setIn ?_ (by first | exact Or.inl rfl | exact Or.inr (by simp; done) | exact Or.inr (by simp; omega) | exact Or.inr (by omega)) _))) (HP.out.2.trans (hf2.mono fun _ _ e => .inr (.inl e)))⟩
    rw [HER.out, decide_eq_true h0, Bool.or_true]
    exact HP.out.1.bad_ hb2 hf2
end
end Go.Proofs.Ytlcjhbemgagchaa
end
