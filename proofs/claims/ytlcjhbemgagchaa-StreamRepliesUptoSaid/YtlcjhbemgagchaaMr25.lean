/-
  Texts merged into one, to keep the claim small: St6, Pd4.
-/
import Derived.Test.YtlcjhbemgagchaaMr8
import Derived.Laws.BitsLemmas
import Derived.Test.YtlcjhbemgagchaaMr23
import Derived.Test.YtlcjhbemgagchaaMr17
import Derived.Test.YtlcjhbemgagchaaMr3
section
/-
  stream: the length that three bytes say, the program's and the reference's.
-/
namespace Go.Proofs.Ytlcjhbemgagchaa
open Go.RowKit
set_option linter.unusedVariables false

/-- The length that the first three bytes say. -/
def longS (bs : List Nat) : Nat := 65536 * bs.getD 0 0 + 256 * bs.getD 1 0 + bs.getD 2 0
theorem Sl.byte {w : World} {n : Nat} {A : Option Addr} {bs : List Nat} (h : Sl w 1 A n (bs.map bn)) {k : Nat} (hk : k < n) : ∃ b o, A = some ⟨b, o, none⟩ ∧ w.cell? ⟨b, o + k, none⟩ = some (.int .u8 ((bs.getD k 0 : Nat) : Int)) := by
  have hl : bs.length = n := by have := h.1; simpa using this
  obtain ⟨b, o, hA, hc⟩ := h.at_ (bn_get (xs := bs) (k := k) (by omega))
  exact ⟨b, o, hA, hc⟩
theorem or3 (x0 x1 x2 : Nat) (h0 : x0 < 256) (h1 : x1 < 256) (h2 : x2 < 256) :
    bits BinOp.or IntKind.i64 (bits BinOp.or IntKind.i64 ((x0 : Int) * 65536) ((x1 : Int) * 256)) (x2 : Int) = ((65536 * x0 + 256 * x1 + x2 : Nat) : Int) := by
  have hk : ∀ n : Int, 0 ≤ n → n < 2 ^ 32 → IntKind.i64.wrap n = n := fun n h0 h1 => IntWalk.i64_in _ (by omega)
  have e1 := (bits_nat .i64 32 (by decide) hk (2 ^ 16 * x0) (2 ^ 8 * x1) (by omega) (by omega)).2
  rw [← Nat.two_pow_add_eq_or_of_lt (by omega)] at e1
  have e2 := (bits_nat .i64 32 (by decide) hk (2 ^ 8 * (256 * x0 + x1)) x2 (by omega) (by omega)).2
  rw [← Nat.two_pow_add_eq_or_of_lt (by omega)] at e2
  have c1 : ((x0 : Int) * 65536) = ((2 ^ 16 * x0 : Nat) : Int) := by omega
  have c2 : ((x1 : Int) * 256) = ((2 ^ 8 * x1 : Nat) : Int) := by omega
  rw [c1, c2, e1, show 2 ^ 16 * x0 + 2 ^ 8 * x1 = 2 ^ 8 * (256 * x0 + x1) by omega, e2]
set_option maxHeartbeats 1000000 in
set_option maxRecDepth 4000 in
theorem long_any (w : World) (bs : List Nat) (A : Option Addr) (n c : Nat) (h3 : 3 ≤ n) (hA : Sl w 1 A n (bs.map bn)) (hb : ∀ x ∈ bs, x < 256) :
    Calls Try.prog 48 #[.slice A n c] w fun e w' => e = .returned (.int .i64 (longS bs : Int)) ∧ ∃ m, w' = w.drewN m := by
  obtain ⟨b, o, rfl, c0⟩ := hA.byte (k := 0) (by omega)
  obtain ⟨b1, o1, e1, c1⟩ := hA.byte (k := 1) (by omega)
  obtain ⟨b2, o2, e2, c2⟩ := hA.byte (k := 2) (by omega)
  cases e1; cases e2
  rw [Nat.add_zero] at c0
  have hg : ∀ k, bs.getD k 0 < 256 := fun k => by
    simp only [List.getD]
    cases h : bs[k]? with
    | none => simp
    | some x => exact hb x (List.mem_of_getElem? h)
  have g0 := hg 0
  have g1 := hg 1
  have g2 := hg 2
  have HL : Hid (longS bs = 65536 * bs.getD 0 0 + 256 * bs.getD 1 0 + bs.getD 2 0) := rfl
  obtain ⟨x0, h0⟩ : ∃ x, bs.getD 0 0 = x := ⟨_, rfl⟩
  obtain ⟨x1, h1⟩ : ∃ x, bs.getD 1 0 = x := ⟨_, rfl⟩
  obtain ⟨x2, h2⟩ : ∃ x, bs.getD 2 0 = x := ⟨_, rfl⟩
  rw [h0] at c0 g0 HL
  rw [h1] at c1 g1 HL
  rw [h2] at c2 g2 HL
  obtain ⟨L, hL⟩ : ∃ L, longS bs = L := ⟨_, rfl⟩
  rw [hL] at HL ⊢
  clear hA hb hg h0 h1 h2 hL
  go_enter Try.func48, Try.ntmps48
  go_wp2_with fail
  go_quiet (fail)
  go_wp2_with fail
  go_ret
  refine ⟨?_, _, rfl⟩
  show Ending.returned (.int .i64 (bits BinOp.or IntKind.i64 (bits BinOp.or IntKind.i64 ((x0 : Int) * 65536) ((x1 : Int) * 256)) (x2 : Int))) = _
  rw [or3 x0 x1 x2 g0 g1 g2, HL.out]
set_option maxHeartbeats 1000000 in
set_option maxRecDepth 4000 in
theorem rlong_any (w : World) (bs : List Nat) (A : Option Addr) (n c : Nat) (h3 : 3 ≤ n) (hA : Sl w 1 A n (bs.map bn)) (hb : ∀ x ∈ bs, x < 256) :
    Calls Try.prog 46 #[.slice A n c] w fun e w' => e = .returned (.int .i64 (longS bs : Int)) ∧ ∃ m, w' = w.drewN m := by
  obtain ⟨b, o, rfl, c0⟩ := hA.byte (k := 0) (by omega)
  obtain ⟨b1, o1, e1, c1⟩ := hA.byte (k := 1) (by omega)
  obtain ⟨b2, o2, e2, c2⟩ := hA.byte (k := 2) (by omega)
  cases e1; cases e2
  rw [Nat.add_zero] at c0
  have hg : ∀ k, bs.getD k 0 < 256 := fun k => by
    simp only [List.getD]
    cases h : bs[k]? with
    | none => simp
    | some x => exact hb x (List.mem_of_getElem? h)
  have g0 := hg 0
  have g1 := hg 1
  have g2 := hg 2
  have HL : Hid (longS bs = 65536 * bs.getD 0 0 + 256 * bs.getD 1 0 + bs.getD 2 0) := rfl
  obtain ⟨x0, h0⟩ : ∃ x, bs.getD 0 0 = x := ⟨_, rfl⟩
  obtain ⟨x1, h1⟩ : ∃ x, bs.getD 1 0 = x := ⟨_, rfl⟩
  obtain ⟨x2, h2⟩ : ∃ x, bs.getD 2 0 = x := ⟨_, rfl⟩
  rw [h0] at c0 g0 HL
  rw [h1] at c1 g1 HL
  rw [h2] at c2 g2 HL
  obtain ⟨L, hL⟩ : ∃ L, longS bs = L := ⟨_, rfl⟩
  rw [hL] at HL ⊢
  clear hA hb hg h0 h1 h2 hL
  go_enter Try.func46, Try.ntmps46
  go_wp2_with fail
  go_quiet (fail)
  go_wp2_with fail
  go_ret
  refine ⟨?_, _, rfl⟩
  show Ending.returned (.int .i64 (65536 * (x0 : Int) + 256 * (x1 : Int) + (x2 : Int))) = _
  rw [HL.out]; congr 2
end Go.Proofs.Ytlcjhbemgagchaa
end

section
/-
  proto: readers of a record (int, all, done, in, open), in memory.
-/
namespace Go.Proofs.Ytlcjhbemgagchaa
open Go.RowKit
set_option linter.unusedVariables false
set_option linter.unusedSimpArgs false
abbrev tRdr : TypeId := 150
abbrev tBool : TypeId := 4
abbrev tFau : TypeId := 210
def Turns2 (t : TypeId) : Prop := Turns t ∨ t = tBool
def Within2 (w : World) (S : Nat → Prop) : Prop := ∀ x, S x → ∃ t, Typed w x t ∧ Turns2 t
theorem Within2.not {w : World} {S : Nat → Prop} (h : Within2 w S) {b : Nat} {t : TypeId} (hb : Typed w b t) (ht : ¬ Turns2 t) : ¬ S b := fun hs => by
  obtain ⟨t', h1, h2⟩ := h b hs
  exact ht (hb.same h1 ▸ h2)
theorem TR.fr2 {w w' : World} {pf b : Nat} {r : TRd} {d : RD} {S : Nat → Prop} (h : TR w pf b r d) (hf : Fr S w w') (hS : Within2 w S) (hp : ∀ x, r.foot x → ¬ S x) : TR w' pf b r d := by
  refine ⟨h.bl.fr hf (hS.not h.bl.typed (by unfold Turns2 Turns; decide)), h.ls.fr hf (fun b e => hS.not (h.ls.typed b e) (by unfold Turns2 Turns; decide)), h.eq, fun i hi => ?_, h.ord, fun h0 => (h.buf h0).fr hf (hS.not (h.buf h0) (by unfold Turns2 Turns; decide)), h.ok⟩
  exact (h.at_ i hi).fr hf (hp _ ⟨_, List.getElem_mem hi, rfl⟩) (hS.not (h.buf (by omega)) (by unfold Turns2 Turns; decide))
/-- Calls that were taken. -/
def takes (d : RD) (T : List (RF × Int)) : RD := T.foldl (fun d x => d.took x.1 x.2) d
theorem takes_snoc (d : RD) (T : List (RF × Int)) (f : RF) (t : Int) : takes d (T ++ [(f, t)]) = (takes d T).took f t := by simp [takes]
theorem takes_fs : ∀ (T : List (RF × Int)) (d : RD), (takes d T).fs = d.fs ∧ (takes d T).bs = d.bs ∧ (takes d T).base = d.base
  | [], d => ⟨rfl, rfl, rfl⟩
  | x :: T, d => takes_fs T (d.took x.1 x.2)
theorem fld_takes (d : RD) (T : List (RF × Int)) (f : RF) (t : Int) : (takes d T).fld f t = d.fld f t := by
  unfold RD.fld RD.idx
  rw [(takes_fs T d).1]
theorem num_takes (d : RD) (T : List (RF × Int)) (f : RF) (t : Int) (a : Nat) : numberS (takes d T) f t a = numberS d f t a := by
  unfold numberS
  rw [fld_takes, (takes_fs T d).2.1, (takes_fs T d).2.2]
theorem raw_takes (d : RD) (T : List (RF × Int)) (f : RF) (t a : Int) : rawS (takes d T) f t a = rawS d f t a := by
  unfold rawS
  rw [fld_takes, (takes_fs T d).2.1, (takes_fs T d).2.2]
theorem it_takes (d : RD) (T : List (RF × Int)) (f : RF) (t a : Int) : itS (takes d T) f t a = itS d f t a := by
  unfold itS
  rw [fld_takes, (takes_fs T d).2.1, (takes_fs T d).2.2]
theorem itVals_takes (d : RD) (T : List (RF × Int)) (x : Option GF × List GF × RF) : itVals (takes d T) x = itVals d x := by
  unfold itVals
  rw [(takes_fs T d).2.1]
theorem record_takes (d : RD) (T : List (RF × Int)) (f : RF) (t : Int) : recordS (takes d T) f t = recordS d f t := by
  unfold recordS
  rw [fld_takes, (takes_fs T d).2.1, (takes_fs T d).2.2]
theorem records_takes (d : RD) (T : List (RF × Int)) (f : RF) (t a : Int) : recordsS (takes d T) f t a = recordsS d f t a := by
  unfold recordsS
  rw [it_takes, (takes_fs T d).2.1, (takes_fs T d).2.2]
theorem numberS_le (d : RD) (f : RF) (t : Int) (a : Nat) : (numberS d f t a).1 ≤ a := by
  unfold numberS
  split
  · exact Nat.zero_le _
  · simp only
    split
    · exact Nat.zero_le _
    · split
      · exact Nat.zero_le _
      · omega
/-- A record's reader, its fault, and whether anything is bad. -/
structure RC (w : World) (pf pb b : Nat) (r : TRd) (d : RD) (f : RF) (bad : Bool) : Prop where
  tr : TR w pf b r d
  flt : Flt w tFau pf f
  bd : Bl w pb tBool #[.bool bad]
def rturn (pf pb : Nat) (r : TRd) (x : Nat) : Prop := x = pf ∨ x = pb ∨ r.foot x
section
variable {w w' : World} {pf pb b : Nat} {r : TRd} {d : RD} {f : RF} {bad : Bool}
theorem RC.within (h : RC w pf pb b r d f bad) : Within2 w (rturn pf pb r) := by
  rintro x (rfl | rfl | hx)
  · exact ⟨_, Bl.typed h.flt, .inl (.inl rfl)⟩
  · exact ⟨_, Bl.typed h.bd, .inr rfl⟩
  · obtain ⟨t, h1, h2⟩ := h.tr.within x hx
    exact ⟨t, h1, .inl h2⟩
theorem RC.not (h : RC w pf pb b r d f bad) {c : Nat} {t : TypeId} (hb : Typed w c t) (ht : ¬ Turns2 t) : ¬ rturn pf pb r c := h.within.not hb ht
theorem RC.quiet (h : RC w pf pb b r d f bad) (hf : Fr (fun _ => False) w w') : RC w' pf pb b r d f bad := ⟨h.tr.quiet hf, h.flt.fr hf id, h.bd.fr hf id⟩
theorem RC.fb (h : RC w pf pb b r d f bad) : pf ≠ pb := fun e => by
  have h1 := h.bd
  rw [← e] at h1
  have := (Bl.typed h.flt).same (Bl.typed h1)
  exact absurd this (by decide)
theorem RC.nb (h : RC w pf pb b r d f bad) : ¬ r.foot pb := fun e => by
  obtain ⟨t, h1, h2⟩ := h.tr.within pb e
  have := (Bl.typed h.bd).same h1
  subst this
  exact absurd h2 (by unfold Turns; decide)
theorem RC.post (h : RC w pf pb b r d f bad) {d' : RD} {f' : RF} (hP : TPost w pf b r d' f' w') : RC w' pf pb b r d' f' bad ∧ Fr (rturn pf pb r) w w' :=
  ⟨⟨hP.tr, hP.flt, h.bd.fr hP.fr fun e => e.elim (fun e => h.fb e.symm) h.nb⟩, hP.fr.mono fun _ _ e => e.elim .inl fun e => .inr (.inr e)⟩
/-- pb alone turns. -/
theorem RC.bad_ (h : RC w pf pb b r d f bad) {b' : Bool} (hb : Bl w' pb tBool #[.bool b']) (hf : Fr (fun x => x = pb) w w') : RC w' pf pb b r d f b' :=
  ⟨h.tr.fr2 hf (fun x e => ⟨_, e ▸ Bl.typed h.bd, .inr rfl⟩) (fun x hx e => h.nb (e ▸ hx)), h.flt.fr hf h.fb, hb⟩
end
abbrev rdv (r : TRd) (pb : Nat) : Value := .agg #[.pointer (some ⟨r.p, 0, none⟩), .pointer (some ⟨pb, 0, none⟩)]
section
variable {pf pb b : Nat} {r : TRd} {d : RD} {f : RF} {bad : Bool}
set_option maxHeartbeats 1000000 in
theorem rint_any (w : World) (h : RC w pf pb b r d f bad) (t : Int) :
    Calls Try.prog 91 #[rdv r pb, .int .i64 t] w fun e w' => ∃ (n : Nat) (f' : RF), e = .returned (.int .i64 (n : Int)) ∧ Hid (numberS d f t 1125899906842624 = (n, f')) ∧ RC w' pf pb b r (d.took f t) f' bad ∧ Fr (rturn pf pb r) w w' := by
  obtain ⟨n, f', hv⟩ : ∃ n f', numberS d f t 1125899906842624 = (n, f') := ⟨_, _, rfl⟩
  have hn : n ≤ 1125899906842624 := by have := numberS_le d f t 1125899906842624; rw [hv] at this; exact this
  have hq : IntKind.i64.wrap (n : Int) = (n : Int) := IntWalk.i64_in _ (by omega)
  have HC : Hid (∀ w1, Fr (fun _ => False) w w1 → Calls Try.prog 95 #[.pointer (some ⟨r.p, 0, none⟩), .int .i64 t, .int .u64 1125899906842624] w1 fun e w' => e = .returned (.int .u64 (n : Int)) ∧ Hid (RC w' pf pb b r (d.took f t) f' bad ∧ Fr (rturn pf pb r) w1 w')) := fun w1 hf => by
    have h1 := h.quiet hf
    have c := trnum_any w1 pf b r d f t 1125899906842624 (by decide) h1.tr h1.flt
    rw [hv] at c
    refine c.mono ?_
    rintro e w' ⟨rfl, hP⟩
    exact ⟨rfl, h1.post hP⟩
  have Hv := hide hv
  clear hv h
  go_enter Try.func91, Try.ntmps91
  go_wp2_with fail
  refine (HC.out _ (by (repeat (first | with_reducible exact Fr.refl _ _ | with_reducible assumption | with_reducible refine Fr.drew ?_ | with_reducible refine Fr.drewN ?_ _ | with_reducible refine Fr.alloc ?_ _ | with_reducible refine Fr.setIn ?_ (by first | exact Or.inl rfl | exact Or.inr (by simp; done) | exact Or.inr (by simp; omega) | exact Or.inr (by omega)) _)))).mono ?_
  rintro e w1 ⟨rfl, hP⟩
  go_wp2_with fail
  go_ret
  refine ⟨n, f', by first | rfl | rw [hq], Hv, hP.out.1, Fr.trans (by (repeat (first | with_reducible exact Fr.refl _ _ | with_reducible assumption | with_reducible refine Fr.drew ?_ | with_reducible refine Fr.drewN ?_ _ | with_reducible refine Fr.alloc ?_ _ | with_reducible refine Fr.setIn ?_ (by first | exact Or.inl rfl | exact Or.inr (by simp; done) | exact Or.inr (by simp; omega) | exact Or.inr (by omega)) _))) hP.out.2⟩
set_option maxHeartbeats 1000000 in
theorem rall_any (w : World) (h : RC w pf pb b r d f bad) (t : Int) :
    Calls Try.prog 93 #[rdv r pb, .int .i64 t] w fun e w' => ∃ (n : Nat) (f' : RF), e = .returned (.int .u64 (n : Int)) ∧ Hid (numberS d f t 18446744073709551615 = (n, f')) ∧ RC w' pf pb b r (d.took f t) f' bad ∧ Fr (rturn pf pb r) w w' := by
  obtain ⟨n, f', hv⟩ : ∃ n f', numberS d f t 18446744073709551615 = (n, f') := ⟨_, _, rfl⟩
  have HC : Hid (∀ w1, Fr (fun _ => False) w w1 → Calls Try.prog 95 #[.pointer (some ⟨r.p, 0, none⟩), .int .i64 t, .int .u64 18446744073709551615] w1 fun e w' => e = .returned (.int .u64 (n : Int)) ∧ Hid (RC w' pf pb b r (d.took f t) f' bad ∧ Fr (rturn pf pb r) w1 w')) := fun w1 hf => by
    have h1 := h.quiet hf
    have c := trnum_any w1 pf b r d f t 18446744073709551615 (by decide) h1.tr h1.flt
    rw [hv] at c
    refine c.mono ?_
    rintro e w' ⟨rfl, hP⟩
    exact ⟨rfl, h1.post hP⟩
  have Hv := hide hv
  clear hv h
  go_enter Try.func93, Try.ntmps93
  go_wp2_with fail
  refine (HC.out _ (by (repeat (first | with_reducible exact Fr.refl _ _ | with_reducible assumption | with_reducible refine Fr.drew ?_ | with_reducible refine Fr.drewN ?_ _ | with_reducible refine Fr.alloc ?_ _ | with_reducible refine Fr.setIn ?_ (by first | exact Or.inl rfl | exact Or.inr (by simp; done) | exact Or.inr (by simp; omega) | exact Or.inr (by omega)) _)))).mono ?_
  rintro e w1 ⟨rfl, hP⟩
  go_wp2_with fail
  go_ret
  exact ⟨n, f', rfl, Hv, hP.out.1, Fr.trans (by (repeat (first | with_reducible exact Fr.refl _ _ | with_reducible assumption | with_reducible refine Fr.drew ?_ | with_reducible refine Fr.drewN ?_ _ | with_reducible refine Fr.alloc ?_ _ | with_reducible refine Fr.setIn ?_ (by first | exact Or.inl rfl | exact Or.inr (by simp; done) | exact Or.inr (by simp; omega) | exact Or.inr (by omega)) _))) hP.out.2⟩
set_option maxHeartbeats 1000000 in
theorem rdone_any (w : World) (h : RC w pf pb b r d f bad) :
    Calls Try.prog 98 #[rdv r pb] w fun e w' => ∃ (f' : RF), e = .returned (.tuple #[]) ∧ Hid (endS d f = f') ∧ RC w' pf pb b r d f' (bad || decide (f'.e ≠ 0)) ∧ Fr (rturn pf pb r) w w' := by
  obtain ⟨f', hv⟩ : ∃ f', endS d f = f' := ⟨_, rfl⟩
  have HC : Hid (∀ w1, Fr (fun _ => False) w w1 → Calls Try.prog 131 #[.pointer (some ⟨r.p, 0, none⟩)] w1 fun e w' => e = .returned (.tuple #[.int .i64 f'.place, .int .i64 f'.e]) ∧ Hid (RC w' pf pb b r d f' bad ∧ Fr (rturn pf pb r) w1 w')) := fun w1 hf => by
    have h1 := h.quiet hf
    have c := tend_any w1 pf b r d f h1.tr h1.flt
    rw [hv] at c
    refine c.mono ?_
    rintro e w' ⟨rfl, hP⟩
    exact ⟨rfl, h1.post hP⟩
  have Hv := hide hv
  have Hb := hide h
  clear hv h
  obtain ⟨er, her⟩ : ∃ er, f'.e = er := ⟨_, rfl⟩
  obtain ⟨pl, hpl⟩ : ∃ pl, f'.place = pl := ⟨_, rfl⟩
  rw [her, hpl] at HC
  have HER := hide her
  clear her hpl
  by_cases h0 : er = 0
  · subst h0
    go_enter Try.func98, Try.ntmps98
    go_wp2_with fail
    refine (HC.out _ (by (repeat (first | with_reducible exact Fr.refl _ _ | with_reducible assumption | with_reducible refine Fr.drew ?_ | with_reducible refine Fr.drewN ?_ _ | with_reducible refine Fr.alloc ?_ _ | with_reducible refine Fr.setIn ?_ (by first | exact Or.inl rfl | exact Or.inr (by simp; done) | exact Or.inr (by simp; omega) | exact Or.inr (by omega)) _)))).mono ?_
    rintro e w1 ⟨rfl, hP⟩
    go_wp2_with fail
    ((try simp only [Exit.inBlock, Exit.then]); first | refine bodyPost_end (results_none rfl _ _ _) rfl ?_ | refine bodyPost_ret (results_none rfl _ _ _) rfl ?_)
    refine ⟨f', rfl, Hv, ?_, Fr.trans (by (repeat (first | with_reducible exact Fr.refl _ _ | with_reducible assumption | with_reducible refine Fr.drew ?_ | with_reducible refine Fr.drewN ?_ _ | with_reducible refine Fr.alloc ?_ _ | with_reducible refine Fr.setIn ?_ (by first | exact Or.inl rfl | exact Or.inr (by simp; done) | exact Or.inr (by simp; omega) | exact Or.inr (by omega)) _))) hP.out.2⟩
    rw [HER.out]
    simpa using hP.out.1
  · have hne : (er == 0) = false := by simpa using h0
    obtain ⟨W0, hW0⟩ : ∃ W0, W0 = w := ⟨_, rfl⟩
    go_enter Try.func98, Try.ntmps98
    go_wp2_with fail
    refine (HC.out _ (by (repeat (first | with_reducible exact Fr.refl _ _ | with_reducible assumption | with_reducible refine Fr.drew ?_ | with_reducible refine Fr.drewN ?_ _ | with_reducible refine Fr.alloc ?_ _ | with_reducible refine Fr.setIn ?_ (by first | exact Or.inl rfl | exact Or.inr (by simp; done) | exact Or.inr (by simp; omega) | exact Or.inr (by omega)) _)))).mono ?_
    rintro e w1 ⟨rfl, hP⟩
    have HP := hide hP.out
    have hbx : Bl w1 w.heap.size tRdr #[.pointer (some ⟨r.p, 0, none⟩), .pointer (some ⟨pb, 0, none⟩)] := (Bl.new w tRdr #[.pointer (some ⟨r.p, 0, none⟩), .pointer (some ⟨pb, 0, none⟩)]).fr hP.out.2 ((Hb.out.quiet ((Fr.refl _ _).alloc _)).not (Bl.new w tRdr #[.pointer (some ⟨r.p, 0, none⟩), .pointer (some ⟨pb, 0, none⟩)]).typed (by unfold Turns2 Turns; decide))
    have x0 : w1.cell? ⟨w.heap.size, 0, none⟩ = some (.pointer (some ⟨r.p, 0, none⟩)) := hbx.cell' rfl
    have x1 : w1.cell? ⟨w.heap.size, 1, none⟩ = some (.pointer (some ⟨pb, 0, none⟩)) := hbx.cell' rfl
    have x2 : w1.cell? ⟨pb, 0, none⟩ = some (.bool bad) := hP.out.1.bd.cell' rfl
    have x3 : w1.frozen? ⟨pb, 0, none⟩ = false := hP.out.1.bd.free _
    clear hP hbx
    go_wp2_with fail
    ((try simp only [Exit.inBlock, Exit.then]); first | refine bodyPost_end (results_none rfl _ _ _) rfl ?_ | refine bodyPost_ret (results_none rfl _ _ _) rfl ?_)
    have hb2 : Bl (w1.setCell ⟨pb, 0, none⟩ (.bool true)) pb tBool #[.bool true] := by have := HP.out.1.bd.set (i := 0) (.bool true); simpa using this
    have hf2 : Fr (fun x => x = pb) w1 (w1.setCell ⟨pb, 0, none⟩ (.bool true)) := (Fr.refl _ _).setAt _
    refine ⟨f', rfl, Hv, ?_, Fr.trans (by (repeat (first | with_reducible exact Fr.refl _ _ | with_reducible assumption | with_reducible refine Fr.drew ?_ | with_reducible refine Fr.drewN ?_ _ | with_reducible refine Fr.alloc ?_ _ | with_reducible refine Fr.setIn ?_ (by first | exact Or.inl rfl | exact Or.inr (by simp; done) | exact Or.inr (by simp; omega) | exact Or.inr (by omega)) _))) (HP.out.2.trans (hf2.mono fun _ _ e => .inr (.inl e)))⟩
    rw [HER.out, decide_eq_true h0, Bool.or_true]
    exact HP.out.1.bad_ hb2 hf2
end
end Go.Proofs.Ytlcjhbemgagchaa
end
