/-
  Texts merged into one, to keep the claim small: PdC.
-/
import Derived.Test.YtlcjhbemgagchaaMc19
import Derived.Deep.CutBlock
/-
  proto: Decode of the program. (printed by pr_dec2.py)
-/
namespace Go.Proofs.Ytlcjhbemgagchaa
open Go.RowKit
set_option linter.unusedVariables false
set_option linter.unusedSimpArgs false

abbrev tCmD : TypeId := 31
abbrev cmd0 : Array Value := #[.int .i64 0, .int .i64 0, .string ⟨#[]⟩, .int .i64 0, .int .u64 0, .int .i64 0, .int .i64 0, .int .i64 0, .int .i64 0, .int .i64 0, .int .u64 0, .int .u64 0, .slice none 0 0, .int .i64 0, .int .i64 0, .int .i64 0, .int .i64 0, .int .i64 0, .int .i64 0, .int .u64 0, .int .u64 0, .int .u64 0, .int .i64 0, .slice none 0 0]
/-- What Decode answers. -/
def DecPost (bs : List Nat) (w : World) (e : Ending) (w' : World) : Prop :=
  (512 < bs.length ∧ e = .returned (.tuple #[.agg cmd0, .int .i64 3]) ∧ Fr (fun _ => False) w w') ∨
  (bs.length ≤ 512 ∧ (∀ c, ¬ KForm bs c) ∧ e = .returned (.tuple #[.agg cmd0, .int .i64 270]) ∧ Fr (fun _ => False) w w') ∨
  (bs.length ≤ 512 ∧ ∃ c, KForm bs c ∧ e = .returned (.tuple #[.agg #[.int .i64 c.id, .int .i64 c.kind, .string (strOf c.name), .int .i64 c.to_, .int .u64 (c.co : Int), .int .i64 c.item, .int .i64 c.num, .int .i64 c.of_, .int .i64 c.e.acc, .int .i64 c.e.item, .int .u64 (c.e.co : Int), .int .u64 (c.e.pr : Int), .slice c.e.A c.e.n c.e.c, .int .i64 c.k.num, .int .i64 c.k.kind, .int .i64 c.k.by_, .int .i64 c.k.dl, .int .i64 c.k.to_, .int .i64 c.k.want, .int .u64 (c.k.pr : Int), .int .u64 (c.k.rs : Int), .int .u64 (c.k.st : Int), .int .i64 c.k.of_, .slice c.k.A c.k.n c.k.c], .int .i64 0]) ∧ KOwn w w' c ∧ Fr (fun _ => False) w w')
set_option maxHeartbeats 16000000 in
set_option maxRecDepth 8000 in
attribute [-go_sem] Go.Instr.loadAt Go.Instr.storeAt in
theorem Decode_of (w : World) (bs : List Nat) (A : Option Addr) (n c : Nat) (hl : n = bs.length) (hn : n ≤ 140737488355000) (h256 : ∀ x ∈ bs, x < 256) (hS : Sl w 1 A n (bs.map bn))
    (hcmd : ∀ w1 (q : KC), q.at_ w1 → Calls Try.prog 56 #[.agg #[.int .i64 q.id, .int .i64 q.kind, .string (strOf q.name), .int .i64 q.to_, .int .u64 (q.co : Int), .int .i64 q.item, .int .i64 q.num, .int .i64 q.of_, .int .i64 q.e.acc, .int .i64 q.e.item, .int .u64 (q.e.co : Int), .int .u64 (q.e.pr : Int), .slice q.e.A q.e.n q.e.c, .int .i64 q.k.num, .int .i64 q.k.kind, .int .i64 q.k.by_, .int .i64 q.k.dl, .int .i64 q.k.to_, .int .i64 q.k.want, .int .u64 (q.k.pr : Int), .int .u64 (q.k.rs : Int), .int .u64 (q.k.st : Int), .int .i64 q.k.of_, .slice q.k.A q.k.n q.k.c]] w1 fun e w' => e = .returned (.bool q.ok) ∧ Fr (fun _ => False) w1 w') :
    Calls Try.prog 132 #[.slice A n c] w (DecPost bs w) := by
  have HC := hide hcmd
  have Hl := hide hl
  have H256 := hide h256
  clear hcmd hl h256
  by_cases hlong : 512 < n
  · have hst := run_storeAt_at (P := Try.prog) tCmD w.heap.size 0 tCmD #[.int .i64 0, .int .i64 0, .string ⟨#[]⟩, .int .i64 0, .int .u64 0, .int .i64 0, .int .i64 0, .int .i64 0, .int .i64 0, .int .i64 0, .int .u64 0, .int .u64 0, .slice none 0 0, .int .i64 0, .int .i64 0, .int .i64 0, .int .i64 0, .int .i64 0, .int .i64 0, .int .u64 0, .int .u64 0, .int .u64 0, .int .i64 0, .slice none 0 0] #[.int .i64 0, .int .i64 0, .string ⟨#[]⟩, .int .i64 0, .int .u64 0, .int .i64 0, .int .i64 0, .int .i64 0, .int .i64 0, .int .i64 0, .int .u64 0, .int .u64 0, .slice none 0 0, .int .i64 0, .int .i64 0, .int .i64 0, .int .i64 0, .int .i64 0, .int .i64 0, .int .u64 0, .int .u64 0, .int .u64 0, .int .i64 0, .slice none 0 0] #[.int .i64 0, .int .i64 0, .string ⟨#[]⟩, .int .i64 0, .int .u64 0, .int .i64 0, .int .i64 0, .int .i64 0, .int .i64 0, .int .i64 0, .int .u64 0, .int .u64 0, .slice none 0 0, .int .i64 0, .int .i64 0, .int .i64 0, .int .i64 0, .int .i64 0, .int .i64 0, .int .u64 0, .int .u64 0, .int .u64 0, .int .i64 0, .slice none 0 0] (by kernel_rfl) 24 24 rfl rfl (by decide) rfl rfl (Bl.new w tCmD #[.int .i64 0, .int .i64 0, .string ⟨#[]⟩, .int .i64 0, .int .u64 0, .int .i64 0, .int .i64 0, .int .i64 0, .int .i64 0, .int .i64 0, .int .u64 0, .int .u64 0, .slice none 0 0, .int .i64 0, .int .i64 0, .int .i64 0, .int .i64 0, .int .i64 0, .int .i64 0, .int .u64 0, .int .u64 0, .int .u64 0, .int .i64 0, .slice none 0 0])
    go_enter Try.func132, Try.ntmps132
    go_wp2_with fail
    try simp only [Exit.inBlock, Exit.then]
    refine bodyPost_ret (results_row_tmp rfl _ _ w.heap.size tCmD cmd0 (0, 0) _ rfl ((Bl.new w tCmD cmd0).setRow cmd0) Try.underlying31 rfl (by kernel_rfl)) rfl ?_
    exact .inl ⟨by rw [← Hl.out]; exact hlong, rfl, Fr.setRow ((Fr.refl _ _).alloc _) (.inr (Nat.le_refl _)) _⟩
  have HO : Hid (∀ w1, Fr (fun _ => False) w w1 → Calls Try.prog 90 #[.slice A n c] w1 fun e w' => ∃ (r : TRd) (pf pb b : Nat) (d : RD) (f : RF), e = .returned (rdv r pb) ∧ Hid (readS F0 0 bs = (d, f)) ∧ Hid (RC w' pf pb b r d f false ∧ w1.heap.size ≤ pf ∧ w1.heap.size ≤ pb ∧ (∀ y, r.foot y → w1.heap.size ≤ y) ∧ Fr (fun _ => False) w1 w')) := fun w1 hf => ropen_any w1 bs A n c hn H256.out (hS.quiet hf)
  have Hlim : Hid (n ≤ 512) := Nat.le_of_not_lt hlong
  clear hS
  go_enter Try.func132, Try.ntmps132
  go_wp2_with fail
  refine (HO.out _ ((Fr.refl _ _).alloc _)).mono ?_
  rintro e w1 ⟨r, pf, pb, b, d, f0, rfl, HRS, HP⟩
  have hBR1 : Bl w1 w.heap.size tCmD cmd0 := (Bl.new w tCmD cmd0).fr HP.out.2.2.2.2 id
  have hst0 := run_storeAt_at (P := Try.prog) tRdr w1.heap.size 0 tRdr #[.pointer none, .pointer none] #[.pointer (some ⟨r.p, 0, none⟩), .pointer (some ⟨pb, 0, none⟩)] #[.pointer (some ⟨r.p, 0, none⟩), .pointer (some ⟨pb, 0, none⟩)] (by kernel_rfl) 2 2 rfl rfl (by decide) rfl rfl (Bl.new w1 tRdr #[.pointer none, .pointer none])
  go_wp2_with fail
  obtain ⟨B4, hB4⟩ : ∃ B4, w1.heap.size = B4 := ⟨_, rfl⟩
  rw [hB4]
  obtain ⟨w2, hw2⟩ : ∃ w2, (w1.alloc (.cells #[.pointer none, .pointer none] tRdr)).setRow B4 #[.pointer (some ⟨r.p, 0, none⟩), .pointer (some ⟨pb, 0, none⟩)] = w2 := ⟨_, rfl⟩
  rw [hw2]
  have hF12 : Fr (fun _ => False) w1 w2 := by rw [← hw2]; exact Fr.setRow ((Fr.refl _ _).alloc _) (.inr (by omega)) _
  have hbx : Bl w2 B4 tRdr #[.pointer (some ⟨r.p, 0, none⟩), .pointer (some ⟨pb, 0, none⟩)] := by rw [← hw2, ← hB4]; exact (Bl.new w1 tRdr #[.pointer none, .pointer none]).setRow _
  have M0 : Me [] w2 w2 B4 pf pb b r d [] f0 false := ⟨(fun x hx => by cases hx), HP.out.1.quiet hF12, hbx, Fr.refl _ _⟩
  have HF02 : Hid (Fr (fun _ => False) w w2) := Fr.trans (by (repeat (first | with_reducible exact Fr.refl _ _ | with_reducible assumption | with_reducible refine Fr.drew ?_ | with_reducible refine Fr.drewN ?_ _ | with_reducible refine Fr.alloc ?_ _ | with_reducible refine Fr.setIn ?_ (by first | exact Or.inl rfl | exact Or.inr (by simp; done) | exact Or.inr (by simp; omega) | exact Or.inr (by omega)) _))) (HP.out.2.2.2.2.trans hF12)
  have HBR : Hid (Bl w2 w.heap.size tCmD cmd0) := hBR1.fr hF12 id
  have HN0 : Hid (∀ x, rturn pf pb r x → w.heap.size < x) := by
    rintro x (rfl | rfl | hx)
    · have := HP.out.2.1; simp at this; omega
    · have := HP.out.2.2.1; simp at this; omega
    · have := HP.out.2.2.2.1 x hx; simp at this; omega
  have hs2 : B4 < w2.heap.size := hbx.lt
  have hs1 : w.heap.size < B4 := by rw [← hB4]; exact hBR1.lt
  have z0 : keepB w2 B4 r pb := hbx
  clear hBR1 hF12 hbx HO
  clear hw2 hB4 hst0
  go_upto_region 4 with fail
  go_cut [2, 3, 4, 5] (fun s2 s3 s4 s5 wx => s2 = .pointer (some ⟨w.heap.size, 0, none⟩) ∧ s3 = .int .i64 0 ∧ s4 = .pointer (some ⟨B4, 0, none⟩) ∧ ∃ (B5 n1 n2 n4 n5 n6 n7 n8 : Nat) (vv : List Nat) (str : ByteArray) (f1 f2 f3 f4 f5 f6 f7 f8 : RF), s5 = .pointer (some ⟨B5, 0, none⟩) ∧
    Hid (numberS d f0 1 1125899906842624 = (n1, f1) ∧ numberS d f1 2 1125899906842624 = (n2, f2) ∧ (str = strOf vv ∧ rawS d f2 3 128 = (vv, f3)) ∧ numberS d f3 4 1125899906842624 = (n4, f4) ∧ numberS d f4 5 18446744073709551615 = (n5, f5) ∧ numberS d f5 6 1125899906842624 = (n6, f6) ∧ numberS d f6 7 1125899906842624 = (n7, f7) ∧ numberS d f7 8 1125899906842624 = (n8, f8)) ∧ Hid (Me [(B5, tCmD, #[.int .i64 (n1 : Int), .int .i64 (n2 : Int), .string str, .int .i64 (n4 : Int), .int .u64 (n5 : Int), .int .i64 (n6 : Int), .int .i64 (n7 : Int), .int .i64 (n8 : Int), .int .i64 0, .int .i64 0, .int .u64 0, .int .u64 0, .slice none 0 0, .int .i64 0, .int .i64 0, .int .i64 0, .int .i64 0, .int .i64 0, .int .i64 0, .int .u64 0, .int .u64 0, .int .u64 0, .int .i64 0, .slice none 0 0])] w2 wx B4 pf pb b r d [(f0, 1), (f1, 2), (f2, 3), (f3, 4), (f4, 5), (f5, 6), (f6, 7), (f7, 8)] f8 false))
  case first =>
    have hall : ∀ w', keepB w' B4 r pb → (Instr.loadAt tRdr (.pointer (some ⟨B4, 0, none⟩))).run Try.prog w' = .ok (rdv r pb) w' := fun _ h => h.load
    have hall0 : ∀ w', keepB w' B4 r pb → (Instr.loadAt tPtrR (.pointer (some ⟨B4, 0, none⟩))).run Try.prog w' = .ok (.pointer (some ⟨r.p, 0, none⟩)) w' := fun _ h => h.ld0
    go_region_held3 (fun w' => keepB w' B4 r pb) (first | assumption | exact Bl.drew (by assumption) | exact Bl.alloc (by assumption) _ | exact Bl.farRow (by assumption) (by omega) _)
      (first
        | (have hk := M7; clear hk; go_at_call 91; refine (Me.int (by first | exact M7 | exact M7.push tCmD cmd0 (by unfold Turns2 Turns; decide)) 8).mono ?_; rintro e v8 ⟨n8, f8, rfl, H8, M8⟩; have z8 : keepB v8 B4 r pb := M8.bx;
            first
              | (have Y5 := M8.hd; have Y6 := M8.hdle; have M9 := M8; have hst := run_storeAt_at (P := Try.prog) tCmD _ 0 tCmD _ #[.int .i64 (n1 : Int), .int .i64 (n2 : Int), .string str, .int .i64 (n4 : Int), .int .u64 (n5 : Int), .int .i64 (n6 : Int), .int .i64 (n7 : Int), .int .i64 (n8 : Int), .int .i64 0, .int .i64 0, .int .u64 0, .int .u64 0, .slice none 0 0, .int .i64 0, .int .i64 0, .int .i64 0, .int .i64 0, .int .i64 0, .int .i64 0, .int .u64 0, .int .u64 0, .int .u64 0, .int .i64 0, .slice none 0 0] #[.int .i64 (n1 : Int), .int .i64 (n2 : Int), .string str, .int .i64 (n4 : Int), .int .u64 (n5 : Int), .int .i64 (n6 : Int), .int .i64 (n7 : Int), .int .i64 (n8 : Int), .int .i64 0, .int .i64 0, .int .u64 0, .int .u64 0, .slice none 0 0, .int .i64 0, .int .i64 0, .int .i64 0, .int .i64 0, .int .i64 0, .int .i64 0, .int .u64 0, .int .u64 0, .int .u64 0, .int .i64 0, .slice none 0 0] (by kernel_rfl) 24 24 rfl rfl (by decide) rfl rfl Y5)
              | (have Y5 := Bl.new v8 tCmD cmd0; have Y6 := M8.fr.size; have M9 := M8.push tCmD cmd0 (by unfold Turns2 Turns; decide); have hst := run_storeAt_at (P := Try.prog) tCmD _ 0 tCmD _ #[.int .i64 (n1 : Int), .int .i64 (n2 : Int), .string str, .int .i64 (n4 : Int), .int .u64 (n5 : Int), .int .i64 (n6 : Int), .int .i64 (n7 : Int), .int .i64 (n8 : Int), .int .i64 0, .int .i64 0, .int .u64 0, .int .u64 0, .slice none 0 0, .int .i64 0, .int .i64 0, .int .i64 0, .int .i64 0, .int .i64 0, .int .i64 0, .int .u64 0, .int .u64 0, .int .u64 0, .int .i64 0, .slice none 0 0] #[.int .i64 (n1 : Int), .int .i64 (n2 : Int), .string str, .int .i64 (n4 : Int), .int .u64 (n5 : Int), .int .i64 (n6 : Int), .int .i64 (n7 : Int), .int .i64 (n8 : Int), .int .i64 0, .int .i64 0, .int .u64 0, .int .u64 0, .slice none 0 0, .int .i64 0, .int .i64 0, .int .i64 0, .int .i64 0, .int .i64 0, .int .i64 0, .int .u64 0, .int .u64 0, .int .u64 0, .int .i64 0, .slice none 0 0] (by kernel_rfl) 24 24 rfl rfl (by decide) rfl rfl Y5))
        | (have hk := M6; clear hk; go_at_call 91; refine (Me.int (by first | exact M6 | exact M6.push tCmD cmd0 (by unfold Turns2 Turns; decide)) 7).mono ?_; rintro e v7 ⟨n7, f7, rfl, H7, M7⟩; have z7 : keepB v7 B4 r pb := M7.bx)
        | (have hk := M5; clear hk; go_at_call 91; refine (Me.int (by first | exact M5 | exact M5.push tCmD cmd0 (by unfold Turns2 Turns; decide)) 6).mono ?_; rintro e v6 ⟨n6, f6, rfl, H6, M6⟩; have z6 : keepB v6 B4 r pb := M6.bx)
        | (have hk := M4; clear hk; go_at_call 93; refine (Me.all (by first | exact M4 | exact M4.push tCmD cmd0 (by unfold Turns2 Turns; decide)) 5).mono ?_; rintro e v5 ⟨n5, f5, rfl, H5, M5⟩; have z5 : keepB v5 B4 r pb := M5.bx)
        | (have hk := M3; clear hk; go_at_call 91; refine (Me.int (by first | exact M3 | exact M3.push tCmD cmd0 (by unfold Turns2 Turns; decide)) 4).mono ?_; rintro e v4 ⟨n4, f4, rfl, H4, M4⟩; have z4 : keepB v4 B4 r pb := M4.bx)
        | (have hk := M2; clear hk; go_at_call 92; refine (Me.text (by first | exact M2 | exact M2.push tCmD cmd0 (by unfold Turns2 Turns; decide)) 3 128).mono ?_; rintro e v3 ⟨vv, str, f3, rfl, H3, M3⟩; have z3 : keepB v3 B4 r pb := M3.bx)
        | (have hk := M1; clear hk; go_at_call 91; refine (Me.int (by first | exact M1 | exact M1.push tCmD cmd0 (by unfold Turns2 Turns; decide)) 2).mono ?_; rintro e v2 ⟨n2, f2, rfl, H2, M2⟩; have z2 : keepB v2 B4 r pb := M2.bx)
        | (go_at_call 91; refine (Me.int (by first | exact M0.quiet ((Fr.refl _ _).drew) | exact (M0.quiet ((Fr.refl _ _).drew)).pushAt tCmD cmd0 (by unfold Turns2 Turns; decide) w2.heap.size rfl) 1).mono ?_; rintro e v1 ⟨n1, f1, rfl, H1, M1⟩; have z1 : keepB v1 B4 r pb := M1.bx))
    all_goals (go_wp2_with fail; go_meet; case rel => exact ⟨rfl, rfl, rfl, _, _, _, _, _, _, _, _, _, _, _, _, _, _, _, _, _, _, rfl, ⟨H1.out, H2.out, H3.out, H4.out, H5.out, H6.out, H7.out, H8.out⟩, M9.setX (by unfold Plain Turns2 Turns Rt; decide) (by decide) _⟩)
  case rest =>
  obtain ⟨rfl, rfl, rfl, B5, n1, n2, n4, n5, n6, n7, n8, vv, str, f1, f2, f3, f4, f5, f6, f7, f8, rfl, HE1, HM⟩ := hcut
  obtain ⟨w3, rfl⟩ : ∃ w3, w3 = wc := ⟨_, rfl⟩
  clear z0
  have hB5 : w2.heap.size ≤ B5 := HM.out.hdle
  have hBn : B4 < B5 := by omega
  go_upto_region 5 with fail
  go_cut [2, 3, 4, 5] (fun s2 s3 s4 s5 wx => s2 = .pointer (some ⟨w.heap.size, 0, none⟩) ∧ s3 = .int .i64 0 ∧ s4 = .pointer (some ⟨B4, 0, none⟩) ∧ s5 = .pointer (some ⟨B5, 0, none⟩) ∧ ∃ (qe : ER) (qk : CR) (ge gk : Option Nat) (de dk : RD) (f9 f10 f11 f12 : RF) (b1 b2 : Bool), qe.n ≤ 1048576 ∧ qk.n ≤ 1048576 ∧
    Hid (recordS d f8 9 = (de, f9) ∧ EntR de f9 false qe f10 b1 ∧ recordS d f10 12 = (dk, f11) ∧ ConR dk f11 b1 qk f12 b2) ∧
    Hid (Me [(B5, tCmD, #[.int .i64 (n1 : Int), .int .i64 (n2 : Int), .string str, .int .i64 (n4 : Int), .int .u64 (n5 : Int), .int .i64 (n6 : Int), .int .i64 (n7 : Int), .int .i64 (n8 : Int), .int .i64 qe.acc, .int .i64 qe.item, .int .u64 (qe.co : Int), .int .u64 (qe.pr : Int), .slice qe.A qe.n qe.c, .int .i64 qk.num, .int .i64 qk.kind, .int .i64 qk.by_, .int .i64 qk.dl, .int .i64 qk.to_, .int .i64 qk.want, .int .u64 (qk.pr : Int), .int .u64 (qk.rs : Int), .int .u64 (qk.st : Int), .int .i64 qk.of_, .slice qk.A qk.n qk.c])] w2 wx B4 pf pb b r d [(f0, 1), (f1, 2), (f2, 3), (f3, 4), (f4, 5), (f5, 6), (f6, 7), (f7, 8), (f8, 9), (f10, 12)] f12 b2) ∧
    Hid (Ow wx 3 1 qe.A qe.n qe.c (qe.ws.map iv) ge ∧ (∀ x, ge = some x → w2.heap.size ≤ x) ∧ Ents w2 wx qk.es qk.A qk.n qk.c gk))
  case first =>
    have hall : ∀ w', keepB w' B4 r pb → (Instr.loadAt tRdr (.pointer (some ⟨B4, 0, none⟩))).run Try.prog w' = .ok (rdv r pb) w' := fun _ h => h.load
    have z0 : keepB w3 B4 r pb := HM.out.bx
    go_region_held3 (fun w' => keepB w' B4 r pb) (first | assumption | exact Bl.drew (by assumption) | exact Bl.alloc (by assumption) _ | exact Bl.farRow (by assumption) (by omega) _)
      (first
        | (have hk := M14; clear hk; go_at_call 97; refine (rcontract_r _ HP4.out.1).mono ?_; rintro e w15 ⟨qk, f12, b2, gk, rfl, HCo, hkn, HEn, HQ5⟩; have M15 := M14.sub HP4.out.1 HP4.out.2.1 HP4.out.2.2.1 HQ5.out.1 HQ5.out.2.1 HQ5.out.2.2; have z15 : keepB w15 B4 r pb := M15.bx;
            have a1 := run_storeAt_at (P := Try.prog) tEnt B5 8 tCmD _ #[.int .i64 (n1 : Int), .int .i64 (n2 : Int), .string str, .int .i64 (n4 : Int), .int .u64 (n5 : Int), .int .i64 (n6 : Int), .int .i64 (n7 : Int), .int .i64 (n8 : Int), .int .i64 qe.acc, .int .i64 qe.item, .int .u64 (qe.co : Int), .int .u64 (qe.pr : Int), .slice qe.A qe.n qe.c, .int .i64 0, .int .i64 0, .int .i64 0, .int .i64 0, .int .i64 0, .int .i64 0, .int .u64 0, .int .u64 0, .int .u64 0, .int .i64 0, .slice none 0 0] #[.int .i64 qe.acc, .int .i64 qe.item, .int .u64 (qe.co : Int), .int .u64 (qe.pr : Int), .slice qe.A qe.n qe.c] (by kernel_rfl) 24 5 rfl rfl (by decide) rfl rfl M15.hd;
            have M16 := M15.setX (by unfold Plain Turns2 Turns Rt; decide) (by decide) #[.int .i64 (n1 : Int), .int .i64 (n2 : Int), .string str, .int .i64 (n4 : Int), .int .u64 (n5 : Int), .int .i64 (n6 : Int), .int .i64 (n7 : Int), .int .i64 (n8 : Int), .int .i64 qe.acc, .int .i64 qe.item, .int .u64 (qe.co : Int), .int .u64 (qe.pr : Int), .slice qe.A qe.n qe.c, .int .i64 0, .int .i64 0, .int .i64 0, .int .i64 0, .int .i64 0, .int .i64 0, .int .u64 0, .int .u64 0, .int .u64 0, .int .i64 0, .slice none 0 0];
            have a2 := run_storeAt_at (P := Try.prog) tCo B5 13 tCmD _ #[.int .i64 (n1 : Int), .int .i64 (n2 : Int), .string str, .int .i64 (n4 : Int), .int .u64 (n5 : Int), .int .i64 (n6 : Int), .int .i64 (n7 : Int), .int .i64 (n8 : Int), .int .i64 qe.acc, .int .i64 qe.item, .int .u64 (qe.co : Int), .int .u64 (qe.pr : Int), .slice qe.A qe.n qe.c, .int .i64 qk.num, .int .i64 qk.kind, .int .i64 qk.by_, .int .i64 qk.dl, .int .i64 qk.to_, .int .i64 qk.want, .int .u64 (qk.pr : Int), .int .u64 (qk.rs : Int), .int .u64 (qk.st : Int), .int .i64 qk.of_, .slice qk.A qk.n qk.c] #[.int .i64 qk.num, .int .i64 qk.kind, .int .i64 qk.by_, .int .i64 qk.dl, .int .i64 qk.to_, .int .i64 qk.want, .int .u64 (qk.pr : Int), .int .u64 (qk.rs : Int), .int .u64 (qk.st : Int), .int .i64 qk.of_, .slice qk.A qk.n qk.c] (by kernel_rfl) 24 11 rfl rfl (by decide) rfl rfl M16.hd;
            have M17 := M16.setX (by unfold Plain Turns2 Turns Rt; decide) (by decide) #[.int .i64 (n1 : Int), .int .i64 (n2 : Int), .string str, .int .i64 (n4 : Int), .int .u64 (n5 : Int), .int .i64 (n6 : Int), .int .i64 (n7 : Int), .int .i64 (n8 : Int), .int .i64 qe.acc, .int .i64 qe.item, .int .u64 (qe.co : Int), .int .u64 (qe.pr : Int), .slice qe.A qe.n qe.c, .int .i64 qk.num, .int .i64 qk.kind, .int .i64 qk.by_, .int .i64 qk.dl, .int .i64 qk.to_, .int .i64 qk.want, .int .u64 (qk.pr : Int), .int .u64 (qk.rs : Int), .int .u64 (qk.st : Int), .int .i64 qk.of_, .slice qk.A qk.n qk.c])
        | (have hk := M12; clear hk; go_at_call 96; refine (Me.in_ M12 12).mono ?_; rintro e w14 ⟨r2, dk, f11, rfl, H11, HP4, M14⟩; have z14 : keepB w14 B4 r pb := M14.bx)
        | (have hk := M11; clear hk; go_at_call 130; refine (rentry_r _ HP3.out.1).mono ?_; rintro e w12 ⟨qe, f10, b1, ge, rfl, HEe, hen, HOe, HQ3⟩; have M12 := M11.sub HP3.out.1 HP3.out.2.1 HP3.out.2.2.1 HQ3.out.1 HQ3.out.2.1 HQ3.out.2.2; have z12 : keepB w12 B4 r pb := M12.bx)
        | (go_at_call 96; refine (Me.in_ (HM.out.quiet ((Fr.refl _ _).drew)) 9).mono ?_; rintro e w11 ⟨r1, de, f9, rfl, H9, HP3, M11⟩; have z11 : keepB w11 B4 r pb := M11.bx))
    all_goals
     (go_wp2_with fail
      go_meet
      case rel =>
        have o1 := HOe.out.1.fr HP4.out.2.2.2 (fun x e => M12.rc.not (HOe.out.1.typed x e) (by unfold Turns2 Turns; decide))
        have o2 := o1.fr HQ5.out.2.2 (fun x e => HP4.out.1.not (o1.typed x e) (by unfold Turns2 Turns; decide))
        have o3 := o2.fr (Fr.row (w := w15) (g := B5) #[.int .i64 (n1 : Int), .int .i64 (n2 : Int), .string str, .int .i64 (n4 : Int), .int .u64 (n5 : Int), .int .i64 (n6 : Int), .int .i64 (n7 : Int), .int .i64 (n8 : Int), .int .i64 qe.acc, .int .i64 qe.item, .int .u64 (qe.co : Int), .int .u64 (qe.pr : Int), .slice qe.A qe.n qe.c, .int .i64 0, .int .i64 0, .int .i64 0, .int .i64 0, .int .i64 0, .int .i64 0, .int .u64 0, .int .u64 0, .int .u64 0, .int .i64 0, .slice none 0 0]) (fun x e1 e2 => by subst e2; exact absurd ((o2.typed _ e1).same M15.hd.typed) (by decide))
        have o4 := o3.fr (Fr.row (w := w15.setRow B5 #[.int .i64 (n1 : Int), .int .i64 (n2 : Int), .string str, .int .i64 (n4 : Int), .int .u64 (n5 : Int), .int .i64 (n6 : Int), .int .i64 (n7 : Int), .int .i64 (n8 : Int), .int .i64 qe.acc, .int .i64 qe.item, .int .u64 (qe.co : Int), .int .u64 (qe.pr : Int), .slice qe.A qe.n qe.c, .int .i64 0, .int .i64 0, .int .i64 0, .int .i64 0, .int .i64 0, .int .i64 0, .int .u64 0, .int .u64 0, .int .u64 0, .int .i64 0, .slice none 0 0]) (g := B5) #[.int .i64 (n1 : Int), .int .i64 (n2 : Int), .string str, .int .i64 (n4 : Int), .int .u64 (n5 : Int), .int .i64 (n6 : Int), .int .i64 (n7 : Int), .int .i64 (n8 : Int), .int .i64 qe.acc, .int .i64 qe.item, .int .u64 (qe.co : Int), .int .u64 (qe.pr : Int), .slice qe.A qe.n qe.c, .int .i64 qk.num, .int .i64 qk.kind, .int .i64 qk.by_, .int .i64 qk.dl, .int .i64 qk.to_, .int .i64 qk.want, .int .u64 (qk.pr : Int), .int .u64 (qk.rs : Int), .int .u64 (qk.st : Int), .int .i64 qk.of_, .slice qk.A qk.n qk.c]) (fun x e1 e2 => by subst e2; exact absurd ((o3.typed _ e1).same M16.hd.typed) (by decide))
        have n1' := M11.fr.size
        have n2' := M14.fr.size
        exact ⟨rfl, rfl, rfl, rfl, qe, qk, ge, gk, de, dk, f9, f10, f11, f12, b1, b2, hen, hkn, ⟨H9.out, HEe.out, H11.out, HCo.out⟩, M17, o4, fun x e => Nat.le_trans n1' (HOe.out.2 x e), (((HEn.out.row M15.hd.typed (by decide) (by decide) _).row M16.hd.typed (by decide) (by decide) _)).base n2'⟩)
  case rest =>
  obtain ⟨rfl, rfl, rfl, rfl, qe, qk, ge, gk, de, dk, f9, f10, f11, f12, b1, b2, hen, hkn, HE2, HM2, HOW⟩ := hcut
  obtain ⟨w4, rfl⟩ : ∃ w4, w4 = wc := ⟨_, rfl⟩
  clear HM
  have rL := keepB.load (w := w4) (B := B4) (r := r) (pb := pb) HM2.out.bx
  go_wp2_with fail
  refine (Me.done HM2.out).mono ?_
  rintro e w5 ⟨f13, rfl, H13, M5, hF45⟩
  obtain ⟨h1, h2, ⟨hstr, h3⟩, h4, h5, h6, h7, h8⟩ := HE1.out
  subst hstr
  obtain ⟨h9, h10, h11, h12⟩ := HE2.out
  obtain ⟨q, hq⟩ : ∃ q : KC, q = ⟨n1, n2, vv, n4, n5, n6, n7, n8, qe, qk⟩ := ⟨_, rfl⟩
  have HD : Hid (DecR bs q (b2 || decide (f13.e ≠ 0))) := by
    rw [hq]
    exact ⟨d, de, dk, f0, f1, f2, f3, f4, f5, f6, f7, f8, f9, f10, f11, f12, f13, n1, n2, n4, n6, n7, n8, b1, b2, ⟨rfl, rfl, rfl, rfl, rfl, rfl⟩, HRS.out, h1, h2, h3, h4, h5, h6, h7, h8, h9, h10, h11, h12, H13.out, rfl⟩
  obtain ⟨bad, hbad⟩ : ∃ bad, (b2 || decide (f13.e ≠ 0)) = bad := ⟨_, rfl⟩
  rw [hbad] at M5 HD
  have hO5 := HOW.out.1.fr hF45 (fun x e => HM2.out.rc.not (HOW.out.1.typed x e) (by unfold Turns2 Turns; decide))
  have HEn5 := HOW.out.2.2.rturn HM2.out.rc hF45
  have hs02 := HF02.out.size
  have HKO : Hid (KOwn w w5 q) := by rw [hq]; exact ⟨hen, ⟨ge, hO5, fun x e => Nat.le_trans hs02 (HOW.out.2.1 x e)⟩, hkn, ⟨gk, HEn5.base hs02⟩⟩
  have HB5 : Hid (Bl w5 w.heap.size tCmD #[.int .i64 0, .int .i64 0, .string ⟨#[]⟩, .int .i64 0, .int .u64 0, .int .i64 0, .int .i64 0, .int .i64 0, .int .i64 0, .int .i64 0, .int .u64 0, .int .u64 0, .slice none 0 0, .int .i64 0, .int .i64 0, .int .i64 0, .int .i64 0, .int .i64 0, .int .i64 0, .int .u64 0, .int .u64 0, .int .u64 0, .int .i64 0, .slice none 0 0]) := HBR.out.fr M5.fr (M0.rc.not HBR.out.typed (by unfold Turns2 Turns; decide))
  have HF5 : Hid (Fr (fun _ => False) w w5) := HF02.out.comp M5.fr fun x hx e => by have := HN0.out x e; omega
  have HLb := hide (show bs.length ≤ 512 by rw [← Hl.out]; exact Hlim.out)
  clear rL h1 h2 h3 h4 h5 h6 h7 h8 h9 h10 h11 h12 HE1 HE2 hO5 HEn5 HOW hbad H13 HRS HP M0 HM2 HBR HF02 HN0 Hlim
  have rP := keepB.ld1 (w := w5) (B := B4) (r := r) (pb := pb) M5.bx
  have rB := run_loadAt_cell (P := Try.prog) tBool _ Try.underlying4 rfl (M5.rc.bd.cell' (i := 0) rfl)
  have rC := run_loadAt_at (P := Try.prog) tCmD B5 0 tCmD _ #[.int .i64 (n1 : Int), .int .i64 (n2 : Int), .string (strOf vv), .int .i64 (n4 : Int), .int .u64 (n5 : Int), .int .i64 (n6 : Int), .int .i64 (n7 : Int), .int .i64 (n8 : Int), .int .i64 qe.acc, .int .i64 qe.item, .int .u64 (qe.co : Int), .int .u64 (qe.pr : Int), .slice qe.A qe.n qe.c, .int .i64 qk.num, .int .i64 qk.kind, .int .i64 qk.by_, .int .i64 qk.dl, .int .i64 qk.to_, .int .i64 qk.want, .int .u64 (qk.pr : Int), .int .u64 (qk.rs : Int), .int .u64 (qk.st : Int), .int .i64 qk.of_, .slice qk.A qk.n qk.c] _ Try.underlying31 rfl (by kernel_rfl) rfl M5.hd
  cases bad with
  | true =>
    have hst := run_storeAt_at (P := Try.prog) tCmD w.heap.size 0 tCmD #[.int .i64 0, .int .i64 0, .string ⟨#[]⟩, .int .i64 0, .int .u64 0, .int .i64 0, .int .i64 0, .int .i64 0, .int .i64 0, .int .i64 0, .int .u64 0, .int .u64 0, .slice none 0 0, .int .i64 0, .int .i64 0, .int .i64 0, .int .i64 0, .int .i64 0, .int .i64 0, .int .u64 0, .int .u64 0, .int .u64 0, .int .i64 0, .slice none 0 0] #[.int .i64 0, .int .i64 0, .string ⟨#[]⟩, .int .i64 0, .int .u64 0, .int .i64 0, .int .i64 0, .int .i64 0, .int .i64 0, .int .i64 0, .int .u64 0, .int .u64 0, .slice none 0 0, .int .i64 0, .int .i64 0, .int .i64 0, .int .i64 0, .int .i64 0, .int .i64 0, .int .u64 0, .int .u64 0, .int .u64 0, .int .i64 0, .slice none 0 0] #[.int .i64 0, .int .i64 0, .string ⟨#[]⟩, .int .i64 0, .int .u64 0, .int .i64 0, .int .i64 0, .int .i64 0, .int .i64 0, .int .i64 0, .int .u64 0, .int .u64 0, .slice none 0 0, .int .i64 0, .int .i64 0, .int .i64 0, .int .i64 0, .int .i64 0, .int .i64 0, .int .u64 0, .int .u64 0, .int .u64 0, .int .i64 0, .slice none 0 0] (by kernel_rfl) 24 24 rfl rfl (by decide) rfl rfl HB5.out
    go_wp2_with fail
    try simp only [Exit.inBlock, Exit.then]
    refine bodyPost_ret (results_row_tmp rfl _ _ w.heap.size tCmD #[.int .i64 0, .int .i64 0, .string ⟨#[]⟩, .int .i64 0, .int .u64 0, .int .i64 0, .int .i64 0, .int .i64 0, .int .i64 0, .int .i64 0, .int .u64 0, .int .u64 0, .slice none 0 0, .int .i64 0, .int .i64 0, .int .i64 0, .int .i64 0, .int .i64 0, .int .i64 0, .int .u64 0, .int .u64 0, .int .u64 0, .int .i64 0, .slice none 0 0] (0, 0) _ rfl (HB5.out.setRow #[.int .i64 0, .int .i64 0, .string ⟨#[]⟩, .int .i64 0, .int .u64 0, .int .i64 0, .int .i64 0, .int .i64 0, .int .i64 0, .int .i64 0, .int .u64 0, .int .u64 0, .slice none 0 0, .int .i64 0, .int .i64 0, .int .i64 0, .int .i64 0, .int .i64 0, .int .i64 0, .int .u64 0, .int .u64 0, .int .u64 0, .int .i64 0, .slice none 0 0]) Try.underlying31 rfl (by kernel_rfl)) rfl ?_
    exact .inr (.inl ⟨HLb.out, (fun c hc => by cases (HD.out.of hc).2), rfl, HF5.out.setRow (.inr (Nat.le_refl _)) _⟩)
  | false =>
    have HC5 : Hid (Calls Try.prog 56 #[.agg #[.int .i64 (n1 : Int), .int .i64 (n2 : Int), .string (strOf vv), .int .i64 (n4 : Int), .int .u64 (n5 : Int), .int .i64 (n6 : Int), .int .i64 (n7 : Int), .int .i64 (n8 : Int), .int .i64 qe.acc, .int .i64 qe.item, .int .u64 (qe.co : Int), .int .u64 (qe.pr : Int), .slice qe.A qe.n qe.c, .int .i64 qk.num, .int .i64 qk.kind, .int .i64 qk.by_, .int .i64 qk.dl, .int .i64 qk.to_, .int .i64 qk.want, .int .u64 (qk.pr : Int), .int .u64 (qk.rs : Int), .int .u64 (qk.st : Int), .int .i64 qk.of_, .slice qk.A qk.n qk.c]] w5 fun e w' => e = .returned (.bool q.ok) ∧ Fr (fun _ => False) w5 w') := by
      have := HC.out w5 q HKO.out.at_
      rw [hq] at this ⊢
      exact this
    have HM5 := hide M5
    obtain ⟨ok, hok⟩ : ∃ ok, q.ok = ok := ⟨_, rfl⟩
    have Hok := hide hok
    rw [hok] at HC5
    have Hq := hide hq
    clear hok hq M5 HC
    go_wp2_with fail
    refine HC5.out.mono ?_
    rintro e w6 ⟨rfl, hf6⟩
    have HB6 : Hid (Bl w6 w.heap.size tCmD #[.int .i64 0, .int .i64 0, .string ⟨#[]⟩, .int .i64 0, .int .u64 0, .int .i64 0, .int .i64 0, .int .i64 0, .int .i64 0, .int .i64 0, .int .u64 0, .int .u64 0, .slice none 0 0, .int .i64 0, .int .i64 0, .int .i64 0, .int .i64 0, .int .i64 0, .int .i64 0, .int .u64 0, .int .u64 0, .int .u64 0, .int .i64 0, .slice none 0 0]) := HB5.out.fr hf6 id
    have HF6 : Hid (Fr (fun _ => False) w w6) := HF5.out.trans hf6
    have Hf6 := hide hf6
    clear rP rB rC hf6
    cases ok with
    | false =>
      have hst := run_storeAt_at (P := Try.prog) tCmD w.heap.size 0 tCmD #[.int .i64 0, .int .i64 0, .string ⟨#[]⟩, .int .i64 0, .int .u64 0, .int .i64 0, .int .i64 0, .int .i64 0, .int .i64 0, .int .i64 0, .int .u64 0, .int .u64 0, .slice none 0 0, .int .i64 0, .int .i64 0, .int .i64 0, .int .i64 0, .int .i64 0, .int .i64 0, .int .u64 0, .int .u64 0, .int .u64 0, .int .i64 0, .slice none 0 0] #[.int .i64 0, .int .i64 0, .string ⟨#[]⟩, .int .i64 0, .int .u64 0, .int .i64 0, .int .i64 0, .int .i64 0, .int .i64 0, .int .i64 0, .int .u64 0, .int .u64 0, .slice none 0 0, .int .i64 0, .int .i64 0, .int .i64 0, .int .i64 0, .int .i64 0, .int .i64 0, .int .u64 0, .int .u64 0, .int .u64 0, .int .i64 0, .slice none 0 0] #[.int .i64 0, .int .i64 0, .string ⟨#[]⟩, .int .i64 0, .int .u64 0, .int .i64 0, .int .i64 0, .int .i64 0, .int .i64 0, .int .i64 0, .int .u64 0, .int .u64 0, .slice none 0 0, .int .i64 0, .int .i64 0, .int .i64 0, .int .i64 0, .int .i64 0, .int .i64 0, .int .u64 0, .int .u64 0, .int .u64 0, .int .i64 0, .slice none 0 0] (by kernel_rfl) 24 24 rfl rfl (by decide) rfl rfl HB6.out
      go_wp2_with fail
      try simp only [Exit.inBlock, Exit.then]
      refine bodyPost_ret (results_row_tmp rfl _ _ w.heap.size tCmD #[.int .i64 0, .int .i64 0, .string ⟨#[]⟩, .int .i64 0, .int .u64 0, .int .i64 0, .int .i64 0, .int .i64 0, .int .i64 0, .int .i64 0, .int .u64 0, .int .u64 0, .slice none 0 0, .int .i64 0, .int .i64 0, .int .i64 0, .int .i64 0, .int .i64 0, .int .i64 0, .int .u64 0, .int .u64 0, .int .u64 0, .int .i64 0, .slice none 0 0] (0, 0) _ rfl (HB6.out.setRow #[.int .i64 0, .int .i64 0, .string ⟨#[]⟩, .int .i64 0, .int .u64 0, .int .i64 0, .int .i64 0, .int .i64 0, .int .i64 0, .int .i64 0, .int .u64 0, .int .u64 0, .slice none 0 0, .int .i64 0, .int .i64 0, .int .i64 0, .int .i64 0, .int .i64 0, .int .i64 0, .int .u64 0, .int .u64 0, .int .u64 0, .int .i64 0, .slice none 0 0]) Try.underlying31 rfl (by kernel_rfl)) rfl ?_
      refine .inr (.inl ⟨HLb.out, fun c hc => ?_, rfl, HF6.out.setRow (.inr (Nat.le_refl _)) _⟩)
      have h1 := (HD.out.of hc).1.ok
      rw [Hok.out, hc.ok] at h1
      cases h1
    | true =>
      have hst := run_storeAt_at (P := Try.prog) tCmD w.heap.size 0 tCmD #[.int .i64 0, .int .i64 0, .string ⟨#[]⟩, .int .i64 0, .int .u64 0, .int .i64 0, .int .i64 0, .int .i64 0, .int .i64 0, .int .i64 0, .int .u64 0, .int .u64 0, .slice none 0 0, .int .i64 0, .int .i64 0, .int .i64 0, .int .i64 0, .int .i64 0, .int .i64 0, .int .u64 0, .int .u64 0, .int .u64 0, .int .i64 0, .slice none 0 0] #[.int .i64 (n1 : Int), .int .i64 (n2 : Int), .string (strOf vv), .int .i64 (n4 : Int), .int .u64 (n5 : Int), .int .i64 (n6 : Int), .int .i64 (n7 : Int), .int .i64 (n8 : Int), .int .i64 qe.acc, .int .i64 qe.item, .int .u64 (qe.co : Int), .int .u64 (qe.pr : Int), .slice qe.A qe.n qe.c, .int .i64 qk.num, .int .i64 qk.kind, .int .i64 qk.by_, .int .i64 qk.dl, .int .i64 qk.to_, .int .i64 qk.want, .int .u64 (qk.pr : Int), .int .u64 (qk.rs : Int), .int .u64 (qk.st : Int), .int .i64 qk.of_, .slice qk.A qk.n qk.c] #[.int .i64 (n1 : Int), .int .i64 (n2 : Int), .string (strOf vv), .int .i64 (n4 : Int), .int .u64 (n5 : Int), .int .i64 (n6 : Int), .int .i64 (n7 : Int), .int .i64 (n8 : Int), .int .i64 qe.acc, .int .i64 qe.item, .int .u64 (qe.co : Int), .int .u64 (qe.pr : Int), .slice qe.A qe.n qe.c, .int .i64 qk.num, .int .i64 qk.kind, .int .i64 qk.by_, .int .i64 qk.dl, .int .i64 qk.to_, .int .i64 qk.want, .int .u64 (qk.pr : Int), .int .u64 (qk.rs : Int), .int .u64 (qk.st : Int), .int .i64 qk.of_, .slice qk.A qk.n qk.c] (by kernel_rfl) 24 24 rfl rfl (by decide) rfl rfl HB6.out
      have rC6 := run_loadAt_at (P := Try.prog) tCmD B5 0 tCmD _ #[.int .i64 (n1 : Int), .int .i64 (n2 : Int), .string (strOf vv), .int .i64 (n4 : Int), .int .u64 (n5 : Int), .int .i64 (n6 : Int), .int .i64 (n7 : Int), .int .i64 (n8 : Int), .int .i64 qe.acc, .int .i64 qe.item, .int .u64 (qe.co : Int), .int .u64 (qe.pr : Int), .slice qe.A qe.n qe.c, .int .i64 qk.num, .int .i64 qk.kind, .int .i64 qk.by_, .int .i64 qk.dl, .int .i64 qk.to_, .int .i64 qk.want, .int .u64 (qk.pr : Int), .int .u64 (qk.rs : Int), .int .u64 (qk.st : Int), .int .i64 qk.of_, .slice qk.A qk.n qk.c] _ Try.underlying31 rfl (by kernel_rfl) rfl (HM5.out.hd.fr Hf6.out id)
      go_wp2_with fail
      try simp only [Exit.inBlock, Exit.then]
      refine bodyPost_ret (results_row_tmp rfl _ _ w.heap.size tCmD #[.int .i64 (n1 : Int), .int .i64 (n2 : Int), .string (strOf vv), .int .i64 (n4 : Int), .int .u64 (n5 : Int), .int .i64 (n6 : Int), .int .i64 (n7 : Int), .int .i64 (n8 : Int), .int .i64 qe.acc, .int .i64 qe.item, .int .u64 (qe.co : Int), .int .u64 (qe.pr : Int), .slice qe.A qe.n qe.c, .int .i64 qk.num, .int .i64 qk.kind, .int .i64 qk.by_, .int .i64 qk.dl, .int .i64 qk.to_, .int .i64 qk.want, .int .u64 (qk.pr : Int), .int .u64 (qk.rs : Int), .int .u64 (qk.st : Int), .int .i64 qk.of_, .slice qk.A qk.n qk.c] (0, 0) _ rfl (HB6.out.setRow #[.int .i64 (n1 : Int), .int .i64 (n2 : Int), .string (strOf vv), .int .i64 (n4 : Int), .int .u64 (n5 : Int), .int .i64 (n6 : Int), .int .i64 (n7 : Int), .int .i64 (n8 : Int), .int .i64 qe.acc, .int .i64 qe.item, .int .u64 (qe.co : Int), .int .u64 (qe.pr : Int), .slice qe.A qe.n qe.c, .int .i64 qk.num, .int .i64 qk.kind, .int .i64 qk.by_, .int .i64 qk.dl, .int .i64 qk.to_, .int .i64 qk.want, .int .u64 (qk.pr : Int), .int .u64 (qk.rs : Int), .int .u64 (qk.st : Int), .int .i64 qk.of_, .slice qk.A qk.n qk.c]) Try.underlying31 rfl (by kernel_rfl)) rfl ?_
      refine .inr (.inr ⟨HLb.out, q, HD.out.sound H256.out Hok.out, by rw [Hq.out]; rfl, ?_, HF6.out.setRow (.inr (Nat.le_refl _)) _⟩)
      obtain ⟨ge, o1, o2⟩ := HKO.out.eo
      obtain ⟨gk, o3⟩ := HKO.out.ko
      have o4 := o1.fr Hf6.out (fun _ _ => id)
      exact ⟨HKO.out.en, ⟨ge, o4.fr (Fr.row _) (fun x e1 e2 => by subst e2; exact absurd ((o4.typed _ e1).same HB6.out.typed) (by decide)), o2⟩, HKO.out.kn, ⟨gk, (o3.quiet Hf6.out).row HB6.out.typed (by decide) (by decide) _⟩⟩
end Go.Proofs.Ytlcjhbemgagchaa
