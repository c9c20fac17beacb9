/-
  Texts merged into one, to keep the claim small: PdU, PdV.
-/
import Derived.Test.YtahhecendjfenaaMbB
import Derived.Deep.CutBlock
import Derived.Deep.DeepCutAuto
import Derived.Test.YtahhecendjfenaaMd39
section
/-
  ProtoBack: the walk. (printed by pr_back.py)
-/
namespace Go.Proofs.Ytahhecendjfenaa
open Go.RowKit
set_option linter.unusedVariables false
set_option linter.unusedSimpArgs false
set_option maxHeartbeats 16000000 in
set_option maxRecDepth 8000 in
attribute [-go_sem] Go.Instr.loadAt Go.Instr.storeAt in
theorem back_walk
    (hcmd : ∀ w1 (q : KC), q.at_ w1 → Calls Try.prog 49 #[.agg #[.int .i64 q.id, .int .i64 q.kind, .string (strOf q.name), .int .i64 q.to_, .int .u64 (q.co : Int), .int .i64 q.item, .int .i64 q.num, .int .i64 q.of_, .int .i64 q.e.acc, .int .i64 q.e.item, .int .u64 (q.e.co : Int), .int .u64 (q.e.pr : Int), .slice q.e.A q.e.n q.e.c, .int .i64 q.k.num, .int .i64 q.k.kind, .int .i64 q.k.by_, .int .i64 q.k.dl, .int .i64 q.k.to_, .int .i64 q.k.want, .int .u64 (q.k.pr : Int), .int .u64 (q.k.rs : Int), .int .u64 (q.k.st : Int), .int .i64 q.k.of_, .slice q.k.A q.k.n q.k.c]] w1 fun e w' => e = .returned (.bool q.ok) ∧ Fr (fun _ => False) w1 w')
    (w : World) (q : KC) (hq : q.at_ w) (hqw : q.wf) (r : RR) (hr : r.at_ w) (hrw : r.wf)
    (xs : List Nat) (A : Option Addr) (n c : Nat) (hl : n = xs.length) (hn : n ≤ 140737488351232) (h256 : ∀ x ∈ xs, x < 256) (hS : Sl w 1 A n (xs.map bn)) :
    Calls Try.prog 8 #[.agg #[.int .i64 q.id, .int .i64 q.kind, .string (strOf q.name), .int .i64 q.to_, .int .u64 (q.co : Int), .int .i64 q.item, .int .i64 q.num, .int .i64 q.of_, .int .i64 q.e.acc, .int .i64 q.e.item, .int .u64 (q.e.co : Int), .int .u64 (q.e.pr : Int), .slice q.e.A q.e.n q.e.c, .int .i64 q.k.num, .int .i64 q.k.kind, .int .i64 q.k.by_, .int .i64 q.k.dl, .int .i64 q.k.to_, .int .i64 q.k.want, .int .u64 (q.k.pr : Int), .int .u64 (q.k.rs : Int), .int .u64 (q.k.st : Int), .int .i64 q.k.of_, .slice q.k.A q.k.n q.k.c], .agg #[.int .i64 r.id, .int .i64 r.err, .int .i64 r.num, .int .u64 (r.co : Int), .slice r.A r.n r.c, .string (strOf r.txt), .int .u32 (r.bits : Int), .int .i64 r.k.num, .int .i64 r.k.kind, .int .i64 r.k.by_, .int .i64 r.k.dl, .int .i64 r.k.to_, .int .i64 r.k.want, .int .u64 (r.k.pr : Int), .int .u64 (r.k.rs : Int), .int .u64 (r.k.st : Int), .int .i64 r.k.of_, .slice r.k.A r.k.n r.k.c], .slice A n c] w fun e w' => e = .returned (.bool true) ∧ Below w.heap.size w w' := by
  have HC := hide hcmd
  have HQ := hide hq
  have HQW := hide hqw
  have HR := hide hr
  have HRW := hide hrw
  have Hl := hide hl
  have H256 := hide h256
  have HS := hide hS
  clear hcmd hq hqw hr hrw hl h256 hS
  obtain ⟨w0, hw0⟩ : ∃ w0, (w.alloc (.cells #[.int .i64 q.id, .int .i64 q.kind, .string (strOf q.name), .int .i64 q.to_, .int .u64 (q.co : Int), .int .i64 q.item, .int .i64 q.num, .int .i64 q.of_, .int .i64 q.e.acc, .int .i64 q.e.item, .int .u64 (q.e.co : Int), .int .u64 (q.e.pr : Int), .slice q.e.A q.e.n q.e.c, .int .i64 q.k.num, .int .i64 q.k.kind, .int .i64 q.k.by_, .int .i64 q.k.dl, .int .i64 q.k.to_, .int .i64 q.k.want, .int .u64 (q.k.pr : Int), .int .u64 (q.k.rs : Int), .int .u64 (q.k.st : Int), .int .i64 q.k.of_, .slice q.k.A q.k.n q.k.c] tCL)).alloc (.cells #[.int .i64 r.id, .int .i64 r.err, .int .i64 r.num, .int .u64 (r.co : Int), .slice r.A r.n r.c, .string (strOf r.txt), .int .u32 (r.bits : Int), .int .i64 r.k.num, .int .i64 r.k.kind, .int .i64 r.k.by_, .int .i64 r.k.dl, .int .i64 r.k.to_, .int .i64 r.k.want, .int .u64 (r.k.pr : Int), .int .u64 (r.k.rs : Int), .int .u64 (r.k.st : Int), .int .i64 r.k.of_, .slice r.k.A r.k.n r.k.c] tRL) = w0 := ⟨_, rfl⟩
  have F0 : Hid (Fr (fun _ => False) w w0) := by show Fr _ _ _; rw [← hw0]; (repeat (first | with_reducible exact Fr.refl _ _ | with_reducible assumption | with_reducible refine Fr.drew ?_ | with_reducible refine Fr.drewN ?_ _ | with_reducible refine Fr.alloc ?_ _ | with_reducible refine Fr.setIn ?_ (by first | exact Or.inl rfl | exact Or.inr (by simp; done) | exact Or.inr (by simp; omega) | exact Or.inr (by omega)) _))
  have BQ : Hid (Bl w0 w.heap.size tCL #[.int .i64 q.id, .int .i64 q.kind, .string (strOf q.name), .int .i64 q.to_, .int .u64 (q.co : Int), .int .i64 q.item, .int .i64 q.num, .int .i64 q.of_, .int .i64 q.e.acc, .int .i64 q.e.item, .int .u64 (q.e.co : Int), .int .u64 (q.e.pr : Int), .slice q.e.A q.e.n q.e.c, .int .i64 q.k.num, .int .i64 q.k.kind, .int .i64 q.k.by_, .int .i64 q.k.dl, .int .i64 q.k.to_, .int .i64 q.k.want, .int .u64 (q.k.pr : Int), .int .u64 (q.k.rs : Int), .int .u64 (q.k.st : Int), .int .i64 q.k.of_, .slice q.k.A q.k.n q.k.c]) := by show Bl _ _ _ _; rw [← hw0]; (repeat (first | with_reducible assumption | with_reducible refine Bl.drew ?_ | with_reducible refine Bl.drewN ?_ _ | with_reducible refine Bl.far ?_ (by first | (simp; done) | (simp; omega)) _ | with_reducible exact Bl.newAt (by simp) | with_reducible refine Bl.alloc ?_ _))
  have BR : Hid (Bl w0 (w.heap.size + 1) tRL #[.int .i64 r.id, .int .i64 r.err, .int .i64 r.num, .int .u64 (r.co : Int), .slice r.A r.n r.c, .string (strOf r.txt), .int .u32 (r.bits : Int), .int .i64 r.k.num, .int .i64 r.k.kind, .int .i64 r.k.by_, .int .i64 r.k.dl, .int .i64 r.k.to_, .int .i64 r.k.want, .int .u64 (r.k.pr : Int), .int .u64 (r.k.rs : Int), .int .u64 (r.k.st : Int), .int .i64 r.k.of_, .slice r.k.A r.k.n r.k.c]) := by show Bl _ _ _ _; rw [← hw0]; exact Bl.newAt (by simp)
  go_enter Try.func8, Try.ntmps8
  go_wp2_with fail
  (try rw [hw0])
  clear hw0
  refine (known_any HC.out w0).mono ?_
  rintro e w1 ⟨rfl, hf1⟩
  have F1 : Hid (Fr (fun _ => False) w w1) := F0.out.trans hf1
  have BQ1 := hide (BQ.out.fr hf1 id)
  have BR1 := hide (BR.out.fr hf1 id)
  clear hf1 F0 BQ BR
  have rQ := box_cmd q BQ1.out
  go_wp2_with fail
  refine (Encode_of w1 q (HQ.out.quiet F1.out) HQW.out (fun w2 hf => HC.out w2 q (HQ.out.quiet (F1.out.trans hf)))).mono ?_
  rintro e w2 ⟨FA, fn, fc, fg, rfl, hO, -, hf2⟩
  have F2 : Hid (Fr (fun _ => False) w w2) := F1.out.trans hf2
  have BQ2 := hide (BQ1.out.fr hf2 id)
  have BR2 := hide (BR1.out.fr hf2 id)
  have HO := hide hO
  clear hf2 hO F1 BQ1 BR1 rQ
  obtain ⟨ok, hok⟩ : ∃ ok, q.ok = ok := ⟨_, rfl⟩
  rw [hok] at HO ⊢
  have Hok := hide hok
  clear hok
  obtain ⟨er, her⟩ : ∃ er : Int, (((if ok = true then 0 else 270 : Nat) : Nat) : Int) = er := ⟨_, rfl⟩
  rw [her]
  have Her := hide her
  clear her
  go_upto_if 33 with (go_at_call 13; refine (num27law_any _ er).mono ?_; rintro e w' ⟨rfl, rfl⟩)
  go_cut [2, 3, 4] (fun s2 s3 s4 wx => s2 = .slice A n c ∧ s3 = .pointer (some ⟨w.heap.size, 0, none⟩) ∧ s4 = .pointer (some ⟨w.heap.size + 1, 0, none⟩) ∧ Hid (Fr (fun _ => False) w2 wx))
  case first =>
    cases ok with
    | true =>
      have h0 : er = 0 := by rw [← Her.out]; rfl
      subst h0
      have HO' : Hid (Ow w2 5 1 FA fn fc (q.form.map bn) fg) := HO.out
      have hsh := KC.short Hok.out HQW.out
      have hfn : fn = q.form.length := by have := HO'.out.1; simpa using this.symm
      have hf1 : 0 < fn := by rw [hfn]; exact hsh.1
      have hf2 : fn ≤ 512 := by rw [hfn]; exact hsh.2
      have HL := hide hsh.2
      have HD : Hid (Calls Try.prog 26 #[.slice FA fn fc] w2 (DecIs q.form w2)) := (Decode_of w2 q.form FA fn fc hfn (by omega) (KC.form_b HQW.out) HO'.out.sl HC.out).mono fun e w' h => h.is
      have i1 : ¬ (512 : Int) < (fn : Int) := by omega
      have i2 : ¬ (fn : Int) = 0 := by omega
      have i3 : ¬ fn = 0 := by omega
      have i4 : ((fn : Int) == 0) = false := by simpa using i2
      clear hfn hsh hf1 hf2
      go_wp2_with fail
      refine HD.out.mono ?_
      rintro e w3 ⟨d, ed, rfl, VD, TD, hf3⟩
      obtain ⟨rfl, hlk, -⟩ := VD.out.ok ⟨Hok.out, HQW.out, rfl⟩ HL.out
      have p3 := put_cmd (w := w3) d
      obtain ⟨hb, hf4⟩ := box_new (w := w3) tCL #[.int .i64 0, .int .i64 0, .string ⟨#[]⟩, .int .i64 0, .int .u64 0, .int .i64 0, .int .i64 0, .int .i64 0, .int .i64 0, .int .i64 0, .int .u64 0, .int .u64 0, .slice none 0 0, .int .i64 0, .int .i64 0, .int .i64 0, .int .i64 0, .int .i64 0, .int .i64 0, .int .u64 0, .int .u64 0, .int .u64 0, .int .i64 0, .slice none 0 0] #[.int .i64 d.id, .int .i64 d.kind, .string (strOf d.name), .int .i64 d.to_, .int .u64 (d.co : Int), .int .i64 d.item, .int .i64 d.num, .int .i64 d.of_, .int .i64 d.e.acc, .int .i64 d.e.item, .int .u64 (d.e.co : Int), .int .u64 (d.e.pr : Int), .slice d.e.A d.e.n d.e.c, .int .i64 d.k.num, .int .i64 d.k.kind, .int .i64 d.k.by_, .int .i64 d.k.dl, .int .i64 d.k.to_, .int .i64 d.k.want, .int .u64 (d.k.pr : Int), .int .u64 (d.k.rs : Int), .int .u64 (d.k.st : Int), .int .i64 d.k.of_, .slice d.k.A d.k.n d.k.c]
      go_wp2_with fail
      obtain ⟨b9, h9⟩ : ∃ b, w3.heap.size = b := ⟨_, rfl⟩
      rw [h9] at hb hf4 ⊢
      obtain ⟨w4, h4⟩ : ∃ v, (w3.alloc (.cells #[.int .i64 0, .int .i64 0, .string ⟨#[]⟩, .int .i64 0, .int .u64 0, .int .i64 0, .int .i64 0, .int .i64 0, .int .i64 0, .int .i64 0, .int .u64 0, .int .u64 0, .slice none 0 0, .int .i64 0, .int .i64 0, .int .i64 0, .int .i64 0, .int .i64 0, .int .i64 0, .int .u64 0, .int .u64 0, .int .u64 0, .int .i64 0, .slice none 0 0] tCL)).setRow b9 #[.int .i64 d.id, .int .i64 d.kind, .string (strOf d.name), .int .i64 d.to_, .int .u64 (d.co : Int), .int .i64 d.item, .int .i64 d.num, .int .i64 d.of_, .int .i64 d.e.acc, .int .i64 d.e.item, .int .u64 (d.e.co : Int), .int .u64 (d.e.pr : Int), .slice d.e.A d.e.n d.e.c, .int .i64 d.k.num, .int .i64 d.k.kind, .int .i64 d.k.by_, .int .i64 d.k.dl, .int .i64 d.k.to_, .int .i64 d.k.want, .int .u64 (d.k.pr : Int), .int .u64 (d.k.rs : Int), .int .u64 (d.k.st : Int), .int .i64 d.k.of_, .slice d.k.A d.k.n d.k.c] = v := ⟨_, rfl⟩
      rw [h4] at hb hf4 ⊢
      have F24 : Hid (Fr (fun _ => False) w2 w4) := hf3.trans hf4
      have T4 := hide (TD.out.quiet hf4)
      have rQ := box_cmd q (BQ2.out.fr F24.out id)
      have rD := box_cmd d hb
      clear p3 h9 h4 hf3 hf4 TD HD
      refine (num27law_any w4 0).mono ?_
      rintro e w' ⟨rfl, rfl⟩
      go_wp2_with fail
      refine (commandLike_any w4 q d hlk.symm (HQ.out.quiet (F2.out.trans F24.out)) T4.out.at_).mono ?_
      rintro e w5 ⟨rfl, hf5⟩
      go_wp2_with fail
      go_meet
      case rel => exact ⟨rfl, rfl, rfl, F24.out.trans hf5⟩
    | false =>
      have h0 : er = 270 := by rw [← Her.out]; rfl
      subst h0
      have hfn : fn = 0 := by have := HO.out.1; simpa using this.symm
      subst hfn
      go_wp2_with fail
      refine (num27law_any w2 270).mono ?_
      rintro e w' ⟨rfl, rfl⟩
      go_wp2_with fail
      go_meet
      case rel => exact ⟨rfl, rfl, rfl, Fr.refl _ _⟩
  case rest =>
  obtain ⟨rfl, rfl, rfl, HF⟩ := hcut
  obtain ⟨w6, rfl⟩ : ∃ w6, w6 = wc := ⟨_, rfl⟩
  have F6 : Hid (Fr (fun _ => False) w w6) := F2.out.trans HF.out
  have BQ6 := hide (BQ2.out.fr HF.out id)
  have BR6 := hide (BR2.out.fr HF.out id)
  clear HF F2 BQ2 BR2 HO Her Hok
  have rR := box_rep r BR6.out
  go_wp2_with fail
  refine (EncodeReply_any w6 r (HR.out.quiet F6.out) HRW.out).mono ?_
  rintro e w7 ⟨GA, gn, gc, gg, rfl, hO, -, hf7⟩
  have F7 : Hid (Fr (fun _ => False) w w7) := F6.out.trans hf7
  have BQ7 := hide (BQ6.out.fr hf7 id)
  have BR7 := hide (BR6.out.fr hf7 id)
  have HO := hide hO
  clear hf7 hO F6 BQ6 BR6 rR
  obtain ⟨ok, hok⟩ : ∃ ok, r.ok = ok := ⟨_, rfl⟩
  rw [hok] at HO ⊢
  have Hok := hide hok
  clear hok
  obtain ⟨er, her⟩ : ∃ er : Int, (((if ok = true then 0 else 270 : Nat) : Nat) : Int) = er := ⟨_, rfl⟩
  rw [her]
  have Her := hide her
  clear her
  go_upto_if 73 with (go_at_call 13; refine (num27law_any _ er).mono ?_; rintro e w' ⟨rfl, rfl⟩)
  go_cut [2, 3, 4] (fun s2 s3 s4 wx => s2 = .slice A n c ∧ s3 = .pointer (some ⟨w.heap.size, 0, none⟩) ∧ s4 = .pointer (some ⟨w.heap.size + 1, 0, none⟩) ∧ Hid (Fr (fun _ => False) w7 wx))
  case first =>
    cases ok with
    | true =>
      have h0 : er = 0 := by rw [← Her.out]; rfl
      subst h0
      have HO' : Hid (Ow w7 5 1 GA gn gc (r.form.map bn) gg) := HO.out
      have hsh := (RR.len Hok.out HRW.out).1
      have hgn : gn = r.form.length := by have := HO'.out.1; simpa using this.symm
      have hf2 : gn ≤ 40000 := by rw [hgn]; exact hsh
      have HL : Hid (r.form.length ≤ 65536) := by show _ ≤ _; omega
      have HD : Hid (Calls Try.prog 28 #[.slice GA gn gc] w7 (RepIs r.form w7)) := (DecodeReply_any w7 r.form GA gn gc hgn (by omega) (RR.form_b HRW.out) HO'.out.sl).mono fun e w' h => h.is
      have i1 : ¬ (65536 : Int) < (gn : Int) := by omega
      clear hgn hsh hf2
      go_wp2_with fail
      refine HD.out.mono ?_
      rintro e w8 ⟨d, ed, rfl, VD, TD, hf8⟩
      obtain ⟨rfl, hlk, -⟩ := VD.out.ok ⟨Hok.out, HRW.out, rfl⟩ HL.out
      have p8 := put_rep (w := w8) d
      obtain ⟨hb, hf9⟩ := box_new (w := w8) tRL #[.int .i64 0, .int .i64 0, .int .i64 0, .int .u64 0, .slice none 0 0, .string ⟨#[]⟩, .int .u32 0, .int .i64 0, .int .i64 0, .int .i64 0, .int .i64 0, .int .i64 0, .int .i64 0, .int .u64 0, .int .u64 0, .int .u64 0, .int .i64 0, .slice none 0 0] #[.int .i64 d.id, .int .i64 d.err, .int .i64 d.num, .int .u64 (d.co : Int), .slice d.A d.n d.c, .string (strOf d.txt), .int .u32 (d.bits : Int), .int .i64 d.k.num, .int .i64 d.k.kind, .int .i64 d.k.by_, .int .i64 d.k.dl, .int .i64 d.k.to_, .int .i64 d.k.want, .int .u64 (d.k.pr : Int), .int .u64 (d.k.rs : Int), .int .u64 (d.k.st : Int), .int .i64 d.k.of_, .slice d.k.A d.k.n d.k.c]
      go_wp2_with fail
      obtain ⟨b13, h13⟩ : ∃ b, w8.heap.size = b := ⟨_, rfl⟩
      rw [h13] at hb hf9 ⊢
      obtain ⟨w9, h9⟩ : ∃ v, (w8.alloc (.cells #[.int .i64 0, .int .i64 0, .int .i64 0, .int .u64 0, .slice none 0 0, .string ⟨#[]⟩, .int .u32 0, .int .i64 0, .int .i64 0, .int .i64 0, .int .i64 0, .int .i64 0, .int .i64 0, .int .u64 0, .int .u64 0, .int .u64 0, .int .i64 0, .slice none 0 0] tRL)).setRow b13 #[.int .i64 d.id, .int .i64 d.err, .int .i64 d.num, .int .u64 (d.co : Int), .slice d.A d.n d.c, .string (strOf d.txt), .int .u32 (d.bits : Int), .int .i64 d.k.num, .int .i64 d.k.kind, .int .i64 d.k.by_, .int .i64 d.k.dl, .int .i64 d.k.to_, .int .i64 d.k.want, .int .u64 (d.k.pr : Int), .int .u64 (d.k.rs : Int), .int .u64 (d.k.st : Int), .int .i64 d.k.of_, .slice d.k.A d.k.n d.k.c] = v := ⟨_, rfl⟩
      rw [h9] at hb hf9 ⊢
      have F79 : Hid (Fr (fun _ => False) w7 w9) := hf8.trans hf9
      have T9 := hide (TD.out.quiet hf9)
      have rR := box_rep r (BR7.out.fr F79.out id)
      have rD := box_rep d hb
      clear p8 h13 h9 hf8 hf9 TD HD
      refine (num27law_any w9 0).mono ?_
      rintro e w' ⟨rfl, rfl⟩
      go_wp2_with fail
      refine (replyLike_any w9 r d hlk.symm (HR.out.quiet (F7.out.trans F79.out)) T9.out.at_).mono ?_
      rintro e w10 ⟨rfl, hf10⟩
      go_wp2_with fail
      go_meet
      case rel => exact ⟨rfl, rfl, rfl, F79.out.trans hf10⟩
    | false =>
      have h0 : er = 270 := by rw [← Her.out]; rfl
      subst h0
      have hgn : gn = 0 := by have := HO.out.1; simpa using this.symm
      subst hgn
      go_wp2_with fail
      refine (num27law_any w7 270).mono ?_
      rintro e w' ⟨rfl, rfl⟩
      go_wp2_with fail
      go_meet
      case rel => exact ⟨rfl, rfl, rfl, Fr.refl _ _⟩
  case rest =>
  obtain ⟨rfl, rfl, rfl, HF⟩ := hcut
  obtain ⟨w11, rfl⟩ : ∃ w11, w11 = wc := ⟨_, rfl⟩
  have F11 : Hid (Fr (fun _ => False) w w11) := F7.out.trans HF.out
  have BQ11 := hide (BQ7.out.fr HF.out id)
  clear HF F7 BQ7 BR7 HO Her Hok
  go_wp2_with fail
  refine ((Decode_of w11 xs A n c Hl.out (by omega) H256.out (HS.out.quiet F11.out) HC.out).mono fun e w' h => h.is).mono ?_
  rintro e w12 ⟨k, ek, rfl, VK, TK, hf12⟩
  have p12 := put_cmd (w := w12) k
  obtain ⟨hb15, hf13⟩ := box_new (w := w12) tCL #[.int .i64 0, .int .i64 0, .string ⟨#[]⟩, .int .i64 0, .int .u64 0, .int .i64 0, .int .i64 0, .int .i64 0, .int .i64 0, .int .i64 0, .int .u64 0, .int .u64 0, .slice none 0 0, .int .i64 0, .int .i64 0, .int .i64 0, .int .i64 0, .int .i64 0, .int .i64 0, .int .u64 0, .int .u64 0, .int .u64 0, .int .i64 0, .slice none 0 0] #[.int .i64 k.id, .int .i64 k.kind, .string (strOf k.name), .int .i64 k.to_, .int .u64 (k.co : Int), .int .i64 k.item, .int .i64 k.num, .int .i64 k.of_, .int .i64 k.e.acc, .int .i64 k.e.item, .int .u64 (k.e.co : Int), .int .u64 (k.e.pr : Int), .slice k.e.A k.e.n k.e.c, .int .i64 k.k.num, .int .i64 k.k.kind, .int .i64 k.k.by_, .int .i64 k.k.dl, .int .i64 k.k.to_, .int .i64 k.k.want, .int .u64 (k.k.pr : Int), .int .u64 (k.k.rs : Int), .int .u64 (k.k.st : Int), .int .i64 k.k.of_, .slice k.k.A k.k.n k.k.c]
  go_wp2_with fail
  obtain ⟨b15, h15⟩ : ∃ b, w12.heap.size = b := ⟨_, rfl⟩
  rw [h15] at hb15 hf13 ⊢
  obtain ⟨w13, h13⟩ : ∃ v, (w12.alloc (.cells #[.int .i64 0, .int .i64 0, .string ⟨#[]⟩, .int .i64 0, .int .u64 0, .int .i64 0, .int .i64 0, .int .i64 0, .int .i64 0, .int .i64 0, .int .u64 0, .int .u64 0, .slice none 0 0, .int .i64 0, .int .i64 0, .int .i64 0, .int .i64 0, .int .i64 0, .int .i64 0, .int .u64 0, .int .u64 0, .int .u64 0, .int .i64 0, .slice none 0 0] tCL)).setRow b15 #[.int .i64 k.id, .int .i64 k.kind, .string (strOf k.name), .int .i64 k.to_, .int .u64 (k.co : Int), .int .i64 k.item, .int .i64 k.num, .int .i64 k.of_, .int .i64 k.e.acc, .int .i64 k.e.item, .int .u64 (k.e.co : Int), .int .u64 (k.e.pr : Int), .slice k.e.A k.e.n k.e.c, .int .i64 k.k.num, .int .i64 k.k.kind, .int .i64 k.k.by_, .int .i64 k.k.dl, .int .i64 k.k.to_, .int .i64 k.k.want, .int .u64 (k.k.pr : Int), .int .u64 (k.k.rs : Int), .int .u64 (k.k.st : Int), .int .i64 k.k.of_, .slice k.k.A k.k.n k.k.c] = v := ⟨_, rfl⟩
  rw [h13] at hb15 hf13 ⊢
  have F13 : Hid (Fr (fun _ => False) w w13) := F11.out.trans (hf12.trans hf13)
  have BQ13 := hide (BQ11.out.fr (hf12.trans hf13) id)
  have TK13 := hide (TK.out.quiet hf13)
  have B15 := hide hb15
  clear p12 h15 h13 hb15 hf12 hf13 TK F11 BQ11
  refine ((DecodeReply_any w13 xs A n c Hl.out (by omega) H256.out (HS.out.quiet F13.out)).mono fun e w' h => h.is).mono ?_
  rintro e w14 ⟨m, em, rfl, VM, TM, hf14⟩
  have p14 := put_rep (w := w14) m
  obtain ⟨hb17, hf15⟩ := box_new (w := w14) tRL #[.int .i64 0, .int .i64 0, .int .i64 0, .int .u64 0, .slice none 0 0, .string ⟨#[]⟩, .int .u32 0, .int .i64 0, .int .i64 0, .int .i64 0, .int .i64 0, .int .i64 0, .int .i64 0, .int .u64 0, .int .u64 0, .int .u64 0, .int .i64 0, .slice none 0 0] #[.int .i64 m.id, .int .i64 m.err, .int .i64 m.num, .int .u64 (m.co : Int), .slice m.A m.n m.c, .string (strOf m.txt), .int .u32 (m.bits : Int), .int .i64 m.k.num, .int .i64 m.k.kind, .int .i64 m.k.by_, .int .i64 m.k.dl, .int .i64 m.k.to_, .int .i64 m.k.want, .int .u64 (m.k.pr : Int), .int .u64 (m.k.rs : Int), .int .u64 (m.k.st : Int), .int .i64 m.k.of_, .slice m.k.A m.k.n m.k.c]
  go_wp2_with fail
  obtain ⟨b17, h17⟩ : ∃ b, w14.heap.size = b := ⟨_, rfl⟩
  rw [h17] at hb17 hf15 ⊢
  obtain ⟨w15, h15⟩ : ∃ v, (w14.alloc (.cells #[.int .i64 0, .int .i64 0, .int .i64 0, .int .u64 0, .slice none 0 0, .string ⟨#[]⟩, .int .u32 0, .int .i64 0, .int .i64 0, .int .i64 0, .int .i64 0, .int .i64 0, .int .i64 0, .int .u64 0, .int .u64 0, .int .u64 0, .int .i64 0, .slice none 0 0] tRL)).setRow b17 #[.int .i64 m.id, .int .i64 m.err, .int .i64 m.num, .int .u64 (m.co : Int), .slice m.A m.n m.c, .string (strOf m.txt), .int .u32 (m.bits : Int), .int .i64 m.k.num, .int .i64 m.k.kind, .int .i64 m.k.by_, .int .i64 m.k.dl, .int .i64 m.k.to_, .int .i64 m.k.want, .int .u64 (m.k.pr : Int), .int .u64 (m.k.rs : Int), .int .u64 (m.k.st : Int), .int .i64 m.k.of_, .slice m.k.A m.k.n m.k.c] = v := ⟨_, rfl⟩
  rw [h15] at hb17 hf15 ⊢
  have F15 : Hid (Fr (fun _ => False) w w15) := F13.out.trans (hf14.trans hf15)
  have BQ15 := hide (BQ13.out.fr (hf14.trans hf15) id)
  have TK15 := hide (TK13.out.quiet (hf14.trans hf15))
  have TM15 := hide (TM.out.quiet hf15)
  have B15b := hide (B15.out.fr (hf14.trans hf15) id)
  have B17 := hide hb17
  clear p14 h17 h15 hb17 hf14 hf15 TM TK13 F13 BQ13 B15
  go_upto_if 113 with (go_at_call 13; refine (num27law_any _ ek).mono ?_; rintro e w' ⟨rfl, rfl⟩)
  go_cut [3, 17, 18, 2] (fun s3 s17 s18 s2 wx => s3 = .pointer (some ⟨w.heap.size, 0, none⟩) ∧ s17 = .pointer (some ⟨b17, 0, none⟩) ∧ s18 = .int .i64 em ∧ s2 = .slice A n c ∧ Hid (Fr (fun _ => False) w15 wx))
  case first =>
    rcases VK.out.cases with ⟨h0, hk⟩ | ⟨h0, hk⟩
    · subst h0
      have HK := hide hk
      have rK := box_cmd k B15b.out
      have hse := Encode_of w15 k TK15.out.at_ HK.out.wf (fun w2 hf => HC.out w2 k (TK15.out.at_.quiet hf))
      rw [HK.out.ok, if_pos rfl, if_pos rfl, HK.out.eq] at hse
      have HE := hide hse
      clear hse hk
      go_wp2_with fail
      refine HE.out.mono ?_
      rintro e w16 ⟨OA, on, oc, og, rfl, hO, -, hf16⟩
      have hon : on = n := by have := hO.1; rw [Hl.out]; simpa using this.symm
      subst hon
      have HSm := hide (same27_true w16 xs OA A oc c on H256.out hO.sl (HS.out.quiet (F15.out.trans hf16)))
      have Hf16 := hide hf16
      clear hO hf16 rK HE
      go_wp2_with fail
      refine (num27law_any w16 0).mono ?_
      rintro e w' ⟨rfl, rfl⟩
      go_wp2_with fail
      refine HSm.out.mono ?_
      rintro e w' ⟨rfl, rfl⟩
      go_wp2_with fail
      go_meet
      case rel => exact ⟨rfl, rfl, rfl, rfl, Hf16.out⟩
    · subst hk
      have e0 : (ek == 0) = false := by simpa using h0
      have rK := box_cmd zeroC B15b.out
      have HZ : Hid (Calls Try.prog 21 #[.agg #[.int .i64 zeroC.id, .int .i64 zeroC.kind, .string (strOf zeroC.name), .int .i64 zeroC.to_, .int .u64 (zeroC.co : Int), .int .i64 zeroC.item, .int .i64 zeroC.num, .int .i64 zeroC.of_, .int .i64 zeroC.e.acc, .int .i64 zeroC.e.item, .int .u64 (zeroC.e.co : Int), .int .u64 (zeroC.e.pr : Int), .slice zeroC.e.A zeroC.e.n zeroC.e.c, .int .i64 zeroC.k.num, .int .i64 zeroC.k.kind, .int .i64 zeroC.k.by_, .int .i64 zeroC.k.dl, .int .i64 zeroC.k.to_, .int .i64 zeroC.k.want, .int .u64 (zeroC.k.pr : Int), .int .u64 (zeroC.k.rs : Int), .int .u64 (zeroC.k.st : Int), .int .i64 zeroC.k.of_, .slice zeroC.k.A zeroC.k.n zeroC.k.c], .agg #[.int .i64 0, .int .i64 0, .string ⟨#[]⟩, .int .i64 0, .int .u64 0, .int .i64 0, .int .i64 0, .int .i64 0, .int .i64 0, .int .i64 0, .int .u64 0, .int .u64 0, .slice none 0 0, .int .i64 0, .int .i64 0, .int .i64 0, .int .i64 0, .int .i64 0, .int .i64 0, .int .u64 0, .int .u64 0, .int .u64 0, .int .i64 0, .slice none 0 0]] w15 fun e w' => e = .returned (.bool true) ∧ Fr (fun _ => False) w15 w') := commandLike_any w15 zeroC zeroC (KC.like_refl _) (zeroC_T w15).at_ (zeroC_T w15).at_
      go_wp2_with fail
      refine HZ.out.mono ?_
      rintro e w16 ⟨rfl, hf16⟩
      go_wp2_with fail
      go_meet
      case rel => exact ⟨rfl, rfl, rfl, rfl, hf16⟩
  case rest =>
  obtain ⟨rfl, rfl, rfl, rfl, HF⟩ := hcut
  obtain ⟨w17, rfl⟩ : ∃ w17, w17 = wc := ⟨_, rfl⟩
  have F17 : Hid (Fr (fun _ => False) w w17) := F15.out.trans HF.out
  have BQ17 := hide (BQ15.out.fr HF.out id)
  have TM17 := hide (TM15.out.quiet HF.out)
  have B17b := hide (B17.out.fr HF.out id)
  clear HF F15 BQ15 TM15 B17 TK15 B15b VK
  go_upto_if 134 with (go_at_call 13; refine (num27law_any _ em).mono ?_; rintro e w' ⟨rfl, rfl⟩)
  go_cut [3] (fun s3 wx => s3 = .pointer (some ⟨w.heap.size, 0, none⟩) ∧ Hid (Fr (fun _ => False) w17 wx))
  case first =>
    rcases VM.out.cases with ⟨h0, hk⟩ | ⟨h0, hk⟩
    · subst h0
      have HK := hide hk
      have rK := box_rep m B17b.out
      have hse := EncodeReply_any w17 m TM17.out.at_ HK.out.wf
      rw [HK.out.ok, if_pos rfl, if_pos rfl, HK.out.eq] at hse
      have HE := hide hse
      clear hse hk
      go_wp2_with fail
      refine HE.out.mono ?_
      rintro e w18 ⟨OA, on, oc, og, rfl, hO, -, hf18⟩
      have hon : on = n := by have := hO.1; rw [Hl.out]; simpa using this.symm
      subst hon
      have HSm := hide (same27_true w18 xs OA A oc c on H256.out hO.sl (HS.out.quiet (F17.out.trans hf18)))
      have Hf18 := hide hf18
      clear hO hf18 rK HE
      go_wp2_with fail
      refine (num27law_any w18 0).mono ?_
      rintro e w' ⟨rfl, rfl⟩
      go_wp2_with fail
      refine HSm.out.mono ?_
      rintro e w' ⟨rfl, rfl⟩
      go_wp2_with fail
      go_meet
      case rel => exact ⟨rfl, Hf18.out⟩
    · subst hk
      have e0 : (em == 0) = false := by simpa using h0
      have rK := box_rep zeroR B17b.out
      have HZ : Hid (Calls Try.prog 15 #[.agg #[.int .i64 zeroR.id, .int .i64 zeroR.err, .int .i64 zeroR.num, .int .u64 (zeroR.co : Int), .slice zeroR.A zeroR.n zeroR.c, .string (strOf zeroR.txt), .int .u32 (zeroR.bits : Int), .int .i64 zeroR.k.num, .int .i64 zeroR.k.kind, .int .i64 zeroR.k.by_, .int .i64 zeroR.k.dl, .int .i64 zeroR.k.to_, .int .i64 zeroR.k.want, .int .u64 (zeroR.k.pr : Int), .int .u64 (zeroR.k.rs : Int), .int .u64 (zeroR.k.st : Int), .int .i64 zeroR.k.of_, .slice zeroR.k.A zeroR.k.n zeroR.k.c], .agg #[.int .i64 0, .int .i64 0, .int .i64 0, .int .u64 0, .slice none 0 0, .string ⟨#[]⟩, .int .u32 0, .int .i64 0, .int .i64 0, .int .i64 0, .int .i64 0, .int .i64 0, .int .i64 0, .int .u64 0, .int .u64 0, .int .u64 0, .int .i64 0, .slice none 0 0]] w17 fun e w' => e = .returned (.bool true) ∧ Fr (fun _ => False) w17 w') := replyLike_any w17 zeroR zeroR (RR.like_refl _) (zeroR_T w17).at_ (zeroR_T w17).at_
      go_wp2_with fail
      refine HZ.out.mono ?_
      rintro e w18 ⟨rfl, hf18⟩
      go_wp2_with fail
      go_meet
      case rel => exact ⟨rfl, hf18⟩
  case rest =>
  obtain ⟨rfl, HF⟩ := hcut
  obtain ⟨w19, rfl⟩ : ∃ w19, w19 = wc := ⟨_, rfl⟩
  have rQ := box_cmd q (BQ17.out.fr HF.out id)
  have F19 : Hid (Fr (fun _ => False) w w19) := F17.out.trans HF.out
  have hc := costK_le q.kind
  obtain ⟨cost, hcost⟩ : ∃ z, costK q.kind = z := ⟨_, rfl⟩
  have HCo : Hid (Calls Try.prog 22 #[.agg #[.int .i64 q.id, .int .i64 q.kind, .string (strOf q.name), .int .i64 q.to_, .int .u64 (q.co : Int), .int .i64 q.item, .int .i64 q.num, .int .i64 q.of_, .int .i64 q.e.acc, .int .i64 q.e.item, .int .u64 (q.e.co : Int), .int .u64 (q.e.pr : Int), .slice q.e.A q.e.n q.e.c, .int .i64 q.k.num, .int .i64 q.k.kind, .int .i64 q.k.by_, .int .i64 q.k.dl, .int .i64 q.k.to_, .int .i64 q.k.want, .int .u64 (q.k.pr : Int), .int .u64 (q.k.rs : Int), .int .u64 (q.k.st : Int), .int .i64 q.k.of_, .slice q.k.A q.k.n q.k.c]] w19 fun e w' => e = .returned (.int .i64 cost) ∧ Fr (fun _ => False) w19 w') := by
    rw [← hcost]; exact Cost_any w19 q
  rw [hcost] at hc
  have c1 : (1 : Int) ≤ cost := hc.1
  have c2 : cost ≤ (8 : Int) := hc.2
  clear hc hcost
  go_wp2_with fail
  refine HCo.out.mono ?_
  rintro e w20 ⟨rfl, hf20⟩
  have F20 := F19.out.trans hf20
  go_wp2_with fail
  go_ret
  exact ⟨rfl, F20.toBelow (Nat.le_refl _) fun _ _ => id⟩
end Go.Proofs.Ytahhecendjfenaa
end

section
/-
  ProtoBack, joined.
-/
namespace Go.Proofs.Ytahhecendjfenaa
open Go.RowKit
set_option linter.unusedVariables false
theorem protoBack_any (w : World) (q : KC) (hq : q.at_ w) (hqw : q.wf) (r : RR) (hr : r.at_ w) (hrw : r.wf)
    (xs : List Nat) (A : Option Addr) (n c : Nat) (hl : n = xs.length) (hn : n ≤ 140737488351232) (h256 : ∀ x ∈ xs, x < 256) (hS : Sl w 1 A n (xs.map bn)) :
    Calls Try.prog 8 #[.agg #[.int .i64 q.id, .int .i64 q.kind, .string (strOf q.name), .int .i64 q.to_, .int .u64 (q.co : Int), .int .i64 q.item, .int .i64 q.num, .int .i64 q.of_, .int .i64 q.e.acc, .int .i64 q.e.item, .int .u64 (q.e.co : Int), .int .u64 (q.e.pr : Int), .slice q.e.A q.e.n q.e.c, .int .i64 q.k.num, .int .i64 q.k.kind, .int .i64 q.k.by_, .int .i64 q.k.dl, .int .i64 q.k.to_, .int .i64 q.k.want, .int .u64 (q.k.pr : Int), .int .u64 (q.k.rs : Int), .int .u64 (q.k.st : Int), .int .i64 q.k.of_, .slice q.k.A q.k.n q.k.c], .agg #[.int .i64 r.id, .int .i64 r.err, .int .i64 r.num, .int .u64 (r.co : Int), .slice r.A r.n r.c, .string (strOf r.txt), .int .u32 (r.bits : Int), .int .i64 r.k.num, .int .i64 r.k.kind, .int .i64 r.k.by_, .int .i64 r.k.dl, .int .i64 r.k.to_, .int .i64 r.k.want, .int .u64 (r.k.pr : Int), .int .u64 (r.k.rs : Int), .int .u64 (r.k.st : Int), .int .i64 r.k.of_, .slice r.k.A r.k.n r.k.c], .slice A n c] w fun e w' => e = .returned (.bool true) ∧ Below w.heap.size w w' :=
  back_walk (fun w1 q1 h1 => command_any w1 q1 h1) w q hq hqw r hr hrw xs A n c hl hn h256 hS
end Go.Proofs.Ytahhecendjfenaa
end
