/-
  Texts merged into one, to keep the claim small: PdZ, PdZj.
-/
import Derived.BigQuiet
import Derived.Test.YtahhecendjfenaaMbB
import Derived.Test.YtahhecendjfenaaMuB
import Derived.Test.YtahhecendjfenaaMd27
import Derived.Deep.CutBlock
import Derived.Deep.DeepCutAuto
import Derived.Test.YtahhecendjfenaaMd39
section
/-
  ProtoUnlike: the walk. (printed by pr_unlike3.py)
-/
namespace Go.Proofs.Ytahhecendjfenaa
open Go.RowKit
set_option linter.unusedVariables false
set_option linter.unusedSimpArgs false
/-- The same bytes: the same command. -/
theorem KC.like_of_form {a b : KC} (ha : a.ok = true) (hb : b.ok = true) (haw : a.wf) (hbw : b.wf) (h : a.form = b.form) : a.like b :=
  (cmdS_of ⟨ha, haw, h⟩).symm.trans (cmdS_of ⟨hb, hbw, rfl⟩)
theorem RR.like_of_form {a b : RR} (ha : a.ok = true) (hb : b.ok = true) (haw : a.wf) (hbw : b.wf) (h : a.form = b.form) : a.like b :=
  (repS_of ⟨ha, haw, h⟩).symm.trans (repS_of ⟨hb, hbw, rfl⟩)
theorem unlikeC (w : World) (a b : KC) (ha : a.at_ w) (haw : a.wf) (hb : b.at_ w) (hbw : b.wf) (oka : a.ok = true) (okb : b.ok = true) (A B : Option Addr) (n c m d : Nat) (hA : Sl w 1 A n (a.form.map bn)) (hB : Sl w 1 B m (b.form.map bn)) :
    ∃ bb : Bool, Hid (∀ w', Fr (fun _ => False) w w' → Calls Try.prog 14 #[.slice A n c, .slice B m d] w' fun e w2 => e = .returned (.bool bb) ∧ w' = w2) ∧ Hid (∀ w', Fr (fun _ => False) w w' → Calls Try.prog 21 #[.agg #[.int .i64 a.id, .int .i64 a.kind, .string (strOf a.name), .int .i64 a.to_, .int .u64 (a.co : Int), .int .i64 a.item, .int .i64 a.num, .int .i64 a.of_, .int .i64 a.e.acc, .int .i64 a.e.item, .int .u64 (a.e.co : Int), .int .u64 (a.e.pr : Int), .slice a.e.A a.e.n a.e.c, .int .i64 a.k.num, .int .i64 a.k.kind, .int .i64 a.k.by_, .int .i64 a.k.dl, .int .i64 a.k.to_, .int .i64 a.k.want, .int .u64 (a.k.pr : Int), .int .u64 (a.k.rs : Int), .int .u64 (a.k.st : Int), .int .i64 a.k.of_, .slice a.k.A a.k.n a.k.c], .agg #[.int .i64 b.id, .int .i64 b.kind, .string (strOf b.name), .int .i64 b.to_, .int .u64 (b.co : Int), .int .i64 b.item, .int .i64 b.num, .int .i64 b.of_, .int .i64 b.e.acc, .int .i64 b.e.item, .int .u64 (b.e.co : Int), .int .u64 (b.e.pr : Int), .slice b.e.A b.e.n b.e.c, .int .i64 b.k.num, .int .i64 b.k.kind, .int .i64 b.k.by_, .int .i64 b.k.dl, .int .i64 b.k.to_, .int .i64 b.k.want, .int .u64 (b.k.pr : Int), .int .u64 (b.k.rs : Int), .int .u64 (b.k.st : Int), .int .i64 b.k.of_, .slice b.k.A b.k.n b.k.c]] w' fun e w2 => e = .returned (.bool bb) ∧ Fr (fun _ => False) w' w2) := by
  by_cases h : a.form = b.form
  · have hl := KC.like_of_form oka okb haw hbw h
    have hnm : n = m := by
      have e1 := hA.len; have e2 := hB.len
      rw [h] at e1
      have e3 := e1.trans e2.symm
      omega
    subst hnm
    exact ⟨true, fun w' hf => same27_true w' _ A B c d n (KC.form_b haw) (hA.quiet hf) (by rw [h]; exact hB.quiet hf), fun w' hf => commandLike_any w' a b hl (ha.quiet hf) (hb.quiet hf)⟩
  · exact ⟨false, fun w' hf => same27_false w' _ _ A B c d n m (KC.form_b haw) (KC.form_b hbw) (hA.quiet hf) (hB.quiet hf) h, fun w' hf => commandUnlike_any w' a b (fun hl => h hl.form) (ha.quiet hf) (hb.quiet hf) haw hbw⟩
theorem unlikeR (w : World) (r s : RR) (hr : r.at_ w) (hrw : r.wf) (hs : s.at_ w) (hsw : s.wf) (okr : r.ok = true) (oks : s.ok = true) (A B : Option Addr) (n c m d : Nat) (hA : Sl w 1 A n (r.form.map bn)) (hB : Sl w 1 B m (s.form.map bn)) :
    ∃ bb : Bool, Hid (∀ w', Fr (fun _ => False) w w' → Calls Try.prog 14 #[.slice A n c, .slice B m d] w' fun e w2 => e = .returned (.bool bb) ∧ w' = w2) ∧ Hid (∀ w', Fr (fun _ => False) w w' → Calls Try.prog 15 #[.agg #[.int .i64 r.id, .int .i64 r.err, .int .i64 r.num, .int .u64 (r.co : Int), .slice r.A r.n r.c, .string (strOf r.txt), .int .u32 (r.bits : Int), .int .i64 r.k.num, .int .i64 r.k.kind, .int .i64 r.k.by_, .int .i64 r.k.dl, .int .i64 r.k.to_, .int .i64 r.k.want, .int .u64 (r.k.pr : Int), .int .u64 (r.k.rs : Int), .int .u64 (r.k.st : Int), .int .i64 r.k.of_, .slice r.k.A r.k.n r.k.c], .agg #[.int .i64 s.id, .int .i64 s.err, .int .i64 s.num, .int .u64 (s.co : Int), .slice s.A s.n s.c, .string (strOf s.txt), .int .u32 (s.bits : Int), .int .i64 s.k.num, .int .i64 s.k.kind, .int .i64 s.k.by_, .int .i64 s.k.dl, .int .i64 s.k.to_, .int .i64 s.k.want, .int .u64 (s.k.pr : Int), .int .u64 (s.k.rs : Int), .int .u64 (s.k.st : Int), .int .i64 s.k.of_, .slice s.k.A s.k.n s.k.c]] w' fun e w2 => e = .returned (.bool bb) ∧ Fr (fun _ => False) w' w2) := by
  by_cases h : r.form = s.form
  · have hl := RR.like_of_form okr oks hrw hsw h
    have hnm : n = m := by
      have e1 := hA.len; have e2 := hB.len
      rw [h] at e1
      have e3 := e1.trans e2.symm
      omega
    subst hnm
    exact ⟨true, fun w' hf => same27_true w' _ A B c d n (RR.form_b hrw) (hA.quiet hf) (by rw [h]; exact hB.quiet hf), fun w' hf => replyLike_any w' r s hl (hr.quiet hf) (hs.quiet hf)⟩
  · exact ⟨false, fun w' hf => same27_false w' _ _ A B c d n m (RR.form_b hrw) (RR.form_b hsw) (hA.quiet hf) (hB.quiet hf) h, fun w' hf => replyUnlike_any w' r s (fun hl => h hl.form) (hr.quiet hf) (hs.quiet hf) hrw hsw⟩
set_option maxHeartbeats 16000000 in
set_option maxRecDepth 8000 in
attribute [-go_sem] Go.Instr.loadAt Go.Instr.storeAt in
theorem unlike_walk
    (hcmd : ∀ w1 (q : KC), q.at_ w1 → Calls Try.prog 49 #[.agg #[.int .i64 q.id, .int .i64 q.kind, .string (strOf q.name), .int .i64 q.to_, .int .u64 (q.co : Int), .int .i64 q.item, .int .i64 q.num, .int .i64 q.of_, .int .i64 q.e.acc, .int .i64 q.e.item, .int .u64 (q.e.co : Int), .int .u64 (q.e.pr : Int), .slice q.e.A q.e.n q.e.c, .int .i64 q.k.num, .int .i64 q.k.kind, .int .i64 q.k.by_, .int .i64 q.k.dl, .int .i64 q.k.to_, .int .i64 q.k.want, .int .u64 (q.k.pr : Int), .int .u64 (q.k.rs : Int), .int .u64 (q.k.st : Int), .int .i64 q.k.of_, .slice q.k.A q.k.n q.k.c]] w1 fun e w' => e = .returned (.bool q.ok) ∧ Fr (fun _ => False) w1 w')
    (w : World) (a b : KC) (ha : a.at_ w) (haw : a.wf) (hb : b.at_ w) (hbw : b.wf) (r s : RR) (hr : r.at_ w) (hrw : r.wf) (hs : s.at_ w) (hsw : s.wf) :
    Calls Try.prog 6 #[.agg #[.int .i64 a.id, .int .i64 a.kind, .string (strOf a.name), .int .i64 a.to_, .int .u64 (a.co : Int), .int .i64 a.item, .int .i64 a.num, .int .i64 a.of_, .int .i64 a.e.acc, .int .i64 a.e.item, .int .u64 (a.e.co : Int), .int .u64 (a.e.pr : Int), .slice a.e.A a.e.n a.e.c, .int .i64 a.k.num, .int .i64 a.k.kind, .int .i64 a.k.by_, .int .i64 a.k.dl, .int .i64 a.k.to_, .int .i64 a.k.want, .int .u64 (a.k.pr : Int), .int .u64 (a.k.rs : Int), .int .u64 (a.k.st : Int), .int .i64 a.k.of_, .slice a.k.A a.k.n a.k.c], .agg #[.int .i64 b.id, .int .i64 b.kind, .string (strOf b.name), .int .i64 b.to_, .int .u64 (b.co : Int), .int .i64 b.item, .int .i64 b.num, .int .i64 b.of_, .int .i64 b.e.acc, .int .i64 b.e.item, .int .u64 (b.e.co : Int), .int .u64 (b.e.pr : Int), .slice b.e.A b.e.n b.e.c, .int .i64 b.k.num, .int .i64 b.k.kind, .int .i64 b.k.by_, .int .i64 b.k.dl, .int .i64 b.k.to_, .int .i64 b.k.want, .int .u64 (b.k.pr : Int), .int .u64 (b.k.rs : Int), .int .u64 (b.k.st : Int), .int .i64 b.k.of_, .slice b.k.A b.k.n b.k.c], .agg #[.int .i64 r.id, .int .i64 r.err, .int .i64 r.num, .int .u64 (r.co : Int), .slice r.A r.n r.c, .string (strOf r.txt), .int .u32 (r.bits : Int), .int .i64 r.k.num, .int .i64 r.k.kind, .int .i64 r.k.by_, .int .i64 r.k.dl, .int .i64 r.k.to_, .int .i64 r.k.want, .int .u64 (r.k.pr : Int), .int .u64 (r.k.rs : Int), .int .u64 (r.k.st : Int), .int .i64 r.k.of_, .slice r.k.A r.k.n r.k.c], .agg #[.int .i64 s.id, .int .i64 s.err, .int .i64 s.num, .int .u64 (s.co : Int), .slice s.A s.n s.c, .string (strOf s.txt), .int .u32 (s.bits : Int), .int .i64 s.k.num, .int .i64 s.k.kind, .int .i64 s.k.by_, .int .i64 s.k.dl, .int .i64 s.k.to_, .int .i64 s.k.want, .int .u64 (s.k.pr : Int), .int .u64 (s.k.rs : Int), .int .u64 (s.k.st : Int), .int .i64 s.k.of_, .slice s.k.A s.k.n s.k.c]] w fun e w' => e = .returned (.bool true) ∧ Below w.heap.size w w' := by
  have HC := hide hcmd
  have HA := hide ha
  have HAW := hide haw
  have HB := hide hb
  have HBW := hide hbw
  have HR := hide hr
  have HRW := hide hrw
  have HS := hide hs
  have HSW := hide hsw
  clear hcmd ha haw hb hbw hr hrw hs hsw
  obtain ⟨w0, hw0⟩ : ∃ w0, (((w.alloc (.cells #[.int .i64 a.id, .int .i64 a.kind, .string (strOf a.name), .int .i64 a.to_, .int .u64 (a.co : Int), .int .i64 a.item, .int .i64 a.num, .int .i64 a.of_, .int .i64 a.e.acc, .int .i64 a.e.item, .int .u64 (a.e.co : Int), .int .u64 (a.e.pr : Int), .slice a.e.A a.e.n a.e.c, .int .i64 a.k.num, .int .i64 a.k.kind, .int .i64 a.k.by_, .int .i64 a.k.dl, .int .i64 a.k.to_, .int .i64 a.k.want, .int .u64 (a.k.pr : Int), .int .u64 (a.k.rs : Int), .int .u64 (a.k.st : Int), .int .i64 a.k.of_, .slice a.k.A a.k.n a.k.c] tCL)).alloc (.cells #[.int .i64 b.id, .int .i64 b.kind, .string (strOf b.name), .int .i64 b.to_, .int .u64 (b.co : Int), .int .i64 b.item, .int .i64 b.num, .int .i64 b.of_, .int .i64 b.e.acc, .int .i64 b.e.item, .int .u64 (b.e.co : Int), .int .u64 (b.e.pr : Int), .slice b.e.A b.e.n b.e.c, .int .i64 b.k.num, .int .i64 b.k.kind, .int .i64 b.k.by_, .int .i64 b.k.dl, .int .i64 b.k.to_, .int .i64 b.k.want, .int .u64 (b.k.pr : Int), .int .u64 (b.k.rs : Int), .int .u64 (b.k.st : Int), .int .i64 b.k.of_, .slice b.k.A b.k.n b.k.c] tCL)).alloc (.cells #[.int .i64 r.id, .int .i64 r.err, .int .i64 r.num, .int .u64 (r.co : Int), .slice r.A r.n r.c, .string (strOf r.txt), .int .u32 (r.bits : Int), .int .i64 r.k.num, .int .i64 r.k.kind, .int .i64 r.k.by_, .int .i64 r.k.dl, .int .i64 r.k.to_, .int .i64 r.k.want, .int .u64 (r.k.pr : Int), .int .u64 (r.k.rs : Int), .int .u64 (r.k.st : Int), .int .i64 r.k.of_, .slice r.k.A r.k.n r.k.c] tRL)).alloc (.cells #[.int .i64 s.id, .int .i64 s.err, .int .i64 s.num, .int .u64 (s.co : Int), .slice s.A s.n s.c, .string (strOf s.txt), .int .u32 (s.bits : Int), .int .i64 s.k.num, .int .i64 s.k.kind, .int .i64 s.k.by_, .int .i64 s.k.dl, .int .i64 s.k.to_, .int .i64 s.k.want, .int .u64 (s.k.pr : Int), .int .u64 (s.k.rs : Int), .int .u64 (s.k.st : Int), .int .i64 s.k.of_, .slice s.k.A s.k.n s.k.c] tRL) = w0 := ⟨_, rfl⟩
  have F0 : Hid (Fr (fun _ => False) w w0) := by show Fr _ _ _; rw [← hw0]; (repeat (first | with_reducible exact Fr.refl _ _ | with_reducible assumption | with_reducible refine Fr.drew ?_ | with_reducible refine Fr.drewN ?_ _ | with_reducible refine Fr.alloc ?_ _ | with_reducible refine Fr.setIn ?_ (by first | exact Or.inl rfl | exact Or.inr (by simp; done) | exact Or.inr (by simp; omega) | exact Or.inr (by omega)) _))
  have BA : Hid (Bl w0 w.heap.size tCL #[.int .i64 a.id, .int .i64 a.kind, .string (strOf a.name), .int .i64 a.to_, .int .u64 (a.co : Int), .int .i64 a.item, .int .i64 a.num, .int .i64 a.of_, .int .i64 a.e.acc, .int .i64 a.e.item, .int .u64 (a.e.co : Int), .int .u64 (a.e.pr : Int), .slice a.e.A a.e.n a.e.c, .int .i64 a.k.num, .int .i64 a.k.kind, .int .i64 a.k.by_, .int .i64 a.k.dl, .int .i64 a.k.to_, .int .i64 a.k.want, .int .u64 (a.k.pr : Int), .int .u64 (a.k.rs : Int), .int .u64 (a.k.st : Int), .int .i64 a.k.of_, .slice a.k.A a.k.n a.k.c]) := by show Bl _ _ _ _; rw [← hw0]; exact (((Bl.new _ _ _).alloc _).alloc _).alloc _
  have BB : Hid (Bl w0 (w.heap.size + 1) tCL #[.int .i64 b.id, .int .i64 b.kind, .string (strOf b.name), .int .i64 b.to_, .int .u64 (b.co : Int), .int .i64 b.item, .int .i64 b.num, .int .i64 b.of_, .int .i64 b.e.acc, .int .i64 b.e.item, .int .u64 (b.e.co : Int), .int .u64 (b.e.pr : Int), .slice b.e.A b.e.n b.e.c, .int .i64 b.k.num, .int .i64 b.k.kind, .int .i64 b.k.by_, .int .i64 b.k.dl, .int .i64 b.k.to_, .int .i64 b.k.want, .int .u64 (b.k.pr : Int), .int .u64 (b.k.rs : Int), .int .u64 (b.k.st : Int), .int .i64 b.k.of_, .slice b.k.A b.k.n b.k.c]) := by show Bl _ _ _ _; rw [← hw0]; exact ((Bl.newAt (by simp)).alloc _).alloc _
  have BR : Hid (Bl w0 (w.heap.size + 2) tRL #[.int .i64 r.id, .int .i64 r.err, .int .i64 r.num, .int .u64 (r.co : Int), .slice r.A r.n r.c, .string (strOf r.txt), .int .u32 (r.bits : Int), .int .i64 r.k.num, .int .i64 r.k.kind, .int .i64 r.k.by_, .int .i64 r.k.dl, .int .i64 r.k.to_, .int .i64 r.k.want, .int .u64 (r.k.pr : Int), .int .u64 (r.k.rs : Int), .int .u64 (r.k.st : Int), .int .i64 r.k.of_, .slice r.k.A r.k.n r.k.c]) := by show Bl _ _ _ _; rw [← hw0]; exact (Bl.newAt (by simp)).alloc _
  have BS : Hid (Bl w0 (w.heap.size + 3) tRL #[.int .i64 s.id, .int .i64 s.err, .int .i64 s.num, .int .u64 (s.co : Int), .slice s.A s.n s.c, .string (strOf s.txt), .int .u32 (s.bits : Int), .int .i64 s.k.num, .int .i64 s.k.kind, .int .i64 s.k.by_, .int .i64 s.k.dl, .int .i64 s.k.to_, .int .i64 s.k.want, .int .u64 (s.k.pr : Int), .int .u64 (s.k.rs : Int), .int .u64 (s.k.st : Int), .int .i64 s.k.of_, .slice s.k.A s.k.n s.k.c]) := by show Bl _ _ _ _; rw [← hw0]; exact Bl.newAt (by simp)
  go_enter Try.func6, Try.ntmps6
  go_wp2_with fail
  (try rw [hw0])
  clear hw0
  refine (known_any HC.out w0).mono ?_
  rintro e w1 ⟨rfl, hf1⟩
  have F1 : Hid (Fr (fun _ => False) w w1) := F0.out.trans hf1
  have BA1 := hide (BA.out.fr hf1 id)
  have BB1 := hide (BB.out.fr hf1 id)
  have BR1 := hide (BR.out.fr hf1 id)
  have BS1 := hide (BS.out.fr hf1 id)
  clear hf1 F0 BA BB BR BS
  have rQ := box_cmd a BA1.out
  go_wp2_with fail

  refine (Encode_of w1 a (HA.out.quiet F1.out) HAW.out (fun w2 hf => HC.out w2 a (HA.out.quiet (F1.out.trans hf)))).mono ?_
  rintro e w2 ⟨A1, n1, c1, g1, rfl, hO, -, hf⟩
  have F2 : Hid (Fr (fun _ => False) w w2) := F1.out.trans hf
  have BA2 := hide (BA1.out.fr hf id)
  have BB2 := hide (BB1.out.fr hf id)
  have BR2 := hide (BR1.out.fr hf id)
  have BS2 := hide (BS1.out.fr hf id)
  have HO1 := hide hO
  have Hf1 := hide hf
  clear hO hf rQ BA1 BB1 BR1 BS1
  obtain ⟨ok1, hok⟩ : ∃ ok, a.ok = ok := ⟨_, rfl⟩
  rw [hok] at HO1 ⊢
  have Hok1 := hide hok
  clear hok
  obtain ⟨er1, her⟩ : ∃ er : Int, (((if ok1 = true then 0 else 270 : Nat) : Nat) : Int) = er := ⟨_, rfl⟩
  rw [her]
  have Her1 := hide her
  clear her
  have rQ := box_cmd b BB2.out
  go_wp2_with fail
  refine (Encode_of w2 b (HB.out.quiet F2.out) HBW.out (fun w2 hf => HC.out w2 b (HB.out.quiet (F2.out.trans hf)))).mono ?_
  rintro e w3 ⟨A2, n2, c2, g2, rfl, hO, -, hf⟩
  have F3 : Hid (Fr (fun _ => False) w w3) := F2.out.trans hf
  have BA3 := hide (BA2.out.fr hf id)
  have BB3 := hide (BB2.out.fr hf id)
  have BR3 := hide (BR2.out.fr hf id)
  have BS3 := hide (BS2.out.fr hf id)
  have HO2 := hide hO
  have Hf2 := hide hf
  clear hO hf rQ BA2 BB2 BR2 BS2
  obtain ⟨ok2, hok⟩ : ∃ ok, b.ok = ok := ⟨_, rfl⟩
  rw [hok] at HO2 ⊢
  have Hok2 := hide hok
  clear hok
  obtain ⟨er2, her⟩ : ∃ er : Int, (((if ok2 = true then 0 else 270 : Nat) : Nat) : Int) = er := ⟨_, rfl⟩
  rw [her]
  have Her2 := hide her
  clear her
  go_upto_region 5 with fail
  go_cut [6, 7, 45] (fun s6 s7 sv wx => s6 = .pointer (some ⟨w.heap.size + 2, 0, none⟩) ∧ s7 = .pointer (some ⟨w.heap.size + 3, 0, none⟩) ∧ sv = .bool false ∧ Hid (Fr (fun _ => False) w3 wx))
  case first =>
    have hn0 : Fr (fun _ => False) w3 w3 := Fr.refl _ _
    have hdr : ∀ w', Fr (fun _ => False) w3 w' → Fr (fun _ => False) w3 w'.drew := fun _ h => h.drew
    cases ok1 with
    | false =>
      have h0 : er1 = 270 := by rw [← Her1.out]; rfl
      subst h0
      clear Her2
      clear HO1 HO2
      go_quiet ((go_at_call 13; exact quiet_left (num27law_any _ _)))
      go_wp2_with fail
      go_meet
      case rel => exact ⟨rfl, rfl, rfl, by first | assumption | exact Fr.drew (by assumption) | exact Fr.drewN (by assumption) _ | (repeat (first | with_reducible exact Fr.refl _ _ | with_reducible assumption | with_reducible refine Fr.drew ?_ | with_reducible refine Fr.drewN ?_ _ | with_reducible refine Fr.alloc ?_ _ | with_reducible refine Fr.setIn ?_ (by first | exact Or.inl rfl | exact Or.inr (by simp; done) | exact Or.inr (by simp; omega) | exact Or.inr (by omega)) _))⟩
    | true =>
      have h0 : er1 = 0 := by rw [← Her1.out]; rfl
      subst h0
      cases ok2 with
      | false =>
        have h0 : er2 = 270 := by rw [← Her2.out]; rfl
        subst h0
        clear HO1 HO2
        go_quiet ((go_at_call 13; exact quiet_left (num27law_any _ _)))
        go_wp2_with fail
        go_meet
        case rel => exact ⟨rfl, rfl, rfl, by first | assumption | exact Fr.drew (by assumption) | exact Fr.drewN (by assumption) _ | (repeat (first | with_reducible exact Fr.refl _ _ | with_reducible assumption | with_reducible refine Fr.drew ?_ | with_reducible refine Fr.drewN ?_ _ | with_reducible refine Fr.alloc ?_ _ | with_reducible refine Fr.setIn ?_ (by first | exact Or.inl rfl | exact Or.inr (by simp; done) | exact Or.inr (by simp; omega) | exact Or.inr (by omega)) _))⟩
      | true =>
        have h0 : er2 = 0 := by rw [← Her2.out]; rfl
        subst h0
        have hO1 : Ow w3 5 1 A1 n1 c1 (a.form.map bn) g1 := Ow.fr (S := fun _ => False) HO1.out Hf2.out (fun _ _ => id)
        have hO2 : Ow w3 5 1 A2 n2 c2 (b.form.map bn) g2 := HO2.out
        obtain ⟨bb, HSM, HCM⟩ := unlikeC w3 a b (HA.out.quiet F3.out) HAW.out (HB.out.quiet F3.out) HBW.out Hok1.out Hok2.out A1 A2 n1 c1 n2 c2 hO1.sl hO2.sl
        clear hO1 hO2 HO1 HO2
        have hX : ∀ w', Fr (fun _ => False) w3 w' → (Instr.loadAt tCL (.pointer (some ⟨w.heap.size, 0, none⟩))).run Try.prog w' = .ok (.agg #[.int .i64 a.id, .int .i64 a.kind, .string (strOf a.name), .int .i64 a.to_, .int .u64 (a.co : Int), .int .i64 a.item, .int .i64 a.num, .int .i64 a.of_, .int .i64 a.e.acc, .int .i64 a.e.item, .int .u64 (a.e.co : Int), .int .u64 (a.e.pr : Int), .slice a.e.A a.e.n a.e.c, .int .i64 a.k.num, .int .i64 a.k.kind, .int .i64 a.k.by_, .int .i64 a.k.dl, .int .i64 a.k.to_, .int .i64 a.k.want, .int .u64 (a.k.pr : Int), .int .u64 (a.k.rs : Int), .int .u64 (a.k.st : Int), .int .i64 a.k.of_, .slice a.k.A a.k.n a.k.c]) w' := fun w' hf => box_cmd a (BA3.out.fr hf id)
        have hY : ∀ w', Fr (fun _ => False) w3 w' → (Instr.loadAt tCL (.pointer (some ⟨w.heap.size + 1, 0, none⟩))).run Try.prog w' = .ok (.agg #[.int .i64 b.id, .int .i64 b.kind, .string (strOf b.name), .int .i64 b.to_, .int .u64 (b.co : Int), .int .i64 b.item, .int .i64 b.num, .int .i64 b.of_, .int .i64 b.e.acc, .int .i64 b.e.item, .int .u64 (b.e.co : Int), .int .u64 (b.e.pr : Int), .slice b.e.A b.e.n b.e.c, .int .i64 b.k.num, .int .i64 b.k.kind, .int .i64 b.k.by_, .int .i64 b.k.dl, .int .i64 b.k.to_, .int .i64 b.k.want, .int .u64 (b.k.pr : Int), .int .u64 (b.k.rs : Int), .int .u64 (b.k.st : Int), .int .i64 b.k.of_, .slice b.k.A b.k.n b.k.c]) w' := fun w' hf => box_cmd b (BB3.out.fr hf id)
        cases bb with
        | true =>
          go_region_held3 (fun w' => Fr (fun _ => False) w3 w') (first | assumption | exact Fr.drew (by assumption) | go_keep)
            (first
              | (go_at_call 13; refine (num27law_any _ _).mono ?_; rintro x wA ⟨rfl, rfl⟩)
              | (go_at_call 14; refine (HSM.out _ (by first | assumption | exact Fr.drew (by assumption))).mono ?_; rintro x wA ⟨rfl, rfl⟩)
              | (go_at_call 21; refine (HCM.out _ (by first | assumption | exact Fr.drew (by assumption))).mono ?_; rintro x wA ⟨rfl, hfA⟩; have hn : Fr (fun _ => False) w3 wA := Fr.trans (by first | assumption | exact Fr.drew (by assumption)) hfA))
          go_wp2_with fail
          go_meet
          case rel => exact ⟨rfl, rfl, rfl, by first | assumption | exact Fr.drew (by assumption) | exact Fr.drewN (by assumption) _ | (repeat (first | with_reducible exact Fr.refl _ _ | with_reducible assumption | with_reducible refine Fr.drew ?_ | with_reducible refine Fr.drewN ?_ _ | with_reducible refine Fr.alloc ?_ _ | with_reducible refine Fr.setIn ?_ (by first | exact Or.inl rfl | exact Or.inr (by simp; done) | exact Or.inr (by simp; omega) | exact Or.inr (by omega)) _))⟩
        | false =>
          go_region_held3 (fun w' => Fr (fun _ => False) w3 w') (first | assumption | exact Fr.drew (by assumption) | go_keep)
            (first
              | (go_at_call 13; refine (num27law_any _ _).mono ?_; rintro x wA ⟨rfl, rfl⟩)
              | (go_at_call 14; refine (HSM.out _ (by first | assumption | exact Fr.drew (by assumption))).mono ?_; rintro x wA ⟨rfl, rfl⟩)
              | (go_at_call 21; refine (HCM.out _ (by first | assumption | exact Fr.drew (by assumption))).mono ?_; rintro x wA ⟨rfl, hfA⟩; have hn : Fr (fun _ => False) w3 wA := Fr.trans (by first | assumption | exact Fr.drew (by assumption)) hfA))
          go_wp2_with fail
          go_meet
          case rel => exact ⟨rfl, rfl, rfl, by first | assumption | exact Fr.drew (by assumption) | exact Fr.drewN (by assumption) _ | (repeat (first | with_reducible exact Fr.refl _ _ | with_reducible assumption | with_reducible refine Fr.drew ?_ | with_reducible refine Fr.drewN ?_ _ | with_reducible refine Fr.alloc ?_ _ | with_reducible refine Fr.setIn ?_ (by first | exact Or.inl rfl | exact Or.inr (by simp; done) | exact Or.inr (by simp; omega) | exact Or.inr (by omega)) _))⟩
  case rest =>
  obtain ⟨rfl, rfl, rfl, HF⟩ := hcut
  obtain ⟨w4, rfl⟩ : ∃ w4, w4 = wc := ⟨_, rfl⟩
  have F4 : Hid (Fr (fun _ => False) w w4) := F3.out.trans HF.out
  have BA4 := hide (BA3.out.fr HF.out id)
  have BB4 := hide (BB3.out.fr HF.out id)
  have BR4 := hide (BR3.out.fr HF.out id)
  have BS4 := hide (BS3.out.fr HF.out id)
  clear HF F3 BA3 BB3 BR3 BS3 HO1 HO2 Her1 Her2 Hok1 Hok2 Hf1 Hf2 F1 F2
  have rQ := box_rep r BR4.out
  go_wp2_with fail
  refine (EncodeReply_any w4 r (HR.out.quiet F4.out) HRW.out).mono ?_
  rintro e w5 ⟨A3, n3, c3, g3, rfl, hO, -, hf⟩
  have F5 : Hid (Fr (fun _ => False) w w5) := F4.out.trans hf
  have BA5 := hide (BA4.out.fr hf id)
  have BB5 := hide (BB4.out.fr hf id)
  have BR5 := hide (BR4.out.fr hf id)
  have BS5 := hide (BS4.out.fr hf id)
  have HO3 := hide hO
  have Hf3 := hide hf
  clear hO hf rQ BA4 BB4 BR4 BS4
  obtain ⟨ok3, hok⟩ : ∃ ok, r.ok = ok := ⟨_, rfl⟩
  rw [hok] at HO3 ⊢
  have Hok3 := hide hok
  clear hok
  obtain ⟨er3, her⟩ : ∃ er : Int, (((if ok3 = true then 0 else 270 : Nat) : Nat) : Int) = er := ⟨_, rfl⟩
  rw [her]
  have Her3 := hide her
  clear her
  have rQ := box_rep s BS5.out
  go_wp2_with fail
  refine (EncodeReply_any w5 s (HS.out.quiet F5.out) HSW.out).mono ?_
  rintro e w6 ⟨A4, n4, c4, g4, rfl, hO, -, hf⟩
  have F6 : Hid (Fr (fun _ => False) w w6) := F5.out.trans hf
  have BA6 := hide (BA5.out.fr hf id)
  have BB6 := hide (BB5.out.fr hf id)
  have BR6 := hide (BR5.out.fr hf id)
  have BS6 := hide (BS5.out.fr hf id)
  have HO4 := hide hO
  have Hf4 := hide hf
  clear hO hf rQ BA5 BB5 BR5 BS5
  obtain ⟨ok4, hok⟩ : ∃ ok, s.ok = ok := ⟨_, rfl⟩
  rw [hok] at HO4 ⊢
  have Hok4 := hide hok
  clear hok
  obtain ⟨er4, her⟩ : ∃ er : Int, (((if ok4 = true then 0 else 270 : Nat) : Nat) : Int) = er := ⟨_, rfl⟩
  rw [her]
  have Her4 := hide her
  clear her
  go_upto_region 9 with fail
  go_cut [8] (fun sv wx => sv = .bool true ∧ Hid (Fr (fun _ => False) w6 wx))
  case first =>
    have hn0 : Fr (fun _ => False) w6 w6 := Fr.refl _ _
    have hdr : ∀ w', Fr (fun _ => False) w6 w' → Fr (fun _ => False) w6 w'.drew := fun _ h => h.drew
    cases ok3 with
    | false =>
      have h0 : er3 = 270 := by rw [← Her3.out]; rfl
      subst h0
      clear Her4
      clear HO3 HO4
      go_quiet ((go_at_call 13; exact quiet_left (num27law_any _ _)))
      go_wp2_with fail
      go_meet
      case rel => exact ⟨rfl, by first | assumption | exact Fr.drew (by assumption) | exact Fr.drewN (by assumption) _ | (repeat (first | with_reducible exact Fr.refl _ _ | with_reducible assumption | with_reducible refine Fr.drew ?_ | with_reducible refine Fr.drewN ?_ _ | with_reducible refine Fr.alloc ?_ _ | with_reducible refine Fr.setIn ?_ (by first | exact Or.inl rfl | exact Or.inr (by simp; done) | exact Or.inr (by simp; omega) | exact Or.inr (by omega)) _))⟩
    | true =>
      have h0 : er3 = 0 := by rw [← Her3.out]; rfl
      subst h0
      cases ok4 with
      | false =>
        have h0 : er4 = 270 := by rw [← Her4.out]; rfl
        subst h0
        clear HO3 HO4
        go_quiet ((go_at_call 13; exact quiet_left (num27law_any _ _)))
        go_wp2_with fail
        go_meet
        case rel => exact ⟨rfl, by first | assumption | exact Fr.drew (by assumption) | exact Fr.drewN (by assumption) _ | (repeat (first | with_reducible exact Fr.refl _ _ | with_reducible assumption | with_reducible refine Fr.drew ?_ | with_reducible refine Fr.drewN ?_ _ | with_reducible refine Fr.alloc ?_ _ | with_reducible refine Fr.setIn ?_ (by first | exact Or.inl rfl | exact Or.inr (by simp; done) | exact Or.inr (by simp; omega) | exact Or.inr (by omega)) _))⟩
      | true =>
        have h0 : er4 = 0 := by rw [← Her4.out]; rfl
        subst h0
        have hO1 : Ow w6 5 1 A3 n3 c3 (r.form.map bn) g3 := Ow.fr (S := fun _ => False) HO3.out Hf4.out (fun _ _ => id)
        have hO2 : Ow w6 5 1 A4 n4 c4 (s.form.map bn) g4 := HO4.out
        obtain ⟨bb, HSM, HCM⟩ := unlikeR w6 r s (HR.out.quiet F6.out) HRW.out (HS.out.quiet F6.out) HSW.out Hok3.out Hok4.out A3 A4 n3 c3 n4 c4 hO1.sl hO2.sl
        clear hO1 hO2 HO3 HO4
        have hX : ∀ w', Fr (fun _ => False) w6 w' → (Instr.loadAt tRL (.pointer (some ⟨w.heap.size + 2, 0, none⟩))).run Try.prog w' = .ok (.agg #[.int .i64 r.id, .int .i64 r.err, .int .i64 r.num, .int .u64 (r.co : Int), .slice r.A r.n r.c, .string (strOf r.txt), .int .u32 (r.bits : Int), .int .i64 r.k.num, .int .i64 r.k.kind, .int .i64 r.k.by_, .int .i64 r.k.dl, .int .i64 r.k.to_, .int .i64 r.k.want, .int .u64 (r.k.pr : Int), .int .u64 (r.k.rs : Int), .int .u64 (r.k.st : Int), .int .i64 r.k.of_, .slice r.k.A r.k.n r.k.c]) w' := fun w' hf => box_rep r (BR6.out.fr hf id)
        have hY : ∀ w', Fr (fun _ => False) w6 w' → (Instr.loadAt tRL (.pointer (some ⟨w.heap.size + 3, 0, none⟩))).run Try.prog w' = .ok (.agg #[.int .i64 s.id, .int .i64 s.err, .int .i64 s.num, .int .u64 (s.co : Int), .slice s.A s.n s.c, .string (strOf s.txt), .int .u32 (s.bits : Int), .int .i64 s.k.num, .int .i64 s.k.kind, .int .i64 s.k.by_, .int .i64 s.k.dl, .int .i64 s.k.to_, .int .i64 s.k.want, .int .u64 (s.k.pr : Int), .int .u64 (s.k.rs : Int), .int .u64 (s.k.st : Int), .int .i64 s.k.of_, .slice s.k.A s.k.n s.k.c]) w' := fun w' hf => box_rep s (BS6.out.fr hf id)
        cases bb with
        | true =>
          go_region_held3 (fun w' => Fr (fun _ => False) w6 w') (first | assumption | exact Fr.drew (by assumption) | go_keep)
            (first
              | (go_at_call 13; refine (num27law_any _ _).mono ?_; rintro x wA ⟨rfl, rfl⟩)
              | (go_at_call 14; refine (HSM.out _ (by first | assumption | exact Fr.drew (by assumption))).mono ?_; rintro x wA ⟨rfl, rfl⟩)
              | (go_at_call 15; refine (HCM.out _ (by first | assumption | exact Fr.drew (by assumption))).mono ?_; rintro x wA ⟨rfl, hfA⟩; have hn : Fr (fun _ => False) w6 wA := Fr.trans (by first | assumption | exact Fr.drew (by assumption)) hfA))
          go_wp2_with fail
          go_meet
          case rel => exact ⟨rfl, by first | assumption | exact Fr.drew (by assumption) | exact Fr.drewN (by assumption) _ | (repeat (first | with_reducible exact Fr.refl _ _ | with_reducible assumption | with_reducible refine Fr.drew ?_ | with_reducible refine Fr.drewN ?_ _ | with_reducible refine Fr.alloc ?_ _ | with_reducible refine Fr.setIn ?_ (by first | exact Or.inl rfl | exact Or.inr (by simp; done) | exact Or.inr (by simp; omega) | exact Or.inr (by omega)) _))⟩
        | false =>
          go_region_held3 (fun w' => Fr (fun _ => False) w6 w') (first | assumption | exact Fr.drew (by assumption) | go_keep)
            (first
              | (go_at_call 13; refine (num27law_any _ _).mono ?_; rintro x wA ⟨rfl, rfl⟩)
              | (go_at_call 14; refine (HSM.out _ (by first | assumption | exact Fr.drew (by assumption))).mono ?_; rintro x wA ⟨rfl, rfl⟩)
              | (go_at_call 15; refine (HCM.out _ (by first | assumption | exact Fr.drew (by assumption))).mono ?_; rintro x wA ⟨rfl, hfA⟩; have hn : Fr (fun _ => False) w6 wA := Fr.trans (by first | assumption | exact Fr.drew (by assumption)) hfA))
          go_wp2_with fail
          go_meet
          case rel => exact ⟨rfl, by first | assumption | exact Fr.drew (by assumption) | exact Fr.drewN (by assumption) _ | (repeat (first | with_reducible exact Fr.refl _ _ | with_reducible assumption | with_reducible refine Fr.drew ?_ | with_reducible refine Fr.drewN ?_ _ | with_reducible refine Fr.alloc ?_ _ | with_reducible refine Fr.setIn ?_ (by first | exact Or.inl rfl | exact Or.inr (by simp; done) | exact Or.inr (by simp; omega) | exact Or.inr (by omega)) _))⟩
  case rest =>
  obtain ⟨rfl, HF⟩ := hcut
  obtain ⟨w7, rfl⟩ : ∃ w7, w7 = wc := ⟨_, rfl⟩
  have F7 := F6.out.trans HF.out
  go_wp2_with fail
  go_ret
  exact ⟨rfl, F7.toBelow (Nat.le_refl _) fun _ _ => id⟩
end Go.Proofs.Ytahhecendjfenaa
end

section
/-
  ProtoUnlike, joined. (printed by pr_unlike3.py)
-/
namespace Go.Proofs.Ytahhecendjfenaa
open Go.RowKit
set_option linter.unusedVariables false
theorem protoUnlike_any
    (w : World) (a b : KC) (ha : a.at_ w) (haw : a.wf) (hb : b.at_ w) (hbw : b.wf) (r s : RR) (hr : r.at_ w) (hrw : r.wf) (hs : s.at_ w) (hsw : s.wf) :
    Calls Try.prog 6 #[.agg #[.int .i64 a.id, .int .i64 a.kind, .string (strOf a.name), .int .i64 a.to_, .int .u64 (a.co : Int), .int .i64 a.item, .int .i64 a.num, .int .i64 a.of_, .int .i64 a.e.acc, .int .i64 a.e.item, .int .u64 (a.e.co : Int), .int .u64 (a.e.pr : Int), .slice a.e.A a.e.n a.e.c, .int .i64 a.k.num, .int .i64 a.k.kind, .int .i64 a.k.by_, .int .i64 a.k.dl, .int .i64 a.k.to_, .int .i64 a.k.want, .int .u64 (a.k.pr : Int), .int .u64 (a.k.rs : Int), .int .u64 (a.k.st : Int), .int .i64 a.k.of_, .slice a.k.A a.k.n a.k.c], .agg #[.int .i64 b.id, .int .i64 b.kind, .string (strOf b.name), .int .i64 b.to_, .int .u64 (b.co : Int), .int .i64 b.item, .int .i64 b.num, .int .i64 b.of_, .int .i64 b.e.acc, .int .i64 b.e.item, .int .u64 (b.e.co : Int), .int .u64 (b.e.pr : Int), .slice b.e.A b.e.n b.e.c, .int .i64 b.k.num, .int .i64 b.k.kind, .int .i64 b.k.by_, .int .i64 b.k.dl, .int .i64 b.k.to_, .int .i64 b.k.want, .int .u64 (b.k.pr : Int), .int .u64 (b.k.rs : Int), .int .u64 (b.k.st : Int), .int .i64 b.k.of_, .slice b.k.A b.k.n b.k.c], .agg #[.int .i64 r.id, .int .i64 r.err, .int .i64 r.num, .int .u64 (r.co : Int), .slice r.A r.n r.c, .string (strOf r.txt), .int .u32 (r.bits : Int), .int .i64 r.k.num, .int .i64 r.k.kind, .int .i64 r.k.by_, .int .i64 r.k.dl, .int .i64 r.k.to_, .int .i64 r.k.want, .int .u64 (r.k.pr : Int), .int .u64 (r.k.rs : Int), .int .u64 (r.k.st : Int), .int .i64 r.k.of_, .slice r.k.A r.k.n r.k.c], .agg #[.int .i64 s.id, .int .i64 s.err, .int .i64 s.num, .int .u64 (s.co : Int), .slice s.A s.n s.c, .string (strOf s.txt), .int .u32 (s.bits : Int), .int .i64 s.k.num, .int .i64 s.k.kind, .int .i64 s.k.by_, .int .i64 s.k.dl, .int .i64 s.k.to_, .int .i64 s.k.want, .int .u64 (s.k.pr : Int), .int .u64 (s.k.rs : Int), .int .u64 (s.k.st : Int), .int .i64 s.k.of_, .slice s.k.A s.k.n s.k.c]] w fun e w' => e = .returned (.bool true) ∧ Below w.heap.size w w' := 
  unlike_walk (fun w1 q h => command_any w1 q h) w a b ha haw hb hbw r s hr hrw hs hsw
end Go.Proofs.Ytahhecendjfenaa
end
