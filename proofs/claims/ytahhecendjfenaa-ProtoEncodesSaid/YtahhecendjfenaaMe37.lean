/-
  Texts merged into one, to keep the claim small: PrN2.
-/
import Derived.Deep.CutBlock
import Derived.Test.YtahhecendjfenaaMe23
import Derived.Test.YtahhecendjfenaaMe27
import Derived.Test.YtahhecendjfenaaMe29
import Derived.Test.YtahhecendjfenaaMe32
import Derived.Test.YtahhecendjfenaaMe36
/-
  ProtoEncodes: the walk. (printed by pr_ewalk.py)
-/
namespace Go.Proofs.Ytahhecendjfenaa
open Go.RowKit
set_option linter.unusedVariables false
set_option linter.unusedSimpArgs false
set_option maxHeartbeats 4000000 in
set_option maxRecDepth 8000 in
attribute [-go_sem] Go.Instr.loadAt in
theorem encodes_walk (hcmd : ∀ (w1 : World) (q : KC), q.at_ w1 → Calls Try.prog 49 #[.agg #[.int .i64 q.id, .int .i64 q.kind, .string (strOf q.name), .int .i64 q.to_, .int .u64 (q.co : Int), .int .i64 q.item, .int .i64 q.num, .int .i64 q.of_, .int .i64 q.e.acc, .int .i64 q.e.item, .int .u64 (q.e.co : Int), .int .u64 (q.e.pr : Int), .slice q.e.A q.e.n q.e.c, .int .i64 q.k.num, .int .i64 q.k.kind, .int .i64 q.k.by_, .int .i64 q.k.dl, .int .i64 q.k.to_, .int .i64 q.k.want, .int .u64 (q.k.pr : Int), .int .u64 (q.k.rs : Int), .int .u64 (q.k.st : Int), .int .i64 q.k.of_, .slice q.k.A q.k.n q.k.c]] w1 fun e w' => e = .returned (.bool q.ok) ∧ Fr (fun _ => False) w1 w')
    (hmay : ∀ (w1 : World) (q : KC), q.at_ w1 → q.wf → Calls Try.prog 51 #[.agg #[.int .i64 q.id, .int .i64 q.kind, .string (strOf q.name), .int .i64 q.to_, .int .u64 (q.co : Int), .int .i64 q.item, .int .i64 q.num, .int .i64 q.of_, .int .i64 q.e.acc, .int .i64 q.e.item, .int .u64 (q.e.co : Int), .int .u64 (q.e.pr : Int), .slice q.e.A q.e.n q.e.c, .int .i64 q.k.num, .int .i64 q.k.kind, .int .i64 q.k.by_, .int .i64 q.k.dl, .int .i64 q.k.to_, .int .i64 q.k.want, .int .u64 (q.k.pr : Int), .int .u64 (q.k.rs : Int), .int .u64 (q.k.st : Int), .int .i64 q.k.of_, .slice q.k.A q.k.n q.k.c]] w1 fun e w' => e = .returned (.bool q.ok) ∧ Fr (fun _ => False) w1 w')
    (w : World) (r : KC) (k2 : Int) (h : r.at_ w) (hwf : r.wf) :
    Calls Try.prog 4 #[.agg #[.int .i64 r.id, .int .i64 r.kind, .string (strOf r.name), .int .i64 r.to_, .int .u64 (r.co : Int), .int .i64 r.item, .int .i64 r.num, .int .i64 r.of_, .int .i64 r.e.acc, .int .i64 r.e.item, .int .u64 (r.e.co : Int), .int .u64 (r.e.pr : Int), .slice r.e.A r.e.n r.e.c, .int .i64 r.k.num, .int .i64 r.k.kind, .int .i64 r.k.by_, .int .i64 r.k.dl, .int .i64 r.k.to_, .int .i64 r.k.want, .int .u64 (r.k.pr : Int), .int .u64 (r.k.rs : Int), .int .u64 (r.k.st : Int), .int .i64 r.k.of_, .slice r.k.A r.k.n r.k.c], .int .i64 k2] w fun e w' => e = .returned (.bool true) ∧ Below w.heap.size w w' := by
  have HCM := hide hcmd
  have HMY := hide hmay
  clear hcmd hmay
  have HAt := hide h
  have HWf := hide hwf
  have hele := h.e.le
  have hkle := h.k.le
  have Hkl := hide h.k.len
  obtain ⟨rid, kind, name, to_, co, item, num, of_, ⟨acc, ei, ec, ep, E, en, ecp, ews⟩, ⟨knum, kkind, kby, kdl, kto, kwant, kpr, krs, kst, kof, X, xn, xc, kes⟩⟩ := r
  simp only at HAt HWf hele hkle Hkl ⊢
  obtain ⟨str, hstr⟩ : ∃ str, strOf name = str := ⟨_, rfl⟩
  rw [hstr]
  have Hstr := hide hstr
  obtain ⟨rr, hrr⟩ : ∃ rr : KC, rr = ⟨rid, kind, name, to_, co, item, num, of_, ⟨acc, ei, ec, ep, E, en, ecp, ews⟩, ⟨knum, kkind, kby, kdl, kto, kwant, kpr, krs, kst, kof, X, xn, xc, kes⟩⟩ := ⟨_, rfl⟩
  have Hrr := hide hrr
  rw [← hrr] at HAt HWf
  clear hrr hstr h hwf
  have HI : Hid (∀ w1, Fr (fun _ => False) w w1 → Calls Try.prog 18 #[.agg #[.int .i64 acc, .int .i64 ei, .int .u64 (ec : Int), .int .u64 (ep : Int), .slice E en ecp]] w1 fun e w' => ∃ B d g, e = .returned (.agg #[.int .i64 acc, .int .i64 ei, .int .u64 (ec : Int), .int .u64 (ep : Int), .slice B en d]) ∧ LI w1 w' B en d ews g ∧ Fr (fun _ => False) w1 w') := fun w1 hf => by
    have h1 := (HAt.out.quiet hf).e
    rw [Hrr.out] at h1
    exact lentEntry_any w1 _ h1
  have HK : Hid (∀ w1, Fr (fun _ => False) w w1 → Calls Try.prog 10 #[.agg #[.int .i64 knum, .int .i64 kkind, .int .i64 kby, .int .i64 kdl, .int .i64 kto, .int .i64 kwant, .int .u64 (kpr : Int), .int .u64 (krs : Int), .int .u64 (kst : Int), .int .i64 kof, .slice X xn xc]] w1 fun e w' => ∃ L cl rs g, e = .returned (.agg #[.int .i64 knum, .int .i64 kkind, .int .i64 kby, .int .i64 kdl, .int .i64 kto, .int .i64 kwant, .int .u64 (kpr : Int), .int .u64 (krs : Int), .int .u64 (kst : Int), .int .i64 kof, .slice L xn cl]) ∧ rs.length = xn ∧ LEr w1 w' kes L (xn + 2) cl rs g mk2) := fun w1 hf => by
    have h1 := (HAt.out.quiet hf).k
    rw [Hrr.out] at h1
    exact lentContract_any w1 _ h1
  have HB0 : Hid (Bl ((w.alloc (.cells #[.int .i64 rid, .int .i64 kind, .string str, .int .i64 to_, .int .u64 (co : Int), .int .i64 item, .int .i64 num, .int .i64 of_, .int .i64 acc, .int .i64 ei, .int .u64 (ec : Int), .int .u64 (ep : Int), .slice E en ecp, .int .i64 knum, .int .i64 kkind, .int .i64 kby, .int .i64 kdl, .int .i64 kto, .int .i64 kwant, .int .u64 (kpr : Int), .int .u64 (krs : Int), .int .u64 (kst : Int), .int .i64 kof, .slice X xn xc] 47)).alloc (.cells #[.int .i64 rid, .int .i64 kind, .string str, .int .i64 to_, .int .u64 (co : Int), .int .i64 item, .int .i64 num, .int .i64 of_, .int .i64 acc, .int .i64 ei, .int .u64 (ec : Int), .int .u64 (ep : Int), .slice E en ecp, .int .i64 knum, .int .i64 kkind, .int .i64 kby, .int .i64 kdl, .int .i64 kto, .int .i64 kwant, .int .u64 (kpr : Int), .int .u64 (krs : Int), .int .u64 (kst : Int), .int .i64 kof, .slice X xn xc] 47)) w.heap.size 47 #[.int .i64 rid, .int .i64 kind, .string str, .int .i64 to_, .int .u64 (co : Int), .int .i64 item, .int .i64 num, .int .i64 of_, .int .i64 acc, .int .i64 ei, .int .u64 (ec : Int), .int .u64 (ep : Int), .slice E en ecp, .int .i64 knum, .int .i64 kkind, .int .i64 kby, .int .i64 kdl, .int .i64 kto, .int .i64 kwant, .int .u64 (kpr : Int), .int .u64 (krs : Int), .int .u64 (kst : Int), .int .i64 kof, .slice X xn xc]) := (Bl.new _ _ _).alloc _
  have HB1 : Hid (Bl ((w.alloc (.cells #[.int .i64 rid, .int .i64 kind, .string str, .int .i64 to_, .int .u64 (co : Int), .int .i64 item, .int .i64 num, .int .i64 of_, .int .i64 acc, .int .i64 ei, .int .u64 (ec : Int), .int .u64 (ep : Int), .slice E en ecp, .int .i64 knum, .int .i64 kkind, .int .i64 kby, .int .i64 kdl, .int .i64 kto, .int .i64 kwant, .int .u64 (kpr : Int), .int .u64 (krs : Int), .int .u64 (kst : Int), .int .i64 kof, .slice X xn xc] 47)).alloc (.cells #[.int .i64 rid, .int .i64 kind, .string str, .int .i64 to_, .int .u64 (co : Int), .int .i64 item, .int .i64 num, .int .i64 of_, .int .i64 acc, .int .i64 ei, .int .u64 (ec : Int), .int .u64 (ep : Int), .slice E en ecp, .int .i64 knum, .int .i64 kkind, .int .i64 kby, .int .i64 kdl, .int .i64 kto, .int .i64 kwant, .int .u64 (kpr : Int), .int .u64 (krs : Int), .int .u64 (kst : Int), .int .i64 kof, .slice X xn xc] 47)) (w.heap.size + 1) 47 #[.int .i64 rid, .int .i64 kind, .string str, .int .i64 to_, .int .u64 (co : Int), .int .i64 item, .int .i64 num, .int .i64 of_, .int .i64 acc, .int .i64 ei, .int .u64 (ec : Int), .int .u64 (ep : Int), .slice E en ecp, .int .i64 knum, .int .i64 kkind, .int .i64 kby, .int .i64 kdl, .int .i64 kto, .int .i64 kwant, .int .u64 (kpr : Int), .int .u64 (krs : Int), .int .u64 (kst : Int), .int .i64 kof, .slice X xn xc]) := Bl.newAt (by simp)
  have hBa := Bl.new w 47 #[.int .i64 rid, .int .i64 kind, .string str, .int .i64 to_, .int .u64 (co : Int), .int .i64 item, .int .i64 num, .int .i64 of_, .int .i64 acc, .int .i64 ei, .int .u64 (ec : Int), .int .u64 (ep : Int), .slice E en ecp, .int .i64 knum, .int .i64 kkind, .int .i64 kby, .int .i64 kdl, .int .i64 kto, .int .i64 kwant, .int .u64 (kpr : Int), .int .u64 (krs : Int), .int .u64 (kst : Int), .int .i64 kof, .slice X xn xc]
  have hBb : Bl ((w.alloc (.cells #[.int .i64 rid, .int .i64 kind, .string str, .int .i64 to_, .int .u64 (co : Int), .int .i64 item, .int .i64 num, .int .i64 of_, .int .i64 acc, .int .i64 ei, .int .u64 (ec : Int), .int .u64 (ep : Int), .slice E en ecp, .int .i64 knum, .int .i64 kkind, .int .i64 kby, .int .i64 kdl, .int .i64 kto, .int .i64 kwant, .int .u64 (kpr : Int), .int .u64 (krs : Int), .int .u64 (kst : Int), .int .i64 kof, .slice X xn xc] 47)).alloc (.cells #[.int .i64 0, .int .i64 0, .string ⟨#[]⟩, .int .i64 0, .int .u64 0, .int .i64 0, .int .i64 0, .int .i64 0, .int .i64 0, .int .i64 0, .int .u64 0, .int .u64 0, .slice none 0 0, .int .i64 0, .int .i64 0, .int .i64 0, .int .i64 0, .int .i64 0, .int .i64 0, .int .u64 0, .int .u64 0, .int .u64 0, .int .i64 0, .slice none 0 0] 47)) (w.heap.size + 1) 47 #[.int .i64 0, .int .i64 0, .string ⟨#[]⟩, .int .i64 0, .int .u64 0, .int .i64 0, .int .i64 0, .int .i64 0, .int .i64 0, .int .i64 0, .int .u64 0, .int .u64 0, .slice none 0 0, .int .i64 0, .int .i64 0, .int .i64 0, .int .i64 0, .int .i64 0, .int .i64 0, .int .u64 0, .int .u64 0, .int .u64 0, .int .i64 0, .slice none 0 0] := Bl.newAt (by simp)
  have hset := setRow_alloc2 w (.cells #[.int .i64 rid, .int .i64 kind, .string str, .int .i64 to_, .int .u64 (co : Int), .int .i64 item, .int .i64 num, .int .i64 of_, .int .i64 acc, .int .i64 ei, .int .u64 (ec : Int), .int .u64 (ep : Int), .slice E en ecp, .int .i64 knum, .int .i64 kkind, .int .i64 kby, .int .i64 kdl, .int .i64 kto, .int .i64 kwant, .int .u64 (kpr : Int), .int .u64 (krs : Int), .int .u64 (kst : Int), .int .i64 kof, .slice X xn xc] 47) #[.int .i64 0, .int .i64 0, .string ⟨#[]⟩, .int .i64 0, .int .u64 0, .int .i64 0, .int .i64 0, .int .i64 0, .int .i64 0, .int .i64 0, .int .u64 0, .int .u64 0, .slice none 0 0, .int .i64 0, .int .i64 0, .int .i64 0, .int .i64 0, .int .i64 0, .int .i64 0, .int .u64 0, .int .u64 0, .int .u64 0, .int .i64 0, .slice none 0 0] #[.int .i64 rid, .int .i64 kind, .string str, .int .i64 to_, .int .u64 (co : Int), .int .i64 item, .int .i64 num, .int .i64 of_, .int .i64 acc, .int .i64 ei, .int .u64 (ec : Int), .int .u64 (ep : Int), .slice E en ecp, .int .i64 knum, .int .i64 kkind, .int .i64 kby, .int .i64 kdl, .int .i64 kto, .int .i64 kwant, .int .u64 (kpr : Int), .int .u64 (krs : Int), .int .u64 (kst : Int), .int .i64 kof, .slice X xn xc] 47
  have e0 := HB0.out
  unfold Bl at hBa hBb e0
  go_enter Try.func4, Try.ntmps4
  go_wp2_with (first
    | (refine wpList_load_at rfl 47 _ rfl w.heap.size 0 rfl 47 _ #[.int .i64 rid, .int .i64 kind, .string str, .int .i64 to_, .int .u64 (co : Int), .int .i64 item, .int .i64 num, .int .i64 of_, .int .i64 acc, .int .i64 ei, .int .u64 (ec : Int), .int .u64 (ep : Int), .slice E en ecp, .int .i64 knum, .int .i64 kkind, .int .i64 kby, .int .i64 kdl, .int .i64 kto, .int .i64 kwant, .int .u64 (kpr : Int), .int .u64 (krs : Int), .int .u64 (kst : Int), .int .i64 kof, .slice X xn xc] (0, 0) _ hBa Try.underlying47 rfl (by kernel_rfl) rfl ?_)
    | (refine wpList_store_at rfl 47 _ _ rfl (w.heap.size + 1) 0 #[.int .i64 rid, .int .i64 kind, .string str, .int .i64 to_, .int .u64 (co : Int), .int .i64 item, .int .i64 num, .int .i64 of_, .int .i64 acc, .int .i64 ei, .int .u64 (ec : Int), .int .u64 (ep : Int), .slice E en ecp, .int .i64 knum, .int .i64 kkind, .int .i64 kby, .int .i64 kdl, .int .i64 kto, .int .i64 kwant, .int .u64 (kpr : Int), .int .u64 (krs : Int), .int .u64 (kst : Int), .int .i64 kof, .slice X xn xc] rfl rfl 47 _ #[.int .i64 rid, .int .i64 kind, .string str, .int .i64 to_, .int .u64 (co : Int), .int .i64 item, .int .i64 num, .int .i64 of_, .int .i64 acc, .int .i64 ei, .int .u64 (ec : Int), .int .u64 (ep : Int), .slice E en ecp, .int .i64 knum, .int .i64 kkind, .int .i64 kby, .int .i64 kdl, .int .i64 kto, .int .i64 kwant, .int .u64 (kpr : Int), .int .u64 (krs : Int), .int .u64 (kst : Int), .int .i64 kof, .slice X xn xc] hBb (by kernel_rfl) 24 24 rfl rfl (by decide) rfl rfl ?_; rw [hset])
    | (refine wpList_load_at rfl 45 _ rfl w.heap.size 8 rfl 47 _ #[.int .i64 acc, .int .i64 ei, .int .u64 (ec : Int), .int .u64 (ep : Int), .slice E en ecp] (0, 0) _ e0 Try.underlying45 rfl (by kernel_rfl) rfl ?_))
  clear hBa hBb hset e0
  obtain ⟨w0, hw0⟩ : ∃ w0, w0 = ((w.alloc (.cells #[.int .i64 rid, .int .i64 kind, .string str, .int .i64 to_, .int .u64 (co : Int), .int .i64 item, .int .i64 num, .int .i64 of_, .int .i64 acc, .int .i64 ei, .int .u64 (ec : Int), .int .u64 (ep : Int), .slice E en ecp, .int .i64 knum, .int .i64 kkind, .int .i64 kby, .int .i64 kdl, .int .i64 kto, .int .i64 kwant, .int .u64 (kpr : Int), .int .u64 (krs : Int), .int .u64 (kst : Int), .int .i64 kof, .slice X xn xc] 47)).alloc (.cells #[.int .i64 rid, .int .i64 kind, .string str, .int .i64 to_, .int .u64 (co : Int), .int .i64 item, .int .i64 num, .int .i64 of_, .int .i64 acc, .int .i64 ei, .int .u64 (ec : Int), .int .u64 (ep : Int), .slice E en ecp, .int .i64 knum, .int .i64 kkind, .int .i64 kby, .int .i64 kdl, .int .i64 kto, .int .i64 kwant, .int .u64 (kpr : Int), .int .u64 (krs : Int), .int .u64 (kst : Int), .int .i64 kof, .slice X xn xc] 47)) := ⟨_, rfl⟩
  rw [← hw0] at HB0 HB1 ⊢
  have HF0 : Hid (Fr (fun _ => False) w w0) := by rw [hw0]; exact ((Fr.refl _ _).alloc _).alloc _
  clear hw0
  have Hlt1 : Hid (w.heap.size + 1 < w0.heap.size) := HB1.out.lt
  refine (HI.out _ HF0.out).mono ?_
  rintro x w1 ⟨B, bc, gi, rfl, hI, hf1⟩
  have HF1 := hide (HF0.out.trans hf1)
  have HI1 := hide hI
  have Hz1 := hide hf1.size
  have HIs := hide (hI.new)
  have HB0' := hide (HB0.out.fr hf1 (fun x => x))
  have HB1' := hide (HB1.out.fr hf1 (fun x => x))
  clear hI hf1 HB0 HB1
  obtain ⟨w2, hw2⟩ : ∃ w2, w2 = w1.setRow (w.heap.size + 1) #[.int .i64 rid, .int .i64 kind, .string str, .int .i64 to_, .int .u64 (co : Int), .int .i64 item, .int .i64 num, .int .i64 of_, .int .i64 acc, .int .i64 ei, .int .u64 (ec : Int), .int .u64 (ep : Int), .slice B en bc, .int .i64 knum, .int .i64 kkind, .int .i64 kby, .int .i64 kdl, .int .i64 kto, .int .i64 kwant, .int .u64 (kpr : Int), .int .u64 (krs : Int), .int .u64 (kst : Int), .int .i64 kof, .slice X xn xc] := ⟨_, rfl⟩
  have HB0b : Hid (Bl w2 w.heap.size 47 #[.int .i64 rid, .int .i64 kind, .string str, .int .i64 to_, .int .u64 (co : Int), .int .i64 item, .int .i64 num, .int .i64 of_, .int .i64 acc, .int .i64 ei, .int .u64 (ec : Int), .int .u64 (ep : Int), .slice E en ecp, .int .i64 knum, .int .i64 kkind, .int .i64 kby, .int .i64 kdl, .int .i64 kto, .int .i64 kwant, .int .u64 (kpr : Int), .int .u64 (krs : Int), .int .u64 (kst : Int), .int .i64 kof, .slice X xn xc]) := by rw [hw2]; exact HB0'.out.farRow (by simp) _
  have HB1b : Hid (Bl w2 (w.heap.size + 1) 47 #[.int .i64 rid, .int .i64 kind, .string str, .int .i64 to_, .int .u64 (co : Int), .int .i64 item, .int .i64 num, .int .i64 of_, .int .i64 acc, .int .i64 ei, .int .u64 (ec : Int), .int .u64 (ep : Int), .slice B en bc, .int .i64 knum, .int .i64 kkind, .int .i64 kby, .int .i64 kdl, .int .i64 kto, .int .i64 kwant, .int .u64 (kpr : Int), .int .u64 (krs : Int), .int .u64 (kst : Int), .int .i64 kof, .slice X xn xc]) := by rw [hw2]; exact HB1'.out.setRow _
  have hfs : Fr (fun x => x = w.heap.size + 1) w1 w2 := by rw [hw2]; exact Fr.row _
  have HF2 : Hid (Fr (fun _ => False) w w2) := HF1.out.comp hfs fun x hx e => by omega
  have HI2 : Hid (LI w0 w2 B en bc ews gi) := HI1.out.fr hfs (by have := HIs.out; have := Hlt1.out; omega)
  have Hs2 : Hid (w0.heap.size ≤ w2.heap.size) := Nat.le_trans Hz1.out hfs.size
  have Hw2 := hide hw2
  have s0 := HB1'.out
  have e0 := HB0b.out
  unfold Bl at s0 e0
  rw [hw2] at e0
  clear hw2 hfs HB0' HB1' HF1 HI1
  go_wp2_with (first
    | (refine wpList_store_at rfl 45 _ _ rfl (w.heap.size + 1) 8 #[.int .i64 acc, .int .i64 ei, .int .u64 (ec : Int), .int .u64 (ep : Int), .slice B en bc] rfl rfl 47 _ #[.int .i64 rid, .int .i64 kind, .string str, .int .i64 to_, .int .u64 (co : Int), .int .i64 item, .int .i64 num, .int .i64 of_, .int .i64 acc, .int .i64 ei, .int .u64 (ec : Int), .int .u64 (ep : Int), .slice B en bc, .int .i64 knum, .int .i64 kkind, .int .i64 kby, .int .i64 kdl, .int .i64 kto, .int .i64 kwant, .int .u64 (kpr : Int), .int .u64 (krs : Int), .int .u64 (kst : Int), .int .i64 kof, .slice X xn xc] s0 (by kernel_rfl) 24 5 rfl rfl (by decide) rfl rfl ?_)
    | (refine wpList_load_at rfl 28 _ rfl w.heap.size 13 rfl 47 _ #[.int .i64 knum, .int .i64 kkind, .int .i64 kby, .int .i64 kdl, .int .i64 kto, .int .i64 kwant, .int .u64 (kpr : Int), .int .u64 (krs : Int), .int .u64 (kst : Int), .int .i64 kof, .slice X xn xc] (0, 0) _ e0 Try.underlying28 rfl (by kernel_rfl) rfl ?_))
  clear s0 e0
  rw [← Hw2.out]
  clear Hw2
  refine (HK.out _ HF2.out).mono ?_
  rintro x w3 ⟨L, cl, rs, g, rfl, hrl, hL⟩
  have HF3 := hide (HF2.out.trans hL.fr)
  have HL3 := hide hL
  have Hrl := hide hrl
  have HI3 := hide (HI2.out.fr hL.fr (fun x => x))
  have HB0c := hide (HB0b.out.fr hL.fr (fun x => x))
  have HB1c := hide (HB1b.out.fr hL.fr (fun x => x))
  clear hL hrl HB0b HB1b HF2 HI2
  obtain ⟨w4, hw4⟩ : ∃ w4, w4 = w3.setRow (w.heap.size + 1) #[.int .i64 rid, .int .i64 kind, .string str, .int .i64 to_, .int .u64 (co : Int), .int .i64 item, .int .i64 num, .int .i64 of_, .int .i64 acc, .int .i64 ei, .int .u64 (ec : Int), .int .u64 (ep : Int), .slice B en bc, .int .i64 knum, .int .i64 kkind, .int .i64 kby, .int .i64 kdl, .int .i64 kto, .int .i64 kwant, .int .u64 (kpr : Int), .int .u64 (krs : Int), .int .u64 (kst : Int), .int .i64 kof, .slice L xn cl] := ⟨_, rfl⟩
  have HB0d : Hid (Bl w4 w.heap.size 47 #[.int .i64 rid, .int .i64 kind, .string str, .int .i64 to_, .int .u64 (co : Int), .int .i64 item, .int .i64 num, .int .i64 of_, .int .i64 acc, .int .i64 ei, .int .u64 (ec : Int), .int .u64 (ep : Int), .slice E en ecp, .int .i64 knum, .int .i64 kkind, .int .i64 kby, .int .i64 kdl, .int .i64 kto, .int .i64 kwant, .int .u64 (kpr : Int), .int .u64 (krs : Int), .int .u64 (kst : Int), .int .i64 kof, .slice X xn xc]) := by rw [hw4]; exact HB0c.out.farRow (by simp) _
  have HB1d : Hid (Bl w4 (w.heap.size + 1) 47 #[.int .i64 rid, .int .i64 kind, .string str, .int .i64 to_, .int .u64 (co : Int), .int .i64 item, .int .i64 num, .int .i64 of_, .int .i64 acc, .int .i64 ei, .int .u64 (ec : Int), .int .u64 (ep : Int), .slice B en bc, .int .i64 knum, .int .i64 kkind, .int .i64 kby, .int .i64 kdl, .int .i64 kto, .int .i64 kwant, .int .u64 (kpr : Int), .int .u64 (krs : Int), .int .u64 (kst : Int), .int .i64 kof, .slice L xn cl]) := by rw [hw4]; exact HB1c.out.setRow _
  have hfs : Fr (fun x => x = w.heap.size + 1) w3 w4 := by rw [hw4]; exact Fr.row _
  have HF4 : Hid (Fr (fun _ => False) w w4) := HF3.out.comp hfs fun x hx e => by omega
  have HI4 : Hid (LI w0 w4 B en bc ews gi) := HI3.out.fr hfs (by have := HIs.out; have := Hlt1.out; omega)
  have HL4 : Hid (LEr w w4 kes L (xn + 2) cl rs g mk2) := by
    have h3 := HL3.out
    have hs := HF3.out.size
    have hlt := Hlt1.out
    have hs2 := Hs2.out
    have hs0 := HF0.out.size
    exact ⟨h3.le, h3.like, h3.ow.fr hfs (fun b e hb => by have := h3.new b e; omega), fun q hq => by
      obtain ⟨gq, hgq⟩ := h3.li q hq
      have hn := hgq.new
      have h1 := hgq.fr hfs (by omega)
      exact ⟨gq, h1.ow, h1.len, by omega⟩, h3.small, fun b e => by have := h3.new b e; omega, HF4.out⟩
  have e0 := HB1c.out
  have e1 := HB1d.out
  unfold Bl at e0 e1
  rw [hw4] at e1
  have Hw4 := hide hw4
  clear hw4 hfs HL3 HI3 HF3 HB0c HIs Hs2 HB1c
  go_wp2_with (first
    | (refine wpList_store_at rfl 28 _ _ rfl (w.heap.size + 1) 13 #[.int .i64 knum, .int .i64 kkind, .int .i64 kby, .int .i64 kdl, .int .i64 kto, .int .i64 kwant, .int .u64 (kpr : Int), .int .u64 (krs : Int), .int .u64 (kst : Int), .int .i64 kof, .slice L xn cl] rfl rfl 47 _ #[.int .i64 rid, .int .i64 kind, .string str, .int .i64 to_, .int .u64 (co : Int), .int .i64 item, .int .i64 num, .int .i64 of_, .int .i64 acc, .int .i64 ei, .int .u64 (ec : Int), .int .u64 (ep : Int), .slice B en bc, .int .i64 knum, .int .i64 kkind, .int .i64 kby, .int .i64 kdl, .int .i64 kto, .int .i64 kwant, .int .u64 (kpr : Int), .int .u64 (krs : Int), .int .u64 (kst : Int), .int .i64 kof, .slice L xn cl] e0 (by kernel_rfl) 24 11 rfl rfl (by decide) rfl rfl ?_)
    | (refine wpList_load_at rfl 47 _ rfl (w.heap.size + 1) 0 rfl 47 _ #[.int .i64 rid, .int .i64 kind, .string str, .int .i64 to_, .int .u64 (co : Int), .int .i64 item, .int .i64 num, .int .i64 of_, .int .i64 acc, .int .i64 ei, .int .u64 (ec : Int), .int .u64 (ep : Int), .slice B en bc, .int .i64 knum, .int .i64 kkind, .int .i64 kby, .int .i64 kdl, .int .i64 kto, .int .i64 kwant, .int .u64 (kpr : Int), .int .u64 (krs : Int), .int .u64 (kst : Int), .int .i64 kof, .slice L xn cl] (0, 0) _ e1 Try.underlying47 rfl (by kernel_rfl) rfl ?_))
  clear e0 e1
  rw [← Hw4.out]
  clear Hw4
  obtain ⟨ri, hri⟩ : ∃ ri : KC, ri = ⟨rid, kind, name, to_, co, item, num, of_, ⟨acc, ei, ec, ep, B, en, bc, ews⟩, ⟨knum, kkind, kby, kdl, kto, kwant, kpr, krs, kst, kof, L, xn, cl, rs⟩⟩ := ⟨_, rfl⟩
  have Hri := hide hri
  have hrle : rs.length = kes.length := by rw [Hrl.out]; exact Hkl.out
  have Hlike : Hid (ri.like rr) := by
    show KC.like ri rr
    rw [hri, Hrr.out]
    exact ⟨rfl, rfl, rfl, rfl, rfl, rfl, rfl, rfl, ⟨rfl, rfl, rfl, rfl, rfl⟩, ⟨rfl, rfl, rfl, rfl, rfl, rfl, rfl, rfl, rfl, rfl, hrle, HL4.out.like⟩⟩
  have HAi : Hid (ri.at_ w4) := by
    show KC.at_ w4 ri
    rw [hri]
    exact ⟨⟨HI4.out.sl, hele, HI4.out.cap⟩, LEr.con_at (r := ⟨knum, kkind, kby, kdl, kto, kwant, kpr, krs, kst, kof, X, xn, xc, kes⟩) HL4.out Hrl.out hkle⟩
  clear hri hrle
  obtain ⟨bs, hbs⟩ : ∃ bs, (if rr.ok then rr.form else []) = bs := ⟨_, rfl⟩
  obtain ⟨er, her⟩ : ∃ er, (if rr.ok then 0 else 270) = er := ⟨_, rfl⟩
  have Hb256 : Hid (∀ x ∈ bs, x < 256) := by
    show ∀ x ∈ bs, x < 256
    rw [← hbs]
    split
    · exact KC.form_b HWf.out
    · intro x hx; cases hx
  have HE1 : Hid (∀ w1, Fr (fun _ => False) w4 w1 → Calls Try.prog 19 #[.agg #[.int .i64 rid, .int .i64 kind, .string str, .int .i64 to_, .int .u64 (co : Int), .int .i64 item, .int .i64 num, .int .i64 of_, .int .i64 acc, .int .i64 ei, .int .u64 (ec : Int), .int .u64 (ep : Int), .slice B en bc, .int .i64 knum, .int .i64 kkind, .int .i64 kby, .int .i64 kdl, .int .i64 kto, .int .i64 kwant, .int .u64 (kpr : Int), .int .u64 (krs : Int), .int .u64 (kst : Int), .int .i64 kof, .slice L xn cl]] w1 (PutPost bs er w1)) := fun w1 hf => by
    have h1 := Encode_of w1 ri (HAi.out.quiet hf) (Hlike.out.wf HWf.out) (fun w2 hf2 => HCM.out w2 ri ((HAi.out.quiet hf).quiet hf2))
    rw [Hlike.out.ok, Hlike.out.form, hbs, her, Hri.out] at h1
    rw [← Hstr.out]
    exact h1
  have HE2 : Hid (∀ w1, Fr (fun _ => False) w w1 → Calls Try.prog 20 #[.agg #[.int .i64 rid, .int .i64 kind, .string str, .int .i64 to_, .int .u64 (co : Int), .int .i64 item, .int .i64 num, .int .i64 of_, .int .i64 acc, .int .i64 ei, .int .u64 (ec : Int), .int .u64 (ep : Int), .slice E en ecp, .int .i64 knum, .int .i64 kkind, .int .i64 kby, .int .i64 kdl, .int .i64 kto, .int .i64 kwant, .int .u64 (kpr : Int), .int .u64 (krs : Int), .int .u64 (kst : Int), .int .i64 kof, .slice X xn xc]] w1 (PutPost bs er w1)) := fun w1 hf => by
    have h1 := rEncode_of w1 rr (HAt.out.quiet hf) HWf.out (fun w2 hf2 => HMY.out w2 rr ((HAt.out.quiet hf).quiet hf2) HWf.out)
    rw [hbs, her, Hrr.out] at h1
    rw [← Hstr.out]
    exact h1
  have HE3 : Hid (∀ w1, Fr (fun _ => False) w4 w1 → Calls Try.prog 21 #[.agg #[.int .i64 rid, .int .i64 kind, .string str, .int .i64 to_, .int .u64 (co : Int), .int .i64 item, .int .i64 num, .int .i64 of_, .int .i64 acc, .int .i64 ei, .int .u64 (ec : Int), .int .u64 (ep : Int), .slice B en bc, .int .i64 knum, .int .i64 kkind, .int .i64 kby, .int .i64 kdl, .int .i64 kto, .int .i64 kwant, .int .u64 (kpr : Int), .int .u64 (krs : Int), .int .u64 (kst : Int), .int .i64 kof, .slice L xn cl], .agg #[.int .i64 rid, .int .i64 kind, .string str, .int .i64 to_, .int .u64 (co : Int), .int .i64 item, .int .i64 num, .int .i64 of_, .int .i64 acc, .int .i64 ei, .int .u64 (ec : Int), .int .u64 (ep : Int), .slice E en ecp, .int .i64 knum, .int .i64 kkind, .int .i64 kby, .int .i64 kdl, .int .i64 kto, .int .i64 kwant, .int .u64 (kpr : Int), .int .u64 (krs : Int), .int .u64 (kst : Int), .int .i64 kof, .slice X xn xc]] w1 fun e w' => e = .returned (.bool true) ∧ Fr (fun _ => False) w1 w') := fun w1 hf => by
    have h1 := commandLike_any w1 ri rr Hlike.out (HAi.out.quiet hf) (HAt.out.quiet (HF4.out.trans hf))
    rw [Hri.out, Hrr.out] at h1
    rw [← Hstr.out]
    exact h1
  have HE4 : Hid (∀ w1, Fr (fun _ => False) w4 w1 → Calls Try.prog 16 #[.slice B en bc] w1 fun e w' => e = .returned (.bool true) ∧ w1 = w') := fun w1 hf => marked_any w1 ews B en bc gi hele (HI4.out.fr hf (fun x => x))
  have HE5 : Hid (∀ w1, Fr (fun _ => False) w4 w1 → Calls Try.prog 17 #[.agg #[.int .i64 knum, .int .i64 kkind, .int .i64 kby, .int .i64 kdl, .int .i64 kto, .int .i64 kwant, .int .u64 (kpr : Int), .int .u64 (krs : Int), .int .u64 (kst : Int), .int .i64 kof, .slice L xn cl]] w1 fun e w' => e = .returned (.bool true) ∧ Fr (fun _ => False) w1 w') := fun w1 hf => markedContract_any w1 ⟨knum, kkind, kby, kdl, kto, kwant, kpr, krs, kst, kof, X, xn, xc, kes⟩ L cl rs g hkle Hrl.out (HL4.out.quiet hf)
  obtain ⟨cst, hcst⟩ : ∃ z, costK kind = z := ⟨_, rfl⟩
  have HE6 : Hid (∀ w1, Calls Try.prog 22 #[.agg #[.int .i64 rid, .int .i64 kind, .string str, .int .i64 to_, .int .u64 (co : Int), .int .i64 item, .int .i64 num, .int .i64 of_, .int .i64 acc, .int .i64 ei, .int .u64 (ec : Int), .int .u64 (ep : Int), .slice B en bc, .int .i64 knum, .int .i64 kkind, .int .i64 kby, .int .i64 kdl, .int .i64 kto, .int .i64 kwant, .int .u64 (kpr : Int), .int .u64 (krs : Int), .int .u64 (kst : Int), .int .i64 kof, .slice L xn cl]] w1 fun e w' => e = .returned (.int .i64 cst) ∧ Fr (fun _ => False) w1 w') := fun w1 => by
    have h1 := Cost_any w1 ri
    rw [Hri.out] at h1
    rw [← Hstr.out, ← hcst]
    exact h1
  have HE7 : Hid (∀ w1, Calls Try.prog 23 #[.agg #[.int .i64 rid, .int .i64 kind, .string str, .int .i64 to_, .int .u64 (co : Int), .int .i64 item, .int .i64 num, .int .i64 of_, .int .i64 acc, .int .i64 ei, .int .u64 (ec : Int), .int .u64 (ep : Int), .slice E en ecp, .int .i64 knum, .int .i64 kkind, .int .i64 kby, .int .i64 kdl, .int .i64 kto, .int .i64 kwant, .int .u64 (kpr : Int), .int .u64 (krs : Int), .int .u64 (kst : Int), .int .i64 kof, .slice X xn xc]] w1 fun e w' => e = .returned (.int .i64 cst) ∧ Fr (fun _ => False) w1 w') := fun w1 => by
    have h1 := rCost_any w1 rr
    rw [Hrr.out] at h1
    rw [← Hstr.out, ← hcst]
    exact h1
  clear hbs her HAi Hlike Hri HI4 HL4 HAt HWf Hrr Hstr hele hkle Hkl HF0 Hlt1 Hrl hcst HCM HMY
  refine (HE1.out _ (Fr.refl _ _)).mono ?_
  rintro x w5 ⟨A5, n5, c5, g5, rfl, hO5, -, hf5⟩
  have HF45 := hide hf5
  have HO5 := hide hO5
  have hB0 := HB0d.out.fr hf5 (fun x => x)
  have e0 := hB0
  unfold Bl at e0
  clear hO5 hf5 hB0
  go_wp2_with (refine wpList_load_at rfl 47 _ rfl w.heap.size 0 rfl 47 _ #[.int .i64 rid, .int .i64 kind, .string str, .int .i64 to_, .int .u64 (co : Int), .int .i64 item, .int .i64 num, .int .i64 of_, .int .i64 acc, .int .i64 ei, .int .u64 (ec : Int), .int .u64 (ep : Int), .slice E en ecp, .int .i64 knum, .int .i64 kkind, .int .i64 kby, .int .i64 kdl, .int .i64 kto, .int .i64 kwant, .int .u64 (kpr : Int), .int .u64 (krs : Int), .int .u64 (kst : Int), .int .i64 kof, .slice X xn xc] (0, 0) _ e0 Try.underlying47 rfl (by kernel_rfl) rfl ?_)
  clear e0
  refine (HE2.out _ (HF4.out.trans HF45.out)).mono ?_
  rintro x w6 ⟨A6, n6, c6, g6, rfl, hO6, -, hf6⟩
  have HF46 := hide (HF45.out.trans hf6)
  have hS5 := (HO5.out.fr hf6 (fun _ _ x => x)).sl
  have hS6 := hO6.sl
  have l5 : n5 = bs.length := by have := hS5.1; simpa using this.symm
  have l6 : n6 = bs.length := by have := hS6.1; simpa using this.symm
  obtain rfl : n5 = n6 := l5.trans l6.symm
  have HC1 := hide (num27law_any w6 (er : Int))
  have HC2 := hide (same27_true w6 bs A5 A6 c5 c6 n5 Hb256.out hS5 hS6)
  have e0 := HB0d.out.fr HF46.out (fun x => x)
  have e1 := HB1d.out.fr HF46.out (fun x => x)
  unfold Bl at e0 e1
  clear hf6 hO6 hS5 hS6 l5 l6 HO5 HF45 Hb256 HE1 HE2
  go_wp2_with fail
  refine HC1.out.mono ?_
  rintro x w' ⟨rfl, rfl⟩
  go_wp2_with fail
  refine HC2.out.mono ?_
  rintro x w' ⟨rfl, rfl⟩
  clear HC1 HC2
  go_wp2_with (first
    | (refine wpList_load_at rfl 47 _ rfl (w.heap.size + 1) 0 rfl 47 _ #[.int .i64 rid, .int .i64 kind, .string str, .int .i64 to_, .int .u64 (co : Int), .int .i64 item, .int .i64 num, .int .i64 of_, .int .i64 acc, .int .i64 ei, .int .u64 (ec : Int), .int .u64 (ep : Int), .slice B en bc, .int .i64 knum, .int .i64 kkind, .int .i64 kby, .int .i64 kdl, .int .i64 kto, .int .i64 kwant, .int .u64 (kpr : Int), .int .u64 (krs : Int), .int .u64 (kst : Int), .int .i64 kof, .slice L xn cl] (0, 0) _ e1 Try.underlying47 rfl (by kernel_rfl) rfl ?_)
    | (refine wpList_load_at rfl 47 _ rfl w.heap.size 0 rfl 47 _ #[.int .i64 rid, .int .i64 kind, .string str, .int .i64 to_, .int .u64 (co : Int), .int .i64 item, .int .i64 num, .int .i64 of_, .int .i64 acc, .int .i64 ei, .int .u64 (ec : Int), .int .u64 (ep : Int), .slice E en ecp, .int .i64 knum, .int .i64 kkind, .int .i64 kby, .int .i64 kdl, .int .i64 kto, .int .i64 kwant, .int .u64 (kpr : Int), .int .u64 (krs : Int), .int .u64 (kst : Int), .int .i64 kof, .slice X xn xc] (0, 0) _ e0 Try.underlying47 rfl (by kernel_rfl) rfl ?_))
  clear e0 e1
  refine (HE3.out _ HF46.out).mono ?_
  rintro x w7 ⟨rfl, hf7⟩
  have HF47 := hide (HF46.out.trans hf7)
  have hB1 := HB1d.out.fr HF47.out (fun x => x)
  have d12 := hB1.cell' (i := 12) rfl
  have e1 := hB1
  unfold Bl at e1
  clear hf7 hB1 HF46
  have r12 : (Instr.loadAt 24 (.pointer (some ⟨w.heap.size + 1, 12, none⟩))).run Try.prog w7 = .ok (.slice B en bc) w7 := run_loadAt_one d12
  go_wp2_with fail
  refine (HE4.out _ HF47.out).mono ?_
  rintro x w' ⟨rfl, rfl⟩
  clear d12 r12
  go_wp2_with (refine wpList_load_at rfl 28 _ rfl (w.heap.size + 1) 13 rfl 47 _ #[.int .i64 knum, .int .i64 kkind, .int .i64 kby, .int .i64 kdl, .int .i64 kto, .int .i64 kwant, .int .u64 (kpr : Int), .int .u64 (krs : Int), .int .u64 (kst : Int), .int .i64 kof, .slice L xn cl] (0, 0) _ e1 Try.underlying28 rfl (by kernel_rfl) rfl ?_)
  clear e1
  refine (HE5.out _ HF47.out).mono ?_
  rintro x w8 ⟨rfl, hf8⟩
  have HF48 := hide (HF47.out.trans hf8)
  have HB08 := hide (HB0d.out.fr HF48.out (fun x => x))
  have HB18 := hide (HB1d.out.fr HF48.out (fun x => x))
  clear hf8 HF47 HB0d HB1d
  go_upto_region 8 with fail
  go_cut [1, 2, 5, 81] (fun s1 s2 s5 sv wx => s1 = .int .i64 k2 ∧ s2 = .pointer (some ⟨w.heap.size, 0, none⟩) ∧ s5 = .pointer (some ⟨w.heap.size + 1, 0, none⟩) ∧ sv = .bool false ∧ Hid (Fr (fun _ => False) w8 wx))
  case first =>
   as_aux_lemma =>
     have hn0 : Fr (fun _ => False) w8 w8 := Fr.refl _ _
     have hdr : ∀ w', Fr (fun _ => False) w8 w' → Fr (fun _ => False) w8 w'.drew := fun _ h => h.drew
     have hall5 : ∀ w', Fr (fun _ => False) w8 w' → (Instr.loadAt 47 (.pointer (some ⟨w.heap.size + 1, 0, none⟩))).run Try.prog w' = .ok (.agg #[.int .i64 rid, .int .i64 kind, .string str, .int .i64 to_, .int .u64 (co : Int), .int .i64 item, .int .i64 num, .int .i64 of_, .int .i64 acc, .int .i64 ei, .int .u64 (ec : Int), .int .u64 (ep : Int), .slice B en bc, .int .i64 knum, .int .i64 kkind, .int .i64 kby, .int .i64 kdl, .int .i64 kto, .int .i64 kwant, .int .u64 (kpr : Int), .int .u64 (krs : Int), .int .u64 (kst : Int), .int .i64 kof, .slice L xn cl]) w' := fun w' hf => run_loadAt_at 47 _ 0 47 #[.int .i64 rid, .int .i64 kind, .string str, .int .i64 to_, .int .u64 (co : Int), .int .i64 item, .int .i64 num, .int .i64 of_, .int .i64 acc, .int .i64 ei, .int .u64 (ec : Int), .int .u64 (ep : Int), .slice B en bc, .int .i64 knum, .int .i64 kkind, .int .i64 kby, .int .i64 kdl, .int .i64 kto, .int .i64 kwant, .int .u64 (kpr : Int), .int .u64 (krs : Int), .int .u64 (kst : Int), .int .i64 kof, .slice L xn cl] #[.int .i64 rid, .int .i64 kind, .string str, .int .i64 to_, .int .u64 (co : Int), .int .i64 item, .int .i64 num, .int .i64 of_, .int .i64 acc, .int .i64 ei, .int .u64 (ec : Int), .int .u64 (ep : Int), .slice B en bc, .int .i64 knum, .int .i64 kkind, .int .i64 kby, .int .i64 kdl, .int .i64 kto, .int .i64 kwant, .int .u64 (kpr : Int), .int .u64 (krs : Int), .int .u64 (kst : Int), .int .i64 kof, .slice L xn cl] _ Try.underlying47 rfl (by kernel_rfl) rfl (HB18.out.fr hf (fun x => x))
     have hall2 : ∀ w', Fr (fun _ => False) w8 w' → (Instr.loadAt 47 (.pointer (some ⟨w.heap.size, 0, none⟩))).run Try.prog w' = .ok (.agg #[.int .i64 rid, .int .i64 kind, .string str, .int .i64 to_, .int .u64 (co : Int), .int .i64 item, .int .i64 num, .int .i64 of_, .int .i64 acc, .int .i64 ei, .int .u64 (ec : Int), .int .u64 (ep : Int), .slice E en ecp, .int .i64 knum, .int .i64 kkind, .int .i64 kby, .int .i64 kdl, .int .i64 kto, .int .i64 kwant, .int .u64 (kpr : Int), .int .u64 (krs : Int), .int .u64 (kst : Int), .int .i64 kof, .slice X xn xc]) w' := fun w' hf => run_loadAt_at 47 _ 0 47 #[.int .i64 rid, .int .i64 kind, .string str, .int .i64 to_, .int .u64 (co : Int), .int .i64 item, .int .i64 num, .int .i64 of_, .int .i64 acc, .int .i64 ei, .int .u64 (ec : Int), .int .u64 (ep : Int), .slice E en ecp, .int .i64 knum, .int .i64 kkind, .int .i64 kby, .int .i64 kdl, .int .i64 kto, .int .i64 kwant, .int .u64 (kpr : Int), .int .u64 (krs : Int), .int .u64 (kst : Int), .int .i64 kof, .slice X xn xc] #[.int .i64 rid, .int .i64 kind, .string str, .int .i64 to_, .int .u64 (co : Int), .int .i64 item, .int .i64 num, .int .i64 of_, .int .i64 acc, .int .i64 ei, .int .u64 (ec : Int), .int .u64 (ep : Int), .slice E en ecp, .int .i64 knum, .int .i64 kkind, .int .i64 kby, .int .i64 kdl, .int .i64 kto, .int .i64 kwant, .int .u64 (kpr : Int), .int .u64 (krs : Int), .int .u64 (kst : Int), .int .i64 kof, .slice X xn xc] _ Try.underlying47 rfl (by kernel_rfl) rfl (HB08.out.fr hf (fun x => x))
     have hallk : ∀ w', Fr (fun _ => False) w8 w' → (Instr.loadAt 28 (.pointer (some ⟨w.heap.size + 1, 13, none⟩))).run Try.prog w' = .ok (.agg #[.int .i64 knum, .int .i64 kkind, .int .i64 kby, .int .i64 kdl, .int .i64 kto, .int .i64 kwant, .int .u64 (kpr : Int), .int .u64 (krs : Int), .int .u64 (kst : Int), .int .i64 kof, .slice L xn cl]) w' := fun w' hf => run_loadAt_at 28 _ 13 47 #[.int .i64 rid, .int .i64 kind, .string str, .int .i64 to_, .int .u64 (co : Int), .int .i64 item, .int .i64 num, .int .i64 of_, .int .i64 acc, .int .i64 ei, .int .u64 (ec : Int), .int .u64 (ep : Int), .slice B en bc, .int .i64 knum, .int .i64 kkind, .int .i64 kby, .int .i64 kdl, .int .i64 kto, .int .i64 kwant, .int .u64 (kpr : Int), .int .u64 (krs : Int), .int .u64 (kst : Int), .int .i64 kof, .slice L xn cl] #[.int .i64 knum, .int .i64 kkind, .int .i64 kby, .int .i64 kdl, .int .i64 kto, .int .i64 kwant, .int .u64 (kpr : Int), .int .u64 (krs : Int), .int .u64 (kst : Int), .int .i64 kof, .slice L xn cl] _ Try.underlying28 rfl (by kernel_rfl) rfl (HB18.out.fr hf (fun x => x))
     have hall12 : ∀ w', Fr (fun _ => False) w8 w' → (Instr.loadAt 24 (.pointer (some ⟨w.heap.size + 1, 12, none⟩))).run Try.prog w' = .ok (.slice B en bc) w' := fun w' hf => run_loadAt_one ((HB18.out.fr hf (fun x => x)).cell' (i := 12) rfl)
     go_region_held3 (fun w' => Fr (fun _ => False) w8 w') (first | assumption | exact Fr.drew (by assumption) | go_keep)
       (first
         | (go_at_call 22; refine (HE6.out _).mono ?_; rintro x wA ⟨rfl, hfA⟩; have hn : Fr (fun _ => False) w8 wA := Fr.trans (by first | assumption | exact Fr.drew (by assumption)) hfA)
         | (go_at_call 23; refine (HE7.out _).mono ?_; rintro x wA ⟨rfl, hfA⟩; have hn : Fr (fun _ => False) w8 wA := Fr.trans (by first | assumption | exact Fr.drew (by assumption)) hfA)
         | (go_at_call 21; refine (HE3.out _ (HF48.out.trans (by first | assumption | exact Fr.drew (by assumption)))).mono ?_; rintro x wA ⟨rfl, hfA⟩; have hn : Fr (fun _ => False) w8 wA := Fr.trans (by first | assumption | exact Fr.drew (by assumption)) hfA)
         | (go_at_call 16; refine (HE4.out _ (HF48.out.trans (by first | assumption | exact Fr.drew (by assumption)))).mono ?_; rintro x wA ⟨rfl, rfl⟩)
         | (go_at_call 17; refine (HE5.out _ (HF48.out.trans (by first | assumption | exact Fr.drew (by assumption)))).mono ?_; rintro x wA ⟨rfl, hfA⟩; have hn : Fr (fun _ => False) w8 wA := Fr.trans (by first | assumption | exact Fr.drew (by assumption)) hfA))
     go_wp2_with fail
     go_meet
     case rel => exact ⟨rfl, rfl, rfl, rfl, by first | assumption | exact Fr.drew (by assumption)⟩
  case rest =>
  obtain ⟨rfl, rfl, rfl, rfl, hF⟩ := hcut
  obtain ⟨w9, rfl⟩ : ∃ w9, w9 = wc := ⟨_, rfl⟩
  have HF9 : Hid (Fr (fun _ => False) w w9) := HF4.out.trans (HF48.out.trans hF.out)
  clear hF HF4 HF48 HB08 HB18 HE3 HE4 HE5 HE6 HE7
  obtain ⟨cs2, hcs2⟩ : ∃ z, costK k2 = z := ⟨_, rfl⟩
  have HE8 : Hid (∀ w1, Calls Try.prog 22 #[.agg #[.int .i64 0, .int .i64 k2, .string ⟨#[]⟩, .int .i64 0, .int .u64 0, .int .i64 0, .int .i64 0, .int .i64 0, .int .i64 0, .int .i64 0, .int .u64 0, .int .u64 0, .slice none 0 0, .int .i64 0, .int .i64 0, .int .i64 0, .int .i64 0, .int .i64 0, .int .i64 0, .int .u64 0, .int .u64 0, .int .u64 0, .int .i64 0, .slice none 0 0]] w1 fun e w' => e = .returned (.int .i64 cs2) ∧ Fr (fun _ => False) w1 w') := fun w1 => by
    rw [← hcs2]
    exact Cost_any w1 ⟨0, k2, [], 0, 0, 0, 0, 0, ⟨0, 0, 0, 0, none, 0, 0, []⟩, ⟨0, 0, 0, 0, 0, 0, 0, 0, 0, 0, none, 0, 0, []⟩⟩
  have HE9 : Hid (∀ w1, Calls Try.prog 23 #[.agg #[.int .i64 0, .int .i64 k2, .string ⟨#[]⟩, .int .i64 0, .int .u64 0, .int .i64 0, .int .i64 0, .int .i64 0, .int .i64 0, .int .i64 0, .int .u64 0, .int .u64 0, .slice none 0 0, .int .i64 0, .int .i64 0, .int .i64 0, .int .i64 0, .int .i64 0, .int .i64 0, .int .u64 0, .int .u64 0, .int .u64 0, .int .i64 0, .slice none 0 0]] w1 fun e w' => e = .returned (.int .i64 cs2) ∧ Fr (fun _ => False) w1 w') := fun w1 => by
    rw [← hcs2]
    exact rCost_any w1 ⟨0, k2, [], 0, 0, 0, 0, 0, ⟨0, 0, 0, 0, none, 0, 0, []⟩, ⟨0, 0, 0, 0, 0, 0, 0, 0, 0, 0, none, 0, 0, []⟩⟩
  obtain ⟨qv, hqv⟩ : ∃ b, (decide (10 ≤ k2) && decide (k2 ≤ 14)) = b := ⟨_, rfl⟩
  have HQ1 := hide (fun w1 => Query_any w1 k2)
  have HQ2 := hide (fun w1 => rQuery_any w1 k2)
  rw [hqv] at HQ1 HQ2
  clear hqv hcs2
  go_wp2_with fail
  refine (HE8.out _).mono ?_
  rintro x wA ⟨rfl, hfA⟩
  have HFA := hide (HF9.out.trans hfA)
  clear hfA
  go_wp2_with fail
  refine (HE9.out _).mono ?_
  rintro x wB ⟨rfl, hfB⟩
  have HFB := hide (HFA.out.trans hfB)
  clear hfB
  go_wp2_with fail
  refine (HQ1.out _).mono ?_
  rintro x w' ⟨rfl, rfl⟩
  go_wp2_with fail
  refine (HQ2.out _).mono ?_
  rintro x w' ⟨rfl, rfl⟩
  go_wp2_with fail
  go_ret
  exact ⟨rfl, HFB.out.toBelow (Nat.le_refl _) fun _ _ x => x⟩
end Go.Proofs.Ytahhecendjfenaa
