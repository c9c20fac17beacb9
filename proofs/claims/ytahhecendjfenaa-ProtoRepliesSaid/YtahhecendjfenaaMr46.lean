/-
  Texts merged into one, to keep the claim small: PrH.
-/
import Derived.Test.YtahhecendjfenaaRow
import Derived.Test.YtahhecendjfenaaMr35
import Derived.Test.YtahhecendjfenaaMr36
import Derived.Test.YtahhecendjfenaaMr40
import Derived.Test.YtahhecendjfenaaMr41
import Derived.Test.YtahhecendjfenaaMr45
/-
  ProtoReplies: the walk. (printed by pr_replies.py)
-/
namespace Go.Proofs.Ytahhecendjfenaa
open Go.RowKit
set_option linter.unusedVariables false
set_option linter.unusedSimpArgs false
set_option maxHeartbeats 2000000 in
set_option maxRecDepth 8000 in
theorem replies_walk (w : World) (r : RR) (h : r.at_ w) (hwf : r.wf) :
    Calls Try.prog 3 #[.agg #[.int .i64 r.id, .int .i64 r.err, .int .i64 r.num, .int .u64 (r.co : Int), .slice r.A r.n r.c, .string (strOf r.txt), .int .u32 (r.bits : Int), .int .i64 r.k.num, .int .i64 r.k.kind, .int .i64 r.k.by_, .int .i64 r.k.dl, .int .i64 r.k.to_, .int .i64 r.k.want, .int .u64 (r.k.pr : Int), .int .u64 (r.k.rs : Int), .int .u64 (r.k.st : Int), .int .i64 r.k.of_, .slice r.k.A r.k.n r.k.c]] w fun e w' => e = .returned (.bool true) ∧ Below w.heap.size w w' := by
  have HAt := hide h
  have HWf := hide hwf
  have hle := h.le
  have hkle := h.k.le
  have Hkl := hide h.k.len
  obtain ⟨id, err, num, co, A, n, c, items, txt, bits, ⟨knum, kind, kby, kdl, kto, kwant, kpr, krs, kst, kof, X, xn, xc, es⟩⟩ := r
  simp only at HAt HWf hle hkle Hkl ⊢
  obtain ⟨str, hstr⟩ : ∃ str, strOf txt = str := ⟨_, rfl⟩
  rw [hstr]
  have Hstr := hide hstr
  obtain ⟨rr, hrr⟩ : ∃ rr : RR, rr = ⟨id, err, num, co, A, n, c, items, txt, bits, ⟨knum, kind, kby, kdl, kto, kwant, kpr, krs, kst, kof, X, xn, xc, es⟩⟩ := ⟨_, rfl⟩
  have Hrr := hide hrr
  rw [← hrr] at HAt HWf
  clear hrr hstr h hwf
  have HI : Hid (∀ w1, Fr (fun _ => False) w w1 → Calls Try.prog 9 #[.slice A n c] w1 fun e w' => ∃ B d g, e = .returned (.slice B n d) ∧ LI w1 w' B n d items g ∧ Fr (fun _ => False) w1 w') := fun w1 hf => by
    have h1 := (HAt.out.quiet hf).sl
    rw [Hrr.out] at h1
    exact lentInts_any w1 items A n c hle h1
  have HK : Hid (∀ w1, Fr (fun _ => False) w w1 → Calls Try.prog 10 #[.agg #[.int .i64 knum, .int .i64 kind, .int .i64 kby, .int .i64 kdl, .int .i64 kto, .int .i64 kwant, .int .u64 (kpr : Int), .int .u64 (krs : Int), .int .u64 (kst : Int), .int .i64 kof, .slice X xn xc]] w1 fun e w' => ∃ L cl rs g, e = .returned (.agg #[.int .i64 knum, .int .i64 kind, .int .i64 kby, .int .i64 kdl, .int .i64 kto, .int .i64 kwant, .int .u64 (kpr : Int), .int .u64 (krs : Int), .int .u64 (kst : Int), .int .i64 kof, .slice L xn cl]) ∧ rs.length = xn ∧ LEr w1 w' es L (xn + 2) cl rs g mk2) := fun w1 hf => by
    have h1 := (HAt.out.quiet hf).k
    rw [Hrr.out] at h1
    exact lentContract_any w1 _ h1
  have HB0 : Hid (Bl ((w.alloc (.cells #[.int .i64 id, .int .i64 err, .int .i64 num, .int .u64 (co : Int), .slice A n c, .string str, .int .u32 (bits : Int), .int .i64 knum, .int .i64 kind, .int .i64 kby, .int .i64 kdl, .int .i64 kto, .int .i64 kwant, .int .u64 (kpr : Int), .int .u64 (krs : Int), .int .u64 (kst : Int), .int .i64 kof, .slice X xn xc] tRep)).alloc (.cells #[.int .i64 id, .int .i64 err, .int .i64 num, .int .u64 (co : Int), .slice A n c, .string str, .int .u32 (bits : Int), .int .i64 knum, .int .i64 kind, .int .i64 kby, .int .i64 kdl, .int .i64 kto, .int .i64 kwant, .int .u64 (kpr : Int), .int .u64 (krs : Int), .int .u64 (kst : Int), .int .i64 kof, .slice X xn xc] tRep)) w.heap.size tRep #[.int .i64 id, .int .i64 err, .int .i64 num, .int .u64 (co : Int), .slice A n c, .string str, .int .u32 (bits : Int), .int .i64 knum, .int .i64 kind, .int .i64 kby, .int .i64 kdl, .int .i64 kto, .int .i64 kwant, .int .u64 (kpr : Int), .int .u64 (krs : Int), .int .u64 (kst : Int), .int .i64 kof, .slice X xn xc]) := (Bl.new _ _ _).alloc _
  have HB1 : Hid (Bl ((w.alloc (.cells #[.int .i64 id, .int .i64 err, .int .i64 num, .int .u64 (co : Int), .slice A n c, .string str, .int .u32 (bits : Int), .int .i64 knum, .int .i64 kind, .int .i64 kby, .int .i64 kdl, .int .i64 kto, .int .i64 kwant, .int .u64 (kpr : Int), .int .u64 (krs : Int), .int .u64 (kst : Int), .int .i64 kof, .slice X xn xc] tRep)).alloc (.cells #[.int .i64 id, .int .i64 err, .int .i64 num, .int .u64 (co : Int), .slice A n c, .string str, .int .u32 (bits : Int), .int .i64 knum, .int .i64 kind, .int .i64 kby, .int .i64 kdl, .int .i64 kto, .int .i64 kwant, .int .u64 (kpr : Int), .int .u64 (krs : Int), .int .u64 (kst : Int), .int .i64 kof, .slice X xn xc] tRep)) (w.heap.size + 1) tRep #[.int .i64 id, .int .i64 err, .int .i64 num, .int .u64 (co : Int), .slice A n c, .string str, .int .u32 (bits : Int), .int .i64 knum, .int .i64 kind, .int .i64 kby, .int .i64 kdl, .int .i64 kto, .int .i64 kwant, .int .u64 (kpr : Int), .int .u64 (krs : Int), .int .u64 (kst : Int), .int .i64 kof, .slice X xn xc]) := Bl.newAt (by simp)
  have hBa := Bl.new w tRep #[.int .i64 id, .int .i64 err, .int .i64 num, .int .u64 (co : Int), .slice A n c, .string str, .int .u32 (bits : Int), .int .i64 knum, .int .i64 kind, .int .i64 kby, .int .i64 kdl, .int .i64 kto, .int .i64 kwant, .int .u64 (kpr : Int), .int .u64 (krs : Int), .int .u64 (kst : Int), .int .i64 kof, .slice X xn xc]
  have hBb : Bl ((w.alloc (.cells #[.int .i64 id, .int .i64 err, .int .i64 num, .int .u64 (co : Int), .slice A n c, .string str, .int .u32 (bits : Int), .int .i64 knum, .int .i64 kind, .int .i64 kby, .int .i64 kdl, .int .i64 kto, .int .i64 kwant, .int .u64 (kpr : Int), .int .u64 (krs : Int), .int .u64 (kst : Int), .int .i64 kof, .slice X xn xc] tRep)).alloc (.cells #[.int .i64 0, .int .i64 0, .int .i64 0, .int .u64 0, .slice none 0 0, .string ⟨#[]⟩, .int .u32 0, .int .i64 0, .int .i64 0, .int .i64 0, .int .i64 0, .int .i64 0, .int .i64 0, .int .u64 0, .int .u64 0, .int .u64 0, .int .i64 0, .slice none 0 0] tRep)) (w.heap.size + 1) tRep #[.int .i64 0, .int .i64 0, .int .i64 0, .int .u64 0, .slice none 0 0, .string ⟨#[]⟩, .int .u32 0, .int .i64 0, .int .i64 0, .int .i64 0, .int .i64 0, .int .i64 0, .int .i64 0, .int .u64 0, .int .u64 0, .int .u64 0, .int .i64 0, .slice none 0 0] := Bl.newAt (by simp)
  have hset := setRow_alloc2 w (.cells #[.int .i64 id, .int .i64 err, .int .i64 num, .int .u64 (co : Int), .slice A n c, .string str, .int .u32 (bits : Int), .int .i64 knum, .int .i64 kind, .int .i64 kby, .int .i64 kdl, .int .i64 kto, .int .i64 kwant, .int .u64 (kpr : Int), .int .u64 (krs : Int), .int .u64 (kst : Int), .int .i64 kof, .slice X xn xc] tRep) #[.int .i64 0, .int .i64 0, .int .i64 0, .int .u64 0, .slice none 0 0, .string ⟨#[]⟩, .int .u32 0, .int .i64 0, .int .i64 0, .int .i64 0, .int .i64 0, .int .i64 0, .int .i64 0, .int .u64 0, .int .u64 0, .int .u64 0, .int .i64 0, .slice none 0 0] #[.int .i64 id, .int .i64 err, .int .i64 num, .int .u64 (co : Int), .slice A n c, .string str, .int .u32 (bits : Int), .int .i64 knum, .int .i64 kind, .int .i64 kby, .int .i64 kdl, .int .i64 kto, .int .i64 kwant, .int .u64 (kpr : Int), .int .u64 (krs : Int), .int .u64 (kst : Int), .int .i64 kof, .slice X xn xc] tRep
  unfold Bl at hBa hBb
  have a4 := HB0.out.cell' (i := 4) rfl
  go_enter Try.func3, Try.ntmps3
  go_wp2_with (first
    | (refine wpList_load_at rfl tRep _ rfl w.heap.size 0 rfl tRep _ #[.int .i64 id, .int .i64 err, .int .i64 num, .int .u64 (co : Int), .slice A n c, .string str, .int .u32 (bits : Int), .int .i64 knum, .int .i64 kind, .int .i64 kby, .int .i64 kdl, .int .i64 kto, .int .i64 kwant, .int .u64 (kpr : Int), .int .u64 (krs : Int), .int .u64 (kst : Int), .int .i64 kof, .slice X xn xc] (0, 0) _ hBa Try.underlying30 rfl (by kernel_rfl) rfl ?_)
    | (refine wpList_store_at rfl tRep _ _ rfl (w.heap.size + 1) 0 #[.int .i64 id, .int .i64 err, .int .i64 num, .int .u64 (co : Int), .slice A n c, .string str, .int .u32 (bits : Int), .int .i64 knum, .int .i64 kind, .int .i64 kby, .int .i64 kdl, .int .i64 kto, .int .i64 kwant, .int .u64 (kpr : Int), .int .u64 (krs : Int), .int .u64 (kst : Int), .int .i64 kof, .slice X xn xc] rfl rfl tRep _ #[.int .i64 id, .int .i64 err, .int .i64 num, .int .u64 (co : Int), .slice A n c, .string str, .int .u32 (bits : Int), .int .i64 knum, .int .i64 kind, .int .i64 kby, .int .i64 kdl, .int .i64 kto, .int .i64 kwant, .int .u64 (kpr : Int), .int .u64 (krs : Int), .int .u64 (kst : Int), .int .i64 kof, .slice X xn xc] hBb (by kernel_rfl) 18 18 rfl rfl (by decide) rfl rfl ?_; rw [hset]))

  clear a4 hBa hBb hset
  obtain ⟨w0, hw0⟩ : ∃ w0, w0 = ((w.alloc (.cells #[.int .i64 id, .int .i64 err, .int .i64 num, .int .u64 (co : Int), .slice A n c, .string str, .int .u32 (bits : Int), .int .i64 knum, .int .i64 kind, .int .i64 kby, .int .i64 kdl, .int .i64 kto, .int .i64 kwant, .int .u64 (kpr : Int), .int .u64 (krs : Int), .int .u64 (kst : Int), .int .i64 kof, .slice X xn xc] tRep)).alloc (.cells #[.int .i64 id, .int .i64 err, .int .i64 num, .int .u64 (co : Int), .slice A n c, .string str, .int .u32 (bits : Int), .int .i64 knum, .int .i64 kind, .int .i64 kby, .int .i64 kdl, .int .i64 kto, .int .i64 kwant, .int .u64 (kpr : Int), .int .u64 (krs : Int), .int .u64 (kst : Int), .int .i64 kof, .slice X xn xc] tRep)) := ⟨_, rfl⟩
  rw [← hw0] at HB0 HB1 ⊢
  have HF0 : Hid (Fr (fun _ => False) w w0) := by rw [hw0]; exact ((Fr.refl _ _).alloc _).alloc _
  clear hw0
  have Hlt1 : Hid (w.heap.size + 1 < w0.heap.size) := HB1.out.lt
  refine (HI.out _ HF0.out).mono ?_
  rintro e w1 ⟨B, d, gi, rfl, hI, hf1⟩
  have HF1 := hide (HF0.out.trans hf1)
  have HI1 := hide hI
  have Hz1 := hide hf1.size
  have HIs := hide (hI.new)
  have HB0' := hide (HB0.out.fr hf1 (fun x => x))
  have HB1' := hide (HB1.out.fr hf1 (fun x => x))
  clear hI hf1 HB0 HB1
  have d4 := HB1'.out.cell' (i := 4) rfl
  have y4 := HB1'.out.free 4
  obtain ⟨w2, hw2⟩ : ∃ w2, w2 = w1.setCell ⟨w.heap.size + 1, 4, none⟩ (.slice B n d) := ⟨_, rfl⟩
  have HB0b : Hid (Bl w2 w.heap.size tRep #[.int .i64 id, .int .i64 err, .int .i64 num, .int .u64 (co : Int), .slice A n c, .string str, .int .u32 (bits : Int), .int .i64 knum, .int .i64 kind, .int .i64 kby, .int .i64 kdl, .int .i64 kto, .int .i64 kwant, .int .u64 (kpr : Int), .int .u64 (krs : Int), .int .u64 (kst : Int), .int .i64 kof, .slice X xn xc]) := by rw [hw2]; exact HB0'.out.far (by simp) _
  have HB1b : Hid (Bl w2 (w.heap.size + 1) tRep #[.int .i64 id, .int .i64 err, .int .i64 num, .int .u64 (co : Int), .slice B n d, .string str, .int .u32 (bits : Int), .int .i64 knum, .int .i64 kind, .int .i64 kby, .int .i64 kdl, .int .i64 kto, .int .i64 kwant, .int .u64 (kpr : Int), .int .u64 (krs : Int), .int .u64 (kst : Int), .int .i64 kof, .slice X xn xc]) := by rw [hw2]; exact HB1'.out.set 4 _
  have hfs : Fr (fun x => x = w.heap.size + 1) w1 w2 := by rw [hw2]; exact Fr.setIn (Fr.refl (fun x => x = w.heap.size + 1) w1) (.inl rfl) _
  have HF2 : Hid (Fr (fun _ => False) w w2) := HF1.out.comp hfs fun x hx e => by omega
  have HI2 : Hid (LI w0 w2 B n d items gi) := HI1.out.fr hfs (by have := HIs.out; have := Hlt1.out; omega)
  have Hs2 : Hid (w0.heap.size ≤ w2.heap.size) := Nat.le_trans Hz1.out hfs.size
  have Hw2 := hide hw2
  have e0 := HB0b.out
  unfold Bl at e0
  rw [hw2] at e0
  clear hw2 hfs HB0' HB1' HF1 HI1
  go_wp2_with (refine wpList_load_at rfl tCon _ rfl w.heap.size 7 rfl tRep _ #[.int .i64 knum, .int .i64 kind, .int .i64 kby, .int .i64 kdl, .int .i64 kto, .int .i64 kwant, .int .u64 (kpr : Int), .int .u64 (krs : Int), .int .u64 (kst : Int), .int .i64 kof, .slice X xn xc] (0, 0) _ e0 Try.underlying28 rfl (by kernel_rfl) rfl ?_)
  clear d4 y4 e0
  rw [← Hw2.out]
  clear Hw2
  refine (HK.out _ HF2.out).mono ?_
  rintro e w3 ⟨L, cl, rs, g, rfl, hrl, hL⟩
  have HF3 := hide (HF2.out.trans hL.fr)
  have HL3 := hide hL
  have Hrl := hide hrl
  have HI3 := hide (HI2.out.fr hL.fr (fun x => x))
  have HB0c := hide (HB0b.out.fr hL.fr (fun x => x))
  have HB1c := hide (HB1b.out.fr hL.fr (fun x => x))
  clear hL hrl HB0b HB1b HF2 HI2
  obtain ⟨w4, hw4⟩ : ∃ w4, w4 = w3.setRow (w.heap.size + 1) #[.int .i64 id, .int .i64 err, .int .i64 num, .int .u64 (co : Int), .slice B n d, .string str, .int .u32 (bits : Int), .int .i64 knum, .int .i64 kind, .int .i64 kby, .int .i64 kdl, .int .i64 kto, .int .i64 kwant, .int .u64 (kpr : Int), .int .u64 (krs : Int), .int .u64 (kst : Int), .int .i64 kof, .slice L xn cl] := ⟨_, rfl⟩
  have HB0d : Hid (Bl w4 w.heap.size tRep #[.int .i64 id, .int .i64 err, .int .i64 num, .int .u64 (co : Int), .slice A n c, .string str, .int .u32 (bits : Int), .int .i64 knum, .int .i64 kind, .int .i64 kby, .int .i64 kdl, .int .i64 kto, .int .i64 kwant, .int .u64 (kpr : Int), .int .u64 (krs : Int), .int .u64 (kst : Int), .int .i64 kof, .slice X xn xc]) := by rw [hw4]; exact HB0c.out.farRow (by simp) _
  have HB1d : Hid (Bl w4 (w.heap.size + 1) tRep #[.int .i64 id, .int .i64 err, .int .i64 num, .int .u64 (co : Int), .slice B n d, .string str, .int .u32 (bits : Int), .int .i64 knum, .int .i64 kind, .int .i64 kby, .int .i64 kdl, .int .i64 kto, .int .i64 kwant, .int .u64 (kpr : Int), .int .u64 (krs : Int), .int .u64 (kst : Int), .int .i64 kof, .slice L xn cl]) := by rw [hw4]; exact HB1c.out.setRow _
  have hfs : Fr (fun x => x = w.heap.size + 1) w3 w4 := by rw [hw4]; exact Fr.row _
  have HF4 : Hid (Fr (fun _ => False) w w4) := HF3.out.comp hfs fun x hx e => by omega
  have HI4 : Hid (LI w0 w4 B n d items gi) := HI3.out.fr hfs (by have := HIs.out; have := Hlt1.out; omega)
  have HL4 : Hid (LEr w w4 es L (xn + 2) cl rs g mk2) := by
    have h3 := HL3.out
    have hs := HF3.out.size
    have hlt := Hlt1.out
    have hs2 := Hs2.out
    have hs0 := HF0.out.size
    exact ⟨h3.le, h3.like, h3.ow.fr hfs (fun b e hb => by have := h3.new b e; omega), fun q hq => by
      obtain ⟨gq, hgq⟩ := h3.li q hq
      have hn := hgq.new
      have h1 := hgq.fr hfs (by omega)
      exact ⟨gq, h1.ow, h1.len, by omega⟩, h3.small, fun b e => by have := h3.new b e; omega, HF4.out⟩
  have e0 := HB1c.out
  have e1 := HB1d.out
  unfold Bl at e0 e1
  rw [hw4] at e1
  have Hw4 := hide hw4
  clear hw4 hfs HL3 HI3 HF3 HB0c HIs Hs2 HB1c
  go_wp2_with (first
    | (go_loud (refine wpList_store_at rfl tCon _ _ rfl (w.heap.size + 1) 7 #[.int .i64 knum, .int .i64 kind, .int .i64 kby, .int .i64 kdl, .int .i64 kto, .int .i64 kwant, .int .u64 (kpr : Int), .int .u64 (krs : Int), .int .u64 (kst : Int), .int .i64 kof, .slice L xn cl] rfl rfl tRep _ #[.int .i64 id, .int .i64 err, .int .i64 num, .int .u64 (co : Int), .slice B n d, .string str, .int .u32 (bits : Int), .int .i64 knum, .int .i64 kind, .int .i64 kby, .int .i64 kdl, .int .i64 kto, .int .i64 kwant, .int .u64 (kpr : Int), .int .u64 (krs : Int), .int .u64 (kst : Int), .int .i64 kof, .slice L xn cl] e0 (by kernel_rfl) 18 11 rfl rfl (by decide) rfl rfl ?_))
    | (refine wpList_load_at rfl tRep _ rfl (w.heap.size + 1) 0 rfl tRep _ #[.int .i64 id, .int .i64 err, .int .i64 num, .int .u64 (co : Int), .slice B n d, .string str, .int .u32 (bits : Int), .int .i64 knum, .int .i64 kind, .int .i64 kby, .int .i64 kdl, .int .i64 kto, .int .i64 kwant, .int .u64 (kpr : Int), .int .u64 (krs : Int), .int .u64 (kst : Int), .int .i64 kof, .slice L xn cl] (0, 0) _ e1 Try.underlying30 rfl (by kernel_rfl) rfl ?_))
  clear e0 e1
  rw [← Hw4.out]
  clear Hw4
  obtain ⟨ri, hri⟩ : ∃ ri : RR, ri = ⟨id, err, num, co, B, n, d, items, txt, bits, ⟨knum, kind, kby, kdl, kto, kwant, kpr, krs, kst, kof, L, xn, cl, rs⟩⟩ := ⟨_, rfl⟩
  have Hri := hide hri
  have hrle : rs.length = es.length := by rw [Hrl.out]; exact Hkl.out
  have Hlike : Hid (ri.like rr) := by
    show RR.like ri rr
    rw [hri, Hrr.out]
    exact ⟨rfl, rfl, rfl, rfl, rfl, rfl, rfl, ⟨rfl, rfl, rfl, rfl, rfl, rfl, rfl, rfl, rfl, rfl, hrle, HL4.out.like⟩⟩
  have HAi : Hid (ri.at_ w4) := by
    show RR.at_ w4 ri
    rw [hri]
    exact ⟨HI4.out.sl, hle, HI4.out.cap, LEr.con_at (r := ⟨knum, kind, kby, kdl, kto, kwant, kpr, krs, kst, kof, X, xn, xc, es⟩) HL4.out Hrl.out hkle⟩
  clear hri hrle
  obtain ⟨bs, hbs⟩ : ∃ bs, (if rr.ok then rr.form else []) = bs := ⟨_, rfl⟩
  obtain ⟨er, her⟩ : ∃ er, (if rr.ok then 0 else 270) = er := ⟨_, rfl⟩
  have Hb256 : Hid (∀ x ∈ bs, x < 256) := by
    show ∀ x ∈ bs, x < 256
    rw [← hbs]
    split
    · exact RR.form_b HWf.out
    · intro x hx; cases hx
  have HE1 : Hid (∀ w1, Fr (fun _ => False) w4 w1 → Calls Try.prog 11 #[.agg #[.int .i64 id, .int .i64 err, .int .i64 num, .int .u64 (co : Int), .slice B n d, .string str, .int .u32 (bits : Int), .int .i64 knum, .int .i64 kind, .int .i64 kby, .int .i64 kdl, .int .i64 kto, .int .i64 kwant, .int .u64 (kpr : Int), .int .u64 (krs : Int), .int .u64 (kst : Int), .int .i64 kof, .slice L xn cl]] w1 (PutPost bs er w1)) := fun w1 hf => by
    have h1 := EncodeReply_any w1 ri (HAi.out.quiet hf) (Hlike.out.wf HWf.out)
    rw [Hlike.out.ok, Hlike.out.form, hbs, her, Hri.out] at h1
    rw [← Hstr.out]
    exact h1
  have HE2 : Hid (∀ w1, Fr (fun _ => False) w w1 → Calls Try.prog 12 #[.agg #[.int .i64 id, .int .i64 err, .int .i64 num, .int .u64 (co : Int), .slice A n c, .string str, .int .u32 (bits : Int), .int .i64 knum, .int .i64 kind, .int .i64 kby, .int .i64 kdl, .int .i64 kto, .int .i64 kwant, .int .u64 (kpr : Int), .int .u64 (krs : Int), .int .u64 (kst : Int), .int .i64 kof, .slice X xn xc]] w1 (PutPost bs er w1)) := fun w1 hf => by
    have h1 := rEncodeReply_any w1 rr (HAt.out.quiet hf) HWf.out
    rw [hbs, her, Hrr.out] at h1
    rw [← Hstr.out]
    exact h1
  have HE3 : Hid (∀ w1, Fr (fun _ => False) w4 w1 → Calls Try.prog 15 #[.agg #[.int .i64 id, .int .i64 err, .int .i64 num, .int .u64 (co : Int), .slice B n d, .string str, .int .u32 (bits : Int), .int .i64 knum, .int .i64 kind, .int .i64 kby, .int .i64 kdl, .int .i64 kto, .int .i64 kwant, .int .u64 (kpr : Int), .int .u64 (krs : Int), .int .u64 (kst : Int), .int .i64 kof, .slice L xn cl], .agg #[.int .i64 id, .int .i64 err, .int .i64 num, .int .u64 (co : Int), .slice A n c, .string str, .int .u32 (bits : Int), .int .i64 knum, .int .i64 kind, .int .i64 kby, .int .i64 kdl, .int .i64 kto, .int .i64 kwant, .int .u64 (kpr : Int), .int .u64 (krs : Int), .int .u64 (kst : Int), .int .i64 kof, .slice X xn xc]] w1 fun e w' => e = .returned (.bool true) ∧ Fr (fun _ => False) w1 w') := fun w1 hf => by
    have h1 := replyLike_any w1 ri rr Hlike.out (HAi.out.quiet hf) (HAt.out.quiet (HF4.out.trans hf))
    rw [Hri.out, Hrr.out] at h1
    rw [← Hstr.out]
    exact h1
  have HE4 : Hid (∀ w1, Fr (fun _ => False) w4 w1 → Calls Try.prog 16 #[.slice B n d] w1 fun e w' => e = .returned (.bool true) ∧ w1 = w') := fun w1 hf => marked_any w1 items B n d gi hle (HI4.out.fr hf (fun x => x))
  have HE5 : Hid (∀ w1, Fr (fun _ => False) w4 w1 → Calls Try.prog 17 #[.agg #[.int .i64 knum, .int .i64 kind, .int .i64 kby, .int .i64 kdl, .int .i64 kto, .int .i64 kwant, .int .u64 (kpr : Int), .int .u64 (krs : Int), .int .u64 (kst : Int), .int .i64 kof, .slice L xn cl]] w1 fun e w' => e = .returned (.bool true) ∧ Fr (fun _ => False) w1 w') := fun w1 hf => markedContract_any w1 ⟨knum, kind, kby, kdl, kto, kwant, kpr, krs, kst, kof, X, xn, xc, es⟩ L cl rs g hkle Hrl.out (HL4.out.quiet hf)
  clear hbs her HAi Hlike Hri HI4 HL4 HAt HWf Hrr Hstr hle hkle Hkl HF0 Hlt1 Hrl
  refine (HE1.out _ (Fr.refl _ _)).mono ?_
  rintro e w5 ⟨A5, n5, c5, g5, rfl, hO5, -, hf5⟩
  have HF45 := hide hf5
  have HO5 := hide hO5
  have hB0 := HB0d.out.fr hf5 (fun x => x)
  have e0 := hB0
  unfold Bl at e0
  clear hO5 hf5 hB0
  go_wp2_with (refine wpList_load_at rfl tRep _ rfl w.heap.size 0 rfl tRep _ #[.int .i64 id, .int .i64 err, .int .i64 num, .int .u64 (co : Int), .slice A n c, .string str, .int .u32 (bits : Int), .int .i64 knum, .int .i64 kind, .int .i64 kby, .int .i64 kdl, .int .i64 kto, .int .i64 kwant, .int .u64 (kpr : Int), .int .u64 (krs : Int), .int .u64 (kst : Int), .int .i64 kof, .slice X xn xc] (0, 0) _ e0 Try.underlying30 rfl (by kernel_rfl) rfl ?_)
  clear e0
  refine (HE2.out _ (HF4.out.trans HF45.out)).mono ?_
  rintro e w6 ⟨A6, n6, c6, g6, rfl, hO6, -, hf6⟩
  have HF46 := hide (HF45.out.trans hf6)
  have hS5 := (HO5.out.fr hf6 (fun _ _ x => x)).sl
  have hS6 := hO6.sl
  have l5 : n5 = bs.length := by have := hS5.1; simpa using this.symm
  have l6 : n6 = bs.length := by have := hS6.1; simpa using this.symm
  obtain rfl : n5 = n6 := l5.trans l6.symm
  have HC1 := hide (num27law_any w6 (er : Int))
  have HC2 := hide (same27_true w6 bs A5 A6 c5 c6 n5 Hb256.out hS5 hS6)
  have e0 := HB0d.out.fr HF46.out (fun x => x)
  have e1 := HB1d.out.fr HF46.out (fun x => x)
  unfold Bl at e0 e1
  clear hf6 hO6 hS5 hS6 l5 l6 HO5 HF45 Hb256 HE1 HE2 HB0d
  go_wp2_with fail
  refine HC1.out.mono ?_
  rintro e w' ⟨rfl, rfl⟩
  go_wp2_with fail
  refine HC2.out.mono ?_
  rintro e w' ⟨rfl, rfl⟩
  clear HC1 HC2
  go_wp2_with (first
    | (refine wpList_load_at rfl tRep _ rfl (w.heap.size + 1) 0 rfl tRep _ #[.int .i64 id, .int .i64 err, .int .i64 num, .int .u64 (co : Int), .slice B n d, .string str, .int .u32 (bits : Int), .int .i64 knum, .int .i64 kind, .int .i64 kby, .int .i64 kdl, .int .i64 kto, .int .i64 kwant, .int .u64 (kpr : Int), .int .u64 (krs : Int), .int .u64 (kst : Int), .int .i64 kof, .slice L xn cl] (0, 0) _ e1 Try.underlying30 rfl (by kernel_rfl) rfl ?_)
    | (refine wpList_load_at rfl tRep _ rfl w.heap.size 0 rfl tRep _ #[.int .i64 id, .int .i64 err, .int .i64 num, .int .u64 (co : Int), .slice A n c, .string str, .int .u32 (bits : Int), .int .i64 knum, .int .i64 kind, .int .i64 kby, .int .i64 kdl, .int .i64 kto, .int .i64 kwant, .int .u64 (kpr : Int), .int .u64 (krs : Int), .int .u64 (kst : Int), .int .i64 kof, .slice X xn xc] (0, 0) _ e0 Try.underlying30 rfl (by kernel_rfl) rfl ?_))
  clear e0 e1
  refine (HE3.out _ HF46.out).mono ?_
  rintro e w7 ⟨rfl, hf7⟩
  have HF47 := hide (HF46.out.trans hf7)
  have hB1 := HB1d.out.fr HF47.out (fun x => x)
  have d4 := hB1.cell' (i := 4) rfl
  have e1 := hB1
  unfold Bl at e1
  clear hf7 hB1 HE3 HF46 HB1d
  go_wp2_with fail
  refine (HE4.out _ HF47.out).mono ?_
  rintro e w' ⟨rfl, rfl⟩
  clear d4
  go_wp2_with (refine wpList_load_at rfl tCon _ rfl (w.heap.size + 1) 7 rfl tRep _ #[.int .i64 knum, .int .i64 kind, .int .i64 kby, .int .i64 kdl, .int .i64 kto, .int .i64 kwant, .int .u64 (kpr : Int), .int .u64 (krs : Int), .int .u64 (kst : Int), .int .i64 kof, .slice L xn cl] (0, 0) _ e1 Try.underlying28 rfl (by kernel_rfl) rfl ?_)
  clear e1
  refine (HE5.out _ HF47.out).mono ?_
  rintro e w8 ⟨rfl, hf8⟩
  have HF8 : Hid (Fr (fun _ => False) w w8) := HF4.out.trans (HF47.out.trans hf8)
  clear hf8
  go_wp2_with fail
  go_ret
  exact ⟨rfl, HF8.out.toBelow (Nat.le_refl _) fun _ _ x => x⟩
end Go.Proofs.Ytahhecendjfenaa
