/-
  Texts merged into one, to keep the claim small: St2, St3.
-/
import Derived.Test.YtlcjhbemgagchaaMn45
import Derived.Test.YtlcjhbemgagchaaMc17
import Derived.Test.YtlcjhbemgagchaaMc13
section
/-
  stream: Ask and Tell, the program's and the reference's, over an Encode that is told. (printed by pr_ask.py)
-/
namespace Go.Proofs.Ytlcjhbemgagchaa
open Go.RowKit
set_option linter.unusedVariables false

set_option maxHeartbeats 1000000 in
set_option maxRecDepth 8000 in
theorem ask_of (w : World) (r : KC) (bs : List Nat) (er : Nat) (hbs : bs.length ≤ 140737488355000) (hE : ∀ w1, Fr (fun _ => False) w w1 → Calls Try.prog 37 #[.agg #[.int .i64 r.id, .int .i64 r.kind, .string (strOf r.name), .int .i64 r.to_, .int .u64 (r.co : Int), .int .i64 r.item, .int .i64 r.num, .int .i64 r.of_, .int .i64 r.e.acc, .int .i64 r.e.item, .int .u64 (r.e.co : Int), .int .u64 (r.e.pr : Int), .slice r.e.A r.e.n r.e.c, .int .i64 r.k.num, .int .i64 r.k.kind, .int .i64 r.k.by_, .int .i64 r.k.dl, .int .i64 r.k.to_, .int .i64 r.k.want, .int .u64 (r.k.pr : Int), .int .u64 (r.k.rs : Int), .int .u64 (r.k.st : Int), .int .i64 r.k.of_, .slice r.k.A r.k.n r.k.c]] w1 (PutPost bs er w1)) :
    Calls Try.prog 18 #[.agg #[.int .i64 r.id, .int .i64 r.kind, .string (strOf r.name), .int .i64 r.to_, .int .u64 (r.co : Int), .int .i64 r.item, .int .i64 r.num, .int .i64 r.of_, .int .i64 r.e.acc, .int .i64 r.e.item, .int .u64 (r.e.co : Int), .int .u64 (r.e.pr : Int), .slice r.e.A r.e.n r.e.c, .int .i64 r.k.num, .int .i64 r.k.kind, .int .i64 r.k.by_, .int .i64 r.k.dl, .int .i64 r.k.to_, .int .i64 r.k.want, .int .u64 (r.k.pr : Int), .int .u64 (r.k.rs : Int), .int .u64 (r.k.st : Int), .int .i64 r.k.of_, .slice r.k.A r.k.n r.k.c]] w (PutPost (fB bs er) (fE bs er) w) := by
  obtain ⟨rid, kind, name, to_, co, item, num, of_, e, k⟩ := r
  simp only at hE ⊢
  obtain ⟨str, hstr⟩ : ∃ str, strOf name = str := ⟨_, rfl⟩
  rw [hstr] at hE ⊢
  clear hstr
  have HE := hide hE
  have hB2 := Bl.new w 31 #[.int .i64 rid, .int .i64 kind, .string str, .int .i64 to_, .int .u64 (co : Int), .int .i64 item, .int .i64 num, .int .i64 of_, .int .i64 e.acc, .int .i64 e.item, .int .u64 (e.co : Int), .int .u64 (e.pr : Int), .slice e.A e.n e.c, .int .i64 k.num, .int .i64 k.kind, .int .i64 k.by_, .int .i64 k.dl, .int .i64 k.to_, .int .i64 k.want, .int .u64 (k.pr : Int), .int .u64 (k.rs : Int), .int .u64 (k.st : Int), .int .i64 k.of_, .slice k.A k.n k.c]
  unfold Bl at hB2
  clear hE
  go_enter Try.func18, Try.ntmps18
  go_wp2_with (refine wpList_load_at rfl 31 _ rfl w.heap.size 0 rfl 31 _ #[.int .i64 rid, .int .i64 kind, .string str, .int .i64 to_, .int .u64 (co : Int), .int .i64 item, .int .i64 num, .int .i64 of_, .int .i64 e.acc, .int .i64 e.item, .int .u64 (e.co : Int), .int .u64 (e.pr : Int), .slice e.A e.n e.c, .int .i64 k.num, .int .i64 k.kind, .int .i64 k.by_, .int .i64 k.dl, .int .i64 k.to_, .int .i64 k.want, .int .u64 (k.pr : Int), .int .u64 (k.rs : Int), .int .u64 (k.st : Int), .int .i64 k.of_, .slice k.A k.n k.c] (0, 0) _ hB2 Try.underlying31 rfl (by kernel_rfl) rfl ?_)
  clear hB2
  refine (HE.out _ (by (repeat (first | with_reducible exact Fr.refl _ _ | with_reducible assumption | with_reducible refine Fr.drew ?_ | with_reducible refine Fr.drewN ?_ _ | with_reducible refine Fr.alloc ?_ _ | with_reducible refine Fr.setIn ?_ (by first | exact Or.inl rfl | exact Or.inr (by simp; done) | exact Or.inr (by simp; omega) | exact Or.inr (by omega)) _)))).mono ?_
  rintro x w2 ⟨A, n, d, g, rfl, hO, hg, hF⟩
  have hsz : w.heap.size ≤ w2.heap.size := by have := hF.size; simp at this; omega
  have hF1 : Fr (fun _ => False) w w2 := Fr.trans (by (repeat (first | with_reducible exact Fr.refl _ _ | with_reducible assumption | with_reducible refine Fr.drew ?_ | with_reducible refine Fr.drewN ?_ _ | with_reducible refine Fr.alloc ?_ _ | with_reducible refine Fr.setIn ?_ (by first | exact Or.inl rfl | exact Or.inr (by simp; done) | exact Or.inr (by simp; omega) | exact Or.inr (by omega)) _))) hF
  clear hg hF HE
  go_wp2_with fail
  refine (framed_any w2 bs er A n d (by simpa using hO.1.symm) (by have := hO.1; simp at this; omega) hO.sl).mono ?_
  rintro e w3 ⟨B, m, d3, g3, rfl, hO3, hg3, hF3⟩
  have HO := hide hO3
  have HG : Hid (∀ b, g3 = some b → w.heap.size ≤ b) := fun b hb => Nat.le_trans hsz (hg3 b hb)
  have HF := hide (hF1.trans hF3)
  clear hO3 hg3 hF3 hF1 hO
  go_wp2_with fail
  go_ret2
  exact ⟨B, m, d3, g3, rfl, HO.out, HG.out, HF.out⟩

end Go.Proofs.Ytlcjhbemgagchaa
end

section
/-
  StreamFrames: the walk, over Ask and Tell that are told. (printed by pr_frames.py)
-/
namespace Go.Proofs.Ytlcjhbemgagchaa
open Go.RowKit
set_option linter.unusedVariables false
theorem num29_any (w : World) (x : Int) : Calls Try.prog 13 #[.int .i64 x] w fun e w' => e = .returned (.int .i64 x) ∧ w = w' := by
  go_enter Try.func13, Try.ntmps13
  go_wp2
  go_ret
  exact ⟨rfl, rfl⟩
/-- What is answered, by the length of the bytes. -/
theorem PutPost.at_len {bs : List Nat} {er : Nat} {w : World} {e : Ending} {w' : World} (h : PutPost bs er w e w') {L : Nat} (hL : bs.length = L) :
    ∃ A c g, e = .returned (.tuple #[.slice A L c, .int .i64 (er : Int)]) ∧ Ow w' 5 1 A L c (bs.map bn) g ∧ (∀ b, g = some b → w.heap.size ≤ b) ∧ Fr (fun _ => False) w w' := by
  obtain ⟨A, n, c, g, he, hO, hg, hF⟩ := h
  have h1 := hO.1
  simp at h1
  obtain rfl : n = L := by omega
  exact ⟨A, c, g, he, hO, hg, hF⟩
end Go.Proofs.Ytlcjhbemgagchaa
end
