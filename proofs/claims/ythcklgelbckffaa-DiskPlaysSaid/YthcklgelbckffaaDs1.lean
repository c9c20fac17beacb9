/-
  DiskPlays: a disk beside the reference's; counts.
-/
import Derived.Test.YthcklgelbckffaaDr7
import Derived.Test.YthcklgelbckffaaDkS
namespace Go.Proofs.Ythcklgelbckffaa
open Go.RowKit
set_option linter.unusedVariables false
set_option linter.unusedSimpArgs false
structure RN (W w : World) (q n : Nat) (G : Nat → Prop) (s : DS) : Prop where
  di : RI w q n G s
  new : ∀ k, G k → W.heap.size ≤ k
/-- Both disks; their blocks are not one another's. -/
structure Two (W w : World) (p q n : Nat) (F G : Nat → Prop) (s r : DS) : Prop where
  dn : DN W w p n F s
  rn : RN W w q n G r
  dis : ∀ k, F k → ¬ G k
section
variable {W w w' : World} {p q n : Nat} {F G : Nat → Prop} {s r s1 : DS}
theorem Two.step (h : Two W w p q n F G s r) (hf : Fr (fun _ => False) w w') : Two W w' p q n F G s r :=
  ⟨h.dn.step hf, ⟨h.rn.di.fr hf (fun _ _ => id), h.rn.new⟩, h.dis⟩
theorem Two.dOut (h : Two W w p q n F G s r) (ho : DOut w p n F s1 w') : ∃ F', Two W w' p q n F' G s1 r ∧ Fr F w w' ∧ ∀ k, k < w.heap.size → F' k → F k := by
  obtain ⟨F', h1, h2, h3⟩ := h.dn.out ho
  exact ⟨F', ⟨h1, ⟨h.rn.di.fr h2 (fun k hk e => h.dis k e hk), h.rn.new⟩, fun k hF hG => h.dis k (h3 k (h.rn.di.lt hG) hF) hG⟩, h2, h3⟩
theorem Two.rOut (h : Two W w p q n F G s r) (ho : ROut w q n G s1 w') : ∃ G', Two W w' p q n F G' s s1 ∧ Fr G w w' ∧ ∀ k, k < w.heap.size → G' k → G k := by
  obtain ⟨G', h1, h2, h3⟩ := ho
  have hs := h.dn.fr.size
  refine ⟨G', ⟨⟨h.dn.di.fr h2 (fun k hk e => h.dis k hk e), h.dn.new, h.dn.fr.comp h2 (fun i hi e => by have := h.rn.new i e; omega)⟩, ⟨h1, fun k hk => ?_⟩, fun k hF hG => h.dis k hF (h3 k (h.dn.di.lt hF) hG)⟩, h2, h3⟩
  by_cases e : k < w.heap.size
  · exact h.rn.new k (h3 k e hk)
  · omega
theorem Two.turn (h : Two W w p q n F G s r) {S : Nat → Prop} (hf : Fr S w w') (h1 : ∀ k, S k → ¬ F k) (h2 : ∀ k, S k → ¬ G k) (h3 : ∀ k, S k → W.heap.size ≤ k) : Two W w' p q n F G s r :=
  ⟨h.dn.turn hf h1 h3, ⟨h.rn.di.fr hf (fun k hk e => h2 k e hk), h.rn.new⟩, h.dis⟩
end
/-- Behind a step of both. -/
def TOut (W w : World) (p q n : Nat) (F G : Nat → Prop) (s1 : DS) (w' : World) : Prop :=
  ∃ F' G', Two W w' p q n F' G' s1 s1 ∧ Fr (fun k => F k ∨ G k) w w' ∧ ∀ k, k < w.heap.size → (F' k ∨ G' k) → (F k ∨ G k)
theorem TOut.quiet {W w w' : World} {p q n : Nat} {F G : Nat → Prop} {s : DS} (h : Two W w p q n F G s s) (hf : Fr (fun _ => False) w w') : TOut W w p q n F G s w' :=
  ⟨F, G, h.step hf, hf.weak _, fun _ _ h => h⟩
theorem counts_any {W w : World} {p q n : Nat} {F G : Nat → Prop} {s : DS} (h : Two W w p q n F G s s) :
    Calls Try.prog 30 #[.pointer (some ⟨p, 0, none⟩), .pointer (some ⟨q, 0, none⟩)] w fun e w' => e = .returned (.bool true) ∧ Fr (fun _ => False) w w' := by
  have H := hide h
  clear h
  go_enter Try.func30, Try.ntmps30
  go_wp2_with fail
  refine (acts_any H.out.dn.di).mono ?_
  rintro e w1 ⟨rfl, hf⟩
  have H1 := hide (H.out.step hf)
  have F1 := hide hf
  clear hf H
  go_wp2_with fail
  refine (racts_any H1.out.rn.di).mono ?_
  rintro e w2 ⟨rfl, hf⟩
  have H2 := hide (H1.out.step hf)
  have F2 := hide (F1.out.trans hf)
  clear hf H1 F1
  go_wp2_with fail
  refine (waiting_any H2.out.dn.di).mono ?_
  rintro e w' ⟨rfl, rfl⟩
  go_wp2_with fail
  refine (rwaiting_any H2.out.rn.di).mono ?_
  rintro e w' ⟨rfl, rfl⟩
  go_wp2_with fail
  refine (power_any H2.out.dn.di).mono ?_
  rintro e w' ⟨rfl, rfl⟩
  obtain ⟨pw, hpw⟩ : ∃ pw, decide (s.fuse ≠ 0) = pw := ⟨_, rfl⟩
  rw [hpw]
  have Hpw := hide hpw
  clear hpw
  go_wp2_with fail
  refine (rpower_any H2.out.rn.di).mono ?_
  rintro e w' ⟨rfl, rfl⟩
  rw [Hpw.out]
  go_wp2_with fail
  refine (sectors_any H2.out.dn.di).mono ?_
  rintro e w' ⟨rfl, rfl⟩
  go_wp2_with fail
  refine (rsectors_any H2.out.rn.di).mono ?_
  rintro e w' ⟨rfl, rfl⟩
  go_wp2_with fail
  go_ret
  exact ⟨rfl, F2.out⟩
theorem counts_nil (w : World) :
    Calls Try.prog 30 #[.pointer none, .pointer none] w fun e w' => e = .returned (.bool true) ∧ Fr (fun _ => False) w w' := by
  go_enter Try.func30, Try.ntmps30
  go_wp2_with fail
  refine (acts_nil w).mono ?_
  rintro e w1 ⟨rfl, hf⟩
  have F1 := hide hf
  clear hf
  go_wp2_with fail
  refine (racts_nil w1).mono ?_
  rintro e w2 ⟨rfl, hf⟩
  have F2 := hide (F1.out.trans hf)
  clear hf F1
  go_wp2_with fail
  refine (waiting_nil w2).mono ?_
  rintro e w' ⟨rfl, rfl⟩
  go_wp2_with fail
  refine (rwaiting_nil w2).mono ?_
  rintro e w' ⟨rfl, rfl⟩
  go_wp2_with fail
  refine (power_nil w2).mono ?_
  rintro e w' ⟨rfl, rfl⟩
  go_wp2_with fail
  refine (rpower_nil w2).mono ?_
  rintro e w' ⟨rfl, rfl⟩
  go_wp2_with fail
  refine (sectors_nil w2).mono ?_
  rintro e w' ⟨rfl, rfl⟩
  go_wp2_with fail
  refine (rsectors_nil w2).mono ?_
  rintro e w' ⟨rfl, rfl⟩
  go_wp2_with fail
  go_ret
  exact ⟨rfl, F2.out⟩
end Go.Proofs.Ythcklgelbckffaa
