/-
  Texts merged into one, to keep the claim small: Sv1.
-/
import Derived.Test.YtlcjhbemgagchaaMn47
/-
  stream: the chapter's first steps (awake).
-/
namespace Go.Proofs.Ytlcjhbemgagchaa
open Go.RowKit
set_option linter.unusedVariables false
def k4 : KC := { zeroC with kind := 4 }
theorem k4_form : KForm [2, 1, 4] k4 := ⟨by kernel_rfl, ⟨by decide, ⟨by decide, by decide⟩, ⟨by decide, by decide, by decide, fun e h => by cases h⟩, fun x h => by cases h⟩, by kernel_rfl⟩
theorem k4_ver : KVer [2, 1, 4] k4 0 := .inr (.inr ⟨by decide, rfl, k4_form⟩)
theorem first_pcs : Pcs [0, 0] 0 [] 0 false := .short (by decide)
theorem second_pcs : Pcs [0, 0, 3, 2, 1, 4, 0] 0 [⟨k4, 0⟩] 6 false :=
  Pcs.one (bs := [0, 0, 3, 2, 1, 4, 0]) (k := 0) (by decide) (by decide) k4_ver (.short (k := 6) (by decide))
theorem fed_first {l : List PC} {u : Nat} {d : Bool} (h : FedP ([] ++ [0, 0]) 0 false l u d) : l = [] ∧ u = 0 ∧ d = false := by
  rcases h with ⟨-, h⟩ | ⟨h, _⟩
  · obtain ⟨e1, e2, e3⟩ := h.same first_pcs
    cases e3
    exact ⟨rfl, e1, e2⟩
  · cases h
theorem fed_second {l : List PC} {u : Nat} {d : Bool} (h : FedP (([] ++ [0, 0]) ++ [3, 2, 1, 4, 0]) 0 false l u d) : ∃ a : PC, l = [a] ∧ a.like ⟨k4, 0⟩ ∧ u = 6 ∧ d = false := by
  rcases h with ⟨-, h⟩ | ⟨h, _⟩
  · obtain ⟨e1, e2, e3⟩ := h.same second_pcs
    cases e3 with
    | cons h1 h2 =>
      cases h2
      exact ⟨_, rfl, h1, e1, e2⟩
  · cases h
theorem sl_bytes (w : World) (bs : List Nat) : Sl (w.alloc (.cells (bs.map bn).toArray 5)) 1 (some ⟨w.heap.size, 0, none⟩) bs.length (bs.map bn) := by
  refine ⟨by simp, fun _ => ⟨w.heap.size, 0, rfl, fun j u hu => ?_⟩⟩
  have hb := Bl.new w 5 (bs.map bn).toArray
  rw [Nat.zero_add]
  exact hb.cell' (by rw [List.getElem?_toArray]; exact hu)
theorem k4_at (w : World) : k4.at_ w := ⟨(zeroC_own w w).kt.at_.e, (zeroC_own w w).kt.at_.k⟩
set_option maxHeartbeats 2000000 in
set_option maxRecDepth 8000 in
attribute [-go_sem] Go.Instr.loadAt in
theorem awake29_any (w : World) : Calls Try.prog 34 #[] w fun e w' => e = .returned (.bool true) ∧ Fr (fun _ => False) w w' := by
  go_enter Try.func34, Try.ntmps34
  go_wp2_with fail
  refine (newS_any w).mono ?_
  rintro e w1 ⟨rfl, hp, f1⟩
  obtain ⟨p, hpe⟩ : ∃ p, w.heap.size = p := ⟨_, rfl⟩
  simp only [hpe] at hp ⊢
  have hM1 : StM w1 p [] 0 false none := ⟨[], 3, 0, fnL p, none, 0, hp.bl, hp.ow, .inr (.inl ⟨rfl, by decide, Nat.le_refl _, rfl, rfl, rfl, rfl⟩)⟩
  have hf2 : Fr (fun _ => False) w1 (w1.alloc (.cells ([0, 0].map bn).toArray 5)) := (Fr.refl _ _).alloc _
  have hfe := feed_any _ p [] 0 false none (hM1.fr hf2 id (fun _ _ => id)) [0, 0] (some ⟨w1.heap.size, 0, none⟩) 2 2 rfl (by decide) (by decide) (sl_bytes w1 [0, 0])
  have H1 := hide (And.intro f1 hf2)
  clear f1 hf2 hp hM1
  go_wp2_with fail
  refine hfe.mono ?_
  rintro e w2 ⟨l, u, d, B, m, g, sg, rfl, h1, h2, h3, h4, h5⟩
  obtain ⟨rfl, rfl, rfl⟩ := fed_first h1
  obtain rfl : m = 0 := h2.len
  have hf3 : Fr (fun _ => False) w2 (w2.alloc (.cells ([3, 2, 1, 4, 0].map bn).toArray 5)) := (Fr.refl _ _).alloc _
  have hfe2 := feed_any _ p ([] ++ [0, 0]) 0 false sg (h3.fr hf3 id (fun _ _ => id)) [3, 2, 1, 4, 0] (some ⟨w2.heap.size, 0, none⟩) 5 5 rfl (by decide) (by decide) (sl_bytes w2 [3, 2, 1, 4, 0])
  have hF2 : Fr (fun _ => False) w w2 := (H1.out.1.trans H1.out.2).comp h5 (fun x hx e => by
    rcases e with e | e
    · omega
    · cases e)
  have hpw : w.heap.size ≤ p := by omega
  have hsg : ∀ x, sg = some x → w.heap.size ≤ x := fun x e => by have := h4 x e; have := (H1.out.1.trans H1.out.2).size; omega
  have H2 := hide (And.intro hF2 (And.intro hf3 (And.intro hpw hsg)))
  clear hfe h1 h2 h3 h4 h5 hf3 hF2 hpw hsg
  go_wp2_with fail
  refine hfe2.mono ?_
  rintro e w4 ⟨l, u, d, B2, m, g2, sg2, rfl, h1, h2, h3, h4, h5⟩
  obtain ⟨a, rfl, hal, rfl, rfl⟩ := fed_second h1
  obtain rfl : m = 1 := h2.len
  obtain ⟨hF2, hf3, hpw, hsg⟩ := H2.out
  have hF4 : Fr (fun _ => False) w w4 := (hF2.trans hf3).comp h5 (fun x hx e => by
    rcases e with e | e
    · omega
    · have := hsg x e.symm; omega)
  obtain ⟨b, o, rfl⟩ := h2.pr.addr (by decide)
  have lc : ∀ w', Fr (fun _ => False) w4 w' → (Instr.loadAt tCm (.pointer (some ⟨b, o, none⟩))).run Try.prog w' = .ok (.agg #[.int .i64 a.c.id, .int .i64 a.c.kind, .string (strOf a.c.name), .int .i64 a.c.to_, .int .u64 (a.c.co : Int), .int .i64 a.c.item, .int .i64 a.c.num, .int .i64 a.c.of_, .int .i64 a.c.e.acc, .int .i64 a.c.e.item, .int .u64 (a.c.e.co : Int), .int .u64 (a.c.e.pr : Int), .slice a.c.e.A a.c.e.n a.c.e.c, .int .i64 a.c.k.num, .int .i64 a.c.k.kind, .int .i64 a.c.k.by_, .int .i64 a.c.k.dl, .int .i64 a.c.k.to_, .int .i64 a.c.k.want, .int .u64 (a.c.k.pr : Int), .int .u64 (a.c.k.rs : Int), .int .u64 (a.c.k.st : Int), .int .i64 a.c.k.of_, .slice a.c.k.A a.c.k.n a.c.k.c]) w' := fun w' hf => by
    have := (h2.quiet hf).pr.loadC (i := 0) (a := a) rfl
    simpa using this
  have le : ∀ w', Fr (fun _ => False) w4 w' → (Instr.loadAt 32 (.pointer (some ⟨b, o + 24, none⟩))).run Try.prog w' = .ok (.int .i64 0) w' := fun w' hf => by
    have := (h2.quiet hf).pr.err (i := 0) (a := a) rfl
    rw [hal.2] at this
    exact In.run_loadAt_cell _ _ Try.underlying32 rfl (by simpa using this)
  have HN := hide (fun w' => num29_any w' 0)
  have HC := hide (fun w' (hf : Fr (fun _ => False) w4 w') => commandLike29_any w' a.c k4 hal.1 ((h2.quiet hf).pr.rt a (by simp)).at_ (k4_at w'))
  have HW := hide (fun w' (hf : Fr (fun _ => False) w4 w') => waiting_any w' p _ _ _ sg2 (h3.fr hf id (fun _ _ => id)) (by decide))
  have HD := hide (fun w' (hf : Fr (fun _ => False) w4 w') => deaf_any w' p _ _ _ sg2 (h3.fr hf id (fun _ _ => id)))
  have hS : Fr (fun _ => False) w4 w4 := Fr.refl _ _
  have HF := hide hF4
  clear hF2 hf3 hpw hsg hF4 h1 h2 h3 h4 h5 hal hfe2
  have le0 := le w4 (Fr.refl _ _)
  have lc0 := lc w4 (Fr.refl _ _)
  go_wp2_with fail
  refine (HN.out _).mono ?_
  rintro e w' ⟨rfl, rfl⟩
  clear le lc
  go_wp2_with fail
  refine (HC.out _ (Fr.refl _ _)).mono ?_
  rintro e w5 ⟨rfl, hf5⟩
  clear lc0 le0
  go_wp2_with fail
  refine (HW.out _ hf5).mono ?_
  rintro e w6 ⟨rfl, hf6⟩
  have hw1 : waitN (([] ++ [0, 0]) ++ [3, 2, 1, 4, 0]) 6 false = 1 := rfl
  simp only [hw1]
  go_wp2_with fail
  refine (HD.out _ (hf5.trans hf6)).mono ?_
  rintro e w7 ⟨rfl, rfl⟩
  have HE := hide (HF.out.trans (hf5.trans hf6))
  clear hf5 hf6
  go_wp2_with fail
  go_ret
  exact ⟨rfl, HE.out⟩
end Go.Proofs.Ytlcjhbemgagchaa
