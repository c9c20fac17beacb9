/-
  Texts merged into one, to keep the claim small: PdG.
-/
import Derived.Test.YtlcjhbemgagchaaMc22
import Derived.Test.YtlcjhbemgagchaaMc18
import Derived.Test.YtlcjhbemgagchaaMc3
import Derived.Test.YtlcjhbemgagchaaMc14
import Derived.Deep.RegionLaw
/-
  proto, the document's way: a contract. (printed by pr_rcon.py)
-/
namespace Go.Proofs.Ytlcjhbemgagchaa
open Go.RowKit
set_option linter.unusedVariables false
set_option linter.unusedSimpArgs false
abbrev tCoR : TypeId := 29
/-- An entry that can be read; its wishes lie among numbers. -/
def REnt (w : World) (q : ER) : Prop := q.at_ w ∧ ∀ b o, q.A = some ⟨b, o, none⟩ → Typed w b 3
theorem REnt.frt {w w' : World} {q : ER} (h : REnt w q) {S : Nat → Prop} (hf : Fr S w w') (hS : ∀ x, Typed w x 3 → ¬ S x) : REnt w' q :=
  ⟨⟨h.1.sl.fr (B := 0) hf fun b ⟨o, e⟩ _ => hS b (h.2 b o e), h.1.le, h.1.cap⟩, fun b o e => (h.2 b o e).fr hf (hS b (h.2 b o e))⟩
theorem REnt.row {w : World} {q : ER} (h : REnt w q) {k : Nat} {t : TypeId} (hk : Typed w k t) (ht : t ≠ 3) (new : Array Value) : REnt (w.setRow k new) q := h.frt (Fr.row new) fun x hx e => by subst e; exact ht (hk.same hx)
theorem REnt.quiet {w w' : World} {q : ER} (h : REnt w q) (hf : Fr (fun _ => False) w w') : REnt w' q := h.frt hf fun _ _ => id
/-- A contract that can be read, likewise. -/
structure RCon (w : World) (q : CR) : Prop where
  len : q.n = q.es.length
  ow : ∃ g, Ow w tEnt 5 q.A q.n q.c (q.es.flatMap ER.cells) g
  le : q.n ≤ 17
  es : ∀ e ∈ q.es, REnt w e
theorem RCon.frt {w w' : World} {q : CR} (h : RCon w q) {S : Nat → Prop} (hf : Fr S w w') (h1 : ∀ x, Typed w x tEnt → ¬ S x) (hS : ∀ x, Typed w x 3 → ¬ S x) : RCon w' q := by
  obtain ⟨g, hg⟩ := h.ow
  exact ⟨h.len, ⟨g, hg.fr hf fun x e => h1 x (hg.typed x e)⟩, h.le, fun e he => (h.es e he).frt hf hS⟩
theorem RCon.row {w : World} {q : CR} (h : RCon w q) {k : Nat} {t : TypeId} (hk : Typed w k t) (h1 : t ≠ tEnt) (h2 : t ≠ 3) (new : Array Value) : RCon (w.setRow k new) q := h.frt (Fr.row new) (fun x hx e => by subst e; exact h1 (hk.same hx)) (fun x hx e => by subst e; exact h2 (hk.same hx))
theorem RCon.quiet {w w' : World} {q : CR} (h : RCon w q) (hf : Fr (fun _ => False) w w') : RCon w' q := h.frt hf (fun _ _ => id) (fun _ _ => id)
theorem RCon.at_ {w : World} {q : CR} (h : RCon w q) : q.at_ w := by
  obtain ⟨g, hg⟩ := h.ow
  have := hg.cap
  unfold maxLen at this
  have := h.le
  exact ⟨hg.sl, by omega, by omega, fun e he => (h.es e he).1⟩
def LikeT (es : List ER) (vs : List (List Nat)) : Prop := es.length = vs.length ∧ ∀ i (h : i < es.length) (h' : i < vs.length), (es[i]).like (entS vs[i])
theorem LikeT.snoc {es : List ER} {vs : List (List Nat)} (h : LikeT es vs) {q : ER} {v : List Nat} (hq : q.like (entS v)) : LikeT (es ++ [q]) (vs ++ [v]) := by
  refine ⟨by simp [h.1], fun i hi hi' => ?_⟩
  by_cases hlt : i < es.length
  · rw [List.getElem_append_left hlt, List.getElem_append_left (by rw [← h.1]; exact hlt)]
    exact h.2 i hlt (by rw [← h.1]; exact hlt)
  · have e : i = es.length := by simp at hi; omega
    subst e
    rw [List.getElem_append_right (by omega), List.getElem_append_right (by rw [h.1]; omega)]
    simpa [h.1] using hq
set_option maxHeartbeats 8000000 in
set_option maxRecDepth 8000 in
attribute [-go_sem] Go.Instr.loadAt Go.Instr.storeAt in
theorem rreadContract_any (w : World) (xs : List Nat) (A : Option Addr) (n c : Nat) (h : RB w xs A n c) :
    Calls Try.prog 89 #[.slice A n c] w fun e w' => ∃ q : CR, e = .returned (.agg #[.int .i64 q.num, .int .i64 q.kind, .int .i64 q.by_, .int .i64 q.dl, .int .i64 q.to_, .int .i64 q.want, .int .u64 (q.pr : Int), .int .u64 (q.rs : Int), .int .u64 (q.st : Int), .int .i64 q.of_, .slice q.A q.n q.c]) ∧ Hid (q.like (conS xs) ∧ RCon w' q) ∧ Fr (fun _ => False) w w' := by
  obtain ⟨j0, hj, hj0, hj1, hj2⟩ := info_parts infoEnt
  have Hh := hide h
  clear h
  obtain ⟨n1, hn1⟩ : ∃ a, smallS xs 7 = a := ⟨_, rfl⟩
  obtain ⟨n2, hn2⟩ : ∃ a, smallS xs 2 = a := ⟨_, rfl⟩
  obtain ⟨n3, hn3⟩ : ∃ a, smallS xs 20 = a := ⟨_, rfl⟩
  obtain ⟨n4, hn4⟩ : ∃ a, smallS xs 13 = a := ⟨_, rfl⟩
  obtain ⟨n5, hn5⟩ : ∃ a, smallS xs 4 = a := ⟨_, rfl⟩
  obtain ⟨n6, hn6⟩ : ∃ a, smallS xs 14 = a := ⟨_, rfl⟩
  obtain ⟨n7, hn7⟩ : ∃ a, smallS xs 8 = a := ⟨_, rfl⟩
  obtain ⟨p8, hp8⟩ : ∃ a, bigS xs 10 = a := ⟨_, rfl⟩
  obtain ⟨p9, hp9⟩ : ∃ a, bigS xs 15 = a := ⟨_, rfl⟩
  obtain ⟨p10, hp10⟩ : ∃ a, bigS xs 16 = a := ⟨_, rfl⟩
  have K1 : Hid (∀ w1, Fr (fun _ => False) w w1 → Calls Try.prog 86 #[.slice A n c, .int .i64 7] w1 fun e w' => e = .returned (.int .i64 n1) ∧ Fr (fun _ => False) w1 w') := fun w1 hf => by rw [← hn1]; exact rsmall_any w1 xs A n c (Hh.out.quiet hf) 7
  have K2 : Hid (∀ w1, Fr (fun _ => False) w w1 → Calls Try.prog 86 #[.slice A n c, .int .i64 2] w1 fun e w' => e = .returned (.int .i64 n2) ∧ Fr (fun _ => False) w1 w') := fun w1 hf => by rw [← hn2]; exact rsmall_any w1 xs A n c (Hh.out.quiet hf) 2
  have K3 : Hid (∀ w1, Fr (fun _ => False) w w1 → Calls Try.prog 86 #[.slice A n c, .int .i64 20] w1 fun e w' => e = .returned (.int .i64 n3) ∧ Fr (fun _ => False) w1 w') := fun w1 hf => by rw [← hn3]; exact rsmall_any w1 xs A n c (Hh.out.quiet hf) 20
  have K4 : Hid (∀ w1, Fr (fun _ => False) w w1 → Calls Try.prog 86 #[.slice A n c, .int .i64 13] w1 fun e w' => e = .returned (.int .i64 n4) ∧ Fr (fun _ => False) w1 w') := fun w1 hf => by rw [← hn4]; exact rsmall_any w1 xs A n c (Hh.out.quiet hf) 13
  have K5 : Hid (∀ w1, Fr (fun _ => False) w w1 → Calls Try.prog 86 #[.slice A n c, .int .i64 4] w1 fun e w' => e = .returned (.int .i64 n5) ∧ Fr (fun _ => False) w1 w') := fun w1 hf => by rw [← hn5]; exact rsmall_any w1 xs A n c (Hh.out.quiet hf) 4
  have K6 : Hid (∀ w1, Fr (fun _ => False) w w1 → Calls Try.prog 86 #[.slice A n c, .int .i64 14] w1 fun e w' => e = .returned (.int .i64 n6) ∧ Fr (fun _ => False) w1 w') := fun w1 hf => by rw [← hn6]; exact rsmall_any w1 xs A n c (Hh.out.quiet hf) 14
  have K7 : Hid (∀ w1, Fr (fun _ => False) w w1 → Calls Try.prog 86 #[.slice A n c, .int .i64 8] w1 fun e w' => e = .returned (.int .i64 n7) ∧ Fr (fun _ => False) w1 w') := fun w1 hf => by rw [← hn7]; exact rsmall_any w1 xs A n c (Hh.out.quiet hf) 8
  have K8 : Hid (∀ w1, Fr (fun _ => False) w w1 → Calls Try.prog 85 #[.slice A n c, .int .i64 10] w1 fun e w' => e = .returned (.int .u64 (p8 : Int)) ∧ Fr (fun _ => False) w1 w') := fun w1 hf => by rw [← hp8]; exact rbig_any w1 xs A n c (Hh.out.quiet hf) 10
  have K9 : Hid (∀ w1, Fr (fun _ => False) w w1 → Calls Try.prog 85 #[.slice A n c, .int .i64 15] w1 fun e w' => e = .returned (.int .u64 (p9 : Int)) ∧ Fr (fun _ => False) w1 w') := fun w1 hf => by rw [← hp9]; exact rbig_any w1 xs A n c (Hh.out.quiet hf) 15
  have K10 : Hid (∀ w1, Fr (fun _ => False) w w1 → Calls Try.prog 85 #[.slice A n c, .int .i64 16] w1 fun e w' => e = .returned (.int .u64 (p10 : Int)) ∧ Fr (fun _ => False) w1 w') := fun w1 hf => by rw [← hp10]; exact rbig_any w1 xs A n c (Hh.out.quiet hf) 16
  have HCS : Hid (conS xs = ⟨n1, n2, n3, n4, n5, n6, p8, p9, p10, n7, none, 0, 0, ((itemsV (saidS xs 21)).take 17).map entS⟩) := by show _ = _; unfold conS; rw [hn1, hn2, hn3, hn4, hn5, hn6, hn7, hp8, hp9, hp10]
  have HB : Hid (Bl (w.alloc (.cells #[.int .i64 0, .int .i64 0, .int .i64 0, .int .i64 0, .int .i64 0, .int .i64 0, .int .u64 0, .int .u64 0, .int .u64 0, .int .i64 0, .slice none 0 0] tCoR)) w.heap.size tCoR #[.int .i64 0, .int .i64 0, .int .i64 0, .int .i64 0, .int .i64 0, .int .i64 0, .int .u64 0, .int .u64 0, .int .u64 0, .int .i64 0, .slice none 0 0]) := Bl.new _ _ _
  have G0 : Hid (Fr (fun _ => False) w (w.alloc (.cells #[.int .i64 0, .int .i64 0, .int .i64 0, .int .i64 0, .int .i64 0, .int .i64 0, .int .u64 0, .int .u64 0, .int .u64 0, .int .i64 0, .slice none 0 0] tCoR))) := by show Fr _ _ _; (repeat (first | with_reducible exact Fr.refl _ _ | with_reducible assumption | with_reducible refine Fr.drew ?_ | with_reducible refine Fr.drewN ?_ _ | with_reducible refine Fr.alloc ?_ _ | with_reducible refine Fr.setIn ?_ (by first | exact Or.inl rfl | exact Or.inr (by simp; done) | exact Or.inr (by simp; omega) | exact Or.inr (by omega)) _))
  clear hn1 hn2 hn3 hn4 hn5 hn6 hn7 hp8 hp9 hp10
  go_enter Try.func89, Try.ntmps89
  go_wp2_with fail
  refine (K1.out _ (G0.out)).mono ?_
  rintro e w1 ⟨rfl, hf1⟩
  have F1 : Hid (Fr (fun _ => False) (w.alloc (.cells #[.int .i64 0, .int .i64 0, .int .i64 0, .int .i64 0, .int .i64 0, .int .i64 0, .int .u64 0, .int .u64 0, .int .u64 0, .int .i64 0, .slice none 0 0] tCoR)) w1) := hf1
  go_wp2_with fail
  refine (K2.out _ (G0.out.trans F1.out)).mono ?_
  rintro e w2 ⟨rfl, hf2⟩
  have F2 : Hid (Fr (fun _ => False) (w.alloc (.cells #[.int .i64 0, .int .i64 0, .int .i64 0, .int .i64 0, .int .i64 0, .int .i64 0, .int .u64 0, .int .u64 0, .int .u64 0, .int .i64 0, .slice none 0 0] tCoR)) w2) := F1.out.trans hf2
  go_wp2_with fail
  refine (K3.out _ (G0.out.trans F2.out)).mono ?_
  rintro e w3 ⟨rfl, hf3⟩
  have F3 : Hid (Fr (fun _ => False) (w.alloc (.cells #[.int .i64 0, .int .i64 0, .int .i64 0, .int .i64 0, .int .i64 0, .int .i64 0, .int .u64 0, .int .u64 0, .int .u64 0, .int .i64 0, .slice none 0 0] tCoR)) w3) := F2.out.trans hf3
  go_wp2_with fail
  refine (K4.out _ (G0.out.trans F3.out)).mono ?_
  rintro e w4 ⟨rfl, hf4⟩
  have F4 : Hid (Fr (fun _ => False) (w.alloc (.cells #[.int .i64 0, .int .i64 0, .int .i64 0, .int .i64 0, .int .i64 0, .int .i64 0, .int .u64 0, .int .u64 0, .int .u64 0, .int .i64 0, .slice none 0 0] tCoR)) w4) := F3.out.trans hf4
  go_wp2_with fail
  refine (K5.out _ (G0.out.trans F4.out)).mono ?_
  rintro e w5 ⟨rfl, hf5⟩
  have F5 : Hid (Fr (fun _ => False) (w.alloc (.cells #[.int .i64 0, .int .i64 0, .int .i64 0, .int .i64 0, .int .i64 0, .int .i64 0, .int .u64 0, .int .u64 0, .int .u64 0, .int .i64 0, .slice none 0 0] tCoR)) w5) := F4.out.trans hf5
  go_wp2_with fail
  refine (K6.out _ (G0.out.trans F5.out)).mono ?_
  rintro e w6 ⟨rfl, hf6⟩
  have F6 : Hid (Fr (fun _ => False) (w.alloc (.cells #[.int .i64 0, .int .i64 0, .int .i64 0, .int .i64 0, .int .i64 0, .int .i64 0, .int .u64 0, .int .u64 0, .int .u64 0, .int .i64 0, .slice none 0 0] tCoR)) w6) := F5.out.trans hf6
  go_wp2_with fail
  refine (K7.out _ (G0.out.trans F6.out)).mono ?_
  rintro e w7 ⟨rfl, hf7⟩
  have F7 : Hid (Fr (fun _ => False) (w.alloc (.cells #[.int .i64 0, .int .i64 0, .int .i64 0, .int .i64 0, .int .i64 0, .int .i64 0, .int .u64 0, .int .u64 0, .int .u64 0, .int .i64 0, .slice none 0 0] tCoR)) w7) := F6.out.trans hf7
  have hst := run_storeAt_at (P := Try.prog) tCoR w7.heap.size 0 tCoR #[.int .i64 0, .int .i64 0, .int .i64 0, .int .i64 0, .int .i64 0, .int .i64 0, .int .u64 0, .int .u64 0, .int .u64 0, .int .i64 0, .slice none 0 0] #[.int .i64 n1, .int .i64 n2, .int .i64 n3, .int .i64 n4, .int .i64 n5, .int .i64 n6, .int .u64 0, .int .u64 0, .int .u64 0, .int .i64 n7, .slice none 0 0] #[.int .i64 n1, .int .i64 n2, .int .i64 n3, .int .i64 n4, .int .i64 n5, .int .i64 n6, .int .u64 0, .int .u64 0, .int .u64 0, .int .i64 n7, .slice none 0 0] (by kernel_rfl) 11 11 rfl rfl (by decide) rfl rfl (Bl.new w7 tCoR #[.int .i64 0, .int .i64 0, .int .i64 0, .int .i64 0, .int .i64 0, .int .i64 0, .int .u64 0, .int .u64 0, .int .u64 0, .int .i64 0, .slice none 0 0])
  go_wp2_with fail
  obtain ⟨B3, hB3⟩ : ∃ B3, w7.heap.size = B3 := ⟨_, rfl⟩
  rw [hB3]
  obtain ⟨v7, hv7⟩ : ∃ v7, (w7.alloc (.cells #[.int .i64 0, .int .i64 0, .int .i64 0, .int .i64 0, .int .i64 0, .int .i64 0, .int .u64 0, .int .u64 0, .int .u64 0, .int .i64 0, .slice none 0 0] tCoR)).setRow B3 #[.int .i64 n1, .int .i64 n2, .int .i64 n3, .int .i64 n4, .int .i64 n5, .int .i64 n6, .int .u64 0, .int .u64 0, .int .u64 0, .int .i64 n7, .slice none 0 0] = v7 := ⟨_, rfl⟩
  rw [hv7]
  have Y7 : Hid (Bl v7 B3 tCoR #[.int .i64 n1, .int .i64 n2, .int .i64 n3, .int .i64 n4, .int .i64 n5, .int .i64 n6, .int .u64 0, .int .u64 0, .int .u64 0, .int .i64 n7, .slice none 0 0]) := by show Bl _ _ _ _; rw [← hv7, ← hB3]; exact (Bl.new _ _ _).setRow _
  have E7 : Hid (Fr (fun _ => False) (w.alloc (.cells #[.int .i64 0, .int .i64 0, .int .i64 0, .int .i64 0, .int .i64 0, .int .i64 0, .int .u64 0, .int .u64 0, .int .u64 0, .int .i64 0, .slice none 0 0] tCoR)) v7) := by show Fr _ _ _; rw [← hv7]; exact Fr.setRow (F7.out.alloc _) (.inr (by have := F7.out.size; omega)) _
  have HBn : Hid (w.heap.size < B3) := by rw [← hB3]; exact (HB.out.fr F7.out id).lt
  clear hst hv7 hB3 F1 F2 F3 F4 F5 F6 F7 hf1 hf2 hf3 hf4 hf5 hf6 hf7 K1 K2 K3 K4 K5 K6 K7
  refine (K8.out _ (G0.out.trans E7.out)).mono ?_
  rintro e w8 ⟨rfl, hf8⟩
  have a8 := run_storeAt_cell (P := Try.prog) 23 (by kernel_rfl) (i := 6) (Y7.out.fr hf8 id) (.int .u64 (p8 : Int)) #[.int .i64 n1, .int .i64 n2, .int .i64 n3, .int .i64 n4, .int .i64 n5, .int .i64 n6, .int .u64 (p8 : Int), .int .u64 0, .int .u64 0, .int .i64 n7, .slice none 0 0] 11 rfl (by decide) rfl rfl rfl
  have Y8 : Hid (Bl (w8.setRow B3 #[.int .i64 n1, .int .i64 n2, .int .i64 n3, .int .i64 n4, .int .i64 n5, .int .i64 n6, .int .u64 (p8 : Int), .int .u64 0, .int .u64 0, .int .i64 n7, .slice none 0 0]) B3 tCoR #[.int .i64 n1, .int .i64 n2, .int .i64 n3, .int .i64 n4, .int .i64 n5, .int .i64 n6, .int .u64 (p8 : Int), .int .u64 0, .int .u64 0, .int .i64 n7, .slice none 0 0]) := (Y7.out.fr hf8 id).setRow _
  have E8 : Hid (Fr (fun _ => False) (w.alloc (.cells #[.int .i64 0, .int .i64 0, .int .i64 0, .int .i64 0, .int .i64 0, .int .i64 0, .int .u64 0, .int .u64 0, .int .u64 0, .int .i64 0, .slice none 0 0] tCoR)) (w8.setRow B3 #[.int .i64 n1, .int .i64 n2, .int .i64 n3, .int .i64 n4, .int .i64 n5, .int .i64 n6, .int .u64 (p8 : Int), .int .u64 0, .int .u64 0, .int .i64 n7, .slice none 0 0])) := Fr.setRow (E7.out.trans hf8) (.inr (by have := HBn.out; simp; omega)) _
  obtain ⟨v8, hv8⟩ : ∃ v, w8.setRow B3 #[.int .i64 n1, .int .i64 n2, .int .i64 n3, .int .i64 n4, .int .i64 n5, .int .i64 n6, .int .u64 (p8 : Int), .int .u64 0, .int .u64 0, .int .i64 n7, .slice none 0 0] = v := ⟨_, rfl⟩
  rw [hv8] at a8 Y8 E8
  go_wp2_with fail
  clear a8 hv8 hf8 Y7 E7 K8
  refine (K9.out _ (G0.out.trans E8.out)).mono ?_
  rintro e w9 ⟨rfl, hf9⟩
  have a9 := run_storeAt_cell (P := Try.prog) 23 (by kernel_rfl) (i := 7) (Y8.out.fr hf9 id) (.int .u64 (p9 : Int)) #[.int .i64 n1, .int .i64 n2, .int .i64 n3, .int .i64 n4, .int .i64 n5, .int .i64 n6, .int .u64 (p8 : Int), .int .u64 (p9 : Int), .int .u64 0, .int .i64 n7, .slice none 0 0] 11 rfl (by decide) rfl rfl rfl
  have Y9 : Hid (Bl (w9.setRow B3 #[.int .i64 n1, .int .i64 n2, .int .i64 n3, .int .i64 n4, .int .i64 n5, .int .i64 n6, .int .u64 (p8 : Int), .int .u64 (p9 : Int), .int .u64 0, .int .i64 n7, .slice none 0 0]) B3 tCoR #[.int .i64 n1, .int .i64 n2, .int .i64 n3, .int .i64 n4, .int .i64 n5, .int .i64 n6, .int .u64 (p8 : Int), .int .u64 (p9 : Int), .int .u64 0, .int .i64 n7, .slice none 0 0]) := (Y8.out.fr hf9 id).setRow _
  have E9 : Hid (Fr (fun _ => False) (w.alloc (.cells #[.int .i64 0, .int .i64 0, .int .i64 0, .int .i64 0, .int .i64 0, .int .i64 0, .int .u64 0, .int .u64 0, .int .u64 0, .int .i64 0, .slice none 0 0] tCoR)) (w9.setRow B3 #[.int .i64 n1, .int .i64 n2, .int .i64 n3, .int .i64 n4, .int .i64 n5, .int .i64 n6, .int .u64 (p8 : Int), .int .u64 (p9 : Int), .int .u64 0, .int .i64 n7, .slice none 0 0])) := Fr.setRow (E8.out.trans hf9) (.inr (by have := HBn.out; simp; omega)) _
  obtain ⟨v9, hv9⟩ : ∃ v, w9.setRow B3 #[.int .i64 n1, .int .i64 n2, .int .i64 n3, .int .i64 n4, .int .i64 n5, .int .i64 n6, .int .u64 (p8 : Int), .int .u64 (p9 : Int), .int .u64 0, .int .i64 n7, .slice none 0 0] = v := ⟨_, rfl⟩
  rw [hv9] at a9 Y9 E9
  go_wp2_with fail
  clear a9 hv9 hf9 Y8 E8 K9
  refine (K10.out _ (G0.out.trans E9.out)).mono ?_
  rintro e w10 ⟨rfl, hf10⟩
  have a10 := run_storeAt_cell (P := Try.prog) 23 (by kernel_rfl) (i := 8) (Y9.out.fr hf10 id) (.int .u64 (p10 : Int)) #[.int .i64 n1, .int .i64 n2, .int .i64 n3, .int .i64 n4, .int .i64 n5, .int .i64 n6, .int .u64 (p8 : Int), .int .u64 (p9 : Int), .int .u64 (p10 : Int), .int .i64 n7, .slice none 0 0] 11 rfl (by decide) rfl rfl rfl
  have Y10 : Hid (Bl (w10.setRow B3 #[.int .i64 n1, .int .i64 n2, .int .i64 n3, .int .i64 n4, .int .i64 n5, .int .i64 n6, .int .u64 (p8 : Int), .int .u64 (p9 : Int), .int .u64 (p10 : Int), .int .i64 n7, .slice none 0 0]) B3 tCoR #[.int .i64 n1, .int .i64 n2, .int .i64 n3, .int .i64 n4, .int .i64 n5, .int .i64 n6, .int .u64 (p8 : Int), .int .u64 (p9 : Int), .int .u64 (p10 : Int), .int .i64 n7, .slice none 0 0]) := (Y9.out.fr hf10 id).setRow _
  have E10 : Hid (Fr (fun _ => False) (w.alloc (.cells #[.int .i64 0, .int .i64 0, .int .i64 0, .int .i64 0, .int .i64 0, .int .i64 0, .int .u64 0, .int .u64 0, .int .u64 0, .int .i64 0, .slice none 0 0] tCoR)) (w10.setRow B3 #[.int .i64 n1, .int .i64 n2, .int .i64 n3, .int .i64 n4, .int .i64 n5, .int .i64 n6, .int .u64 (p8 : Int), .int .u64 (p9 : Int), .int .u64 (p10 : Int), .int .i64 n7, .slice none 0 0])) := Fr.setRow (E9.out.trans hf10) (.inr (by have := HBn.out; simp; omega)) _
  obtain ⟨v10, hv10⟩ : ∃ v, w10.setRow B3 #[.int .i64 n1, .int .i64 n2, .int .i64 n3, .int .i64 n4, .int .i64 n5, .int .i64 n6, .int .u64 (p8 : Int), .int .u64 (p9 : Int), .int .u64 (p10 : Int), .int .i64 n7, .slice none 0 0] = v := ⟨_, rfl⟩
  rw [hv10] at a10 Y10 E10
  go_wp2_with fail
  clear a10 hv10 hf10 Y9 E9 K10
  refine (rsaid_any v10 xs A n c (Hh.out.quiet (G0.out.trans E10.out)) 21).mono ?_
  rintro e w11 ⟨VB, vm, vd, rfl, hR, hf11⟩
  go_wp2_with fail
  refine (itemsV_read hR.out).mono ?_
  rintro e W2 ⟨rs, D, k, dd, IE, d2, p, er, rfl, HT, hf12⟩
  have Y : Hid (Bl W2 B3 tCoR #[.int .i64 n1, .int .i64 n2, .int .i64 n3, .int .i64 n4, .int .i64 n5, .int .i64 n6, .int .u64 (p8 : Int), .int .u64 (p9 : Int), .int .u64 (p10 : Int), .int .i64 n7, .slice none 0 0]) := Y10.out.fr (hf11.trans hf12) id
  have E : Hid (Fr (fun _ => False) w W2) := G0.out.trans (E10.out.trans (hf11.trans hf12))
  have HBR : Hid (Bl W2 w.heap.size tCoR #[.int .i64 0, .int .i64 0, .int .i64 0, .int .i64 0, .int .i64 0, .int .i64 0, .int .u64 0, .int .u64 0, .int .u64 0, .int .i64 0, .slice none 0 0]) := HB.out.fr (E10.out.trans (hf11.trans hf12)) id
  have hk := HT.out.2.2.1
  clear Y10 E10 hf11 hf12 hR Hh HB G0
  go_wp2_with fail
  go_loopw [8] (fun i wr => ∃ (j : Nat) (es : List ER) (L : Option Addr) (cl : Nat) (g : Option Nat), j ≤ k ∧ j ≤ 17 ∧ i = .int .i64 (j : Int) ∧ Hid (LikeT es ((rs.map (·.xs)).take j)) ∧ Hid (j = es.length ∧ Ow wr tEnt 5 L j cl (es.flatMap ER.cells) g ∧ (∀ x, g = some x → W2.heap.size ≤ x) ∧ ∀ q ∈ es, REnt wr q) ∧
    Hid (Bl wr B3 tCoR #[.int .i64 n1, .int .i64 n2, .int .i64 n3, .int .i64 n4, .int .i64 n5, .int .i64 n6, .int .u64 (p8 : Int), .int .u64 (p9 : Int), .int .u64 (p10 : Int), .int .i64 n7, .slice L j cl]) ∧ Hid (Fr (fun x => x = B3) W2 wr)) (fun i _ => k - (intOf i).toNat)
  case atStart => exact ⟨0, [], none, 0, none, Nat.zero_le _, by omega, rfl, ⟨rfl, fun i h => absurd h (by simp)⟩, ⟨rfl, Ow.nil_ _ _ _, (fun x e => by cases e), fun q h => by cases h⟩, Y.out, Fr.refl _ _⟩
  case round =>
    obtain ⟨j, es, L, cl, g, hjk, hj17, rfl, HL, HO, HY, HF⟩ := hrel
    obtain ⟨w9, rfl⟩ : ∃ w9, w9 = wr := ⟨_, rfl⟩
    by_cases hlt : j < k ∧ j ≤ 16
    · obtain ⟨hlt, hle⟩ := hlt
      have hjl : j < rs.length := by rw [← HT.out.2.1]; exact hlt
      obtain ⟨y, hy⟩ : ∃ y, rs[j] = y := ⟨_, rfl⟩
      have hne : ∀ x t, Typed W2 x t → t ≠ tCoR → ¬ x = B3 := fun x t h1 h2 e => by subst e; exact h2 (h1.same Y.out.typed)
      obtain ⟨bD, oD, rfl, c0⟩ := (HT.out.2.2.2.1.fr (B := 0) HF.out (fun b ⟨o, e⟩ _ => hne b _ (HT.out.2.2.2.2.2 b o e) (by decide))).at_ (j := j) (u := y.cell) (by rw [List.getElem?_map, List.getElem?_eq_getElem hjl, hy]; rfl)
      have hyr0 := HT.out.2.2.2.2.1 y (by rw [← hy]; exact List.getElem_mem _)
      have hyr := hyr0.1.frt HF.out (fun b o e => hne b _ (hyr0.2 b o e) (by decide))
      have Hdrop : Hid ((rs.map (·.xs)).take (j + 1) = (rs.map (·.xs)).take j ++ [y.xs]) := by
        show _ = _
        rw [List.take_succ_eq_append_getElem (by rw [List.length_map]; exact hjl), List.getElem_map, hy]
      obtain ⟨ys, YB, ym, yc, yg⟩ := y
      simp only [BS.cell] at c0 hyr Hdrop
      have HE : Hid (∀ w1, Fr (fun _ => False) w9 w1 → Calls Try.prog 121 #[.slice YB ym yc] w1 fun e w' => ∃ q : ER, e = .returned (.agg #[.int .i64 q.acc, .int .i64 q.item, .int .u64 (q.co : Int), .int .u64 (q.pr : Int), .slice q.A q.n q.c]) ∧ Hid (q.like (entS ys) ∧ q.at_ w' ∧ ∀ b o, q.A = some ⟨b, o, none⟩ → Typed w' b 3) ∧ Fr (fun _ => False) w1 w') := fun w1 hf => rreadEntry_any w1 ys YB ym yc (hyr.quiet hf)
      have i0 : (0 : Int) ≤ (j : Int) := by omega
      have i1 : (j : Int) < (k : Int) := by omega
      have i2 : (j : Int) ≤ 16 := by omega
      have q1 : IntKind.i64.wrap ((j : Int) + 1) = ((j + 1 : Nat) : Int) := by rw [IntWalk.i64_in _ (by omega)]; omega
      have c0d : w9.drew.cell? ⟨bD, oD + j, none⟩ = some (.slice YB ym yc) := c0
      have r2 := run_loadAt_cell (P := Try.prog) 22 _ Try.underlying22 rfl c0d
      have y0 : Bl w9.drew B3 tCoR #[.int .i64 n1, .int .i64 n2, .int .i64 n3, .int .i64 n4, .int .i64 n5, .int .i64 n6, .int .u64 (p8 : Int), .int .u64 (p9 : Int), .int .u64 (p10 : Int), .int .i64 n7, .slice L j cl] := HY.out
      have hallE : ∀ w', Bl w' B3 tCoR #[.int .i64 n1, .int .i64 n2, .int .i64 n3, .int .i64 n4, .int .i64 n5, .int .i64 n6, .int .u64 (p8 : Int), .int .u64 (p9 : Int), .int .u64 (p10 : Int), .int .i64 n7, .slice L j cl] → (Instr.loadAt 27 (.pointer (some ⟨B3, 10, none⟩))).run Try.prog w' = .ok (.slice L j cl) w' := fun w' h => run_loadAt_cell 27 _ Try.underlying27 rfl (h.cell' (i := 10) rfl)
      have Hlt := hide (And.intro hlt hle)
      clear c0 c0d hyr hyr0 hy hjl hne hlt hle hjk hj17
      go_wp2_with fail
      go_region_law (first
        | (refine step_append_ow _ (by rfl) _ _ 27 (by rfl) tEnt j0 (.agg #[.int .i64 0, .int .i64 0, .int .u64 0, .int .u64 0, .slice none 0 0]) 5 56 Try.underlying27 hj hj0 hj1 hj2 rfl (by decide) _ _ _ _ _ (by rfl) hOE _ _ _ [.int .i64 q.acc, .int .i64 q.item, .int .u64 (q.co : Int), .int .u64 (q.pr : Int), .slice q.A q.n q.c] (by rfl) hSl (by intro u hu; simp at hu; rcases hu with rfl | rfl | rfl | rfl | rfl <;> rfl) (by unfold maxLen; omega) (by omega) ?_; intro L3 c3 w3 g3 hO3 hf3 hg3; have hfX : Fr (fun x => some x = g) w2 w3 := Fr.comp (Fr.alloc (Fr.refl (fun x => some x = g) w2) _) hf3 (fun _ _ e => e); have y3 : Bl w3 B3 tCoR #[.int .i64 n1, .int .i64 n2, .int .i64 n3, .int .i64 n4, .int .i64 n5, .int .i64 n6, .int .u64 (p8 : Int), .int .u64 (p9 : Int), .int .u64 (p10 : Int), .int .i64 n7, .slice L j cl] := y2.fr hfX (fun e => absurd (y2.typed.same (O2.typed _ e.symm)) (by decide)); have hst := run_storeAt_cell (P := Try.prog) 27 (by kernel_rfl) (i := 10) y3 (.slice L3 (j + 1) c3) #[.int .i64 n1, .int .i64 n2, .int .i64 n3, .int .i64 n4, .int .i64 n5, .int .i64 n6, .int .u64 (p8 : Int), .int .u64 (p9 : Int), .int .u64 (p10 : Int), .int .i64 n7, .slice L3 (j + 1) c3] 11 rfl (by decide) rfl rfl rfl)
        | (go_simp; go_at_call 121; refine (HE.out _ ((Fr.refl _ _).drew)).mono ?_; rintro e w2 ⟨q, rfl, Hq, hf2⟩; have y2 : Bl w2 B3 tCoR #[.int .i64 n1, .int .i64 n2, .int .i64 n3, .int .i64 n4, .int .i64 n5, .int .i64 n6, .int .u64 (p8 : Int), .int .u64 (p9 : Int), .int .u64 (p10 : Int), .int .i64 n7, .slice L j cl] := y0.fr hf2 id; have y2a : ∀ o, Bl (w2.alloc o) B3 tCoR #[.int .i64 n1, .int .i64 n2, .int .i64 n3, .int .i64 n4, .int .i64 n5, .int .i64 n6, .int .u64 (p8 : Int), .int .u64 (p9 : Int), .int .u64 (p10 : Int), .int .i64 n7, .slice L j cl] := fun o => y2.alloc o; have O2 : Ow w2 tEnt 5 L j cl (es.flatMap ER.cells) g := (HO.out.2.1.fr (Fr.trans ((Fr.refl _ _).drew) hf2) (fun _ _ => id)); have hOE := O2.fr ((Fr.refl (fun _ => False) w2).alloc (.cells #[.int .i64 q.acc, .int .i64 q.item, .int .u64 (q.co : Int), .int .u64 (q.pr : Int), .slice q.A q.n q.c] tEnt)) (fun _ _ => id); have hSl := Sl.row w2 #[.int .i64 q.acc, .int .i64 q.item, .int .u64 (q.co : Int), .int .u64 (q.pr : Int), .slice q.A q.n q.c] tEnt 5 1 rfl)
        | fail)
      all_goals
       (go_wp2_with fail
        have hf92 : Fr (fun _ => False) w9 w2 := Fr.trans ((Fr.refl _ _).drew) hf2
        have hlt2 := Hlt.out
        have hsW := HF.out.size
        have hs92 := hf92.size
        have hrow : Fr (fun x => x = B3) w3 (w3.setRow B3 #[.int .i64 n1, .int .i64 n2, .int .i64 n3, .int .i64 n4, .int .i64 n5, .int .i64 n6, .int .u64 (p8 : Int), .int .u64 (p9 : Int), .int .u64 (p10 : Int), .int .i64 n7, .slice L3 (j + 1) c3]) := Fr.row _
        have hE : ∀ p ∈ es ++ [q], REnt (w3.setRow B3 #[.int .i64 n1, .int .i64 n2, .int .i64 n3, .int .i64 n4, .int .i64 n5, .int .i64 n6, .int .u64 (p8 : Int), .int .u64 (p9 : Int), .int .u64 (p10 : Int), .int .i64 n7, .slice L3 (j + 1) c3]) p := fun p hp => by
          have h2 : REnt w2 p := by
            rcases List.mem_append.1 hp with hp | hp
            · exact (HO.out.2.2.2 p hp).quiet hf92
            · obtain rfl := List.mem_singleton.1 hp
              exact ⟨Hq.out.2.1, Hq.out.2.2⟩
          exact (h2.frt hfX (fun x hx e => absurd (hx.same (O2.typed _ e.symm)) (by decide))).row y3.typed (by decide) _
        have hng : ∀ x, g3 = some x → W2.heap.size ≤ x := fun x e => by
          rcases hg3 with e2 | ⟨z, e2, hz⟩
          · rw [e2] at e; exact HO.out.2.2.1 x e
          · rw [e2] at e; cases e
            (try simp at hz); omega
        have hO4 : Ow (w3.setRow B3 #[.int .i64 n1, .int .i64 n2, .int .i64 n3, .int .i64 n4, .int .i64 n5, .int .i64 n6, .int .u64 (p8 : Int), .int .u64 (p9 : Int), .int .u64 (p10 : Int), .int .i64 n7, .slice L3 (j + 1) c3]) tEnt 5 L3 (j + 1) c3 ((es ++ [q]).flatMap ER.cells) g3 := by
          have e : (es ++ [q]).flatMap ER.cells = es.flatMap ER.cells ++ q.cells := by simp
          rw [e]
          exact hO3.fr hrow (fun x e1 e2 => by subst e2; exact absurd ((hO3.typed _ e1).same y3.typed) (by decide))
        have hF4 : Fr (fun x => x = B3) W2 (w3.setRow B3 #[.int .i64 n1, .int .i64 n2, .int .i64 n3, .int .i64 n4, .int .i64 n5, .int .i64 n6, .int .u64 (p8 : Int), .int .u64 (p9 : Int), .int .u64 (p10 : Int), .int .i64 n7, .slice L3 (j + 1) c3]) := ((HF.out.trans (hf92.weak _)).comp hfX fun x hx e => by have := HO.out.2.2.1 x e.symm; omega).trans hrow
        exact ⟨⟨j + 1, es ++ [q], L3, c3, g3, by omega, by omega, by first | rfl | go_num, by show LikeT _ _; rw [Hdrop.out]; exact LikeT.snoc HL.out Hq.out.1, ⟨by rw [List.length_append, ← HO.out.1]; rfl, hO4, hng, hE⟩, y3.setRow _, hF4⟩, by simp [intOf]; try omega⟩)
    · have hT : Hid ((rs.map (·.xs)).take j = (itemsV (saidS xs 21)).take 17) := by
        show _ = _
        rw [← HT.out.1]
        by_cases h17 : j = 17
        · rw [h17]
        · have hk' := HT.out.2.1
          rw [List.take_of_length_le (by rw [List.length_map]; omega), List.take_of_length_le (by rw [List.length_map]; omega)]
      have hBR : Bl w9 w.heap.size tCoR #[.int .i64 0, .int .i64 0, .int .i64 0, .int .i64 0, .int .i64 0, .int .i64 0, .int .u64 0, .int .u64 0, .int .u64 0, .int .i64 0, .slice none 0 0] := HBR.out.fr HF.out (by have := HBn.out; omega)
      have rC := run_loadAt_at (P := Try.prog) tCoR B3 0 tCoR _ #[.int .i64 n1, .int .i64 n2, .int .i64 n3, .int .i64 n4, .int .i64 n5, .int .i64 n6, .int .u64 (p8 : Int), .int .u64 (p9 : Int), .int .u64 (p10 : Int), .int .i64 n7, .slice L j cl] _ Try.underlying29 rfl (by kernel_rfl) rfl HY.out
      have hst := run_storeAt_at (P := Try.prog) tCoR w.heap.size 0 tCoR #[.int .i64 0, .int .i64 0, .int .i64 0, .int .i64 0, .int .i64 0, .int .i64 0, .int .u64 0, .int .u64 0, .int .u64 0, .int .i64 0, .slice none 0 0] #[.int .i64 n1, .int .i64 n2, .int .i64 n3, .int .i64 n4, .int .i64 n5, .int .i64 n6, .int .u64 (p8 : Int), .int .u64 (p9 : Int), .int .u64 (p10 : Int), .int .i64 n7, .slice L j cl] #[.int .i64 n1, .int .i64 n2, .int .i64 n3, .int .i64 n4, .int .i64 n5, .int .i64 n6, .int .u64 (p8 : Int), .int .u64 (p9 : Int), .int .u64 (p10 : Int), .int .i64 n7, .slice L j cl] (by kernel_rfl) 11 11 rfl rfl (by decide) rfl rfl hBR
      have hB9 := hBR.setRow #[.int .i64 n1, .int .i64 n2, .int .i64 n3, .int .i64 n4, .int .i64 n5, .int .i64 n6, .int .u64 (p8 : Int), .int .u64 (p9 : Int), .int .u64 (p10 : Int), .int .i64 n7, .slice L j cl]
      have Hend : Hid (∃ q : CR, (Ending.returned (.agg #[.int .i64 n1, .int .i64 n2, .int .i64 n3, .int .i64 n4, .int .i64 n5, .int .i64 n6, .int .u64 (p8 : Int), .int .u64 (p9 : Int), .int .u64 (p10 : Int), .int .i64 n7, .slice L j cl]) : Ending) = .returned (.agg #[.int .i64 q.num, .int .i64 q.kind, .int .i64 q.by_, .int .i64 q.dl, .int .i64 q.to_, .int .i64 q.want, .int .u64 (q.pr : Int), .int .u64 (q.rs : Int), .int .u64 (q.st : Int), .int .i64 q.of_, .slice q.A q.n q.c]) ∧ Hid (q.like (conS xs) ∧ RCon (w9.setRow w.heap.size #[.int .i64 n1, .int .i64 n2, .int .i64 n3, .int .i64 n4, .int .i64 n5, .int .i64 n6, .int .u64 (p8 : Int), .int .u64 (p9 : Int), .int .u64 (p10 : Int), .int .i64 n7, .slice L j cl]) q) ∧ Fr (fun _ => False) w (w9.setRow w.heap.size #[.int .i64 n1, .int .i64 n2, .int .i64 n3, .int .i64 n4, .int .i64 n5, .int .i64 n6, .int .u64 (p8 : Int), .int .u64 (p9 : Int), .int .u64 (p10 : Int), .int .i64 n7, .slice L j cl])) := by
        refine ⟨⟨n1, n2, n3, n4, n5, n6, p8, p9, p10, n7, L, j, cl, es⟩, rfl, ⟨?_, ?_⟩, ?_⟩
        · rw [HCS.out, ← hT.out]
          refine ⟨rfl, rfl, rfl, rfl, rfl, rfl, rfl, rfl, rfl, rfl, ?_, fun i h h' => ?_⟩
          · show es.length = (List.map entS _).length
            rw [List.length_map]; exact HL.out.1
          · have := HL.out.2 i h (by rw [← HL.out.1]; exact h)
            simpa using this
        · have h1 : RCon w9 ⟨n1, n2, n3, n4, n5, n6, p8, p9, p10, n7, L, j, cl, es⟩ := ⟨HO.out.1, ⟨g, HO.out.2.1⟩, hj17, HO.out.2.2.2⟩
          exact h1.row hBR.typed (by decide) (by decide) _
        · have hs := E.out.size
          have hBn := HBn.out
          have h2 : Fr (fun _ => False) w w9 := E.out.comp HF.out fun x hx e => by omega
          exact h2.setRow (.inr (Nat.le_refl _)) _
      by_cases hjk2 : j < k
      · have i1 : (j : Int) < (k : Int) := by omega
        have i2 : ¬ (j : Int) ≤ 16 := by omega
        have hd := hide hjk2
        clear hjk2 hlt hT HCS hjk
        go_wp2_with fail
        try simp only [Exit.inBlock, Exit.then]
        refine bodyPost_ret (results_cell_row rfl _ _ w.heap.size tCoR #[.int .i64 n1, .int .i64 n2, .int .i64 n3, .int .i64 n4, .int .i64 n5, .int .i64 n6, .int .u64 (p8 : Int), .int .u64 (p9 : Int), .int .u64 (p10 : Int), .int .i64 n7, .slice L j cl] (0, 0) _ rfl hB9 Try.underlying29 rfl (by kernel_rfl)) rfl ?_
        exact Hend.out
      · have i1 : ¬ (j : Int) < (k : Int) := by omega
        clear hjk2 hlt hT HCS hjk
        go_wp2_with fail
        try simp only [Exit.inBlock, Exit.then]
        refine bodyPost_ret (results_cell_row rfl _ _ w.heap.size tCoR #[.int .i64 n1, .int .i64 n2, .int .i64 n3, .int .i64 n4, .int .i64 n5, .int .i64 n6, .int .u64 (p8 : Int), .int .u64 (p9 : Int), .int .u64 (p10 : Int), .int .i64 n7, .slice L j cl] (0, 0) _ rfl hB9 Try.underlying29 rfl (by kernel_rfl)) rfl ?_
        exact Hend.out
end Go.Proofs.Ytlcjhbemgagchaa
