/-
  Texts merged into one, to keep the claim small: Sv1, Sv2, Sv3, Sv4.
-/
import Derived.Test.YtlcjhbemgagchaaMh47
import Derived.Deep.CutBlock
section
/-
  stream: the chapter's first steps (awake).
-/
namespace Go.Proofs.Ytlcjhbemgagchaa
open Go.RowKit
set_option linter.unusedVariables false
def k4 : KC := { zeroC with kind := 4 }
theorem k4_form : KForm [2, 1, 4] k4 := ⟨by kernel_rfl, ⟨by decide, ⟨by decide, by decide⟩, ⟨by decide, by decide, by decide, fun e h => by cases h⟩, fun x h => by cases h⟩, by kernel_rfl⟩
theorem k4_ver : KVer [2, 1, 4] k4 0 := .inr (.inr ⟨by decide, rfl, k4_form⟩)
theorem first_pcs : Pcs [0, 0] 0 [] 0 false := .short (by decide)
theorem second_pcs : Pcs [0, 0, 3, 2, 1, 4, 0] 0 [⟨k4, 0⟩] 6 false :=
  Pcs.one (bs := [0, 0, 3, 2, 1, 4, 0]) (k := 0) (by decide) (by decide) k4_ver (.short (k := 6) (by decide))
theorem fed_first {l : List PC} {u : Nat} {d : Bool} (h : FedP ([] ++ [0, 0]) 0 false l u d) : l = [] ∧ u = 0 ∧ d = false := by
  rcases h with ⟨-, h⟩ | ⟨h, _⟩
  · obtain ⟨e1, e2, e3⟩ := h.same first_pcs
    cases e3
    exact ⟨rfl, e1, e2⟩
  · cases h
theorem fed_second {l : List PC} {u : Nat} {d : Bool} (h : FedP (([] ++ [0, 0]) ++ [3, 2, 1, 4, 0]) 0 false l u d) : ∃ a : PC, l = [a] ∧ a.like ⟨k4, 0⟩ ∧ u = 6 ∧ d = false := by
  rcases h with ⟨-, h⟩ | ⟨h, _⟩
  · obtain ⟨e1, e2, e3⟩ := h.same second_pcs
    cases e3 with
    | cons h1 h2 =>
      cases h2
      exact ⟨_, rfl, h1, e1, e2⟩
  · cases h
theorem sl_bytes (w : World) (bs : List Nat) : Sl (w.alloc (.cells (bs.map bn).toArray 5)) 1 (some ⟨w.heap.size, 0, none⟩) bs.length (bs.map bn) := by
  refine ⟨by simp, fun _ => ⟨w.heap.size, 0, rfl, fun j u hu => ?_⟩⟩
  have hb := Bl.new w 5 (bs.map bn).toArray
  rw [Nat.zero_add]
  exact hb.cell' (by rw [List.getElem?_toArray]; exact hu)
theorem k4_at (w : World) : k4.at_ w := ⟨(zeroC_own w w).kt.at_.e, (zeroC_own w w).kt.at_.k⟩
set_option maxHeartbeats 2000000 in
set_option maxRecDepth 8000 in
attribute [-go_sem] Go.Instr.loadAt in
theorem awake29_any (w : World) : Calls Try.prog 34 #[] w fun e w' => e = .returned (.bool true) ∧ Fr (fun _ => False) w w' := by
  go_enter Try.func34, Try.ntmps34
  go_wp2_with fail
  refine (newS_any w).mono ?_
  rintro e w1 ⟨rfl, hp, f1⟩
  obtain ⟨p, hpe⟩ : ∃ p, w.heap.size = p := ⟨_, rfl⟩
  simp only [hpe] at hp ⊢
  have hM1 : StM w1 p [] 0 false none := ⟨[], 3, 0, fnL p, none, 0, hp.bl, hp.ow, .inr (.inl ⟨rfl, by decide, Nat.le_refl _, rfl, rfl, rfl, rfl⟩)⟩
  have hf2 : Fr (fun _ => False) w1 (w1.alloc (.cells ([0, 0].map bn).toArray 5)) := (Fr.refl _ _).alloc _
  have hfe := feed_any _ p [] 0 false none (hM1.fr hf2 id (fun _ _ => id)) [0, 0] (some ⟨w1.heap.size, 0, none⟩) 2 2 rfl (by decide) (by decide) (sl_bytes w1 [0, 0])
  have H1 := hide (And.intro f1 hf2)
  clear f1 hf2 hp hM1
  go_wp2_with fail
  refine hfe.mono ?_
  rintro e w2 ⟨l, u, d, B, m, g, sg, rfl, h1, h2, h3, h4, h5⟩
  obtain ⟨rfl, rfl, rfl⟩ := fed_first h1
  obtain rfl : m = 0 := h2.len
  have hf3 : Fr (fun _ => False) w2 (w2.alloc (.cells ([3, 2, 1, 4, 0].map bn).toArray 5)) := (Fr.refl _ _).alloc _
  have hfe2 := feed_any _ p ([] ++ [0, 0]) 0 false sg (h3.fr hf3 id (fun _ _ => id)) [3, 2, 1, 4, 0] (some ⟨w2.heap.size, 0, none⟩) 5 5 rfl (by decide) (by decide) (sl_bytes w2 [3, 2, 1, 4, 0])
  have hF2 : Fr (fun _ => False) w w2 := (H1.out.1.trans H1.out.2).comp h5 (fun x hx e => by
    rcases e with e | e
    · omega
    · cases e)
  have hpw : w.heap.size ≤ p := by omega
  have hsg : ∀ x, sg = some x → w.heap.size ≤ x := fun x e => by have := h4 x e; have := (H1.out.1.trans H1.out.2).size; omega
  have H2 := hide (And.intro hF2 (And.intro hf3 (And.intro hpw hsg)))
  clear hfe h1 h2 h3 h4 h5 hf3 hF2 hpw hsg
  go_wp2_with fail
  refine hfe2.mono ?_
  rintro e w4 ⟨l, u, d, B2, m, g2, sg2, rfl, h1, h2, h3, h4, h5⟩
  obtain ⟨a, rfl, hal, rfl, rfl⟩ := fed_second h1
  obtain rfl : m = 1 := h2.len
  obtain ⟨hF2, hf3, hpw, hsg⟩ := H2.out
  have hF4 : Fr (fun _ => False) w w4 := (hF2.trans hf3).comp h5 (fun x hx e => by
    rcases e with e | e
    · omega
    · have := hsg x e.symm; omega)
  obtain ⟨b, o, rfl⟩ := h2.pr.addr (by decide)
  have lc : ∀ w', Fr (fun _ => False) w4 w' → (Instr.loadAt tCm (.pointer (some ⟨b, o, none⟩))).run Try.prog w' = .ok (.agg #[.int .i64 a.c.id, .int .i64 a.c.kind, .string (strOf a.c.name), .int .i64 a.c.to_, .int .u64 (a.c.co : Int), .int .i64 a.c.item, .int .i64 a.c.num, .int .i64 a.c.of_, .int .i64 a.c.e.acc, .int .i64 a.c.e.item, .int .u64 (a.c.e.co : Int), .int .u64 (a.c.e.pr : Int), .slice a.c.e.A a.c.e.n a.c.e.c, .int .i64 a.c.k.num, .int .i64 a.c.k.kind, .int .i64 a.c.k.by_, .int .i64 a.c.k.dl, .int .i64 a.c.k.to_, .int .i64 a.c.k.want, .int .u64 (a.c.k.pr : Int), .int .u64 (a.c.k.rs : Int), .int .u64 (a.c.k.st : Int), .int .i64 a.c.k.of_, .slice a.c.k.A a.c.k.n a.c.k.c]) w' := fun w' hf => by
    have := (h2.quiet hf).pr.loadC (i := 0) (a := a) rfl
    simpa using this
  have le : ∀ w', Fr (fun _ => False) w4 w' → (Instr.loadAt 32 (.pointer (some ⟨b, o + 24, none⟩))).run Try.prog w' = .ok (.int .i64 0) w' := fun w' hf => by
    have := (h2.quiet hf).pr.err (i := 0) (a := a) rfl
    rw [hal.2] at this
    exact In.run_loadAt_cell _ _ Try.underlying32 rfl (by simpa using this)
  have HN := hide (fun w' => num29_any w' 0)
  have HC := hide (fun w' (hf : Fr (fun _ => False) w4 w') => commandLike29_any w' a.c k4 hal.1 ((h2.quiet hf).pr.rt a (by simp)).at_ (k4_at w'))
  have HW := hide (fun w' (hf : Fr (fun _ => False) w4 w') => waiting_any w' p _ _ _ sg2 (h3.fr hf id (fun _ _ => id)) (by decide))
  have HD := hide (fun w' (hf : Fr (fun _ => False) w4 w') => deaf_any w' p _ _ _ sg2 (h3.fr hf id (fun _ _ => id)))
  have hS : Fr (fun _ => False) w4 w4 := Fr.refl _ _
  have HF := hide hF4
  clear hF2 hf3 hpw hsg hF4 h1 h2 h3 h4 h5 hal hfe2
  have le0 := le w4 (Fr.refl _ _)
  have lc0 := lc w4 (Fr.refl _ _)
  go_wp2_with fail
  refine (HN.out _).mono ?_
  rintro e w' ⟨rfl, rfl⟩
  clear le lc
  go_wp2_with fail
  refine (HC.out _ (Fr.refl _ _)).mono ?_
  rintro e w5 ⟨rfl, hf5⟩
  clear lc0 le0
  go_wp2_with fail
  refine (HW.out _ hf5).mono ?_
  rintro e w6 ⟨rfl, hf6⟩
  have hw1 : waitN (([] ++ [0, 0]) ++ [3, 2, 1, 4, 0]) 6 false = 1 := rfl
  simp only [hw1]
  go_wp2_with fail
  refine (HD.out _ (hf5.trans hf6)).mono ?_
  rintro e w7 ⟨rfl, rfl⟩
  have HE := hide (HF.out.trans (hf5.trans hf6))
  clear hf5 hf6
  go_wp2_with fail
  go_ret
  exact ⟨rfl, HE.out⟩
end Go.Proofs.Ytlcjhbemgagchaa
end

section
/-
  StreamCuts: the law's alike, where both are the same. (printed by pr_pcs.py)
-/
namespace Go.Proofs.Ytlcjhbemgagchaa
open Go.RowKit
set_option linter.unusedVariables false
end Go.Proofs.Ytlcjhbemgagchaa
end

section
/-
  StreamCuts: plain laws; many rows appended at once.
-/
namespace Go.Proofs.Ytlcjhbemgagchaa
open Go.RowKit
set_option linter.unusedVariables false
theorem Pcs.wait {T : List Nat} {l : List PC} {u : Nat} {d : Bool} (h : Pcs T 0 l u d) : waitN T u d ≤ 514 := by
  rcases h.end_ with ⟨rfl, _⟩ | ⟨rfl, h1⟩
  · show (0 : Nat) ≤ 514; omega
  · show T.length - u ≤ 514
    rcases h1 with h1 | ⟨h1, h2, h3⟩ <;> omega
/-- One byte more tells one piece at most. -/
theorem FedP.one {T : List Nat} {x : Nat} {L l : List PC} {u u' : Nat} {d d' : Bool} (h : Pcs T 0 L u d) (hf : FedP (T ++ [x]) u d l u' d') : l.length ≤ 1 := by
  rcases hf with ⟨rfl, h1⟩ | ⟨rfl, rfl, _⟩
  · have hal : (T ++ [x]).length = T.length + 1 := by simp
    have he : T.length < u + 3 ∨ u + 3 ≤ T.length ∧ longS (T.drop u) ≤ 512 ∧ T.length < u + 3 + longS (T.drop u) := by
      rcases h.end_ with ⟨e, _⟩ | ⟨_, h2⟩
      · cases e
      · exact h2
    have key : ∀ {l' : List PC}, u + 3 + longS ((T ++ [x]).drop u) ≤ (T ++ [x]).length → Pcs (T ++ [x]) (u + 3 + longS ((T ++ [x]).drop u)) l' u' d' → l' = [] := fun hL hp => by
      have hge : (T ++ [x]).length ≤ u + 3 + longS ((T ++ [x]).drop u) := by
        rcases he with h2 | ⟨h2, h3, h4⟩
        · omega
        · rw [longS_app h2]; omega
      cases hp with
      | short => rfl
      | long => omega
      | half => rfl
      | bad _ h3 => omega
      | one _ h3 => omega
    cases h1 with
    | short => simp
    | long => simp
    | half => simp
    | bad h2 h3 h4 h5 h6 => rw [key h3 h6]; simp
    | one h2 h3 h4 h5 => rw [key h3 h5]; simp
  · simp
theorem FedP.same {T : List Nat} {u : Nat} {d : Bool} {l l' : List PC} {u1 u2 : Nat} {d1 d2 : Bool} (h : FedP T u d l u1 d1) (h' : FedP T u d l' u2 d2) : u1 = u2 ∧ d1 = d2 ∧ LikeP l l' := by
  rcases h with ⟨rfl, h⟩ | ⟨rfl, rfl, rfl, rfl⟩
  · rcases h' with ⟨_, h'⟩ | ⟨e, _⟩
    · exact h.same h'
    · cases e
  · rcases h' with ⟨e, _⟩ | ⟨_, rfl, rfl, rfl⟩
    · cases e
    · exact ⟨rfl, rfl, .nil⟩
theorem pflat_one (l : List PC) : ∀ u ∈ l.flatMap pcells, u.oneCell' = true := fun u hu => by
  obtain ⟨p, -, hp⟩ := List.mem_flatMap.1 hu
  exact pcells_one p u hp
/-- Rows behind rows. -/
theorem Pcr.appL {W w w' : World} {l l' : List PC} {t : TypeId} {A : Option Addr} {n n' c : Nat} {g : Option Nat} {A3 : Option Addr} {c3 : Nat} {g3 : Option Nat} (h : Pcr W w l t A n c g) (hn : n' = l'.length) (hq : ∀ q ∈ l', KT w q.c) (hO : Ow w' t 25 A3 (n + n') c3 (l.flatMap pcells ++ l'.flatMap pcells) g3) (hf : Fr (fun x => some x = g) w w') (hg : g3 = g ∨ ∃ b, g3 = some b ∧ W.heap.size ≤ b) (t1 : t ≠ tEnt) (t2 : t ≠ 3) : Pcr W w' (l ++ l') t A3 (n + n') c3 g3 := by
  have k1 : ∀ x, Typed w x tEnt → ¬ some x = g := fun x hx e => t1 ((hx.same (h.ow.typed x e.symm))).symm
  have k2 : ∀ x, Typed w x 3 → ¬ some x = g := fun x hx e => t2 ((hx.same (h.ow.typed x e.symm))).symm
  refine ⟨by rw [h.len, hn]; simp, by rw [List.flatMap_append]; exact hO, fun b e => ?_, fun p hp => ?_⟩
  · rcases hg with rfl | ⟨b', rfl, hb⟩
    · exact h.new b e
    · cases e; exact hb
  · rcases List.mem_append.1 hp with hp | hp
    · exact (h.rt p hp).frt hf k1 k2
    · exact (hq p hp).frt hf k1 k2
/-- Rows stay, where streams and bytes turn. -/
theorem Pcr.keepS {W w w' : World} {l : List PC} {A : Option Addr} {n c : Nat} {g : Option Nat} {S : Nat → Prop} (h : Pcr W w l tPc A n c g) (hf : Fr S w w') (hS : ∀ x, S x → Typed w x tStm ∨ Typed w x 5) : Pcr W w' l tPc A n c g := by
  have key : ∀ {x : Nat} {t : TypeId}, Typed w x t → t ≠ tStm → t ≠ 5 → ¬ S x := fun {x t} hx h1 h2 hs => by
    rcases hS x hs with h3 | h3
    · exact h1 (hx.same h3)
    · exact h2 (hx.same h3)
  exact ⟨h.len, h.ow.fr hf fun b e => key (h.ow.typed b e) (by decide) (by decide), h.new, fun q hq => (h.rt q hq).frt hf (fun x hx => key hx (by decide) (by decide)) (fun x hx => key hx (by decide) (by decide))⟩
end Go.Proofs.Ytlcjhbemgagchaa
end

section
/-
  StreamCuts: the walk.
-/
namespace Go.Proofs.Ytlcjhbemgagchaa
open Go.RowKit
set_option linter.unusedVariables false
theorem StAt.stm0 {w : World} {p : Nat} (h : StAt w p [] 3 0 (fnL p) false none 0 none) : StM w p [] 0 false none :=
  ⟨[], 3, 0, fnL p, none, 0, h.bl, h.ow, .inr (.inl ⟨rfl, by decide, Nat.le_refl _, rfl, rfl, rfl, rfl⟩)⟩
theorem Sl.cut1 {w : World} {A : Option Addr} {n : Nat} {xs : List Value} (h : Sl w 1 A n xs) {k : Nat} (hk : k ≤ n) : Sl w 1 A k (xs.take k) := by
  have hl := h.1
  refine ⟨by rw [List.length_take]; omega, fun h0 => ?_⟩
  obtain ⟨b, o, e, hc⟩ := h.2 (by omega)
  refine ⟨b, o, e, fun j u hu => hc j u ?_⟩
  rw [List.getElem?_take] at hu
  split at hu
  · exact hu
  · cases hu
/-- A part of a slice of bytes, wherever it begins. -/
theorem Sl.mid {w : World} {b o n : Nat} {xs : List Nat} (h : Sl w 1 (some ⟨b, o, none⟩) n (xs.map bn)) {i k : Nat} (hk : i + k ≤ n) : Sl w 1 (some ⟨b, o + i, none⟩) k (((xs.drop i).take k).map bn) := by
  have h1 := (h.rest8 (k := i) (by omega)).cut1 (k := k) (by omega)
  rwa [← List.map_take] at h1
theorem take_drop_add (T : List Nat) (i k : Nat) : T.take i ++ (T.drop i).take k = T.take (i + k) := by
  rw [List.take_add]
/-- A stream that was fed T from a fresh start, and the rows that it told. -/
structure Gath (W w : World) (p : Nat) (T : List Nat) (s : Option Nat) (A : Option Addr) (n c : Nat) (g : Option Nat) (l : List PC) (u : Nat) (d : Bool) : Prop where
  st : StM w p T u d s
  ps : Pcs T 0 l u d
  rw_ : Pcr W w l tPc A n c g
  sn : ∀ x, s = some x → W.heap.size ≤ x
  fr : Fr (fun x => x = p) W w
theorem Gath.fed {W w w' w2 : World} {p : Nat} {T ds : List Nat} {s s' : Option Nat} {A B A3 : Option Addr} {n c m c3 : Nat} {g g' g3 : Option Nat} {l l' : List PC} {u u' : Nat} {d d' : Bool} (h : Gath W w p T s A n c g l u d)
    (h1 : FedP (T ++ ds) u d l' u' d') (h2 : Pcm w w' l' B m m g') (h3 : StM w' p (T ++ ds) u' d' s') (h4 : ∀ x, s' = some x → w.heap.size ≤ x) (h5 : Fr (fun x => x = p ∨ some x = s) w w')
    (hO : Ow w2 tPc 25 A3 (n + m) c3 (l.flatMap pcells ++ l'.flatMap pcells) g3) (hf : Fr (fun x => some x = g) w' w2) (hg : g3 = g ∨ ∃ b, g3 = some b ∧ w'.heap.size ≤ b) : Gath W w2 p (T ++ ds) s' A3 (n + m) c3 g3 (l ++ l') u' d' := by
  have z1 := h.fr.size
  have z2 := h5.size
  have hsT := h.st.typed
  have hrT := h3.typed
  have hr' : Pcr W w' l tPc A n c g := h.rw_.keepS h5 (fun x e => by
    rcases e with rfl | e
    · exact .inl hsT.1
    · exact .inr (hsT.2 x e.symm))
  have hgt : ∀ x, some x = g → Typed w' x tPc := fun x e => hr'.ow.typed x e.symm
  have no : ∀ {x : Nat} {t t' : TypeId}, Typed w' x t → Typed w' x t' → t ≠ t' → False := fun h h' hne => hne (h.same h')
  refine ⟨h3.fr hf (fun e => no hrT.1 (hgt p e) (by decide)) (fun x hx e => no (hrT.2 x hx) (hgt x e) (by decide)), h1.all h.ps, ?_, fun x hx => Nat.le_trans z1 (h4 x hx), ?_⟩
  · exact hr'.appL h2.len (fun q hq => (h2.own q hq).kt) hO hf (hg.imp id fun ⟨b, e, hb⟩ => ⟨b, e, by omega⟩) (by decide) (by decide)
  · refine ((h.fr.comp h5 fun x hx e => ?_)).comp hf fun x hx e => ?_
    · rcases e with e | e
      · exact e
      · have := h.sn x e.symm; omega
    · have := h.rw_.new x e.symm; omega
theorem Gath.start {W : World} {p : Nat} (h : StM W p [] 0 false none) : Gath W W p [] none none 0 0 none [] 0 false :=
  ⟨h, .short (by decide), Pcr.nil_ _ _ _, (fun x e => by cases e), Fr.refl _ _⟩
end Go.Proofs.Ytlcjhbemgagchaa
end
