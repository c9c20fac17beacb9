/-
  Texts merged into one, to keep the claim small: Sw2.
-/
import Derived.Test.YtlcjhbemgagchaaMnSw1
import Derived.Test.YtlcjhbemgagchaaMn32
/-
  StreamBack: rows of commands and of replies, handed in and taken; replies that were told and read. (printed by pr_sw2.py)
-/
namespace Go.Proofs.Ytlcjhbemgagchaa
open Go.RowKit
set_option linter.unusedVariables false
/-- A slice of things that is read: thing i. -/
theorem Sl.loadS {P : Program} {X : Type} {enc : X → List Value} {w : World} {sz n b o : Nat} {xs : List X} (h : Sl w sz (some ⟨b, o, none⟩) n (cellsOf enc xs)) (hs : ∀ x, (enc x).length = sz) {i : Nat} {x : X} (hx : xs[i]? = some x)
    {ty : TypeId} {d : TypeDesc} (hu : P.underlying ty = some d) (hd : (match d with | .struct _ | .array _ _ => true | _ => false) = true) (hi : (P.info? ty).map (·.size) = some sz) (h0 : 0 < sz) :
    (Instr.loadAt ty (.pointer (some ⟨b, o + i * sz, none⟩))).run P w = .ok (.agg (enc x).toArray) w := by
  have hlen := h.1
  rw [cellsOf_length hs] at hlen
  have hn : xs.length = n := Nat.eq_of_mul_eq_mul_right h0 hlen
  have hin : i < n := by rw [← hn]; exact (List.getElem?_eq_some_iff.1 hx).1
  obtain ⟨b', o', hA, hc⟩ := h.2 (by omega)
  cases hA
  have hl : (loadCells ⟨b, o + i * sz, none⟩ (enc x).length).run P w = .ok (enc x).toArray w :=
    run_loadCells_list (P := P) w ⟨b, o + i * sz, none⟩ (enc x) (fun j v hv => by
      rw [add_at, Nat.add_assoc]
      have hj : j < sz := by rw [← hs x]; exact (List.getElem?_eq_some_iff.1 hv).1
      exact hc _ v (by rw [cellsOf_at hs xs i x hx j hj]; exact hv))
  cases hq : P.info? ty with
  | none => simp [hq] at hi
  | some inf =>
    have hss : inf.size = sz := by simpa [hq] using hi
    have hagg : (isAgg ty).run P w = .ok true w := by
      unfold isAgg
      rw [Sem.run_bind, run_underlying hu w]
      cases d <;> simp_all
    rw [hs x] at hl
    simp [Instr.loadAt, Instr.sureAddr, loadVar, Sem.run_bind, hagg, sizeOf, typeInfo, hq, hss, hl]
/-- A row that was handed in. -/
structure CsAt (w : World) (l : List KC) (A : Option Addr) (n : Nat) : Prop where
  len : n = l.length
  sl : Sl w 24 A n (l.flatMap ccells)
  at_ : ∀ q ∈ l, q.at_ w
  wf : ∀ q ∈ l, q.wf
theorem CsAt.quiet {w w' : World} {l : List KC} {A : Option Addr} {n : Nat} (h : CsAt w l A n) (hf : Fr (fun _ => False) w w') : CsAt w' l A n :=
  ⟨h.len, h.sl.below hf (fun _ _ => id), fun q hq => (h.at_ q hq).quiet hf, h.wf⟩
theorem CsAt.load {w : World} {l : List KC} {b o n : Nat} (h : CsAt w l (some ⟨b, o, none⟩) n) {i : Nat} {q : KC} (hq : l[i]? = some q) :
    (Instr.loadAt tCm (.pointer (some ⟨b, o + i * 24, none⟩))).run Try.prog w = .ok (.agg #[.int .i64 q.id, .int .i64 q.kind, .string (strOf q.name), .int .i64 q.to_, .int .u64 (q.co : Int), .int .i64 q.item, .int .i64 q.num, .int .i64 q.of_, .int .i64 q.e.acc, .int .i64 q.e.item, .int .u64 (q.e.co : Int), .int .u64 (q.e.pr : Int), .slice q.e.A q.e.n q.e.c, .int .i64 q.k.num, .int .i64 q.k.kind, .int .i64 q.k.by_, .int .i64 q.k.dl, .int .i64 q.k.to_, .int .i64 q.k.want, .int .u64 (q.k.pr : Int), .int .u64 (q.k.rs : Int), .int .u64 (q.k.st : Int), .int .i64 q.k.of_, .slice q.k.A q.k.n q.k.c]) w :=
  Sl.loadS (P := Try.prog) (enc := ccells) h.sl ccells_len hq Try.underlying31 rfl infoCm (by decide)
theorem CsAt.addr {w : World} {l : List KC} {A : Option Addr} {n : Nat} (h : CsAt w l A n) (h0 : 0 < n) : ∃ b o, A = some ⟨b, o, none⟩ := by
  obtain ⟨b, o, e, -⟩ := h.sl.2 h0
  exact ⟨b, o, e⟩
/-- A row of one's own of those that were taken; what they lead to lies as it lay in W. -/
structure Ckr (W w : World) (l : List KC) (A : Option Addr) (n c : Nat) (g : Option Nat) : Prop where
  len : n = l.length
  ow : Ow w tCm 24 A n c (l.flatMap ccells) g
  new : ∀ b, g = some b → W.heap.size ≤ b
  at_ : ∀ q ∈ l, q.at_ W
theorem Ckr.nil_ (W w : World) : Ckr W w [] none 0 0 none := ⟨rfl, Ow.nil_ _ _ _, (fun b e => by cases e), fun q h => by cases h⟩
theorem Ckr.keep {W w w' : World} {l : List KC} {A : Option Addr} {n c : Nat} {g : Option Nat} {S : Nat → Prop} (h : Ckr W w l A n c g) (hf : Fr S w w') (hS : ∀ b, g = some b → ¬ S b) : Ckr W w' l A n c g := ⟨h.len, h.ow.fr hf hS, h.new, h.at_⟩
theorem Ckr.quiet {W w w' : World} {l : List KC} {A : Option Addr} {n c : Nat} {g : Option Nat} (h : Ckr W w l A n c g) (hf : Fr (fun _ => False) w w') : Ckr W w' l A n c g := h.keep hf (fun _ _ => id)
theorem Ckr.app {W w w' : World} {l : List KC} {A : Option Addr} {n c : Nat} {g : Option Nat} {q : KC} {A3 : Option Addr} {c3 : Nat} {g3 : Option Nat} (h : Ckr W w l A n c g) (hw : W.heap.size ≤ w.heap.size) (hq : q.at_ W) (hO : Ow w' tCm 24 A3 (n + 1) c3 (l.flatMap ccells ++ ccells q) g3) (hg : g3 = g ∨ ∃ b, g3 = some b ∧ w.heap.size ≤ b) : Ckr W w' (l ++ [q]) A3 (n + 1) c3 g3 := by
  refine ⟨by rw [h.len]; simp, by simpa [List.flatMap_append] using hO, fun b e => ?_, fun p hp => ?_⟩
  · rcases hg with rfl | ⟨b', rfl, hb⟩
    · exact h.new b e
    · cases e; omega
  · rcases List.mem_append.1 hp with hp | hp
    · exact h.at_ p hp
    · obtain rfl : p = q := by simpa using hp
      exact hq
theorem Ckr.load {W w : World} {l : List KC} {b o n c : Nat} {g : Option Nat} (h : Ckr W w l (some ⟨b, o, none⟩) n c g) {i : Nat} {a : KC} (ha : l[i]? = some a) : (Instr.loadAt tCm (.pointer (some ⟨b, o + i * 24, none⟩))).run Try.prog w = .ok (.agg #[.int .i64 a.id, .int .i64 a.kind, .string (strOf a.name), .int .i64 a.to_, .int .u64 (a.co : Int), .int .i64 a.item, .int .i64 a.num, .int .i64 a.of_, .int .i64 a.e.acc, .int .i64 a.e.item, .int .u64 (a.e.co : Int), .int .u64 (a.e.pr : Int), .slice a.e.A a.e.n a.e.c, .int .i64 a.k.num, .int .i64 a.k.kind, .int .i64 a.k.by_, .int .i64 a.k.dl, .int .i64 a.k.to_, .int .i64 a.k.want, .int .u64 (a.k.pr : Int), .int .u64 (a.k.rs : Int), .int .u64 (a.k.st : Int), .int .i64 a.k.of_, .slice a.k.A a.k.n a.k.c]) w :=
  Ow.load (P := Try.prog) (enc := ccells) h.ow ccells_len ha h.len.symm Try.underlying31 rfl infoCm
theorem Ckr.addr {W w : World} {l : List KC} {A : Option Addr} {n c : Nat} {g : Option Nat} (h : Ckr W w l A n c g) (h0 : 0 < n) : ∃ b o, A = some ⟨b, o, none⟩ := by
  obtain ⟨b, o, hA, -⟩ := h.ow.sl.2 h0
  exact ⟨b, o, hA⟩
/-- A row that was handed in. -/
structure RsAt (w : World) (l : List RR) (A : Option Addr) (n : Nat) : Prop where
  len : n = l.length
  sl : Sl w 18 A n (l.flatMap rcells)
  at_ : ∀ q ∈ l, q.at_ w
  wf : ∀ q ∈ l, q.wf
theorem RsAt.quiet {w w' : World} {l : List RR} {A : Option Addr} {n : Nat} (h : RsAt w l A n) (hf : Fr (fun _ => False) w w') : RsAt w' l A n :=
  ⟨h.len, h.sl.below hf (fun _ _ => id), fun q hq => (h.at_ q hq).quiet hf, h.wf⟩
theorem RsAt.load {w : World} {l : List RR} {b o n : Nat} (h : RsAt w l (some ⟨b, o, none⟩) n) {i : Nat} {q : RR} (hq : l[i]? = some q) :
    (Instr.loadAt tRpl (.pointer (some ⟨b, o + i * 18, none⟩))).run Try.prog w = .ok (.agg #[.int .i64 q.id, .int .i64 q.err, .int .i64 q.num, .int .u64 (q.co : Int), .slice q.A q.n q.c, .string (strOf q.txt), .int .u32 (q.bits : Int), .int .i64 q.k.num, .int .i64 q.k.kind, .int .i64 q.k.by_, .int .i64 q.k.dl, .int .i64 q.k.to_, .int .i64 q.k.want, .int .u64 (q.k.pr : Int), .int .u64 (q.k.rs : Int), .int .u64 (q.k.st : Int), .int .i64 q.k.of_, .slice q.k.A q.k.n q.k.c]) w :=
  Sl.loadS (P := Try.prog) (enc := rcells) h.sl rcells_len hq Try.underlying35 rfl infoRpl18 (by decide)
theorem RsAt.addr {w : World} {l : List RR} {A : Option Addr} {n : Nat} (h : RsAt w l A n) (h0 : 0 < n) : ∃ b o, A = some ⟨b, o, none⟩ := by
  obtain ⟨b, o, e, -⟩ := h.sl.2 h0
  exact ⟨b, o, e⟩
/-- A row of one's own of those that were taken; what they lead to lies as it lay in W. -/
structure Rkr (W w : World) (l : List RR) (A : Option Addr) (n c : Nat) (g : Option Nat) : Prop where
  len : n = l.length
  ow : Ow w tRpl 18 A n c (l.flatMap rcells) g
  new : ∀ b, g = some b → W.heap.size ≤ b
  at_ : ∀ q ∈ l, q.at_ W
theorem Rkr.nil_ (W w : World) : Rkr W w [] none 0 0 none := ⟨rfl, Ow.nil_ _ _ _, (fun b e => by cases e), fun q h => by cases h⟩
theorem Rkr.keep {W w w' : World} {l : List RR} {A : Option Addr} {n c : Nat} {g : Option Nat} {S : Nat → Prop} (h : Rkr W w l A n c g) (hf : Fr S w w') (hS : ∀ b, g = some b → ¬ S b) : Rkr W w' l A n c g := ⟨h.len, h.ow.fr hf hS, h.new, h.at_⟩
theorem Rkr.quiet {W w w' : World} {l : List RR} {A : Option Addr} {n c : Nat} {g : Option Nat} (h : Rkr W w l A n c g) (hf : Fr (fun _ => False) w w') : Rkr W w' l A n c g := h.keep hf (fun _ _ => id)
theorem Rkr.app {W w w' : World} {l : List RR} {A : Option Addr} {n c : Nat} {g : Option Nat} {q : RR} {A3 : Option Addr} {c3 : Nat} {g3 : Option Nat} (h : Rkr W w l A n c g) (hw : W.heap.size ≤ w.heap.size) (hq : q.at_ W) (hO : Ow w' tRpl 18 A3 (n + 1) c3 (l.flatMap rcells ++ rcells q) g3) (hg : g3 = g ∨ ∃ b, g3 = some b ∧ w.heap.size ≤ b) : Rkr W w' (l ++ [q]) A3 (n + 1) c3 g3 := by
  refine ⟨by rw [h.len]; simp, by simpa [List.flatMap_append] using hO, fun b e => ?_, fun p hp => ?_⟩
  · rcases hg with rfl | ⟨b', rfl, hb⟩
    · exact h.new b e
    · cases e; omega
  · rcases List.mem_append.1 hp with hp | hp
    · exact h.at_ p hp
    · obtain rfl : p = q := by simpa using hp
      exact hq
theorem Rkr.load {W w : World} {l : List RR} {b o n c : Nat} {g : Option Nat} (h : Rkr W w l (some ⟨b, o, none⟩) n c g) {i : Nat} {a : RR} (ha : l[i]? = some a) : (Instr.loadAt tRpl (.pointer (some ⟨b, o + i * 18, none⟩))).run Try.prog w = .ok (.agg #[.int .i64 a.id, .int .i64 a.err, .int .i64 a.num, .int .u64 (a.co : Int), .slice a.A a.n a.c, .string (strOf a.txt), .int .u32 (a.bits : Int), .int .i64 a.k.num, .int .i64 a.k.kind, .int .i64 a.k.by_, .int .i64 a.k.dl, .int .i64 a.k.to_, .int .i64 a.k.want, .int .u64 (a.k.pr : Int), .int .u64 (a.k.rs : Int), .int .u64 (a.k.st : Int), .int .i64 a.k.of_, .slice a.k.A a.k.n a.k.c]) w :=
  Ow.load (P := Try.prog) (enc := rcells) h.ow rcells_len ha h.len.symm Try.underlying35 rfl infoRpl18
theorem Rkr.addr {W w : World} {l : List RR} {A : Option Addr} {n c : Nat} {g : Option Nat} (h : Rkr W w l A n c g) (h0 : 0 < n) : ∃ b o, A = some ⟨b, o, none⟩ := by
  obtain ⟨b, o, hA, -⟩ := h.ow.sl.2 h0
  exact ⟨b, o, hA⟩
set_option maxHeartbeats 2000000 in
set_option maxRecDepth 8000 in
attribute [-go_sem] Go.Instr.loadAt in
theorem repliesTold_any (w W1 W : World) (l m : List RR) (hlk : LikeR l m) (A B : Option Addr) (n c d : Nat) (g g' : Option Nat) (hb : n ≤ 9223372036854775806) (h1 : Rpr W1 w l A n c g) (h2 : Rkr W w m B n d g') (hW : Fr (fun _ => False) W w) :
    Calls Try.prog 23 #[.slice A n c, .slice B n d] w fun e w' => e = .returned (.bool true) ∧ Fr (fun _ => False) w w' := by
  have H1 := hide h1
  have H2 := hide h2
  have HL := hide hlk
  have HW := hide hW
  clear h1 h2 hlk hW
  go_enter Try.func23, Try.ntmps23
  go_wp2_with fail
  go_loopw [5] (fun i wr => ∃ k : Nat, k ≤ n ∧ i = .int .i64 k ∧ Hid (Fr (fun _ => False) w wr)) (fun i _ => n - (intOf i).toNat)
  case atStart => exact ⟨0, Nat.zero_le _, rfl, Fr.refl _ _⟩
  case round =>
    obtain ⟨k, hk, rfl, hF⟩ := hrel
    by_cases hlt : k < n
    · have hr1 := H1.out.quiet hF.out
      have hr2 := H2.out.quiet hF.out
      obtain ⟨b, o, rfl⟩ := hr1.addr (by omega)
      obtain ⟨b', o', rfl⟩ := hr2.addr (by omega)
      obtain ⟨x, hx⟩ : ∃ x, l[k]? = some x := ⟨_, List.getElem?_eq_getElem (by have := hr1.len; omega)⟩
      obtain ⟨y, hy⟩ : ∃ y, m[k]? = some y := ⟨_, List.getElem?_eq_getElem (by have := hr2.len; omega)⟩
      have hxy := HL.out.at_ hx hy
      have ha := (hr1.rt x (List.mem_of_getElem? hx)).at_
      have hb' := (hr2.at_ y (List.mem_of_getElem? hy)).quiet (HW.out.trans hF.out)
      have HC := hide (fun w' (hf : Fr (fun _ => False) wr w') => replyLike29_any w' x y hxy (ha.quiet hf) (hb'.quiet hf))
      have l1 : ∀ w', Fr (fun _ => False) wr w' → (Instr.loadAt tRpl (.pointer (some ⟨b, o + k * 18, none⟩))).run Try.prog w' = .ok (.agg #[.int .i64 x.id, .int .i64 x.err, .int .i64 x.num, .int .u64 (x.co : Int), .slice x.A x.n x.c, .string (strOf x.txt), .int .u32 (x.bits : Int), .int .i64 x.k.num, .int .i64 x.k.kind, .int .i64 x.k.by_, .int .i64 x.k.dl, .int .i64 x.k.to_, .int .i64 x.k.want, .int .u64 (x.k.pr : Int), .int .u64 (x.k.rs : Int), .int .u64 (x.k.st : Int), .int .i64 x.k.of_, .slice x.k.A x.k.n x.k.c]) w' := fun w' hf => (hr1.quiet hf).load hx
      have l2 : ∀ w', Fr (fun _ => False) wr w' → (Instr.loadAt tRpl (.pointer (some ⟨b', o' + k * 18, none⟩))).run Try.prog w' = .ok (.agg #[.int .i64 y.id, .int .i64 y.err, .int .i64 y.num, .int .u64 (y.co : Int), .slice y.A y.n y.c, .string (strOf y.txt), .int .u32 (y.bits : Int), .int .i64 y.k.num, .int .i64 y.k.kind, .int .i64 y.k.by_, .int .i64 y.k.dl, .int .i64 y.k.to_, .int .i64 y.k.want, .int .u64 (y.k.pr : Int), .int .u64 (y.k.rs : Int), .int .u64 (y.k.st : Int), .int .i64 y.k.of_, .slice y.k.A y.k.n y.k.c]) w' := fun w' hf => (hr2.quiet hf).load hy
      have i0 : (0 : Int) ≤ (k : Int) := by omega
      have i1 : (k : Int) < (n : Int) := by omega
      have hS : Fr (fun _ => False) wr wr := Fr.refl _ _
      clear hr1 hr2 hx hy hxy ha hb'
      go_wp2_with fail
      go_region_held3 (fun w' => Fr (fun _ => False) wr w') (first | assumption | exact Fr.drew (by assumption))
        ((go_at_call 51; refine (HC.out _ (by first | assumption | exact Fr.drew (by assumption))).mono ?_; rintro e w4 ⟨rfl, hf4⟩; have hf5 : Fr (fun _ => False) wr w4 := Fr.trans (by first | assumption | exact Fr.drew (by assumption)) hf4))
      have HF := hide (hF.out.trans hf5)
      clear l1 l2 hf4 hf5
      go_wp2_with fail
      exact ⟨⟨k + 1, by omega, by go_num, HF⟩, by simp [intOf]; omega⟩
    · go_wp2_with fail
      go_ret
      exact ⟨rfl, hF.out⟩
end Go.Proofs.Ytlcjhbemgagchaa
