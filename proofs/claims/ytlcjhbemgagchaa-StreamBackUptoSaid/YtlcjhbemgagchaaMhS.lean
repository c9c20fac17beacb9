/-
  Texts merged into one, to keep the claim small: Sw1, Sw2, Sw4.
-/
import Derived.Test.YtlcjhbemgagchaaMhO
import Derived.Test.YtlcjhbemgagchaaMh45
import Derived.Test.YtlcjhbemgagchaaMh32
section
/-
  StreamBack: what frames of commands and of replies tell. No program in sight.
-/
namespace Go.Proofs.Ytlcjhbemgagchaa
set_option linter.unusedVariables false
/-- A body's frame. -/
def fr3 (b : List Nat) : List Nat := [b.length / 65536 % 256, b.length / 256 % 256, b.length % 256] ++ b
theorem fr3_len (b : List Nat) : (fr3 b).length = b.length + 3 := by unfold fr3; rw [List.length_append]; simp; omega
theorem fr3_drop (b : List Nat) : (fr3 b).drop 3 = b := rfl
theorem fr3_b {b : List Nat} (h : ∀ x ∈ b, x < 256) : ∀ x ∈ fr3 b, x < 256 := fun x hx => by
  unfold fr3 at hx
  rcases List.mem_append.1 hx with hx | hx
  · simp only [List.mem_cons, List.not_mem_nil, or_false] at hx
    rcases hx with rfl | rfl | rfl <;> exact Nat.mod_lt _ (by decide)
  · exact h x hx
theorem frameB_is {b : List Nat} (h : b.length ≤ 65536) : frameB b = fr3 b := if_pos h
theorem frameE_is {b : List Nat} (h : b.length ≤ 65536) : frameE b = 0 := if_pos h
theorem longS_fr3 (b rest : List Nat) (h : b.length ≤ 65536) : longS (fr3 b ++ rest) = b.length := by
  show 65536 * (b.length / 65536 % 256) + 256 * (b.length / 256 % 256) + b.length % 256 = b.length
  omega
theorem drop_mid (pre a rest : List Nat) : (pre ++ (a ++ rest)).drop pre.length = a ++ rest := List.drop_left
theorem bodyS_fr3 (pre b rest : List Nat) (h : b.length ≤ 65536) : bodyS (pre ++ (fr3 b ++ rest)) pre.length = b := by
  unfold bodyS
  rw [drop_mid, longS_fr3 b rest h, show pre.length + 3 = 3 + pre.length by omega, Nat.add_comm 3, ← List.drop_drop, drop_mid]
  rw [List.drop_append_of_le_length (by rw [fr3_len]; omega), fr3_drop]
  exact List.take_left
/-- Frames of commands tell those commands. -/
theorem Pcs.frames : ∀ (qs : List KC) (pre : List Nat) {line : List Nat} {l : List PC} {u : Nat} {d : Bool}, (∀ q ∈ qs, q.ok = true ∧ q.wf) → line = pre ++ qs.flatMap (fun q => fr3 q.form) → Pcs line pre.length l u d → LikeP l (qs.map fun q => ⟨q, 0⟩) ∧ u = line.length ∧ d = false
  | [], pre, line, l, u, d, _, hl, h => by
    have hl' : line = pre := by simpa using hl
    subst hl'
    cases h with
    | short => exact ⟨.nil, rfl, rfl⟩
    | long => omega
    | half => omega
    | bad => omega
    | one => omega
  | q :: qs, pre, line, l, u, d, hq, hl, h => by
    obtain ⟨h1, h2⟩ := hq q (List.mem_cons_self ..)
    have hs := (KC.short h1 h2).2
    have hl2 : line = pre ++ (fr3 q.form ++ qs.flatMap (fun q => fr3 q.form)) := by rw [hl, List.flatMap_cons]
    have e1 : longS (line.drop pre.length) = q.form.length := by rw [hl2, drop_mid, longS_fr3 _ _ (by omega)]
    have e2 : bodyS line pre.length = q.form := by rw [hl2, bodyS_fr3 _ _ _ (by omega)]
    have e3 : pre.length + 3 + q.form.length ≤ line.length := by rw [hl2, List.length_append, List.length_append, fr3_len]; omega
    have hF : KForm q.form q := ⟨h1, h2, rfl⟩
    cases h with
    | short => omega
    | long => omega
    | half => omega
    | bad k1 k2 k3 k4 k5 =>
      rw [e2] at k3
      exact absurd (k3.ok hF hs).1 k4
    | one k1 k2 k3 k4 =>
      rw [e2] at k3
      rw [e1] at k4
      have hn : pre.length + 3 + q.form.length = (pre ++ fr3 q.form).length := by rw [List.length_append, fr3_len]; omega
      rw [hn] at k4
      obtain ⟨i1, i2, i3⟩ := Pcs.frames qs (pre ++ fr3 q.form) (fun x hx => hq x (List.mem_cons_of_mem _ hx)) (by rw [hl2, List.append_assoc]) k4
      exact ⟨.cons ⟨(k3.ok hF hs).2.1, rfl⟩ i1, i2, i3⟩
/-- A beginning of a frame tells nothing. -/
def Short3 (post : List Nat) : Prop := post.length < 3 ∨ (longS post ≤ 65536 ∧ post.length < 3 + longS post)
theorem Reps.frames : ∀ (qs : List RR) (pre post : List Nat) {line : List Nat} {l : List RR} {u e : Nat}, Short3 post → (∀ q ∈ qs, q.ok = true ∧ q.wf) → line = pre ++ (qs.flatMap (fun q => fr3 q.form) ++ post) → Reps line pre.length l u e → LikeR l qs ∧ u + post.length = line.length ∧ e = 0
  | [], pre, post, line, l, u, e, hp, _, hl, h => by
    have hl' : line = pre ++ post := by simpa using hl
    subst hl'
    rw [List.length_append]
    have e0 : (pre ++ post).drop pre.length = post := List.drop_left
    have key : pre.length + 3 ≤ (pre ++ post).length → longS ((pre ++ post).drop pre.length) ≤ 65536 ∧ (pre ++ post).length < pre.length + 3 + longS ((pre ++ post).drop pre.length) := fun h3 => by
      rw [e0]
      rw [List.length_append] at h3 ⊢
      rcases hp with hp | ⟨hp1, hp2⟩
      · omega
      · exact ⟨hp1, by omega⟩
    cases h with
    | short => exact ⟨.nil, rfl, rfl⟩
    | long k1 k2 => have := key k1; omega
    | half => exact ⟨.nil, rfl, rfl⟩
    | bad k1 k2 => have := key (by omega); omega
    | one k1 k2 => have := key (by omega); omega
  | q :: qs, pre, post, line, l, u, e, hp, hq, hl, h => by
    obtain ⟨h1, h2⟩ := hq q (List.mem_cons_self ..)
    have hs := (RR.len h1 h2).1
    have hl2 : line = pre ++ (fr3 q.form ++ (qs.flatMap (fun q => fr3 q.form) ++ post)) := by rw [hl, List.flatMap_cons, List.append_assoc]
    have e1 : longS (line.drop pre.length) = q.form.length := by rw [hl2, drop_mid, longS_fr3 _ _ (by omega)]
    have e2 : bodyS line pre.length = q.form := by rw [hl2, bodyS_fr3 _ _ _ (by omega)]
    have e3 : pre.length + 3 + q.form.length ≤ line.length := by rw [hl2, List.length_append, List.length_append, fr3_len]; omega
    have hF : RForm q.form q := ⟨h1, h2, rfl⟩
    cases h with
    | short => omega
    | long => omega
    | half => omega
    | bad k1 k2 k3 k4 =>
      rw [e2] at k3
      exact absurd (k3.ok hF (by omega)).1 k4
    | one k1 k2 k3 k4 =>
      rw [e2] at k3
      rw [e1] at k4
      have hn : pre.length + 3 + q.form.length = (pre ++ fr3 q.form).length := by rw [List.length_append, fr3_len]; omega
      rw [hn] at k4
      obtain ⟨i1, i2, i3⟩ := Reps.frames qs (pre ++ fr3 q.form) post hp (fun x hx => hq x (List.mem_cons_of_mem _ hx)) (by rw [hl2, List.append_assoc]) k4
      exact ⟨.cons (k3.ok hF (by omega)).2.1 i1, i2, i3⟩
theorem LikeR.symm {l m : List RR} (h : LikeR l m) : LikeR m l := by
  induction h with
  | nil => exact .nil
  | cons h1 _ ih => exact .cons h1.symm ih
end Go.Proofs.Ytlcjhbemgagchaa
end

section
/-
  StreamBack: rows of commands and of replies, handed in and taken; replies that were told and read. (printed by pr_sw2.py)
-/
namespace Go.Proofs.Ytlcjhbemgagchaa
open Go.RowKit
set_option linter.unusedVariables false
/-- A slice of things that is read: thing i. -/
theorem Sl.loadS {P : Program} {X : Type} {enc : X → List Value} {w : World} {sz n b o : Nat} {xs : List X} (h : Sl w sz (some ⟨b, o, none⟩) n (cellsOf enc xs)) (hs : ∀ x, (enc x).length = sz) {i : Nat} {x : X} (hx : xs[i]? = some x)
    {ty : TypeId} {d : TypeDesc} (hu : P.underlying ty = some d) (hd : (match d with | .struct _ | .array _ _ => true | _ => false) = true) (hi : (P.info? ty).map (·.size) = some sz) (h0 : 0 < sz) :
    (Instr.loadAt ty (.pointer (some ⟨b, o + i * sz, none⟩))).run P w = .ok (.agg (enc x).toArray) w := by
  have hlen := h.1
  rw [cellsOf_length hs] at hlen
  have hn : xs.length = n := Nat.eq_of_mul_eq_mul_right h0 hlen
  have hin : i < n := by rw [← hn]; exact (List.getElem?_eq_some_iff.1 hx).1
  obtain ⟨b', o', hA, hc⟩ := h.2 (by omega)
  cases hA
  have hl : (loadCells ⟨b, o + i * sz, none⟩ (enc x).length).run P w = .ok (enc x).toArray w :=
    run_loadCells_list (P := P) w ⟨b, o + i * sz, none⟩ (enc x) (fun j v hv => by
      rw [add_at, Nat.add_assoc]
      have hj : j < sz := by rw [← hs x]; exact (List.getElem?_eq_some_iff.1 hv).1
      exact hc _ v (by rw [cellsOf_at hs xs i x hx j hj]; exact hv))
  cases hq : P.info? ty with
  | none => simp [hq] at hi
  | some inf =>
    have hss : inf.size = sz := by simpa [hq] using hi
    have hagg : (isAgg ty).run P w = .ok true w := by
      unfold isAgg
      rw [Sem.run_bind, run_underlying hu w]
      cases d <;> simp_all
    rw [hs x] at hl
    simp [Instr.loadAt, Instr.sureAddr, loadVar, Sem.run_bind, hagg, sizeOf, typeInfo, hq, hss, hl]
/-- A row that was handed in. -/
structure CsAt (w : World) (l : List KC) (A : Option Addr) (n : Nat) : Prop where
  len : n = l.length
  sl : Sl w 24 A n (l.flatMap ccells)
  at_ : ∀ q ∈ l, q.at_ w
  wf : ∀ q ∈ l, q.wf
theorem CsAt.quiet {w w' : World} {l : List KC} {A : Option Addr} {n : Nat} (h : CsAt w l A n) (hf : Fr (fun _ => False) w w') : CsAt w' l A n :=
  ⟨h.len, h.sl.below hf (fun _ _ => id), fun q hq => (h.at_ q hq).quiet hf, h.wf⟩
theorem CsAt.load {w : World} {l : List KC} {b o n : Nat} (h : CsAt w l (some ⟨b, o, none⟩) n) {i : Nat} {q : KC} (hq : l[i]? = some q) :
    (Instr.loadAt tCm (.pointer (some ⟨b, o + i * 24, none⟩))).run Try.prog w = .ok (.agg #[.int .i64 q.id, .int .i64 q.kind, .string (strOf q.name), .int .i64 q.to_, .int .u64 (q.co : Int), .int .i64 q.item, .int .i64 q.num, .int .i64 q.of_, .int .i64 q.e.acc, .int .i64 q.e.item, .int .u64 (q.e.co : Int), .int .u64 (q.e.pr : Int), .slice q.e.A q.e.n q.e.c, .int .i64 q.k.num, .int .i64 q.k.kind, .int .i64 q.k.by_, .int .i64 q.k.dl, .int .i64 q.k.to_, .int .i64 q.k.want, .int .u64 (q.k.pr : Int), .int .u64 (q.k.rs : Int), .int .u64 (q.k.st : Int), .int .i64 q.k.of_, .slice q.k.A q.k.n q.k.c]) w :=
  Sl.loadS (P := Try.prog) (enc := ccells) h.sl ccells_len hq Try.underlying31 rfl infoCm (by decide)
theorem CsAt.addr {w : World} {l : List KC} {A : Option Addr} {n : Nat} (h : CsAt w l A n) (h0 : 0 < n) : ∃ b o, A = some ⟨b, o, none⟩ := by
  obtain ⟨b, o, e, -⟩ := h.sl.2 h0
  exact ⟨b, o, e⟩
/-- A row of one's own of those that were taken; what they lead to lies as it lay in W. -/
structure Ckr (W w : World) (l : List KC) (A : Option Addr) (n c : Nat) (g : Option Nat) : Prop where
  len : n = l.length
  ow : Ow w tCm 24 A n c (l.flatMap ccells) g
  new : ∀ b, g = some b → W.heap.size ≤ b
  at_ : ∀ q ∈ l, q.at_ W
theorem Ckr.nil_ (W w : World) : Ckr W w [] none 0 0 none := ⟨rfl, Ow.nil_ _ _ _, (fun b e => by cases e), fun q h => by cases h⟩
theorem Ckr.keep {W w w' : World} {l : List KC} {A : Option Addr} {n c : Nat} {g : Option Nat} {S : Nat → Prop} (h : Ckr W w l A n c g) (hf : Fr S w w') (hS : ∀ b, g = some b → ¬ S b) : Ckr W w' l A n c g := ⟨h.len, h.ow.fr hf hS, h.new, h.at_⟩
theorem Ckr.quiet {W w w' : World} {l : List KC} {A : Option Addr} {n c : Nat} {g : Option Nat} (h : Ckr W w l A n c g) (hf : Fr (fun _ => False) w w') : Ckr W w' l A n c g := h.keep hf (fun _ _ => id)
theorem Ckr.app {W w w' : World} {l : List KC} {A : Option Addr} {n c : Nat} {g : Option Nat} {q : KC} {A3 : Option Addr} {c3 : Nat} {g3 : Option Nat} (h : Ckr W w l A n c g) (hw : W.heap.size ≤ w.heap.size) (hq : q.at_ W) (hO : Ow w' tCm 24 A3 (n + 1) c3 (l.flatMap ccells ++ ccells q) g3) (hg : g3 = g ∨ ∃ b, g3 = some b ∧ w.heap.size ≤ b) : Ckr W w' (l ++ [q]) A3 (n + 1) c3 g3 := by
  refine ⟨by rw [h.len]; simp, by simpa [List.flatMap_append] using hO, fun b e => ?_, fun p hp => ?_⟩
  · rcases hg with rfl | ⟨b', rfl, hb⟩
    · exact h.new b e
    · cases e; omega
  · rcases List.mem_append.1 hp with hp | hp
    · exact h.at_ p hp
    · obtain rfl : p = q := by simpa using hp
      exact hq
theorem Ckr.load {W w : World} {l : List KC} {b o n c : Nat} {g : Option Nat} (h : Ckr W w l (some ⟨b, o, none⟩) n c g) {i : Nat} {a : KC} (ha : l[i]? = some a) : (Instr.loadAt tCm (.pointer (some ⟨b, o + i * 24, none⟩))).run Try.prog w = .ok (.agg #[.int .i64 a.id, .int .i64 a.kind, .string (strOf a.name), .int .i64 a.to_, .int .u64 (a.co : Int), .int .i64 a.item, .int .i64 a.num, .int .i64 a.of_, .int .i64 a.e.acc, .int .i64 a.e.item, .int .u64 (a.e.co : Int), .int .u64 (a.e.pr : Int), .slice a.e.A a.e.n a.e.c, .int .i64 a.k.num, .int .i64 a.k.kind, .int .i64 a.k.by_, .int .i64 a.k.dl, .int .i64 a.k.to_, .int .i64 a.k.want, .int .u64 (a.k.pr : Int), .int .u64 (a.k.rs : Int), .int .u64 (a.k.st : Int), .int .i64 a.k.of_, .slice a.k.A a.k.n a.k.c]) w :=
  Ow.load (P := Try.prog) (enc := ccells) h.ow ccells_len ha h.len.symm Try.underlying31 rfl infoCm
theorem Ckr.addr {W w : World} {l : List KC} {A : Option Addr} {n c : Nat} {g : Option Nat} (h : Ckr W w l A n c g) (h0 : 0 < n) : ∃ b o, A = some ⟨b, o, none⟩ := by
  obtain ⟨b, o, hA, -⟩ := h.ow.sl.2 h0
  exact ⟨b, o, hA⟩
/-- A row that was handed in. -/
structure RsAt (w : World) (l : List RR) (A : Option Addr) (n : Nat) : Prop where
  len : n = l.length
  sl : Sl w 18 A n (l.flatMap rcells)
  at_ : ∀ q ∈ l, q.at_ w
  wf : ∀ q ∈ l, q.wf
theorem RsAt.quiet {w w' : World} {l : List RR} {A : Option Addr} {n : Nat} (h : RsAt w l A n) (hf : Fr (fun _ => False) w w') : RsAt w' l A n :=
  ⟨h.len, h.sl.below hf (fun _ _ => id), fun q hq => (h.at_ q hq).quiet hf, h.wf⟩
theorem RsAt.load {w : World} {l : List RR} {b o n : Nat} (h : RsAt w l (some ⟨b, o, none⟩) n) {i : Nat} {q : RR} (hq : l[i]? = some q) :
    (Instr.loadAt tRpl (.pointer (some ⟨b, o + i * 18, none⟩))).run Try.prog w = .ok (.agg #[.int .i64 q.id, .int .i64 q.err, .int .i64 q.num, .int .u64 (q.co : Int), .slice q.A q.n q.c, .string (strOf q.txt), .int .u32 (q.bits : Int), .int .i64 q.k.num, .int .i64 q.k.kind, .int .i64 q.k.by_, .int .i64 q.k.dl, .int .i64 q.k.to_, .int .i64 q.k.want, .int .u64 (q.k.pr : Int), .int .u64 (q.k.rs : Int), .int .u64 (q.k.st : Int), .int .i64 q.k.of_, .slice q.k.A q.k.n q.k.c]) w :=
  Sl.loadS (P := Try.prog) (enc := rcells) h.sl rcells_len hq Try.underlying35 rfl infoRpl18 (by decide)
theorem RsAt.addr {w : World} {l : List RR} {A : Option Addr} {n : Nat} (h : RsAt w l A n) (h0 : 0 < n) : ∃ b o, A = some ⟨b, o, none⟩ := by
  obtain ⟨b, o, e, -⟩ := h.sl.2 h0
  exact ⟨b, o, e⟩
/-- A row of one's own of those that were taken; what they lead to lies as it lay in W. -/
structure Rkr (W w : World) (l : List RR) (A : Option Addr) (n c : Nat) (g : Option Nat) : Prop where
  len : n = l.length
  ow : Ow w tRpl 18 A n c (l.flatMap rcells) g
  new : ∀ b, g = some b → W.heap.size ≤ b
  at_ : ∀ q ∈ l, q.at_ W
theorem Rkr.nil_ (W w : World) : Rkr W w [] none 0 0 none := ⟨rfl, Ow.nil_ _ _ _, (fun b e => by cases e), fun q h => by cases h⟩
theorem Rkr.keep {W w w' : World} {l : List RR} {A : Option Addr} {n c : Nat} {g : Option Nat} {S : Nat → Prop} (h : Rkr W w l A n c g) (hf : Fr S w w') (hS : ∀ b, g = some b → ¬ S b) : Rkr W w' l A n c g := ⟨h.len, h.ow.fr hf hS, h.new, h.at_⟩
theorem Rkr.quiet {W w w' : World} {l : List RR} {A : Option Addr} {n c : Nat} {g : Option Nat} (h : Rkr W w l A n c g) (hf : Fr (fun _ => False) w w') : Rkr W w' l A n c g := h.keep hf (fun _ _ => id)
theorem Rkr.app {W w w' : World} {l : List RR} {A : Option Addr} {n c : Nat} {g : Option Nat} {q : RR} {A3 : Option Addr} {c3 : Nat} {g3 : Option Nat} (h : Rkr W w l A n c g) (hw : W.heap.size ≤ w.heap.size) (hq : q.at_ W) (hO : Ow w' tRpl 18 A3 (n + 1) c3 (l.flatMap rcells ++ rcells q) g3) (hg : g3 = g ∨ ∃ b, g3 = some b ∧ w.heap.size ≤ b) : Rkr W w' (l ++ [q]) A3 (n + 1) c3 g3 := by
  refine ⟨by rw [h.len]; simp, by simpa [List.flatMap_append] using hO, fun b e => ?_, fun p hp => ?_⟩
  · rcases hg with rfl | ⟨b', rfl, hb⟩
    · exact h.new b e
    · cases e; omega
  · rcases List.mem_append.1 hp with hp | hp
    · exact h.at_ p hp
    · obtain rfl : p = q := by simpa using hp
      exact hq
theorem Rkr.load {W w : World} {l : List RR} {b o n c : Nat} {g : Option Nat} (h : Rkr W w l (some ⟨b, o, none⟩) n c g) {i : Nat} {a : RR} (ha : l[i]? = some a) : (Instr.loadAt tRpl (.pointer (some ⟨b, o + i * 18, none⟩))).run Try.prog w = .ok (.agg #[.int .i64 a.id, .int .i64 a.err, .int .i64 a.num, .int .u64 (a.co : Int), .slice a.A a.n a.c, .string (strOf a.txt), .int .u32 (a.bits : Int), .int .i64 a.k.num, .int .i64 a.k.kind, .int .i64 a.k.by_, .int .i64 a.k.dl, .int .i64 a.k.to_, .int .i64 a.k.want, .int .u64 (a.k.pr : Int), .int .u64 (a.k.rs : Int), .int .u64 (a.k.st : Int), .int .i64 a.k.of_, .slice a.k.A a.k.n a.k.c]) w :=
  Ow.load (P := Try.prog) (enc := rcells) h.ow rcells_len ha h.len.symm Try.underlying35 rfl infoRpl18
theorem Rkr.addr {W w : World} {l : List RR} {A : Option Addr} {n c : Nat} {g : Option Nat} (h : Rkr W w l A n c g) (h0 : 0 < n) : ∃ b o, A = some ⟨b, o, none⟩ := by
  obtain ⟨b, o, hA, -⟩ := h.ow.sl.2 h0
  exact ⟨b, o, hA⟩
set_option maxHeartbeats 2000000 in
set_option maxRecDepth 8000 in
attribute [-go_sem] Go.Instr.loadAt in
theorem repliesTold_any (w W1 W : World) (l m : List RR) (hlk : LikeR l m) (A B : Option Addr) (n c d : Nat) (g g' : Option Nat) (hb : n ≤ 9223372036854775806) (h1 : Rpr W1 w l A n c g) (h2 : Rkr W w m B n d g') (hW : Fr (fun _ => False) W w) :
    Calls Try.prog 23 #[.slice A n c, .slice B n d] w fun e w' => e = .returned (.bool true) ∧ Fr (fun _ => False) w w' := by
  have H1 := hide h1
  have H2 := hide h2
  have HL := hide hlk
  have HW := hide hW
  clear h1 h2 hlk hW
  go_enter Try.func23, Try.ntmps23
  go_wp2_with fail
  go_loopw [5] (fun i wr => ∃ k : Nat, k ≤ n ∧ i = .int .i64 k ∧ Hid (Fr (fun _ => False) w wr)) (fun i _ => n - (intOf i).toNat)
  case atStart => exact ⟨0, Nat.zero_le _, rfl, Fr.refl _ _⟩
  case round =>
    obtain ⟨k, hk, rfl, hF⟩ := hrel
    by_cases hlt : k < n
    · have hr1 := H1.out.quiet hF.out
      have hr2 := H2.out.quiet hF.out
      obtain ⟨b, o, rfl⟩ := hr1.addr (by omega)
      obtain ⟨b', o', rfl⟩ := hr2.addr (by omega)
      obtain ⟨x, hx⟩ : ∃ x, l[k]? = some x := ⟨_, List.getElem?_eq_getElem (by have := hr1.len; omega)⟩
      obtain ⟨y, hy⟩ : ∃ y, m[k]? = some y := ⟨_, List.getElem?_eq_getElem (by have := hr2.len; omega)⟩
      have hxy := HL.out.at_ hx hy
      have ha := (hr1.rt x (List.mem_of_getElem? hx)).at_
      have hb' := (hr2.at_ y (List.mem_of_getElem? hy)).quiet (HW.out.trans hF.out)
      have HC := hide (fun w' (hf : Fr (fun _ => False) wr w') => replyLike29_any w' x y hxy (ha.quiet hf) (hb'.quiet hf))
      have l1 : ∀ w', Fr (fun _ => False) wr w' → (Instr.loadAt tRpl (.pointer (some ⟨b, o + k * 18, none⟩))).run Try.prog w' = .ok (.agg #[.int .i64 x.id, .int .i64 x.err, .int .i64 x.num, .int .u64 (x.co : Int), .slice x.A x.n x.c, .string (strOf x.txt), .int .u32 (x.bits : Int), .int .i64 x.k.num, .int .i64 x.k.kind, .int .i64 x.k.by_, .int .i64 x.k.dl, .int .i64 x.k.to_, .int .i64 x.k.want, .int .u64 (x.k.pr : Int), .int .u64 (x.k.rs : Int), .int .u64 (x.k.st : Int), .int .i64 x.k.of_, .slice x.k.A x.k.n x.k.c]) w' := fun w' hf => (hr1.quiet hf).load hx
      have l2 : ∀ w', Fr (fun _ => False) wr w' → (Instr.loadAt tRpl (.pointer (some ⟨b', o' + k * 18, none⟩))).run Try.prog w' = .ok (.agg #[.int .i64 y.id, .int .i64 y.err, .int .i64 y.num, .int .u64 (y.co : Int), .slice y.A y.n y.c, .string (strOf y.txt), .int .u32 (y.bits : Int), .int .i64 y.k.num, .int .i64 y.k.kind, .int .i64 y.k.by_, .int .i64 y.k.dl, .int .i64 y.k.to_, .int .i64 y.k.want, .int .u64 (y.k.pr : Int), .int .u64 (y.k.rs : Int), .int .u64 (y.k.st : Int), .int .i64 y.k.of_, .slice y.k.A y.k.n y.k.c]) w' := fun w' hf => (hr2.quiet hf).load hy
      have i0 : (0 : Int) ≤ (k : Int) := by omega
      have i1 : (k : Int) < (n : Int) := by omega
      have hS : Fr (fun _ => False) wr wr := Fr.refl _ _
      clear hr1 hr2 hx hy hxy ha hb'
      go_wp2_with fail
      go_region_held3 (fun w' => Fr (fun _ => False) wr w') (first | assumption | exact Fr.drew (by assumption))
        ((go_at_call 51; refine (HC.out _ (by first | assumption | exact Fr.drew (by assumption))).mono ?_; rintro e w4 ⟨rfl, hf4⟩; have hf5 : Fr (fun _ => False) wr w4 := Fr.trans (by first | assumption | exact Fr.drew (by assumption)) hf4))
      have HF := hide (hF.out.trans hf5)
      clear l1 l2 hf4 hf5
      go_wp2_with fail
      exact ⟨⟨k + 1, by omega, by go_num, HF⟩, by simp [intOf]; omega⟩
    · go_wp2_with fail
      go_ret
      exact ⟨rfl, hF.out⟩
end Go.Proofs.Ytlcjhbemgagchaa
end

section
/-
  StreamBack: openings: rows of commands, rows of replies, of bounded bulk.
-/
namespace Go.Proofs.Ytlcjhbemgagchaa
open Go.ChangeShapes Go.WideShapes Go.ChangeAt Go.RowKit Go.Deep Go.Joins
set_option linter.unusedVariables false
theorem entries_len {H : Type} : ∀ (l : List (Lit × DataW H)), l.length ≤ Rows.uptoBulkEntries l
  | [] => by simp [Rows.uptoBulkEntries]
  | (k, d) :: r => by
    have := entries_len r
    have h2 : 1 ≤ Rows.uptoBulkEntry (k, d) := by cases k <;> simp only [Rows.uptoBulkEntry] <;> omega
    simp only [Rows.uptoBulkEntries, List.length_cons]
    omega
/-- The types below n lead to types below n; none of them is of many bytes. -/
structure ClosedT (P : Program) (n M : Nat) : Prop where
  by_ : ∀ e, e < n → 2 * P.bytesOf e ≤ M
  ptr : ∀ {t e}, t < n → P.underlying t = some (.pointer e) → e < n
  slice : ∀ {t e}, t < n → P.underlying t = some (.slice e) → e < n
  struct : ∀ {t : TypeId} {fs : Array Field}, t < n → P.underlying t = some (.struct fs) → ∀ x ∈ fs.toList.map (·.type), x < n
  array : ∀ {t k e}, t < n → P.underlying t = some (.array k e) → e < n
  map : ∀ {t k e}, t < n → P.underlying t = some (.map k e) → k < n ∧ e < n
def closedB (P : Program) (n M : Nat) : Bool := (List.range n).all fun t => decide (2 * P.bytesOf t ≤ M) && (match P.underlying t with
  | some (.pointer e) => decide (e < n)
  | some (.slice e) => decide (e < n)
  | some (.struct fs) => (fs.toList.map (·.type)).all fun x => decide (x < n)
  | some (.array _ e) => decide (e < n)
  | some (.map k e) => decide (k < n) && decide (e < n)
  | _ => true)
theorem ClosedT.of {P : Program} {n M : Nat} (h : closedB P n M = true) : ClosedT P n M := by
  have key := fun t (ht : t < n) => List.all_eq_true.1 h t (List.mem_range.2 ht)
  refine ⟨fun e he => ?_, fun ht hu => ?_, fun ht hu => ?_, fun ht hu => ?_, fun ht hu => ?_, fun ht hu => ?_⟩
  · have := key e he
    simp only [Bool.and_eq_true, decide_eq_true_eq] at this
    exact this.1
  · have := key _ ht
    simp only [hu, Bool.and_eq_true, decide_eq_true_eq] at this
    exact this.2
  · have := key _ ht
    simp only [hu, Bool.and_eq_true, decide_eq_true_eq] at this
    exact this.2
  · have := key _ ht
    simp only [hu, Bool.and_eq_true] at this
    exact fun x hx => of_decide_eq_true (List.all_eq_true.1 this.2 x hx)
  · have := key _ ht
    simp only [hu, Bool.and_eq_true, decide_eq_true_eq] at this
    exact this.2
  · have := key _ ht
    simp only [hu, Bool.and_eq_true, decide_eq_true_eq] at this
    exact this.2
mutual
theorem weights_bulk {H : Type} {P : Program} {M : Nat} {n : Nat} (hC : ClosedT P n M) (h1 : 1 ≤ M) : ∀ (d : DataW H) (t : TypeId) (v : Nat), t < n → v ∈ d.weights P t → v ≤ Rows.uptoBulk d * M
  | .lit l, t, v, ht, h => by
    cases l with
    | string bytes =>
      simp only [DataW.weights, List.mem_singleton] at h
      subst h
      simp only [Rows.uptoBulk]
      exact Nat.le_trans (Nat.le_succ _) (Nat.le_mul_of_pos_right _ h1)
    | _ => simp [DataW.weights] at h
  | .nil, t, v, ht, h => by simp [DataW.weights] at h
  | .ptr d, t, v, ht, h => by
    simp only [DataW.weights] at h
    split at h
    · exact Nat.le_trans (weights_bulk hC h1 d _ v (hC.ptr ht (by assumption)) h) (Nat.mul_le_mul_right M (by simp only [Rows.uptoBulk]; omega))
    · simp at h
  | .slice el sp, t, v, ht, h => by
    simp only [DataW.weights] at h
    split at h
    · simp only [List.mem_cons, List.mem_append] at h
      simp only [Rows.uptoBulk]
      rcases h with h | h | h
      · subst h
        have a1 := bulk_len el
        have a2 := bulk_len sp
        exact Nat.le_trans (Nat.mul_le_mul_left _ (Nat.le_trans (Nat.le_mul_of_pos_left _ (by decide)) (hC.by_ _ (hC.slice ht (by assumption))))) (Nat.mul_le_mul_right M (by omega))
      · exact Nat.le_trans (weightsAll_bulk hC h1 el _ v (hC.slice ht (by assumption)) h) (Nat.mul_le_mul_right M (by omega))
      · exact Nat.le_trans (weightsAll_bulk hC h1 sp _ v (hC.slice ht (by assumption)) h) (Nat.mul_le_mul_right M (by omega))
    · simp at h
  | .agg parts, t, v, ht, h => by
    simp only [DataW.weights] at h
    simp only [Rows.uptoBulk]
    split at h
    · exact Nat.le_trans (weightsEach_bulk hC h1 parts _ v (hC.struct ht (by assumption)) h) (Nat.mul_le_mul_right M (by omega))
    · exact Nat.le_trans (weightsAll_bulk hC h1 parts _ v (hC.array ht (by assumption)) h) (Nat.mul_le_mul_right M (by omega))
    · simp at h
  | .iface _ _, t, v, ht, h => by simp [DataW.weights] at h
  | .map entries, t, v, ht, h => by
    simp only [DataW.weights] at h
    simp only [Rows.uptoBulk]
    split at h
    · simp only [List.mem_cons] at h
      rcases h with h | h
      · subst h
        rename_i k e _
        have a1 := entries_len entries
        have a0 := hC.map ht (by assumption)
        have a2 := hC.by_ k a0.1
        have a3 := hC.by_ e a0.2
        exact Nat.le_trans (Nat.mul_le_mul_left _ (show P.bytesOf k + P.bytesOf e ≤ M by omega)) (Nat.mul_le_mul_right M (by omega))
      · exact Nat.le_trans (weightsEntries_bulk hC h1 entries _ v (hC.map ht (by assumption)).2 h) (Nat.mul_le_mul_right M (by omega))
    · simp at h
  | .held _, t, v, ht, h => by simp [DataW.weights] at h
theorem weightsAll_bulk {H : Type} {P : Program} {M : Nat} {n : Nat} (hC : ClosedT P n M) (h1 : 1 ≤ M) : ∀ (l : List (DataW H)) (t : TypeId) (v : Nat), t < n → v ∈ DataW.weightsAll P t l → v ≤ Rows.uptoBulkAll l * M
  | [], t, v, ht, h => by simp [DataW.weightsAll] at h
  | d :: r, t, v, ht, h => by
    simp only [DataW.weightsAll, List.mem_append] at h
    simp only [Rows.uptoBulkAll]
    rcases h with h | h
    · exact Nat.le_trans (weights_bulk hC h1 d t v ht h) (Nat.mul_le_mul_right M (by omega))
    · exact Nat.le_trans (weightsAll_bulk hC h1 r t v ht h) (Nat.mul_le_mul_right M (by omega))
theorem weightsEach_bulk {H : Type} {P : Program} {M : Nat} {n : Nat} (hC : ClosedT P n M) (h1 : 1 ≤ M) : ∀ (l : List (DataW H)) (ts : List TypeId) (v : Nat), (∀ t ∈ ts, t < n) → v ∈ DataW.weightsEach P ts l → v ≤ Rows.uptoBulkAll l * M
  | [], ts, v, ht, h => by cases ts <;> simp [DataW.weightsEach] at h
  | d :: r, [], v, ht, h => by simp [DataW.weightsEach] at h
  | d :: r, t :: ts, v, ht, h => by
    simp only [DataW.weightsEach, List.mem_append] at h
    simp only [Rows.uptoBulkAll]
    rcases h with h | h
    · exact Nat.le_trans (weights_bulk hC h1 d t v (ht t (List.mem_cons_self ..)) h) (Nat.mul_le_mul_right M (by omega))
    · exact Nat.le_trans (weightsEach_bulk hC h1 r ts v (fun x hx => ht x (List.mem_cons_of_mem _ hx)) h) (Nat.mul_le_mul_right M (by omega))
theorem weightsEntries_bulk {H : Type} {P : Program} {M : Nat} {n : Nat} (hC : ClosedT P n M) (h1 : 1 ≤ M) : ∀ (l : List (Lit × DataW H)) (t : TypeId) (v : Nat), t < n → v ∈ DataW.weightsEntries P t l → v ≤ Rows.uptoBulkEntries l * M
  | [], t, v, ht, h => by simp [DataW.weightsEntries] at h
  | x :: r, t, v, ht, h => by
    simp only [DataW.weightsEntries, List.mem_append] at h
    simp only [Rows.uptoBulkEntries]
    rcases h with h | h
    · exact Nat.le_trans (weightsEntry_bulk hC h1 x t v ht h) (Nat.mul_le_mul_right M (by omega))
    · exact Nat.le_trans (weightsEntries_bulk hC h1 r t v ht h) (Nat.mul_le_mul_right M (by omega))
theorem weightsEntry_bulk {H : Type} {P : Program} {M : Nat} {n : Nat} (hC : ClosedT P n M) (h1 : 1 ≤ M) : ∀ (x : Lit × DataW H) (t : TypeId) (v : Nat), t < n → v ∈ DataW.weightsEntry P t x → v ≤ Rows.uptoBulkEntry x * M
  | (.string bytes, d), t, v, ht, h => by
    simp only [DataW.weightsEntry, List.mem_cons] at h
    simp only [Rows.uptoBulkEntry]
    rcases h with h | h
    · subst h
      exact Nat.le_trans (show bytes.length ≤ bytes.length + Rows.uptoBulk d + 1 by omega) (Nat.le_mul_of_pos_right _ h1)
    · exact Nat.le_trans (weights_bulk hC h1 d t v ht h) (Nat.mul_le_mul_right M (by omega))
  | (.bool _, d), t, v, ht, h => by
    simp only [DataW.weightsEntry] at h
    exact Nat.le_trans (weights_bulk hC h1 d t v ht h) (Nat.mul_le_mul_right M (by simp only [Rows.uptoBulkEntry]; omega))
  | (.int _ _, d), t, v, ht, h => by
    simp only [DataW.weightsEntry] at h
    exact Nat.le_trans (weights_bulk hC h1 d t v ht h) (Nat.mul_le_mul_right M (by simp only [Rows.uptoBulkEntry]; omega))
  | (.float _ _, d), t, v, ht, h => by
    simp only [DataW.weightsEntry] at h
    exact Nat.le_trans (weights_bulk hC h1 d t v ht h) (Nat.mul_le_mul_right M (by simp only [Rows.uptoBulkEntry]; omega))
  | (.nil, d), t, v, ht, h => by
    simp only [DataW.weightsEntry] at h
    exact Nat.le_trans (weights_bulk hC h1 d t v ht h) (Nat.mul_le_mul_right M (by simp only [Rows.uptoBulkEntry]; omega))
end
theorem choose_list {K : Type} {R : Nat → K → Prop} : ∀ (n : Nat), (∀ i, i < n → ∃ q, R i q) → ∃ qs : List K, qs.length = n ∧ ∀ i q, qs[i]? = some q → R i q
  | 0, _ => ⟨[], rfl, fun i q h => by simp at h⟩
  | n + 1, h => by
    obtain ⟨qs, hl, hR⟩ := choose_list n (fun i hi => h i (by omega))
    obtain ⟨q, hq⟩ := h n (by omega)
    refine ⟨qs ++ [q], by simp [hl], fun i x hx => ?_⟩
    by_cases hi : i < qs.length
    · rw [List.getElem?_append_left hi] at hx; exact hR i x hx
    · have hlt := (List.getElem?_eq_some_iff.1 hx).1
      rw [List.length_append, List.length_singleton] at hlt
      obtain rfl : i = n := by omega
      rw [List.getElem?_append_right (by omega)] at hx
      have : i - qs.length = 0 := by omega
      rw [this] at hx
      simp at hx; subst hx; exact hq
section
variable {H : Type} {enc : TypeId × Value → H} {W : World} {base : Nat} {spare : Nat → Bool} {held : Bool} {P : Program}
/-- A row of things of any kind, each opened by its own law. -/
theorem open_rows {K : Type} {cells : K → List Value} {sz : Nat} (hs : ∀ q, (cells q).length = sz) (hpos : 0 < sz) {t e : TypeId} (ht : P.underlying t = some (.slice e)) (hC : P.cellsOf e = sz) {Q : K → Prop} {fuel : Nat} {cs : List Value} {x : DataW H × List MemPlace}
    (hone : ∀ (fl : Nat) (cs' : List Value) (y : DataW H × List MemPlace), DataW.trod enc P W base spare held fl e cs' = some y → (∀ v ∈ y.1.weights P e, v ∈ x.1.weights P t) → ∃ q, cs' = cells q ∧ Q q)
    (h : DataW.trod enc P W base spare held fuel t cs = some x) :
    ∃ (A : Option Addr) (n c : Nat) (qs : List K), cs = [.slice A n c] ∧ n ≤ c ∧ c ≤ maxLen ∧ n = qs.length ∧ Sl W sz A n (qs.flatMap cells) ∧ (∀ q ∈ qs, Q q) ∧ (n = 0 ∨ ∃ el sp, x.1 = .slice el sp ∧ el.length = n) := by
  rcases open_slice ht h with ⟨rfl, _⟩ | ⟨a, len, cap, m, k, D, Pl, rfl, _, hl, hm, hmm, hxx, hi⟩
  · exact ⟨none, 0, 0, [], rfl, Nat.le_refl _, Nat.zero_le _, rfl, Sl.nil_ _ _ _, (fun q h => by cases h), .inl rfl⟩
  · have hlm : len ≤ m := by rw [hmm]; split <;> omega
    obtain ⟨qs, hql, hR⟩ := choose_list (K := K) (R := fun i q => Q q ∧ ∀ j u, (cells q)[j]? = some u → W.cell? (a.add (i * sz + j)) = some u) len (fun i hil => by
      obtain ⟨cs', hc, ht'⟩ := hi i (by omega)
      rw [hC] at hc
      obtain ⟨q, rfl, hQ⟩ := hone k cs' (D i, Pl i) ht' (fun v hv => by
        rw [hxx]
        exact weights_slice ht (List.mem_map.2 ⟨i, List.mem_range.2 hil, rfl⟩) hv)
      obtain ⟨_, hcl, hat⟩ := World.cells?_some hc
      refine ⟨q, hQ, fun j u hu => ?_⟩
      have hj : j < sz := by rw [← hs q]; exact (List.getElem?_eq_some_iff.1 hu).1
      have h1 := hat j hj
      rw [add_add] at h1
      rw [h1]; exact hu)
    refine ⟨some a, len, cap, qs, rfl, hl, hm, hql.symm, ⟨by rw [← cellsOf, cellsOf_length hs, hql], fun hn => ?_⟩, fun q hq => ?_, .inr ⟨_, _, by rw [hxx], by simp⟩⟩
    · have key : ∀ j u, (qs.flatMap cells)[j]? = some u → W.cell? (a.add j) = some u := fun j u hu => by
        have hjl : j < len * sz := by
          have := (List.getElem?_eq_some_iff.1 hu).1
          rwa [← cellsOf, cellsOf_length hs, hql] at this
        have h1 : j / sz < len := Nat.div_lt_of_lt_mul (by rw [Nat.mul_comm]; exact hjl)
        have h2 : j % sz < sz := Nat.mod_lt _ hpos
        have h3 : j / sz * sz + j % sz = j := by rw [Nat.mul_comm]; exact Nat.div_add_mod j sz
        obtain ⟨q, hq⟩ : ∃ q, qs[j / sz]? = some q := ⟨_, List.getElem?_eq_getElem (by omega)⟩
        have h4 := cellsOf_at hs qs _ q hq (j % sz) h2
        rw [h3] at h4
        have h5 := (hR _ q hq).2 (j % sz) u (by rw [← h4]; exact hu)
        rwa [h3] at h5
      obtain ⟨u0, hu0⟩ : ∃ u, (qs.flatMap cells)[0]? = some u := ⟨_, List.getElem?_eq_getElem (by rw [← cellsOf, cellsOf_length hs, hql]; exact Nat.mul_pos hn hpos)⟩
      have hsp : a.spot = none := by simpa [Addr.add] using World.cell?_spot (key 0 u0 hu0)
      obtain ⟨b, o, sp⟩ := a
      simp only at hsp
      subst hsp
      exact ⟨b, o, rfl, fun j u hu => by have := key j u hu; rwa [Addr.add_lit] at this⟩
    · obtain ⟨i, hil, rfl⟩ := List.mem_iff_getElem.1 hq
      exact (hR i _ (List.getElem?_eq_getElem hil)).1
end
section
variable {H : Type} {enc : TypeId × Value → H} {W : World} {base : Nat} {spare : Nat → Bool} {held : Bool}
theorem closedP : ClosedT Try.prog Try.prog.types.size 134217000 := .of (by kernel_rfl)
theorem weights_small {d : DataW H} (h : Rows.uptoBulk d ≤ 1048576) (t : TypeId) (ht : t < Try.prog.types.size) : ∀ v ∈ d.weights Try.prog t, v ≤ reachBytes := fun v hv => by
  have h1 := weights_bulk closedP (by decide) d t v ht hv
  have h2 : Rows.uptoBulk d * 134217000 ≤ 1048576 * 134217000 := Nat.mul_le_mul_right _ h
  have e : reachBytes = 140737488351232 := by decide
  omega
theorem open_commands {fuel : Nat} {cs : List Value} {x : DataW H × List MemPlace} (h : DataW.trod enc Try.prog W base spare held fuel 77 cs = some x) (hb : Rows.uptoBulk x.1 ≤ 1048576) :
    ∃ (A : Option Addr) (n c : Nat) (qs : List KC), cs = [.slice A n c] ∧ n ≤ c ∧ c ≤ maxLen ∧ CsAt W qs A n ∧ n + 1 ≤ Rows.uptoBulk x.1 := by
  obtain ⟨A, n, c, qs, h1, h2, h3, h4, h5, h6, h7⟩ := open_rows (K := KC) (cells := ccells) (sz := 24) (Q := fun q => q.at_ W ∧ q.wf) ccells_len (by decide) Try.underlying77 (by kernel_rfl) (fun fl cs' y hy hw => by
    obtain ⟨r, e1, e2, e3⟩ := open_command hy (fun v hv => weights_small hb _ (by decide +kernel) v (hw v hv))
    exact ⟨r, e1, e2, e3⟩) h
  exact ⟨A, n, c, qs, h1, h2, h3, ⟨h4, h5, fun q hq => (h6 q hq).1, fun q hq => (h6 q hq).2⟩, bytes_bulk h7⟩
theorem open_replies {fuel : Nat} {cs : List Value} {x : DataW H × List MemPlace} (h : DataW.trod enc Try.prog W base spare held fuel 49 cs = some x) (hb : Rows.uptoBulk x.1 ≤ 1048576) :
    ∃ (A : Option Addr) (n c : Nat) (qs : List RR), cs = [.slice A n c] ∧ n ≤ c ∧ c ≤ maxLen ∧ RsAt W qs A n ∧ n + 1 ≤ Rows.uptoBulk x.1 := by
  obtain ⟨A, n, c, qs, h1, h2, h3, h4, h5, h6, h7⟩ := open_rows (K := RR) (cells := rcells) (sz := 18) (Q := fun q => q.at_ W ∧ q.wf) rcells_len (by decide) Try.underlying49 (by kernel_rfl) (fun fl cs' y hy hw => by
    obtain ⟨r, e1, e2, e3⟩ := open_reply hy (fun v hv => weights_small hb _ (by decide +kernel) v (hw v hv))
    exact ⟨r, e1, e2, e3⟩) h
  exact ⟨A, n, c, qs, h1, h2, h3, ⟨h4, h5, fun q hq => (h6 q hq).1, fun q hq => (h6 q hq).2⟩, bytes_bulk h7⟩
end
end Go.Proofs.Ytlcjhbemgagchaa
end
