/-
  Texts merged into one, to keep the claim small: St7, St8.
-/
import Derived.Test.YtlcjhbemgagchaaMr25
import Derived.Test.YtlcjhbemgagchaaMr36
import Derived.Test.YtlcjhbemgagchaaMr4
import Derived.Test.YtlcjhbemgagchaaMr32
import Derived.Test.YtlcjhbemgagchaaMr26
section
/-
  stream: replies one behind the other: what bytes tell (Reps), and where the replies lie (Rps).
-/
namespace Go.Proofs.Ytlcjhbemgagchaa
open Go.RowKit
set_option linter.unusedVariables false

/-- A frame's body: so many bytes behind the three of its length. -/
def bodyS (bs : List Nat) (k : Nat) : List Nat := (bs.drop (k + 3)).take (longS (bs.drop k))
/-- What bytes tell from k on: the replies, how many bytes were used, the error. -/
inductive Reps (bs : List Nat) : Nat → List RR → Nat → Nat → Prop
  | short {k : Nat} : bs.length < k + 3 → Reps bs k [] k 0
  | long {k : Nat} : k + 3 ≤ bs.length → 65536 < longS (bs.drop k) → Reps bs k [] k 290
  | half {k : Nat} : k + 3 ≤ bs.length → longS (bs.drop k) ≤ 65536 → bs.length < k + 3 + longS (bs.drop k) → Reps bs k [] k 0
  | bad {k : Nat} {c : RR} {er : Int} : longS (bs.drop k) ≤ 65536 → k + 3 + longS (bs.drop k) ≤ bs.length → RVer (bodyS bs k) c er → er ≠ 0 → Reps bs k [] k 290
  | one {k : Nat} {c : RR} {l : List RR} {u e : Nat} : longS (bs.drop k) ≤ 65536 → k + 3 + longS (bs.drop k) ≤ bs.length → RVer (bodyS bs k) c 0 → Reps bs (k + 3 + longS (bs.drop k)) l u e → Reps bs k (c :: l) u e
/-- The same replies. -/
inductive LikeR : List RR → List RR → Prop
  | nil : LikeR [] []
  | cons {a b : RR} {l m : List RR} : a.like b → LikeR l m → LikeR (a :: l) (b :: m)
theorem LikeR.len {l m : List RR} (h : LikeR l m) : l.length = m.length := by
  induction h with
  | nil => rfl
  | cons _ _ ih => simp [ih]
theorem LikeR.at_ {l m : List RR} (h : LikeR l m) : ∀ {i : Nat} {a b : RR}, l[i]? = some a → m[i]? = some b → a.like b := by
  induction h with
  | nil => intro i a b h; simp at h
  | cons h1 _ ih =>
    intro i a b ha hb
    rcases i with _ | i
    · simp at ha hb; subst ha hb; exact h1
    · simp at ha hb; exact ih ha hb
theorem Reps.same {bs : List Nat} {k : Nat} {l l' : List RR} {u u' e e' : Nat} (h : Reps bs k l u e) (h' : Reps bs k l' u' e') : u = u' ∧ e = e' ∧ LikeR l l' := by
  induction h generalizing l' u' e' with
  | short h1 =>
    cases h' with
    | short => exact ⟨rfl, rfl, .nil⟩
    | long => omega
    | half => omega
    | bad => omega
    | one => omega
  | long h1 h2 =>
    cases h' with
    | short => omega
    | long => exact ⟨rfl, rfl, .nil⟩
    | half => omega
    | bad => omega
    | one => omega
  | half h1 h2 h3 =>
    cases h' with
    | short => omega
    | long => omega
    | half => exact ⟨rfl, rfl, .nil⟩
    | bad => omega
    | one => omega
  | bad h1 h2 h3 h4 =>
    cases h' with
    | short => omega
    | long => omega
    | half => omega
    | bad => exact ⟨rfl, rfl, .nil⟩
    | one k1 k2 k3 k4 => exact absurd (h3.same k3).1 h4
  | one h1 h2 h3 h4 ih =>
    cases h' with
    | short => omega
    | long => omega
    | half => omega
    | bad k1 k2 k3 k4 => exact absurd (k3.same h3).1 k4
    | one k1 k2 k3 k4 =>
      obtain ⟨i1, i2, i3⟩ := ih k4
      exact ⟨i1, i2, .cons (h3.same k3).2 i3⟩
/-- What was told ahead of k. -/
inductive ToldR (bs : List Nat) : Nat → List RR → Prop
  | nil : ToldR bs 0 []
  | snoc {k : Nat} {l : List RR} {c : RR} : ToldR bs k l → longS (bs.drop k) ≤ 65536 → k + 3 + longS (bs.drop k) ≤ bs.length → RVer (bodyS bs k) c 0 → ToldR bs (k + 3 + longS (bs.drop k)) (l ++ [c])
theorem ToldR.reps {bs : List Nat} {k : Nat} {l : List RR} (h : ToldR bs k l) : ∀ {l' : List RR} {u e : Nat}, Reps bs k l' u e → Reps bs 0 (l ++ l') u e := by
  induction h with
  | nil => exact fun h => h
  | snoc _ h1 h2 h3 ih =>
    intro l' u e h
    rw [List.append_assoc]
    exact ih (.one h1 h2 h3 h)
theorem ToldR.len {bs : List Nat} {k : Nat} {l : List RR} (h : ToldR bs k l) : 3 * l.length ≤ k ∧ (k = 0 ∨ k ≤ bs.length) := by
  induction h with
  | nil => simp
  | snoc _ h1 h2 h3 ih => simp only [List.length_append, List.length_singleton]; omega

abbrev tRpl : TypeId := 35
def rcells (r : RR) : List Value := [.int .i64 r.id, .int .i64 r.err, .int .i64 r.num, .int .u64 (r.co : Int), .slice r.A r.n r.c, .string (strOf r.txt), .int .u32 (r.bits : Int), .int .i64 r.k.num, .int .i64 r.k.kind, .int .i64 r.k.by_, .int .i64 r.k.dl, .int .i64 r.k.to_, .int .i64 r.k.want, .int .u64 (r.k.pr : Int), .int .u64 (r.k.rs : Int), .int .u64 (r.k.st : Int), .int .i64 r.k.of_, .slice r.k.A r.k.n r.k.c]
theorem rcells_len (r : RR) : (rcells r).length = 18 := rfl
theorem rcells_one (r : RR) : ∀ u ∈ rcells r, u.oneCell' = true := by
  intro u hu
  simp only [rcells, List.mem_cons, List.not_mem_nil, or_false] at hu
  rcases hu with rfl | rfl | rfl | rfl | rfl | rfl | rfl | rfl | rfl | rfl | rfl | rfl | rfl | rfl | rfl | rfl | rfl | rfl <;> rfl
theorem infoRpl : (Try.prog.info? tRpl).map (fun i => (i.zero, i.size, i.bytes)) = some (some (.agg #[.int .i64 0, .int .i64 0, .int .i64 0, .int .u64 0, .slice none 0 0, .string ⟨#[]⟩, .int .u32 0, .int .i64 0, .int .i64 0, .int .i64 0, .int .i64 0, .int .i64 0, .int .i64 0, .int .u64 0, .int .u64 0, .int .u64 0, .int .i64 0, .slice none 0 0]), 18, 184) := by kernel_rfl
section
variable {W w w' : World} {q : RR}
theorem ROwn.frt (h : ROwn W w q) {S : Nat → Prop} (hf : Fr S w w') (h1 : ∀ x, Typed w x tEnt → ¬ S x) (h2 : ∀ x, Typed w x 3 → ¬ S x) : ROwn W w' q := by
  obtain ⟨ge, o1, o2⟩ := h.eo
  obtain ⟨gk, o3⟩ := h.ko
  exact ⟨h.en, ⟨ge, o1.fr hf fun x e => h2 x (o1.typed x e), o2⟩, h.kn, ⟨gk, o3.frt hf h1 h2⟩⟩
theorem ROwn.quiet (h : ROwn W w q) (hf : Fr (fun _ => False) w w') : ROwn W w' q := h.frt hf (fun _ _ => id) (fun _ _ => id)
theorem ROwn.base (h : ROwn W w q) {W' : World} (hs : W'.heap.size ≤ W.heap.size) : ROwn W' w q := by
  obtain ⟨ge, o1, o2⟩ := h.eo
  obtain ⟨gk, o3⟩ := h.ko
  exact ⟨h.en, ⟨ge, o1, fun x e => Nat.le_trans hs (o2 x e)⟩, h.kn, ⟨gk, o3.base hs⟩⟩
/-- What turns lies below. -/
theorem ROwn.low (h : ROwn W w q) {S : Nat → Prop} (hf : Fr S w w') (hS : ∀ x, S x → x < W.heap.size) : ROwn W w' q := by
  obtain ⟨ge, o1, o2⟩ := h.eo
  obtain ⟨gk, o3⟩ := h.ko
  refine ⟨h.en, ⟨ge, o1.fr hf fun x e hs => by have := o2 x e; have := hS x hs; omega, o2⟩, h.kn, ⟨gk, o3.len, o3.ow.fr hf fun x e hs => by have := o3.new x e; have := hS x hs; omega, o3.new, fun p hp => ?_, o3.ap⟩⟩
  obtain ⟨k1, gi, k2, k3⟩ := o3.own p hp
  exact ⟨k1, gi, k2.fr hf fun x e hs => by have := k3 x e; have := hS x hs; omega, k3⟩
theorem ROwn.rt (h : ROwn W w q) (hok : q.items.length ≤ 65536) : RT w q := by
  obtain ⟨ge, o1, -⟩ := h.eo
  obtain ⟨gk, o2⟩ := h.ko
  have hc := o1.cap
  unfold maxLen at hc
  have hlen : q.n = q.items.length := by have := o1.1; simpa using this.symm
  exact ⟨⟨⟨by omega, hc.1, hc.2, o1.sl⟩, fun b o e => o1.typed b (o1.sblk' e)⟩, by omega, o2.k h.kn⟩
/-- Replies in memory of their own. -/
structure Rps (W w : World) (l : List RR) (A : Option Addr) (n c : Nat) (g : Option Nat) : Prop where
  len : n = l.length
  ow : Ow w tRpl 18 A n c (l.flatMap rcells) g
  new : ∀ b, g = some b → W.heap.size ≤ b
  own : ∀ q ∈ l, ROwn W w q ∧ q.items.length ≤ 65536
  ap : l.Pairwise fun p q => ∀ x o y o', p.A = some ⟨x, o, none⟩ → q.A = some ⟨y, o', none⟩ → x < y
/-- Replies that can be read. -/
structure Rpr (W w : World) (l : List RR) (A : Option Addr) (n c : Nat) (g : Option Nat) : Prop where
  len : n = l.length
  ow : Ow w tRpl 18 A n c (l.flatMap rcells) g
  new : ∀ b, g = some b → W.heap.size ≤ b
  rt : ∀ q ∈ l, RT w q
variable {l : List RR} {A : Option Addr} {n c : Nat} {g : Option Nat}
theorem Rps.nil_ (W w : World) : Rps W w [] none 0 0 none := ⟨rfl, Ow.nil_ _ _ _, (fun b e => by cases e), (fun q h => by cases h), List.Pairwise.nil⟩
theorem Rpr.nil_ (W w : World) : Rpr W w [] none 0 0 none := ⟨rfl, Ow.nil_ _ _ _, (fun b e => by cases e), fun q h => by cases h⟩
theorem Rps.quiet (h : Rps W w l A n c g) (hf : Fr (fun _ => False) w w') : Rps W w' l A n c g := ⟨h.len, h.ow.fr hf (fun _ _ => id), h.new, fun q hq => ⟨(h.own q hq).1.quiet hf, (h.own q hq).2⟩, h.ap⟩
theorem Rpr.quiet (h : Rpr W w l A n c g) (hf : Fr (fun _ => False) w w') : Rpr W w' l A n c g := ⟨h.len, h.ow.fr hf (fun _ _ => id), h.new, fun q hq => (h.rt q hq).quiet hf⟩
theorem Rps.pr (h : Rps W w l A n c g) : Rpr W w l A n c g := ⟨h.len, h.ow, h.new, fun q hq => (h.own q hq).1.rt (h.own q hq).2⟩
theorem flat_snoc (l : List RR) (q : RR) : (l ++ [q]).flatMap rcells = l.flatMap rcells ++ rcells q := by simp [List.flatMap_append]
theorem Rps.app {w1 : World} {A3 : Option Addr} {c3 : Nat} {g3 : Option Nat} (h1 : Rps W w1 l A n c g) (h : Rps W w l A n c g) (hs : W.heap.size ≤ w1.heap.size) (hq : ROwn w1 w q) (hi : q.items.length ≤ 65536) (hO : Ow w' tRpl 18 A3 (n + 1) c3 (l.flatMap rcells ++ rcells q) g3) (hf : Fr (fun x => some x = g) w w') (hg : g3 = g ∨ ∃ b, g3 = some b ∧ W.heap.size ≤ b) : Rps W w' (l ++ [q]) A3 (n + 1) c3 g3 := by
  have k1 : ∀ x, Typed w x tEnt → ¬ some x = g := fun x hx e => absurd (hx.same (h.ow.typed x e.symm)) (by decide)
  have k2 : ∀ x, Typed w x 3 → ¬ some x = g := fun x hx e => absurd (hx.same (h.ow.typed x e.symm)) (by decide)
  refine ⟨by rw [h.len]; simp, by rw [flat_snoc]; exact hO, fun b e => ?_, fun p hp => ?_, ?_⟩
  · rcases hg with rfl | ⟨b', rfl, hb⟩
    · exact h.new b e
    · cases e; exact hb
  · rcases List.mem_append.1 hp with hp | hp
    · exact ⟨(h.own p hp).1.frt hf k1 k2, (h.own p hp).2⟩
    · obtain rfl : p = q := by simpa using hp
      exact ⟨(hq.base hs).frt hf k1 k2, hi⟩
  · rw [List.pairwise_append]
    refine ⟨h.ap, List.pairwise_singleton _ _, fun p hp p' hp' => ?_⟩
    obtain rfl : p' = q := by simpa using hp'
    intro x o y o' ex ey
    obtain ⟨gp, k2, -⟩ := (h1.own p hp).1.eo
    obtain ⟨gq, k3, k4⟩ := hq.eo
    have a1 := k2.lt x (k2.sblk ex)
    have a2 := k4 y (k3.sblk ey)
    omega
theorem Rpr.app {A3 : Option Addr} {c3 : Nat} {g3 : Option Nat} (h : Rpr W w l A n c g) (hq : RT w q) (hO : Ow w' tRpl 18 A3 (n + 1) c3 (l.flatMap rcells ++ rcells q) g3) (hf : Fr (fun x => some x = g) w w') (hg : g3 = g ∨ ∃ b, g3 = some b ∧ W.heap.size ≤ b) : Rpr W w' (l ++ [q]) A3 (n + 1) c3 g3 := by
  have k1 : ∀ x, Typed w x tEnt → ¬ some x = g := fun x hx e => absurd (hx.same (h.ow.typed x e.symm)) (by decide)
  have k2 : ∀ x, Typed w x 3 → ¬ some x = g := fun x hx e => absurd (hx.same (h.ow.typed x e.symm)) (by decide)
  refine ⟨by rw [h.len]; simp, by rw [flat_snoc]; exact hO, fun b e => ?_, fun p hp => ?_⟩
  · rcases hg with rfl | ⟨b', rfl, hb⟩
    · exact h.new b e
    · cases e; exact hb
  · rcases List.mem_append.1 hp with hp | hp
    · exact (h.rt p hp).frt hf k1 k2
    · obtain rfl : p = q := by simpa using hp
      exact hq.frt hf k1 k2
end
end Go.Proofs.Ytlcjhbemgagchaa
end

section
/-
  stream: Replies, the program's. (printed by pr_reps.py)
-/
namespace Go.Proofs.Ytlcjhbemgagchaa
open Go.RowKit
set_option linter.unusedVariables false
theorem clipRpl_any (w : World) (A : Option Addr) (n c : Nat) (hn : n ≤ c) (hc : c ≤ maxLen) :
    Calls Try.prog 49 #[.slice A n c] w fun e w' => e = .returned (.slice A n n) ∧ w = w' := by
  unfold maxLen at hc
  go_enter Try.func49, Try.ntmps49
  go_wp2
  go_ret
  exact ⟨rfl, rfl⟩
/-- DecodeReply's answer: the reply, in memory of its own; or nothing. -/
def RepN (bs : List Nat) (w : World) (e : Ending) (w' : World) : Prop := ∃ (q : RR) (er : Nat), e = .returned (.tuple #[.agg #[.int .i64 q.id, .int .i64 q.err, .int .i64 q.num, .int .u64 (q.co : Int), .slice q.A q.n q.c, .string (strOf q.txt), .int .u32 (q.bits : Int), .int .i64 q.k.num, .int .i64 q.k.kind, .int .i64 q.k.by_, .int .i64 q.k.dl, .int .i64 q.k.to_, .int .i64 q.k.want, .int .u64 (q.k.pr : Int), .int .u64 (q.k.rs : Int), .int .u64 (q.k.st : Int), .int .i64 q.k.of_, .slice q.k.A q.k.n q.k.c], .int .i64 (er : Int)]) ∧ Hid (RVer bs q (er : Int)) ∧ Hid (ROwn w w' q ∧ q.items.length ≤ 65536) ∧ Fr (fun _ => False) w w'
theorem zeroR_own (W w : World) : ROwn W w zeroR := ⟨by decide, ⟨none, Ow.nil_ _ _ _, fun x e => by cases e⟩, by decide, ⟨none, Ents.nil_ W w⟩⟩
theorem RepPost.n {bs : List Nat} {w w' : World} {e : Ending} (h : RepPost bs w e w') : RepN bs w e w' := by
  rcases h with ⟨h1, rfl, hf⟩ | ⟨h1, h2, rfl, hf⟩ | ⟨h1, c, h2, rfl, h3, hf⟩
  · exact ⟨zeroR, 3, rfl, .inl ⟨h1, rfl, rfl⟩, ⟨zeroR_own _ _, by decide⟩, hf⟩
  · exact ⟨zeroR, 270, rfl, .inr (.inl ⟨h1, h2, rfl, rfl⟩), ⟨zeroR_own _ _, by decide⟩, hf⟩
  · exact ⟨c, 0, rfl, .inr (.inr ⟨h1, rfl, h2⟩), ⟨h3, by have := (RR.ok_split h2.ok).2.2.2.2.1; omega⟩, hf⟩
theorem sl_rpl (w : World) (q : RR) (e : TypeId) : Sl (w.alloc (.cells (rcells q).toArray e)) 18 (some ⟨w.heap.size, 0, none⟩) 1 (rcells q) := by
  refine ⟨rfl, fun _ => ⟨w.heap.size, 0, rfl, fun j u hu => ?_⟩⟩
  have hb := Bl.new w e (rcells q).toArray
  rw [Nat.zero_add]
  exact hb.cell' (by rw [List.getElem?_toArray]; exact hu)
/-- The rest of a slice, a part of it, wherever it begins. -/
theorem Sl.rest8 {w : World} {n b o : Nat} {xs : List Nat} (h : Sl w 1 (some ⟨b, o, none⟩) n (xs.map bn)) {k : Nat} (hk : k ≤ n) : Sl w 1 (some ⟨b, o + k, none⟩) (n - k) ((xs.drop k).map bn) := by
  have hl : xs.length = n := by have := h.1; simpa using this
  have h1 := h.part hk (Nat.le_refl n)
  rw [← List.map_drop, ← List.map_take, List.take_of_length_le (by simp; omega)] at h1
  exact h1
theorem Sl.body8 {w : World} {n b o : Nat} {xs : List Nat} (h : Sl w 1 (some ⟨b, o, none⟩) n (xs.map bn)) {k L : Nat} (hk : k + 3 + L ≤ n) (hL : longS (xs.drop k) = L) : Sl w 1 (some ⟨b, o + (k + 3), none⟩) L ((bodyS xs k).map bn) := by
  have h1 := h.part (f := k + 3) (t := k + 3 + L) (by omega) hk
  rw [Nat.add_sub_cancel_left, ← List.map_drop, ← List.map_take] at h1
  unfold bodyS
  rw [hL]; exact h1
theorem drop_bytes {xs : List Nat} (h : ∀ x ∈ xs, x < 256) (k : Nat) : ∀ x ∈ xs.drop k, x < 256 := fun x hx => h x (List.mem_of_mem_drop hx)
theorem body_bytes {xs : List Nat} (h : ∀ x ∈ xs, x < 256) (k : Nat) : ∀ x ∈ bodyS xs k, x < 256 := fun x hx => h x (List.mem_of_mem_drop (List.mem_of_mem_take hx))
def RepsPost (bs : List Nat) (w : World) (e : Ending) (w' : World) : Prop :=
  ∃ (l : List RR) (u er : Nat) (B : Option Addr) (m d : Nat) (g : Option Nat), e = .returned (.tuple #[.slice B m d, .int .i64 (u : Int), .int .i64 (er : Int)]) ∧ Reps bs 0 l u er ∧ Rps w w' l B m d g ∧ Fr (fun _ => False) w w'
set_option maxHeartbeats 1000000 in
set_option maxRecDepth 8000 in
attribute [-go_sem] Go.Instr.loadAt Go.Instr.storeAt in
theorem replies_any (w : World) (bs : List Nat) (b0 o0 : Nat) (A : Option Addr) (n c : Nat) (hn : n = bs.length) (hb : n ≤ 2097152) (hc : n ≤ c) (hc2 : c ≤ maxLen) (h256 : ∀ x ∈ bs, x < 256) (hA : Sl w 1 A n (bs.map bn)) :
    Calls Try.prog 22 #[.slice A n c] w (RepsPost bs w) := by
  obtain ⟨j0, hj, hj0, hj1, hj2⟩ := info_parts infoRpl
  unfold maxLen at hc2
  have HA := hide (fun w' (hf : Fr (fun _ => False) w w') => hA.below hf (fun _ _ => id))
  have Hn := hide hn
  have H256 := hide h256
  clear hA hn h256
  go_enter Try.func22, Try.ntmps22
  go_wp2_with fail
  go_loopw [5, 6] (fun v5 v6 wr => ∃ (k : Nat) (l : List RR) (B : Option Addr) (m d : Nat) (g : Option Nat), v5 = .slice B m d ∧ v6 = .int .i64 (k : Int) ∧ k ≤ n ∧ Hid (ToldR bs k l) ∧ Hid (Rps w wr l B m d g) ∧ Hid (Fr (fun _ => False) w wr)) (fun _ v _ => n - (intOf v).toNat)
  case atStart => exact ⟨0, [], none, 0, 0, none, rfl, rfl, Nat.zero_le _, .nil, Rps.nil_ _ _, Fr.refl _ _⟩
  case round =>
    obtain ⟨k, l, B, m, d, g, rfl, rfl, hk, hT, hR, hF⟩ := hrel
    obtain ⟨wo, rfl⟩ : ∃ z, z = wr := ⟨_, rfl⟩
    have hcap := hR.out.ow.cap
    have hcl := fun w' => clipRpl_any w' B m d hcap.1 hcap.2
    have hRc : Hid (Rps w wo l B m m g) := ⟨hR.out.len, hR.out.ow.clip, hR.out.new, hR.out.own, hR.out.ap⟩
    have hml : m ≤ 700000 := by have := hT.out.len; have := hR.out.len; have := Hn.out; omega
    clear hcap
    by_cases hsh : n < k + 3
    · have hD : Hid (Reps bs 0 l k 0) := by
        have := hT.out.reps (.short (by have := Hn.out; omega))
        rwa [List.append_nil] at this
      have b1 : ¬ (3 : Int) ≤ (n : Int) - (k : Int) := by omega
      have iw : IntKind.i64.wrap ((n : Int) - (k : Int)) = (n : Int) - (k : Int) := IntWalk.i64_in _ (by omega)
      clear hsh
      go_wp2_with fail
      refine (hcl _).mono ?_
      rintro e w' ⟨rfl, rfl⟩
      go_wp2_with fail
      go_ret3
      exact ⟨l, k, 0, B, m, m, g, rfl, hD.out, hRc.out, hF.out⟩
    · have b1 : (3 : Int) ≤ (n : Int) - (k : Int) := by omega
      have iw : IntKind.i64.wrap ((n : Int) - (k : Int)) = (n : Int) - (k : Int) := IntWalk.i64_in _ (by omega)
      have hA := HA.out wo hF.out
      obtain ⟨b, o, rfl, -⟩ := hA.byte (k := 0) (by omega)
      have hAk := hA.rest8 hk
      have hlg := long_any wo (bs.drop k) _ (n - k) (c - k) (by omega) hAk (drop_bytes H256.out k)
      obtain ⟨L, hL⟩ : ∃ L, longS (bs.drop k) = L := ⟨_, rfl⟩
      rw [hL] at hlg
      have HL := hide hL
      have k1 : (0 : Int) ≤ (k : Int) := by omega
      have k2 : (k : Int) ≤ (n : Int) := by omega
      have hS3 := fun (h : k + 3 + L ≤ n) => hA.body8 h HL.out
      have HS3 := hide hS3
      have hRw := fun w' (hf : Fr (fun _ => False) wo w') => hRc.out.quiet hf
      have HRw := hide hRw
      clear hL hA hAk hS3 hRw
      go_wp2_with fail
      refine hlg.mono ?_
      rintro e w' ⟨rfl, m1, rfl⟩
      have hf1 : Fr (fun _ => False) wo (wo.drewN m1) := (Fr.refl _ _).drewN m1
      obtain ⟨w1, hw1⟩ : ∃ w1, wo.drewN m1 = w1 := ⟨_, rfl⟩
      rw [hw1] at hf1
      have hf01 := hF.out.trans hf1
      rw [hw1]
      clear hw1 hlg
      by_cases h2 : 65536 < L
      · have hD : Hid (Reps bs 0 l k 290) := by
          have := hT.out.reps (.long (k := k) (by have := Hn.out; omega) (by rw [HL.out]; exact h2))
          rwa [List.append_nil] at this
        have b2 : (65536 : Int) < (L : Int) := by omega
        have HR1 := hide (HRw.out w1 hf1)
        have HF1 := hide hf01
        clear h2 hf1 hf01
        go_wp2_with fail
        refine (hcl _).mono ?_
        rintro e w' ⟨rfl, rfl⟩
        go_wp2_with fail
        go_ret3
        exact ⟨l, k, 290, B, m, m, g, rfl, hD.out, HR1.out, HF1.out⟩
      · have b2 : ¬ (65536 : Int) < (L : Int) := by omega
        have iw2 : IntKind.i64.wrap ((n : Int) - (k : Int) - 3) = (n : Int) - (k : Int) - 3 := IntWalk.i64_in _ (by omega)
        by_cases h3 : n < k + 3 + L
        · have hD : Hid (Reps bs 0 l k 0) := by
            have := hT.out.reps (.half (k := k) (by have := Hn.out; omega) (by rw [HL.out]; omega) (by rw [HL.out]; have := Hn.out; omega))
            rwa [List.append_nil] at this
          have b3 : (n : Int) - (k : Int) - 3 < (L : Int) := by omega
          have HR1 := hide (HRw.out w1 hf1)
          have HF1 := hide hf01
          clear h2 h3 hf1 hf01
          go_wp2_with fail
          refine (hcl _).mono ?_
          rintro e w' ⟨rfl, rfl⟩
          go_wp2_with fail
          go_ret3
          exact ⟨l, k, 0, B, m, m, g, rfl, hD.out, HR1.out, HF1.out⟩
        · have b3 : ¬ (n : Int) - (k : Int) - 3 < (L : Int) := by omega
          have iw3 : IntKind.i64.wrap ((k : Int) + 3) = (k : Int) + 3 := IntWalk.i64_in _ (by omega)
          have iw4 : IntKind.i64.wrap ((k : Int) + 3 + (L : Int)) = (k : Int) + 3 + (L : Int) := IntWalk.i64_in _ (by omega)
          have hdec := fun (o' c' : Nat) (h : Sl w1 1 (some ⟨b, o', none⟩) L ((bodyS bs k).map bn)) => DecodeReply_any w1 (bodyS bs k) (some ⟨b, o', none⟩) L c' (by unfold bodyS; rw [HL.out]; simp; have := Hn.out; omega) (by omega) (body_bytes H256.out k) h
          have hS1 := (HS3.out (by omega)).below hf1 (fun _ _ => id)
          have HF1 := hide hf1
          have HF01 := hide hf01
          have h3' : k + 3 + L ≤ n := by omega
          have h2' : L ≤ 65536 := by omega
          clear h2 h3 hf1 hf01
          by_cases hz : c = k + 3
          · obtain rfl : L = 0 := by omega
            have hbz : bodyS bs k = [] := by unfold bodyS; rw [HL.out]; rfl
            have hdec := hdec o 0 (by rw [hbz]; exact Sl.nil_ _ _ _)
            obtain rfl : c = k + 3 := hz
            clear hS1
            go_wp2_with fail
            refine hdec.mono ?_
            intro v w2 hp
            obtain ⟨q, er, rfl, hV, hQ, hf2⟩ := hp.n
            clear hp hdec
            have p3 := put_rep (w := w2) q
            have hbx := box_new (w := w2) tRpl #[.int .i64 0, .int .i64 0, .int .i64 0, .int .u64 0, .slice none 0 0, .string ⟨#[]⟩, .int .u32 0, .int .i64 0, .int .i64 0, .int .i64 0, .int .i64 0, .int .i64 0, .int .i64 0, .int .u64 0, .int .u64 0, .int .u64 0, .int .i64 0, .slice none 0 0] #[.int .i64 q.id, .int .i64 q.err, .int .i64 q.num, .int .u64 (q.co : Int), .slice q.A q.n q.c, .string (strOf q.txt), .int .u32 (q.bits : Int), .int .i64 q.k.num, .int .i64 q.k.kind, .int .i64 q.k.by_, .int .i64 q.k.dl, .int .i64 q.k.to_, .int .i64 q.k.want, .int .u64 (q.k.pr : Int), .int .u64 (q.k.rs : Int), .int .u64 (q.k.st : Int), .int .i64 q.k.of_, .slice q.k.A q.k.n q.k.c]
            obtain ⟨w3, hw3⟩ : ∃ w3, (w2.alloc (.cells #[.int .i64 0, .int .i64 0, .int .i64 0, .int .u64 0, .slice none 0 0, .string ⟨#[]⟩, .int .u32 0, .int .i64 0, .int .i64 0, .int .i64 0, .int .i64 0, .int .i64 0, .int .i64 0, .int .u64 0, .int .u64 0, .int .u64 0, .int .i64 0, .slice none 0 0] tRpl)).setRow w2.heap.size #[.int .i64 q.id, .int .i64 q.err, .int .i64 q.num, .int .u64 (q.co : Int), .slice q.A q.n q.c, .string (strOf q.txt), .int .u32 (q.bits : Int), .int .i64 q.k.num, .int .i64 q.k.kind, .int .i64 q.k.by_, .int .i64 q.k.dl, .int .i64 q.k.to_, .int .i64 q.k.want, .int .u64 (q.k.pr : Int), .int .u64 (q.k.rs : Int), .int .u64 (q.k.st : Int), .int .i64 q.k.of_, .slice q.k.A q.k.n q.k.c] = w3 := ⟨_, rfl⟩
            rw [hw3] at hbx p3
            have hld := box_rep q hbx.1
            have hF3 := hbx.2
            by_cases her : er = 0
            · subst her
              have hT3' := hT.out.snoc (by rw [HL.out]; omega) (by rw [HL.out]; have := Hn.out; omega) hV.out
              rw [HL.out] at hT3'
              have hT3 := hide hT3'
              clear hT3'
              have hF13 := HF1.out.trans (hf2.trans hF3)
              have hR3 := hR.out.quiet hF13
              have hO3 := hR3.ow
              have H3 := hide (And.intro hR3 (And.intro (HF01.out.trans (hf2.trans hF3)) (And.intro hF13 hf2)))
              have hsz3 : wo.heap.size ≤ w3.heap.size := hF13.size
              have hF3' := hF3
              clear hbx hf2 hV hF3 hF13 hR3
              go_wp2_with (at_builtin; go_loud (refine wpList_append_ow _ rfl _ _ 49 rfl tRpl j0 (.agg #[.int .i64 0, .int .i64 0, .int .i64 0, .int .u64 0, .slice none 0 0, .string ⟨#[]⟩, .int .u32 0, .int .i64 0, .int .i64 0, .int .i64 0, .int .i64 0, .int .i64 0, .int .i64 0, .int .u64 0, .int .u64 0, .int .u64 0, .int .i64 0, .slice none 0 0]) 18 184 Try.underlying49 hj hj0 hj1 hj2 rfl (by decide) _ _ _ _ _ rfl (hO3.fr (S := fun _ => False) ((Fr.refl _ _).alloc _) (fun _ _ => id)) _ _ _ (rcells q) rfl (sl_rpl _ _ _) (rcells_one q) (by unfold maxLen; omega) (by omega) ?_))
              intro A4 c4 w4 g4 hO4 hf4 hg4
              clear hO3
              obtain ⟨hR3, hF03, hF13, hf2⟩ := H3.out
              have hal : Fr (fun _ => False) w3 (w3.alloc (.cells (rcells q).toArray tRpl)) := (Fr.refl _ _).alloc _
              have hR4 := Rps.app (hR.out.quiet HF1.out) (hR3.quiet hal) HF01.out.size ((hQ.out.1.quiet hF3').quiet hal) hQ.out.2 hO4 hf4 (hg4.imp id fun ⟨x, e, h⟩ => ⟨x, e, by have := hF03.size; first | omega | (simp at h; omega)⟩)
              have hgn := hR.out.new
              have HR4 := hide hR4
              have HF4 : Hid (Fr (fun _ => False) w w4) := (hF03.trans hal).comp hf4 fun i hi e => by have := hgn i e.symm; omega
              clear hO4 hf4 hg4 hR3 hF03 hF13 hf2 hR4 hal
              go_wp2_with fail
              exact ⟨⟨k + 3 + 0, l ++ [q], A4, m + 1, c4, g4, rfl, by first | rfl | (congr 1; done) | (congr 1; omega), h3', hT3, HR4, HF4⟩, by simp [intOf]; omega⟩
            · have hD : Hid (Reps bs 0 l k 290) := by
                have := hT.out.reps (.bad (k := k) (er := (er : Int)) (by rw [HL.out]; omega) (by rw [HL.out]; have := Hn.out; omega) hV.out (by omega))
                rwa [List.append_nil] at this
              have b4 : ¬ (er : Int) = 0 := by omega
              have HR3 := hide (hR.out.quiet (HF1.out.trans (hf2.trans hF3)))
              have HF3 := hide (HF01.out.trans (hf2.trans hF3))
              have hcm : Hid (Rps w w3 l B m m g) := ⟨HR3.out.len, HR3.out.ow.clip, HR3.out.new, HR3.out.own, HR3.out.ap⟩
              clear hld hbx hf2 hF3 hV her
              go_wp2_with fail
              refine (hcl _).mono ?_
              rintro e w' ⟨rfl, rfl⟩
              go_wp2_with fail
              go_ret3
              exact ⟨l, k, 290, B, m, m, g, rfl, hD.out, hcm.out, HF3.out⟩
          · have hz2 : ¬ (c : Int) = (k : Int) + 3 := by omega
            have hdec := hdec (o + (k + 3)) (c - (k + 3)) hS1
            clear hS1
            go_wp2_with fail
            refine hdec.mono ?_
            intro v w2 hp
            obtain ⟨q, er, rfl, hV, hQ, hf2⟩ := hp.n
            clear hp hdec
            have p3 := put_rep (w := w2) q
            have hbx := box_new (w := w2) tRpl #[.int .i64 0, .int .i64 0, .int .i64 0, .int .u64 0, .slice none 0 0, .string ⟨#[]⟩, .int .u32 0, .int .i64 0, .int .i64 0, .int .i64 0, .int .i64 0, .int .i64 0, .int .i64 0, .int .u64 0, .int .u64 0, .int .u64 0, .int .i64 0, .slice none 0 0] #[.int .i64 q.id, .int .i64 q.err, .int .i64 q.num, .int .u64 (q.co : Int), .slice q.A q.n q.c, .string (strOf q.txt), .int .u32 (q.bits : Int), .int .i64 q.k.num, .int .i64 q.k.kind, .int .i64 q.k.by_, .int .i64 q.k.dl, .int .i64 q.k.to_, .int .i64 q.k.want, .int .u64 (q.k.pr : Int), .int .u64 (q.k.rs : Int), .int .u64 (q.k.st : Int), .int .i64 q.k.of_, .slice q.k.A q.k.n q.k.c]
            obtain ⟨w3, hw3⟩ : ∃ w3, (w2.alloc (.cells #[.int .i64 0, .int .i64 0, .int .i64 0, .int .u64 0, .slice none 0 0, .string ⟨#[]⟩, .int .u32 0, .int .i64 0, .int .i64 0, .int .i64 0, .int .i64 0, .int .i64 0, .int .i64 0, .int .u64 0, .int .u64 0, .int .u64 0, .int .i64 0, .slice none 0 0] tRpl)).setRow w2.heap.size #[.int .i64 q.id, .int .i64 q.err, .int .i64 q.num, .int .u64 (q.co : Int), .slice q.A q.n q.c, .string (strOf q.txt), .int .u32 (q.bits : Int), .int .i64 q.k.num, .int .i64 q.k.kind, .int .i64 q.k.by_, .int .i64 q.k.dl, .int .i64 q.k.to_, .int .i64 q.k.want, .int .u64 (q.k.pr : Int), .int .u64 (q.k.rs : Int), .int .u64 (q.k.st : Int), .int .i64 q.k.of_, .slice q.k.A q.k.n q.k.c] = w3 := ⟨_, rfl⟩
            rw [hw3] at hbx p3
            have hld := box_rep q hbx.1
            have hF3 := hbx.2
            by_cases her : er = 0
            · subst her
              have hT3' := hT.out.snoc (by rw [HL.out]; omega) (by rw [HL.out]; have := Hn.out; omega) hV.out
              rw [HL.out] at hT3'
              have hT3 := hide hT3'
              clear hT3'
              have hF13 := HF1.out.trans (hf2.trans hF3)
              have hR3 := hR.out.quiet hF13
              have hO3 := hR3.ow
              have H3 := hide (And.intro hR3 (And.intro (HF01.out.trans (hf2.trans hF3)) (And.intro hF13 hf2)))
              have hsz3 : wo.heap.size ≤ w3.heap.size := hF13.size
              have hF3' := hF3
              clear hbx hf2 hV hF3 hF13 hR3
              go_wp2_with (at_builtin; go_loud (refine wpList_append_ow _ rfl _ _ 49 rfl tRpl j0 (.agg #[.int .i64 0, .int .i64 0, .int .i64 0, .int .u64 0, .slice none 0 0, .string ⟨#[]⟩, .int .u32 0, .int .i64 0, .int .i64 0, .int .i64 0, .int .i64 0, .int .i64 0, .int .i64 0, .int .u64 0, .int .u64 0, .int .u64 0, .int .i64 0, .slice none 0 0]) 18 184 Try.underlying49 hj hj0 hj1 hj2 rfl (by decide) _ _ _ _ _ rfl (hO3.fr (S := fun _ => False) ((Fr.refl _ _).alloc _) (fun _ _ => id)) _ _ _ (rcells q) rfl (sl_rpl _ _ _) (rcells_one q) (by unfold maxLen; omega) (by omega) ?_))
              intro A4 c4 w4 g4 hO4 hf4 hg4
              clear hO3
              obtain ⟨hR3, hF03, hF13, hf2⟩ := H3.out
              have hal : Fr (fun _ => False) w3 (w3.alloc (.cells (rcells q).toArray tRpl)) := (Fr.refl _ _).alloc _
              have hR4 := Rps.app (hR.out.quiet HF1.out) (hR3.quiet hal) HF01.out.size ((hQ.out.1.quiet hF3').quiet hal) hQ.out.2 hO4 hf4 (hg4.imp id fun ⟨x, e, h⟩ => ⟨x, e, by have := hF03.size; first | omega | (simp at h; omega)⟩)
              have hgn := hR.out.new
              have HR4 := hide hR4
              have HF4 : Hid (Fr (fun _ => False) w w4) := (hF03.trans hal).comp hf4 fun i hi e => by have := hgn i e.symm; omega
              clear hO4 hf4 hg4 hR3 hF03 hF13 hf2 hR4 hal
              go_wp2_with fail
              exact ⟨⟨k + 3 + L, l ++ [q], A4, m + 1, c4, g4, rfl, by first | rfl | (congr 1; done) | (congr 1; omega), h3', hT3, HR4, HF4⟩, by simp [intOf]; omega⟩
            · have hD : Hid (Reps bs 0 l k 290) := by
                have := hT.out.reps (.bad (k := k) (er := (er : Int)) (by rw [HL.out]; omega) (by rw [HL.out]; have := Hn.out; omega) hV.out (by omega))
                rwa [List.append_nil] at this
              have b4 : ¬ (er : Int) = 0 := by omega
              have HR3 := hide (hR.out.quiet (HF1.out.trans (hf2.trans hF3)))
              have HF3 := hide (HF01.out.trans (hf2.trans hF3))
              have hcm : Hid (Rps w w3 l B m m g) := ⟨HR3.out.len, HR3.out.ow.clip, HR3.out.new, HR3.out.own, HR3.out.ap⟩
              clear hld hbx hf2 hF3 hV her
              go_wp2_with fail
              refine (hcl _).mono ?_
              rintro e w' ⟨rfl, rfl⟩
              go_wp2_with fail
              go_ret3
              exact ⟨l, k, 290, B, m, m, g, rfl, hD.out, hcm.out, HF3.out⟩
end Go.Proofs.Ytlcjhbemgagchaa
end
