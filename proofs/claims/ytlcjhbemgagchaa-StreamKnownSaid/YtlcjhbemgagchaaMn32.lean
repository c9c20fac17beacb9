/-
  Texts merged into one, to keep the claim small: Row3, Sta, Stb, Su2.
-/
import Derived.Test.YtlcjhbemgagchaaMc1
import Derived.Test.YtlcjhbemgagchaaMc17
import Derived.Test.YtlcjhbemgagchaaMc25
import Derived.Test.YtlcjhbemgagchaaMn31
import Derived.Test.YtlcjhbemgagchaaMc3
import Derived.Test.YtlcjhbemgagchaaMc24
section
/-
  A whole element out of, and into, a slice of the call's own memory (Ow), as equations of the run: elements of any size.
-/
namespace Go.Proofs.Ytlcjhbemgagchaa
open Go.RowKit
set_option linter.unusedVariables false

theorem putAt_far : ∀ (vs : List Value) (k : Nat) (cur : Array Value) (j : Nat), j < k ∨ k + vs.length ≤ j → (putAt cur k vs)[j]? = cur[j]?
  | [], k, cur, j, _ => rfl
  | v :: vs, k, cur, j, h => by
    rw [putAt, putAt_far vs (k + 1) _ j (by simp at h; omega), Array.getElem?_setIfInBounds_ne (by simp at h; omega)]
theorem putAt_near : ∀ (vs : List Value) (k : Nat) (cur : Array Value) (j : Nat), k + vs.length ≤ cur.size → j < vs.length → (putAt cur k vs)[k + j]? = vs[j]?
  | [], k, cur, j, _, h => by simp at h
  | v :: vs, k, cur, j, hs, h => by
    rw [putAt]
    cases j with
    | zero =>
      rw [putAt_far vs (k + 1) _ (k + 0) (.inl (by omega)), Nat.add_zero, Array.getElem?_setIfInBounds_self_of_lt (by simp at hs; omega)]
      rfl
    | succ j =>
      rw [show k + (j + 1) = k + 1 + j by omega, putAt_near vs (k + 1) _ j (by simp at hs ⊢; omega) (by simp at h; omega)]
      simp
theorem putAt_size : ∀ (vs : List Value) (k : Nat) (cur : Array Value), (putAt cur k vs).size = cur.size
  | [], _, _ => rfl
  | v :: vs, k, cur => by rw [putAt, putAt_size vs]; simp

section
variable {X : Type} {enc : X → List Value} {sz : Nat}
/-- The cells of a row of things, each of sz cells. -/
def cellsOf (enc : X → List Value) (xs : List X) : List Value := xs.flatMap enc
theorem cellsOf_nil : cellsOf enc [] = [] := rfl
theorem cellsOf_append (a b : List X) : cellsOf enc (a ++ b) = cellsOf enc a ++ cellsOf enc b := by simp [cellsOf]
theorem cellsOf_one (x : X) : cellsOf enc [x] = enc x := by simp [cellsOf]
theorem cellsOf_length (hs : ∀ x, (enc x).length = sz) : ∀ xs : List X, (cellsOf enc xs).length = xs.length * sz
  | [] => by simp [cellsOf]
  | x :: xs => by
    have := cellsOf_length hs xs
    simp only [cellsOf, List.flatMap_cons, List.length_append, hs, List.length_cons] at this ⊢
    rw [this, Nat.add_mul]; omega
theorem cellsOf_at (hs : ∀ x, (enc x).length = sz) : ∀ (xs : List X) (i : Nat) (x : X), xs[i]? = some x → ∀ j, j < sz → (cellsOf enc xs)[i * sz + j]? = (enc x)[j]?
  | [], i, x, h, j, hj => by simp at h
  | y :: ys, 0, x, h, j, hj => by
    simp at h; subst h
    simp only [cellsOf, List.flatMap_cons]
    rw [List.getElem?_append_left (by rw [hs]; omega)]
    simp
  | y :: ys, i + 1, x, h, j, hj => by
    have := cellsOf_at hs ys i x (by simpa using h) j hj
    simp only [cellsOf, List.flatMap_cons] at this ⊢
    rw [List.getElem?_append_right (by rw [hs, Nat.add_mul]; omega), hs, show (i + 1) * sz + j - sz = i * sz + j by rw [Nat.add_mul]; omega]
    exact this
theorem cellsOf_drop (hs : ∀ x, (enc x).length = sz) {xs : List X} {i : Nat} {x : X} (h : xs[i]? = some x) : ((cellsOf enc xs).drop (i * sz)).take sz = enc x := by
  apply List.ext_getElem?
  intro j
  by_cases hj : j < sz
  · rw [List.getElem?_take, if_pos hj, List.getElem?_drop, cellsOf_at hs xs i x h j hj]
  · rw [List.getElem?_take, if_neg hj, List.getElem?_eq_none (by rw [hs]; omega)]
theorem cellsOf_set (hs : ∀ x, (enc x).length = sz) (xs : List X) (i : Nat) (x : X) (hi : i < xs.length) (j : Nat) :
    (cellsOf enc (xs.set i x))[j]? = if i * sz ≤ j ∧ j < i * sz + sz then (enc x)[j - i * sz]? else (cellsOf enc xs)[j]? := by
  by_cases hjl : j < xs.length * sz
  · have hsz : 0 < sz := by rcases Nat.eq_zero_or_pos sz with h | h; (rw [h] at hjl; omega); exact h
    obtain ⟨q, r, hr, rfl⟩ : ∃ q r, r < sz ∧ j = q * sz + r := ⟨j / sz, j % sz, Nat.mod_lt _ hsz, by rw [Nat.mul_comm]; exact (Nat.div_add_mod j sz).symm⟩
    have hq : q < xs.length := by
      rcases Nat.lt_or_ge q xs.length with h | h
      · exact h
      · have := Nat.mul_le_mul_right sz h; omega
    by_cases hqi : q = i
    · subst hqi
      rw [if_pos ⟨by omega, by omega⟩, cellsOf_at hs (xs.set q x) q x (List.getElem?_set_self hq) r hr, show q * sz + r - q * sz = r by omega]
    · rw [if_neg (by
        intro ⟨h1, h2⟩
        rcases Nat.lt_or_gt_of_ne hqi with h | h
        · have := Nat.mul_le_mul_right sz (show q + 1 ≤ i by omega); rw [Nat.add_mul] at this; omega
        · have := Nat.mul_le_mul_right sz (show i + 1 ≤ q by omega); rw [Nat.add_mul] at this; omega)]
      rw [cellsOf_at hs (xs.set i x) q xs[q] (by rw [List.getElem?_set_ne (by omega), List.getElem?_eq_getElem hq]) r hr, cellsOf_at hs xs q xs[q] (List.getElem?_eq_getElem hq) r hr]
  · have h1 := cellsOf_length hs xs
    have h2 := cellsOf_length hs (xs.set i x)
    rw [List.length_set] at h2
    have h3 := Nat.mul_le_mul_right sz (show i + 1 ≤ xs.length by omega)
    rw [Nat.add_mul] at h3
    rw [if_neg (by omega), List.getElem?_eq_none (by omega), List.getElem?_eq_none (by omega)]
end

section
variable {P : Program} {w : World} {e : TypeId} {X : Type} {enc : X → List Value} {sz n c : Nat} {A : Option Addr} {xs : List X} {g : Option Nat}
/-- Thing i of the slice: where it lies, and what a load of it gives. -/
theorem Ow.row (h : Ow w e sz A n c (cellsOf enc xs) g) (hs : ∀ x, (enc x).length = sz) {i : Nat} {x : X} (hx : xs[i]? = some x) (hn : xs.length = n) :
    ∃ b o cur, A = some ⟨b, o, none⟩ ∧ g = some b ∧ w.heap[b]? = some (.cells cur e (0, 0)) ∧ o + c * sz ≤ cur.size ∧ i * sz + sz ≤ n * sz ∧ n * sz ≤ c * sz ∧ (cur.toList.drop (o + i * sz)).take sz = enc x := by
  have hi : i < n := by rw [← hn]; exact (List.getElem?_eq_some_iff.1 hx).1
  rcases h.2 with ⟨h1, h2, h3, h4⟩ | ⟨b, o, cur, hA, hg, hh, h2, h3, h4, h5⟩
  · omega
  · have h6 := Nat.mul_le_mul_right sz (show i + 1 ≤ n by omega)
    rw [Nat.add_mul] at h6
    refine ⟨b, o, cur, hA, hg, hh, h2, by omega, Nat.mul_le_mul_right sz h3, ?_⟩
    apply List.ext_getElem?
    intro j
    by_cases hj : j < sz
    · rw [List.getElem?_take, if_pos hj, List.getElem?_drop, Nat.add_assoc]
      have h7 := h5 (i * sz + j) (by omega)
      rw [cellsOf_at hs xs i x hx j hj] at h7
      simpa using h7
    · rw [List.getElem?_take, if_neg hj, List.getElem?_eq_none (by rw [hs]; omega)]
theorem Ow.load {w : World} {e : TypeId} {sz n c b o : Nat} {xs : List X} {g : Option Nat} (h : Ow w e sz (some ⟨b, o, none⟩) n c (cellsOf enc xs) g) (hs : ∀ x, (enc x).length = sz) {i : Nat} {x : X} (hx : xs[i]? = some x) (hn : xs.length = n)
    {ty : TypeId} {d : TypeDesc} (hu : P.underlying ty = some d) (hd : (match d with | .struct _ | .array _ _ => true | _ => false) = true) (hi : (P.info? ty).map (·.size) = some sz) :
    (Instr.loadAt ty (.pointer (some ⟨b, o + i * sz, none⟩))).run P w = .ok (.agg (enc x).toArray) w := by
  obtain ⟨b', o', cur, hA, hg, hh, h1, h2, h3, h4⟩ := h.row hs hx hn
  cases hA
  simp only [Instr.loadAt, Instr.sureAddr, Sem.run_bind, Sem.run_pure, Result.andThen_ok, run_loadVar_at w b (o + i * sz) e ty cur (enc x).toArray (0, 0) d hh hu hd (by simpa [hs] using hi) (by simpa [hs] using h4)]
/-- A store of a whole thing. -/
theorem Ow.store {w : World} {e : TypeId} {sz n c b o : Nat} {xs : List X} {g : Option Nat} (h : Ow w e sz (some ⟨b, o, none⟩) n c (cellsOf enc xs) g) (hs : ∀ x, (enc x).length = sz) (h1 : ∀ x, ∀ v ∈ enc x, v.oneCell' = true) {i : Nat} (hi : i < n) (hn : xs.length = n) (x : X)
    {ty : TypeId} (hif : (P.info? ty).map (·.size) = some sz) :
    ∃ w', (Instr.storeAt ty (.pointer (some ⟨b, o + i * sz, none⟩)) (.agg (enc x).toArray)).run P w = .ok () w' ∧ Ow w' e sz (some ⟨b, o, none⟩) n c (cellsOf enc (xs.set i x)) g ∧ Fr (fun k => k = b) w w' := by
  rcases h.2 with ⟨h2, _⟩ | ⟨b', o', cur, hA, hg, hh, h2, h3, h4, h5⟩
  · cases h2
  · cases hA
    have h6 := Nat.mul_le_mul_right sz (show i + 1 ≤ n by omega)
    have h7 := Nat.mul_le_mul_right sz h3
    rw [Nat.add_mul] at h6
    have hl := hs x
    refine ⟨w.setRow b (putAt cur (o + i * sz) (enc x)), ?_, ⟨?_, .inr ⟨b, o, _, rfl, hg, setRow_heap w b cur _ e _ hh, by rw [putAt_size]; exact h2, h3, h4, fun j hj => ?_⟩⟩, Fr.row _⟩
    · have := run_storeVar_at (P := P) w b (o + i * sz) e ty cur (enc x).toArray hh (by simpa [hs] using hif) (by simp; omega) (by simpa using fun v hv => h1 x v hv)
      simp only [Instr.storeAt, Instr.sureAddr, Sem.run_bind, Sem.run_pure, Result.andThen_ok, this]
    · rw [cellsOf_length hs, List.length_set, hn]
    · rw [cellsOf_set hs xs i x (by omega) j]
      by_cases hj2 : i * sz ≤ j ∧ j < i * sz + sz
      · rw [if_pos hj2, show o + j = o + i * sz + (j - i * sz) by omega, putAt_near _ _ _ _ (by omega) (by omega)]
      · rw [if_neg hj2, putAt_far _ _ _ _ (by omega)]
        exact h5 j hj
end
end Go.Proofs.Ytlcjhbemgagchaa
end

section
/-
  StreamReplies: the law's replies, where both are the same. (printed by pr_sta.py)
-/
namespace Go.Proofs.Ytlcjhbemgagchaa
open Go.RowKit
set_option linter.unusedVariables false
theorem flat_cells (l : List RR) : l.flatMap rcells = cellsOf rcells l := rfl
theorem infoRpl18 : (Try.prog.info? tRpl).map (·.size) = some 18 := by kernel_rfl
theorem Rpr.load {W w : World} {l : List RR} {b o n c : Nat} {g : Option Nat} (h : Rpr W w l (some ⟨b, o, none⟩) n c g) {i : Nat} {a : RR} (ha : l[i]? = some a) : (Instr.loadAt tRpl (.pointer (some ⟨b, o + i * 18, none⟩))).run Try.prog w = .ok (.agg #[.int .i64 a.id, .int .i64 a.err, .int .i64 a.num, .int .u64 (a.co : Int), .slice a.A a.n a.c, .string (strOf a.txt), .int .u32 (a.bits : Int), .int .i64 a.k.num, .int .i64 a.k.kind, .int .i64 a.k.by_, .int .i64 a.k.dl, .int .i64 a.k.to_, .int .i64 a.k.want, .int .u64 (a.k.pr : Int), .int .u64 (a.k.rs : Int), .int .u64 (a.k.st : Int), .int .i64 a.k.of_, .slice a.k.A a.k.n a.k.c]) w :=
  Ow.load (P := Try.prog) (enc := rcells) (by rw [← flat_cells]; exact h.ow) rcells_len ha h.len.symm Try.underlying35 rfl infoRpl18
theorem Rpr.addr {W w : World} {l : List RR} {A : Option Addr} {n c : Nat} {g : Option Nat} (h : Rpr W w l A n c g) (h0 : 0 < n) : ∃ b o, A = some ⟨b, o, none⟩ := by
  obtain ⟨b, o, hA, -⟩ := h.ow.sl.2 h0
  exact ⟨b, o, hA⟩
set_option maxHeartbeats 2000000 in
set_option maxRecDepth 8000 in
attribute [-go_sem] Go.Instr.loadAt in
theorem repliesLike_any (w W1 W2 : World) (l m : List RR) (hlk : LikeR l m) (A B : Option Addr) (n c d : Nat) (g g' : Option Nat) (hb : n ≤ 9223372036854775806) (h1 : Rpr W1 w l A n c g) (h2 : Rpr W2 w m B n d g') :
    Calls Try.prog 23 #[.slice A n c, .slice B n d] w fun e w' => e = .returned (.bool true) ∧ Fr (fun _ => False) w w' := by
  have H1 := hide h1
  have H2 := hide h2
  have HL := hide hlk
  clear h1 h2 hlk
  go_enter Try.func23, Try.ntmps23
  go_wp2_with fail
  go_loopw [5] (fun i wr => ∃ k : Nat, k ≤ n ∧ i = .int .i64 k ∧ Hid (Fr (fun _ => False) w wr)) (fun i _ => n - (intOf i).toNat)
  case atStart => exact ⟨0, Nat.zero_le _, rfl, Fr.refl _ _⟩
  case round =>
    obtain ⟨k, hk, rfl, hF⟩ := hrel
    by_cases hlt : k < n
    · have hr1 := H1.out.quiet hF.out
      have hr2 := H2.out.quiet hF.out
      obtain ⟨b, o, rfl⟩ := hr1.addr (by omega)
      obtain ⟨b', o', rfl⟩ := hr2.addr (by omega)
      obtain ⟨x, hx⟩ : ∃ x, l[k]? = some x := ⟨_, List.getElem?_eq_getElem (by have := hr1.len; omega)⟩
      obtain ⟨y, hy⟩ : ∃ y, m[k]? = some y := ⟨_, List.getElem?_eq_getElem (by have := hr2.len; omega)⟩
      have hxy := HL.out.at_ hx hy
      have ha := (hr1.rt x (List.mem_of_getElem? hx)).at_
      have hb' := (hr2.rt y (List.mem_of_getElem? hy)).at_
      have HC := hide (fun w' (hf : Fr (fun _ => False) wr w') => replyLike29_any w' x y hxy (ha.quiet hf) (hb'.quiet hf))
      have l1 : ∀ w', Fr (fun _ => False) wr w' → (Instr.loadAt tRpl (.pointer (some ⟨b, o + k * 18, none⟩))).run Try.prog w' = .ok (.agg #[.int .i64 x.id, .int .i64 x.err, .int .i64 x.num, .int .u64 (x.co : Int), .slice x.A x.n x.c, .string (strOf x.txt), .int .u32 (x.bits : Int), .int .i64 x.k.num, .int .i64 x.k.kind, .int .i64 x.k.by_, .int .i64 x.k.dl, .int .i64 x.k.to_, .int .i64 x.k.want, .int .u64 (x.k.pr : Int), .int .u64 (x.k.rs : Int), .int .u64 (x.k.st : Int), .int .i64 x.k.of_, .slice x.k.A x.k.n x.k.c]) w' := fun w' hf => (hr1.quiet hf).load hx
      have l2 : ∀ w', Fr (fun _ => False) wr w' → (Instr.loadAt tRpl (.pointer (some ⟨b', o' + k * 18, none⟩))).run Try.prog w' = .ok (.agg #[.int .i64 y.id, .int .i64 y.err, .int .i64 y.num, .int .u64 (y.co : Int), .slice y.A y.n y.c, .string (strOf y.txt), .int .u32 (y.bits : Int), .int .i64 y.k.num, .int .i64 y.k.kind, .int .i64 y.k.by_, .int .i64 y.k.dl, .int .i64 y.k.to_, .int .i64 y.k.want, .int .u64 (y.k.pr : Int), .int .u64 (y.k.rs : Int), .int .u64 (y.k.st : Int), .int .i64 y.k.of_, .slice y.k.A y.k.n y.k.c]) w' := fun w' hf => (hr2.quiet hf).load hy
      have i0 : (0 : Int) ≤ (k : Int) := by omega
      have i1 : (k : Int) < (n : Int) := by omega
      have hS : Fr (fun _ => False) wr wr := Fr.refl _ _
      clear hr1 hr2 hx hy hxy ha hb'
      go_wp2_with fail
      go_region_held3 (fun w' => Fr (fun _ => False) wr w') (first | assumption | exact Fr.drew (by assumption))
        ((go_at_call 51; refine (HC.out _ (by first | assumption | exact Fr.drew (by assumption))).mono ?_; rintro e w4 ⟨rfl, hf4⟩; have hf5 : Fr (fun _ => False) wr w4 := Fr.trans (by first | assumption | exact Fr.drew (by assumption)) hf4))
      have HF := hide (hF.out.trans hf5)
      clear l1 l2 hf4 hf5
      go_wp2_with fail
      exact ⟨⟨k + 1, by omega, by go_num, HF⟩, by simp [intOf]; omega⟩
    · go_wp2_with fail
      go_ret
      exact ⟨rfl, hF.out⟩
end Go.Proofs.Ytlcjhbemgagchaa
end

section
/-
  StreamReplies: replies that are written over, one by one.
-/
namespace Go.Proofs.Ytlcjhbemgagchaa
open Go.RowKit
set_option linter.unusedVariables false
theorem Ow.addr_of {w : World} {e : TypeId} {s n c : Nat} {A : Option Addr} {xs : List Value} {y : Nat} (h : Ow w e s A n c xs (some y)) : ∃ o, A = some ⟨y, o, none⟩ := by
  rcases h.2 with ⟨_, _, _, h0⟩ | ⟨b, o, cur, hA, hg, _⟩
  · cases h0
  · cases hg; exact ⟨o, hA⟩
theorem Reps.bound {bs : List Nat} {k : Nat} {l : List RR} {u e : Nat} (h : Reps bs k l u e) : 3 * l.length + k ≤ u ∧ (u = k ∨ u ≤ bs.length) := by
  induction h with
  | short _ => simp
  | long _ _ => simp
  | half _ _ _ => simp
  | bad _ _ _ _ => simp
  | one _ _ _ _ ih => simp only [List.length_cons]; omega
/-- The reply that is written over a reply. -/
def gone : RR := ⟨-6, 0, 0, 0, none, 0, 0, [], [], 0, ⟨0, 0, 0, 0, 0, 0, 0, 0, 0, 0, none, 0, 0, []⟩⟩
section
variable {W w w' w2 w3 w8 : World} {l : List RR} {A : Option Addr} {n c : Nat} {g : Option Nat} {S : Nat → Prop}
theorem Rps.low (h : Rps W w l A n c g) (hf : Fr S w w') (hS : ∀ x, S x → x < W.heap.size) : Rps W w' l A n c g :=
  ⟨h.len, h.ow.fr hf fun b e hs => by have := h.new b e; have := hS b hs; omega, h.new, fun q hq => ⟨(h.own q hq).1.low hf hS, (h.own q hq).2⟩, h.ap⟩
/-- What turns is a block of bytes, or new. -/
theorem Rpr.keep (h : Rpr W w l A n c g) (hf : Fr S w w') (hS : ∀ x, S x → Typed w x 5 ∨ w.heap.size ≤ x) : Rpr W w' l A n c g := by
  have key : ∀ {x : Nat} {t : TypeId}, Typed w x t → t ≠ 5 → ¬ S x := fun {x t} hx ht hs => by
    rcases hS x hs with h1 | h1
    · exact ht (hx.same h1)
    · obtain ⟨cs, hc⟩ := hx
      have := (Array.getElem?_eq_some_iff.1 hc).1
      omega
  exact ⟨h.len, h.ow.fr hf fun b e => key (h.ow.typed b e) (by decide), h.new, fun q hq => (h.rt q hq).frt hf (fun x hx => key hx (by decide)) (fun x hx => key hx (by decide))⟩
/-- Rows from i on, items from j on are as they were. -/
structure LS (w2 w3 w8 : World) (l : List RR) (A : Option Addr) (m d : Nat) (g : Option Nat) (i j0 : Nat) (w : World) : Prop where
  len : l.length = m
  nl : ∀ q ∈ l, q.n ≤ 1048576
  ow : ∃ l' : List RR, l'.length = m ∧ (∀ j, i ≤ j → l'[j]? = l[j]?) ∧ Ow w tRpl 18 A m d (cellsOf rcells l') g
  it : ∀ (j : Nat) (q : RR), l[j]? = some q → j0 ≤ j → ∃ gq, Ow w 3 1 q.A q.n q.c (q.items.map iv) gq ∧ ∀ x, gq = some x → w2.heap.size ≤ x ∧ x < w3.heap.size
  ap : l.Pairwise fun p q => ∀ x o y o', p.A = some ⟨x, o, none⟩ → q.A = some ⟨y, o', none⟩ → x < y
  gl : ∀ x, g = some x → w2.heap.size ≤ x ∧ x < w3.heap.size
  fr : Fr (fun x => w2.heap.size ≤ x ∧ x < w3.heap.size) w8 w
variable {m d i j0 : Nat}
theorem LS.start (h : Rps w2 w3 l A m d g) (h8 : Rps w2 w8 l A m d g) (h38 : w3.heap.size ≤ w8.heap.size) : LS w2 w3 w8 l A m d g 0 0 w8 :=
  ⟨h.len.symm, fun q hq => (h.own q hq).1.en, ⟨l, h.len.symm, fun _ _ => rfl, h8.ow⟩, fun j q hq _ => by
    have hm := List.mem_of_getElem? hq
    obtain ⟨gq, k1, k2⟩ := (h8.own q hm).1.eo
    obtain ⟨gp, k3, k4⟩ := (h.own q hm).1.eo
    refine ⟨gq, k1, fun x e => ⟨k2 x e, ?_⟩⟩
    subst e
    obtain ⟨o, hA⟩ := k1.addr_of
    exact k3.lt x (k3.sblk hA), h.ap, fun x e => ⟨h.new x e, h.ow.lt x e⟩, Fr.refl _ _⟩
/-- The cell that holds a reply's items. -/
theorem LS.items {b o : Nat} (h : LS w2 w3 w8 l (some ⟨b, o, none⟩) m d g i j0 w) {q : RR} (hq : l[i]? = some q) : w.cell? ⟨b, o + i * 18 + 4, none⟩ = some (.slice q.A q.n q.c) := by
  obtain ⟨l', h1, h2, h3⟩ := h.ow
  have h4 : l'[i]? = some q := (h2 i (Nat.le_refl _)).trans hq
  have h5 := cellsOf_at (enc := rcells) rcells_len l' i q h4 4 (by omega)
  obtain ⟨b', o', e, -, hc, -⟩ := h3.look (j := i * 18 + 4) (u := .slice q.A q.n q.c) (by rw [h5]; rfl)
  cases e
  rw [← Nat.add_assoc] at hc
  exact hc
/-- An item of the reply at hand is written. -/
theorem LS.put (h : LS w2 w3 w8 l A m d g i (i + 1) w) {q : RR} (hq : l[i]? = some q) {ys : List Int} {x o k : Nat} (hA : q.A = some ⟨x, o, none⟩) (hO : Ow w 3 1 q.A q.n q.c (ys.map iv) (some x)) (hk : k < q.n) (hx : w2.heap.size ≤ x ∧ x < w3.heap.size) (v : Int) :
    LS w2 w3 w8 l A m d g i (i + 1) (w.setCell ⟨x, o + k, none⟩ (.int .i64 v)) ∧ Ow (w.setCell ⟨x, o + k, none⟩ (.int .i64 v)) 3 1 q.A q.n q.c ((ys.set k v).map iv) (some x) := by
  have hF : Fr (· = x) w (w.setCell ⟨x, o + k, none⟩ (.int .i64 v)) := (Fr.refl _ _).setAt _
  obtain ⟨l', h1, h2, h3⟩ := h.ow
  refine ⟨⟨h.len, h.nl, ⟨l', h1, h2, h3.fr hF fun b e e' => ?_⟩, fun j p hp hj => ?_, h.ap, h.gl, h.fr.trans (hF.mono fun y _ e => by subst e; exact hx)⟩, ?_⟩
  · subst e'
    exact absurd ((h3.typed b e).same (hO.typed b rfl)) (by decide)
  · obtain ⟨gp, k1, k2⟩ := h.it j p hp hj
    refine ⟨gp, k1.fr hF fun b e e' => ?_, k2⟩
    subst e'
    rw [e] at k1
    obtain ⟨o', hA'⟩ := k1.addr_of
    obtain ⟨hi', ei⟩ := List.getElem?_eq_some_iff.1 hq
    obtain ⟨hj', ej⟩ := List.getElem?_eq_some_iff.1 hp
    have := List.pairwise_iff_getElem.1 h.ap i j hi' hj' (by omega) b o b o' (by rw [ei]; exact hA) (by rw [ej]; exact hA')
    omega
  · rw [List.map_set]
    have h4 := (hA ▸ hO).put (j := k) (by omega) (iv v)
    rw [hA]
    exact h4
/-- The reply at hand is written over. -/
theorem LS.over {b o : Nat} (h : LS w2 w3 w8 l (some ⟨b, o, none⟩) m d g i (i + 1) w) (hi : i < m) :
    ∃ w', (Instr.storeAt tRpl (.pointer (some ⟨b, o + i * 18, none⟩)) (.agg (rcells gone).toArray)).run Try.prog w = .ok () w' ∧ LS w2 w3 w8 l (some ⟨b, o, none⟩) m d g (i + 1) (i + 1) w' := by
  obtain ⟨l', h1, h2, h3⟩ := h.ow
  obtain ⟨w', k1, k2, k3⟩ := h3.store (P := Try.prog) rcells_len rcells_one hi h1 gone infoRpl18
  have hgb : g = some b := h3.sblk rfl
  refine ⟨w', k1, h.len, h.nl, ⟨l'.set i gone, by simp [h1], fun j hj => ?_, k2⟩, fun j q hq hj => ?_, h.ap, h.gl, h.fr.trans (k3.mono fun x _ e => by subst e; exact h.gl x hgb)⟩
  · rw [List.getElem?_set_ne (by omega)]; exact h2 j (by omega)
  · obtain ⟨gq, m1, m2⟩ := h.it j q hq hj
    exact ⟨gq, m1.fr k3 fun y e e' => by subst e'; exact absurd ((m1.typed y e).same (h3.typed y hgb)) (by decide), m2⟩
end
end Go.Proofs.Ytlcjhbemgagchaa
end

section
/-
  stream: whole pieces and commands, loaded and stored as they are; where pieces lie; where a stream lies. (printed by pr_su2.py)
-/
namespace Go.Proofs.Ytlcjhbemgagchaa.In
open Go.RowKit
set_option linter.unusedVariables false
def loadIn (P : Program) (t : TypeId) (v : Value) (w : World) : Result Value := (Instr.loadAt t v).run P w
def storeIn (P : Program) (t : TypeId) (v x : Value) (w : World) : Result Unit := (Instr.storeAt t v x).run P w
theorem opwp_load {P : Program} (t : TypeId) {a : Act} {w : World} {K : Act → World → Prop} {Q : Exit → Act → World → Prop} {dd : Option Tmp} {x : Operand} {ty : TypeId} {ps : String} {af : Array Edge} {gu : Option (Nat × Bool)} :
    Oper.wp P { dst := dd, op := .load t x, type := ty, pos := ps, after := af, guard := gu } a w K Q = Oper.upon P { dst := dd, op := .load t x, type := ty, pos := ps, after := af, guard := gu } a K Q ((loadIn P t (a.eval x) w).andThen fun v w => .ok (.value v) w) := by
  unfold Oper.wp loadIn
  simp only [execOp, Sem.run_bind, Sem.run_pure]
theorem opwp_store {P : Program} (t : TypeId) {a : Act} {w : World} {K : Act → World → Prop} {Q : Exit → Act → World → Prop} {dd : Option Tmp} {y x : Operand} {ty : TypeId} {ps : String} {af : Array Edge} {gu : Option (Nat × Bool)} :
    Oper.wp P { dst := dd, op := .store t y x, type := ty, pos := ps, after := af, guard := gu } a w K Q = Oper.upon P { dst := dd, op := .store t y x, type := ty, pos := ps, after := af, guard := gu } a K Q ((storeIn P t (a.eval y) (a.eval x) w).andThen fun _ w => .ok .skip w) := by
  unfold Oper.wp storeIn
  simp only [execOp, Sem.run_bind, Sem.run_pure]
theorem run_loadAt_cell {P : Program} (ty : TypeId) (d : TypeDesc) (hu : P.underlying ty = some d) (hd : (match d with | .struct _ | .array _ _ => true | _ => false) = false) {w : World} {a : Addr} {v : Value} (h : w.cell? a = some v) :
    (Instr.loadAt ty (.pointer (some a))).run P w = .ok v w := by
  have h1 : (isAgg ty).run P w = .ok false w := by
    unfold isAgg
    rw [Sem.run_bind, run_underlying hu w]
    cases d <;> simp_all
  simp [go_sem, Instr.loadAt, Instr.sureAddr, Sem.run_bind, loadVar, h1, h]
section
variable {P : Program} {X : Type} {enc : X → List Value} {w : World} {sz : Nat} {ty : TypeId} {d : TypeDesc}
theorem ow_loadIn {e : TypeId} {n c b o : Nat} {xs : List X} {g : Option Nat} (h : Ow w e sz (some ⟨b, o, none⟩) n c (cellsOf enc xs) g) (hs : ∀ x, (enc x).length = sz) {i : Nat} {x : X} (hx : xs[i]? = some x) (hn : xs.length = n)
    (hu : P.underlying ty = some d) (hd : (match d with | .struct _ | .array _ _ => true | _ => false) = true) (hi : (P.info? ty).map (·.size) = some sz) :
    loadIn P ty (.pointer (some ⟨b, o + i * sz, none⟩)) w = .ok (.agg (enc x).toArray) w := h.load hs hx hn hu hd hi
theorem bl_loadIn {g : Nat} {t : TypeId} (x : X) (h : Bl w g t (enc x).toArray) (hs : (enc x).length = sz) (hu : P.underlying ty = some d) (hd : (match d with | .struct _ | .array _ _ => true | _ => false) = true) (hi : (P.info? ty).map (·.size) = some sz) :
    loadIn P ty (.pointer (some ⟨g, 0, none⟩)) w = .ok (.agg (enc x).toArray) w := by
  unfold loadIn
  simp only [Instr.loadAt, Instr.sureAddr, Sem.run_bind, Sem.run_pure, Result.andThen_ok, run_loadVar_at w g 0 t ty (enc x).toArray (enc x).toArray (0, 0) d h hu hd (by simpa [hs] using hi) (by simp)]
theorem ow_storeIn {e : TypeId} {n c b o : Nat} {xs : List X} {g : Option Nat} (h : Ow w e sz (some ⟨b, o, none⟩) n c (cellsOf enc xs) g) (hs : ∀ x, (enc x).length = sz) (h1 : ∀ x, ∀ v ∈ enc x, v.oneCell' = true) {i : Nat} (hi : i < n) (hn : xs.length = n) (x : X)
    (hif : (P.info? ty).map (·.size) = some sz) :
    ∃ w', storeIn P ty (.pointer (some ⟨b, o + i * sz, none⟩)) (.agg (enc x).toArray) w = .ok () w' ∧ Ow w' e sz (some ⟨b, o, none⟩) n c (cellsOf enc (xs.set i x)) g ∧ Fr (fun k => k = b) w w' := h.store hs h1 hi hn x hif
/-- A whole thing is laid into a block of its own. -/
theorem bl_storeIn {g : Nat} {t : TypeId} {old : Array Value} (h : Bl w g t old) (x : X) (hs : (enc x).length = sz) (h1 : ∀ v ∈ enc x, v.oneCell' = true) (hold : old.size = sz) (hif : (P.info? ty).map (·.size) = some sz) :
    storeIn P ty (.pointer (some ⟨g, 0, none⟩)) (.agg (enc x).toArray) w = .ok () (w.setRow g (enc x).toArray) := by
  unfold storeIn
  have hnew : putAt old 0 (enc x) = (enc x).toArray := by
    have h2 := putAt_list (enc x) 0 old (by omega)
    rw [List.take_zero, List.nil_append, List.drop_of_length_le (by simp; omega), List.append_nil] at h2
    exact Array.toList_inj.1 (by simpa using h2)
  have := run_storeVar_at (P := P) w g 0 t ty old (enc x).toArray h (by simpa [hs] using hif) (by simp; omega) (by simpa using h1)
  simp only [Instr.storeAt, Instr.sureAddr, Sem.run_bind, Sem.run_pure, Result.andThen_ok, this, hnew]
end
theorem results_row_tmp {P : Program} {fn : Func} {p u : Tmp} {ty : TypeId} (h : fn.results = #[.cell p ty, .tmp u]) (tmps : Array Value) (w : World) (g : Nat) (t : TypeId) (cs : Array Value) (fr : Nat × Nat) (d : TypeDesc)
    (hp : tmps.getD p undef = .pointer (some ⟨g, 0, none⟩)) (hg : w.heap[g]? = some (.cells cs t fr))
    (hu : P.underlying ty = some d) (hd : (match d with | .struct _ | .array _ _ => true | _ => false) = true) (hi : (P.info? ty).map (·.size) = some cs.size) :
    (results fn tmps).run P w = .ok (.tuple #[.agg cs, tmps.getD u undef]) w := by
  have hp' : tmps[p]?.getD undef = .pointer (some ⟨g, 0, none⟩) := by simpa using hp
  simp [results, h, hp', asAddr, run_loadVar_row w g t ty cs fr d hg hu hd hi]

end Go.Proofs.Ytlcjhbemgagchaa.In
namespace Go.Proofs.Ytlcjhbemgagchaa
open Go.RowKit
set_option linter.unusedVariables false
abbrev tPc : TypeId := 79
abbrev tCm : TypeId := 31
abbrev tStm : TypeId := 98
def ccells (q : KC) : List Value := [.int .i64 q.id, .int .i64 q.kind, .string (strOf q.name), .int .i64 q.to_, .int .u64 (q.co : Int), .int .i64 q.item, .int .i64 q.num, .int .i64 q.of_, .int .i64 q.e.acc, .int .i64 q.e.item, .int .u64 (q.e.co : Int), .int .u64 (q.e.pr : Int), .slice q.e.A q.e.n q.e.c, .int .i64 q.k.num, .int .i64 q.k.kind, .int .i64 q.k.by_, .int .i64 q.k.dl, .int .i64 q.k.to_, .int .i64 q.k.want, .int .u64 (q.k.pr : Int), .int .u64 (q.k.rs : Int), .int .u64 (q.k.st : Int), .int .i64 q.k.of_, .slice q.k.A q.k.n q.k.c]
def pcells (p : PC) : List Value := [.int .i64 p.c.id, .int .i64 p.c.kind, .string (strOf p.c.name), .int .i64 p.c.to_, .int .u64 (p.c.co : Int), .int .i64 p.c.item, .int .i64 p.c.num, .int .i64 p.c.of_, .int .i64 p.c.e.acc, .int .i64 p.c.e.item, .int .u64 (p.c.e.co : Int), .int .u64 (p.c.e.pr : Int), .slice p.c.e.A p.c.e.n p.c.e.c, .int .i64 p.c.k.num, .int .i64 p.c.k.kind, .int .i64 p.c.k.by_, .int .i64 p.c.k.dl, .int .i64 p.c.k.to_, .int .i64 p.c.k.want, .int .u64 (p.c.k.pr : Int), .int .u64 (p.c.k.rs : Int), .int .u64 (p.c.k.st : Int), .int .i64 p.c.k.of_, .slice p.c.k.A p.c.k.n p.c.k.c, .int .i64 (p.er : Int)]
theorem ccells_len (q : KC) : (ccells q).length = 24 := rfl
theorem pcells_len (p : PC) : (pcells p).length = 25 := rfl
theorem ccells_one (q : KC) : ∀ u ∈ ccells q, u.oneCell' = true := by
  intro u hu
  simp only [ccells, List.mem_cons, List.not_mem_nil, or_false] at hu
  rcases hu with rfl | rfl | rfl | rfl | rfl | rfl | rfl | rfl | rfl | rfl | rfl | rfl | rfl | rfl | rfl | rfl | rfl | rfl | rfl | rfl | rfl | rfl | rfl | rfl <;> rfl
theorem pcells_one (p : PC) : ∀ u ∈ pcells p, u.oneCell' = true := by
  intro u hu
  simp only [pcells, List.mem_cons, List.not_mem_nil, or_false] at hu
  rcases hu with rfl | rfl | rfl | rfl | rfl | rfl | rfl | rfl | rfl | rfl | rfl | rfl | rfl | rfl | rfl | rfl | rfl | rfl | rfl | rfl | rfl | rfl | rfl | rfl | rfl <;> rfl
theorem infoPc : (Try.prog.info? tPc).map (·.size) = some 25 := by kernel_rfl
theorem infoCm : (Try.prog.info? tCm).map (·.size) = some 24 := by kernel_rfl
theorem infoPc3 : (Try.prog.info? tPc).map (fun i => (i.zero, i.size, i.bytes)) = some (some (.agg #[.int .i64 0, .int .i64 0, .string ⟨#[]⟩, .int .i64 0, .int .u64 0, .int .i64 0, .int .i64 0, .int .i64 0, .int .i64 0, .int .i64 0, .int .u64 0, .int .u64 0, .slice none 0 0, .int .i64 0, .int .i64 0, .int .i64 0, .int .i64 0, .int .i64 0, .int .i64 0, .int .u64 0, .int .u64 0, .int .u64 0, .int .i64 0, .slice none 0 0, .int .i64 0]), 25, 240) := by kernel_rfl
section
variable {a : Act} {w : World} {K : Act → World → Prop} {Q : Exit → Act → World → Prop} {dd : Option Tmp} {y x : Operand} {ty : TypeId} {ps : String} {af : Array Edge} {gu : Option (Nat × Bool)}
theorem storeP_ : Oper.wp Try.prog { dst := dd, op := .store 79 y x, type := ty, pos := ps, after := af, guard := gu } a w K Q = Oper.upon Try.prog { dst := dd, op := .store 79 y x, type := ty, pos := ps, after := af, guard := gu } a K Q ((In.storeIn Try.prog 79 (a.eval y) (a.eval x) w).andThen fun _ w => .ok .skip w) := In.opwp_store _
theorem storeC_ : Oper.wp Try.prog { dst := dd, op := .store 31 y x, type := ty, pos := ps, after := af, guard := gu } a w K Q = Oper.upon Try.prog { dst := dd, op := .store 31 y x, type := ty, pos := ps, after := af, guard := gu } a K Q ((In.storeIn Try.prog 31 (a.eval y) (a.eval x) w).andThen fun _ w => .ok .skip w) := In.opwp_store _
theorem loadP_ : Oper.wp Try.prog { dst := dd, op := .load 79 x, type := ty, pos := ps, after := af, guard := gu } a w K Q = Oper.upon Try.prog { dst := dd, op := .load 79 x, type := ty, pos := ps, after := af, guard := gu } a K Q ((In.loadIn Try.prog 79 (a.eval x) w).andThen fun v w => .ok (.value v) w) := In.opwp_load _
theorem loadC_ : Oper.wp Try.prog { dst := dd, op := .load 31 x, type := ty, pos := ps, after := af, guard := gu } a w K Q = Oper.upon Try.prog { dst := dd, op := .load 31 x, type := ty, pos := ps, after := af, guard := gu } a K Q ((In.loadIn Try.prog 31 (a.eval x) w).andThen fun v w => .ok (.value v) w) := In.opwp_load _
end
/-- A piece in a block of its own: laid down, looked at. -/
theorem putP {w : World} {g : Nat} {old : Array Value} (h : Bl w g tPc old) (hs : old.size = 25) (p : PC) : In.storeIn Try.prog tPc (.pointer (some ⟨g, 0, none⟩)) (.agg (pcells p).toArray) w = .ok () (w.setRow g (pcells p).toArray) := In.bl_storeIn h p (pcells_len p) (pcells_one p) hs infoPc
theorem getP {w : World} {g : Nat} {p : PC} (h : Bl w g tPc (pcells p).toArray) : In.loadIn Try.prog tPc (.pointer (some ⟨g, 0, none⟩)) w = .ok (.agg (pcells p).toArray) w := In.bl_loadIn (enc := pcells) p h (pcells_len p) Try.underlying79 rfl infoPc
theorem putC {w : World} {g : Nat} {old : Array Value} (h : Bl w g tCm old) (hs : old.size = 24) (q : KC) : In.storeIn Try.prog tCm (.pointer (some ⟨g, 0, none⟩)) (.agg (ccells q).toArray) w = .ok () (w.setRow g (ccells q).toArray) := In.bl_storeIn h q (ccells_len q) (ccells_one q) hs infoCm
theorem getC {w : World} {g : Nat} {q : KC} (h : Bl w g tCm (ccells q).toArray) : In.loadIn Try.prog tCm (.pointer (some ⟨g, 0, none⟩)) w = .ok (.agg (ccells q).toArray) w := In.bl_loadIn (enc := ccells) q h (ccells_len q) Try.underlying31 rfl infoCm
section
variable {W w w' : World} {q : KC}
theorem KOwn.frt (h : KOwn W w q) {S : Nat → Prop} (hf : Fr S w w') (h1 : ∀ x, Typed w x tEnt → ¬ S x) (h2 : ∀ x, Typed w x 3 → ¬ S x) : KOwn W w' q := by
  obtain ⟨ge, o1, o2⟩ := h.eo
  obtain ⟨gk, o3⟩ := h.ko
  exact ⟨h.en, ⟨ge, o1.fr hf fun x e => h2 x (o1.typed x e), o2⟩, h.kn, ⟨gk, o3.frt hf h1 h2⟩⟩
theorem KOwn.quiet (h : KOwn W w q) (hf : Fr (fun _ => False) w w') : KOwn W w' q := h.frt hf (fun _ _ => id) (fun _ _ => id)
theorem KOwn.base (h : KOwn W w q) {W' : World} (hs : W'.heap.size ≤ W.heap.size) : KOwn W' w q := by
  obtain ⟨ge, o1, o2⟩ := h.eo
  obtain ⟨gk, o3⟩ := h.ko
  exact ⟨h.en, ⟨ge, o1, fun x e => Nat.le_trans hs (o2 x e)⟩, h.kn, ⟨gk, o3.base hs⟩⟩
theorem KOwn.kt (h : KOwn W w q) : KT w q := by
  obtain ⟨ge, o1, -⟩ := h.eo
  obtain ⟨gk, o2⟩ := h.ko
  exact ⟨REnt.of o1 h.en, o2.k h.kn⟩
theorem zeroC_own (W w : World) : KOwn W w zeroC := ⟨by decide, ⟨none, Ow.nil_ _ _ _, fun x e => by cases e⟩, by decide, ⟨none, Ents.nil_ W w⟩⟩
/-- Pieces in memory of their own. -/
structure Pcm (W w : World) (l : List PC) (A : Option Addr) (n c : Nat) (g : Option Nat) : Prop where
  len : n = l.length
  ow : Ow w tPc 25 A n c (l.flatMap pcells) g
  new : ∀ b, g = some b → W.heap.size ≤ b
  own : ∀ p ∈ l, KOwn W w p.c
  ap : l.Pairwise fun p q => ∀ x o y o', p.c.e.A = some ⟨x, o, none⟩ → q.c.e.A = some ⟨y, o', none⟩ → x < y
/-- Pieces that can be read. -/
structure Pcr (W w : World) (l : List PC) (t : TypeId) (A : Option Addr) (n c : Nat) (g : Option Nat) : Prop where
  len : n = l.length
  ow : Ow w t 25 A n c (l.flatMap pcells) g
  new : ∀ b, g = some b → W.heap.size ≤ b
  rt : ∀ p ∈ l, KT w p.c
variable {l : List PC} {A : Option Addr} {n c : Nat} {g : Option Nat} {t : TypeId}
theorem Pcm.nil_ (W w : World) : Pcm W w [] none 0 0 none := ⟨rfl, Ow.nil_ _ _ _, (fun b e => by cases e), (fun q h => by cases h), List.Pairwise.nil⟩
theorem Pcr.nil_ (W w : World) (t : TypeId) : Pcr W w [] t none 0 0 none := ⟨rfl, Ow.nil_ _ _ _, (fun b e => by cases e), fun q h => by cases h⟩
theorem Pcm.quiet (h : Pcm W w l A n c g) (hf : Fr (fun _ => False) w w') : Pcm W w' l A n c g := ⟨h.len, h.ow.fr hf (fun _ _ => id), h.new, fun q hq => (h.own q hq).quiet hf, h.ap⟩
theorem Pcr.quiet (h : Pcr W w l t A n c g) (hf : Fr (fun _ => False) w w') : Pcr W w' l t A n c g := ⟨h.len, h.ow.fr hf (fun _ _ => id), h.new, fun q hq => (h.rt q hq).quiet hf⟩
/-- What turns is of none of these types. -/
theorem Pcm.frt (h : Pcm W w l A n c g) {S : Nat → Prop} (hf : Fr S w w') (hS : ∀ x t, Typed w x t → t = tEnt ∨ t = 3 ∨ t = tPc → ¬ S x) : Pcm W w' l A n c g :=
  ⟨h.len, h.ow.fr hf (fun b e => hS b _ (h.ow.typed b e) (.inr (.inr rfl))), h.new, fun q hq => (h.own q hq).frt hf (fun x hx => hS x _ hx (.inl rfl)) (fun x hx => hS x _ hx (.inr (.inl rfl))), h.ap⟩
theorem Pcm.pr (h : Pcm W w l A n c g) : Pcr W w l tPc A n c g := ⟨h.len, h.ow, h.new, fun q hq => (h.own q hq).kt⟩
theorem Pcm.clip (h : Pcm W w l A n c g) : Pcm W w l A n n g := ⟨h.len, h.ow.clip, h.new, h.own, h.ap⟩
theorem pflat_snoc (l : List PC) (q : PC) : (l ++ [q]).flatMap pcells = l.flatMap pcells ++ pcells q := by simp [List.flatMap_append]
theorem Pcm.app {w1 : World} {q : PC} {A3 : Option Addr} {c3 : Nat} {g3 : Option Nat} (h1 : Pcm W w1 l A n c g) (h : Pcm W w l A n c g) (hs : W.heap.size ≤ w1.heap.size) (hq : KOwn w1 w q.c) (hO : Ow w' tPc 25 A3 (n + 1) c3 (l.flatMap pcells ++ pcells q) g3) (hf : Fr (fun x => some x = g) w w') (hg : g3 = g ∨ ∃ b, g3 = some b ∧ W.heap.size ≤ b) : Pcm W w' (l ++ [q]) A3 (n + 1) c3 g3 := by
  have k1 : ∀ x, Typed w x tEnt → ¬ some x = g := fun x hx e => absurd (hx.same (h.ow.typed x e.symm)) (by decide)
  have k2 : ∀ x, Typed w x 3 → ¬ some x = g := fun x hx e => absurd (hx.same (h.ow.typed x e.symm)) (by decide)
  refine ⟨by rw [h.len]; simp, by rw [pflat_snoc]; exact hO, fun b e => ?_, fun p hp => ?_, ?_⟩
  · rcases hg with rfl | ⟨b', rfl, hb⟩
    · exact h.new b e
    · cases e; exact hb
  · rcases List.mem_append.1 hp with hp | hp
    · exact (h.own p hp).frt hf k1 k2
    · obtain rfl : p = q := by simpa using hp
      exact (hq.base hs).frt hf k1 k2
  · rw [List.pairwise_append]
    refine ⟨h.ap, List.pairwise_singleton _ _, fun p hp p' hp' => ?_⟩
    obtain rfl : p' = q := by simpa using hp'
    intro x o y o' ex ey
    obtain ⟨gp, k2, -⟩ := (h1.own p hp).eo
    obtain ⟨gq, k3, k4⟩ := hq.eo
    have a1 := k2.lt x (k2.sblk ex)
    have a2 := k4 y (k3.sblk ey)
    omega
end
/-- A stream lies at p: the bytes in its line, so many are wanted, so many were taken; what is done with them. -/
structure StAt (w : World) (p : Nat) (line : List Nat) (want taken : Nat) (f : Value) (deaf : Bool) (SA : Option Addr) (sc : Nat) (sg : Option Nat) : Prop where
  bl : Bl w p tStm #[.slice SA line.length sc, .int .i64 (want : Int), .int .i64 (taken : Int), f, .bool deaf]
  ow : Ow w 5 1 SA line.length sc (line.map bn) sg
theorem StAt.fr {w w' : World} {p : Nat} {line : List Nat} {want taken : Nat} {f : Value} {deaf : Bool} {SA : Option Addr} {sc : Nat} {sg : Option Nat} {S : Nat → Prop} (h : StAt w p line want taken f deaf SA sc sg) (hf : Fr S w w') (h1 : ¬ S p) (h2 : ∀ x, sg = some x → ¬ S x) : StAt w' p line want taken f deaf SA sc sg :=
  ⟨h.bl.fr hf h1, h.ow.fr hf h2⟩
end Go.Proofs.Ytlcjhbemgagchaa
end
