/-
  Texts merged into one, to keep the claim small: Row3, Sta, Stb, St1.
-/
import Derived.Test.YtlcjhbemgagchaaMr1
import Derived.Test.YtlcjhbemgagchaaMr9
import Derived.Test.YtlcjhbemgagchaaMr24
import Derived.Test.YtlcjhbemgagchaaMr45
import Derived.Test.YtlcjhbemgagchaaMr4
import Derived.Test.YtlcjhbemgagchaaMr8
section
/-
  A whole element out of, and into, a slice of the call's own memory (Ow), as equations of the run: elements of any size.
-/
namespace Go.Proofs.Ytlcjhbemgagchaa
open Go.RowKit
set_option linter.unusedVariables false

theorem putAt_far : ∀ (vs : List Value) (k : Nat) (cur : Array Value) (j : Nat), j < k ∨ k + vs.length ≤ j → (putAt cur k vs)[j]? = cur[j]?
  | [], k, cur, j, _ => rfl
  | v :: vs, k, cur, j, h => by
    rw [putAt, putAt_far vs (k + 1) _ j (by simp at h; omega), Array.getElem?_setIfInBounds_ne (by simp at h; omega)]
theorem putAt_near : ∀ (vs : List Value) (k : Nat) (cur : Array Value) (j : Nat), k + vs.length ≤ cur.size → j < vs.length → (putAt cur k vs)[k + j]? = vs[j]?
  | [], k, cur, j, _, h => by simp at h
  | v :: vs, k, cur, j, hs, h => by
    rw [putAt]
    cases j with
    | zero =>
      rw [putAt_far vs (k + 1) _ (k + 0) (.inl (by omega)), Nat.add_zero, Array.getElem?_setIfInBounds_self_of_lt (by simp at hs; omega)]
      rfl
    | succ j =>
      rw [show k + (j + 1) = k + 1 + j by omega, putAt_near vs (k + 1) _ j (by simp at hs ⊢; omega) (by simp at h; omega)]
      simp
theorem putAt_size : ∀ (vs : List Value) (k : Nat) (cur : Array Value), (putAt cur k vs).size = cur.size
  | [], _, _ => rfl
  | v :: vs, k, cur => by rw [putAt, putAt_size vs]; simp

section
variable {X : Type} {enc : X → List Value} {sz : Nat}
/-- The cells of a row of things, each of sz cells. -/
def cellsOf (enc : X → List Value) (xs : List X) : List Value := xs.flatMap enc
theorem cellsOf_nil : cellsOf enc [] = [] := rfl
theorem cellsOf_append (a b : List X) : cellsOf enc (a ++ b) = cellsOf enc a ++ cellsOf enc b := by simp [cellsOf]
theorem cellsOf_one (x : X) : cellsOf enc [x] = enc x := by simp [cellsOf]
theorem cellsOf_length (hs : ∀ x, (enc x).length = sz) : ∀ xs : List X, (cellsOf enc xs).length = xs.length * sz
  | [] => by simp [cellsOf]
  | x :: xs => by
    have := cellsOf_length hs xs
    simp only [cellsOf, List.flatMap_cons, List.length_append, hs, List.length_cons] at this ⊢
    rw [this, Nat.add_mul]; omega
theorem cellsOf_at (hs : ∀ x, (enc x).length = sz) : ∀ (xs : List X) (i : Nat) (x : X), xs[i]? = some x → ∀ j, j < sz → (cellsOf enc xs)[i * sz + j]? = (enc x)[j]?
  | [], i, x, h, j, hj => by simp at h
  | y :: ys, 0, x, h, j, hj => by
    simp at h; subst h
    simp only [cellsOf, List.flatMap_cons]
    rw [List.getElem?_append_left (by rw [hs]; omega)]
    simp
  | y :: ys, i + 1, x, h, j, hj => by
    have := cellsOf_at hs ys i x (by simpa using h) j hj
    simp only [cellsOf, List.flatMap_cons] at this ⊢
    rw [List.getElem?_append_right (by rw [hs, Nat.add_mul]; omega), hs, show (i + 1) * sz + j - sz = i * sz + j by rw [Nat.add_mul]; omega]
    exact this
theorem cellsOf_drop (hs : ∀ x, (enc x).length = sz) {xs : List X} {i : Nat} {x : X} (h : xs[i]? = some x) : ((cellsOf enc xs).drop (i * sz)).take sz = enc x := by
  apply List.ext_getElem?
  intro j
  by_cases hj : j < sz
  · rw [List.getElem?_take, if_pos hj, List.getElem?_drop, cellsOf_at hs xs i x h j hj]
  · rw [List.getElem?_take, if_neg hj, List.getElem?_eq_none (by rw [hs]; omega)]
theorem cellsOf_set (hs : ∀ x, (enc x).length = sz) (xs : List X) (i : Nat) (x : X) (hi : i < xs.length) (j : Nat) :
    (cellsOf enc (xs.set i x))[j]? = if i * sz ≤ j ∧ j < i * sz + sz then (enc x)[j - i * sz]? else (cellsOf enc xs)[j]? := by
  by_cases hjl : j < xs.length * sz
  · have hsz : 0 < sz := by rcases Nat.eq_zero_or_pos sz with h | h; (rw [h] at hjl; omega); exact h
    obtain ⟨q, r, hr, rfl⟩ : ∃ q r, r < sz ∧ j = q * sz + r := ⟨j / sz, j % sz, Nat.mod_lt _ hsz, by rw [Nat.mul_comm]; exact (Nat.div_add_mod j sz).symm⟩
    have hq : q < xs.length := by
      rcases Nat.lt_or_ge q xs.length with h | h
      · exact h
      · have := Nat.mul_le_mul_right sz h; omega
    by_cases hqi : q = i
    · subst hqi
      rw [if_pos ⟨by omega, by omega⟩, cellsOf_at hs (xs.set q x) q x (List.getElem?_set_self hq) r hr, show q * sz + r - q * sz = r by omega]
    · rw [if_neg (by
        intro ⟨h1, h2⟩
        rcases Nat.lt_or_gt_of_ne hqi with h | h
        · have := Nat.mul_le_mul_right sz (show q + 1 ≤ i by omega); rw [Nat.add_mul] at this; omega
        · have := Nat.mul_le_mul_right sz (show i + 1 ≤ q by omega); rw [Nat.add_mul] at this; omega)]
      rw [cellsOf_at hs (xs.set i x) q xs[q] (by rw [List.getElem?_set_ne (by omega), List.getElem?_eq_getElem hq]) r hr, cellsOf_at hs xs q xs[q] (List.getElem?_eq_getElem hq) r hr]
  · have h1 := cellsOf_length hs xs
    have h2 := cellsOf_length hs (xs.set i x)
    rw [List.length_set] at h2
    have h3 := Nat.mul_le_mul_right sz (show i + 1 ≤ xs.length by omega)
    rw [Nat.add_mul] at h3
    rw [if_neg (by omega), List.getElem?_eq_none (by omega), List.getElem?_eq_none (by omega)]
end

section
variable {P : Program} {w : World} {e : TypeId} {X : Type} {enc : X → List Value} {sz n c : Nat} {A : Option Addr} {xs : List X} {g : Option Nat}
/-- Thing i of the slice: where it lies, and what a load of it gives. -/
theorem Ow.row (h : Ow w e sz A n c (cellsOf enc xs) g) (hs : ∀ x, (enc x).length = sz) {i : Nat} {x : X} (hx : xs[i]? = some x) (hn : xs.length = n) :
    ∃ b o cur, A = some ⟨b, o, none⟩ ∧ g = some b ∧ w.heap[b]? = some (.cells cur e (0, 0)) ∧ o + c * sz ≤ cur.size ∧ i * sz + sz ≤ n * sz ∧ n * sz ≤ c * sz ∧ (cur.toList.drop (o + i * sz)).take sz = enc x := by
  have hi : i < n := by rw [← hn]; exact (List.getElem?_eq_some_iff.1 hx).1
  rcases h.2 with ⟨h1, h2, h3, h4⟩ | ⟨b, o, cur, hA, hg, hh, h2, h3, h4, h5⟩
  · omega
  · have h6 := Nat.mul_le_mul_right sz (show i + 1 ≤ n by omega)
    rw [Nat.add_mul] at h6
    refine ⟨b, o, cur, hA, hg, hh, h2, by omega, Nat.mul_le_mul_right sz h3, ?_⟩
    apply List.ext_getElem?
    intro j
    by_cases hj : j < sz
    · rw [List.getElem?_take, if_pos hj, List.getElem?_drop, Nat.add_assoc]
      have h7 := h5 (i * sz + j) (by omega)
      rw [cellsOf_at hs xs i x hx j hj] at h7
      simpa using h7
    · rw [List.getElem?_take, if_neg hj, List.getElem?_eq_none (by rw [hs]; omega)]
theorem Ow.load {w : World} {e : TypeId} {sz n c b o : Nat} {xs : List X} {g : Option Nat} (h : Ow w e sz (some ⟨b, o, none⟩) n c (cellsOf enc xs) g) (hs : ∀ x, (enc x).length = sz) {i : Nat} {x : X} (hx : xs[i]? = some x) (hn : xs.length = n)
    {ty : TypeId} {d : TypeDesc} (hu : P.underlying ty = some d) (hd : (match d with | .struct _ | .array _ _ => true | _ => false) = true) (hi : (P.info? ty).map (·.size) = some sz) :
    (Instr.loadAt ty (.pointer (some ⟨b, o + i * sz, none⟩))).run P w = .ok (.agg (enc x).toArray) w := by
  obtain ⟨b', o', cur, hA, hg, hh, h1, h2, h3, h4⟩ := h.row hs hx hn
  cases hA
  simp only [Instr.loadAt, Instr.sureAddr, Sem.run_bind, Sem.run_pure, Result.andThen_ok, run_loadVar_at w b (o + i * sz) e ty cur (enc x).toArray (0, 0) d hh hu hd (by simpa [hs] using hi) (by simpa [hs] using h4)]
/-- A store of a whole thing. -/
theorem Ow.store {w : World} {e : TypeId} {sz n c b o : Nat} {xs : List X} {g : Option Nat} (h : Ow w e sz (some ⟨b, o, none⟩) n c (cellsOf enc xs) g) (hs : ∀ x, (enc x).length = sz) (h1 : ∀ x, ∀ v ∈ enc x, v.oneCell' = true) {i : Nat} (hi : i < n) (hn : xs.length = n) (x : X)
    {ty : TypeId} (hif : (P.info? ty).map (·.size) = some sz) :
    ∃ w', (Instr.storeAt ty (.pointer (some ⟨b, o + i * sz, none⟩)) (.agg (enc x).toArray)).run P w = .ok () w' ∧ Ow w' e sz (some ⟨b, o, none⟩) n c (cellsOf enc (xs.set i x)) g ∧ Fr (fun k => k = b) w w' := by
  rcases h.2 with ⟨h2, _⟩ | ⟨b', o', cur, hA, hg, hh, h2, h3, h4, h5⟩
  · cases h2
  · cases hA
    have h6 := Nat.mul_le_mul_right sz (show i + 1 ≤ n by omega)
    have h7 := Nat.mul_le_mul_right sz h3
    rw [Nat.add_mul] at h6
    have hl := hs x
    refine ⟨w.setRow b (putAt cur (o + i * sz) (enc x)), ?_, ⟨?_, .inr ⟨b, o, _, rfl, hg, setRow_heap w b cur _ e _ hh, by rw [putAt_size]; exact h2, h3, h4, fun j hj => ?_⟩⟩, Fr.row _⟩
    · have := run_storeVar_at (P := P) w b (o + i * sz) e ty cur (enc x).toArray hh (by simpa [hs] using hif) (by simp; omega) (by simpa using fun v hv => h1 x v hv)
      simp only [Instr.storeAt, Instr.sureAddr, Sem.run_bind, Sem.run_pure, Result.andThen_ok, this]
    · rw [cellsOf_length hs, List.length_set, hn]
    · rw [cellsOf_set hs xs i x (by omega) j]
      by_cases hj2 : i * sz ≤ j ∧ j < i * sz + sz
      · rw [if_pos hj2, show o + j = o + i * sz + (j - i * sz) by omega, putAt_near _ _ _ _ (by omega) (by omega)]
      · rw [if_neg hj2, putAt_far _ _ _ _ (by omega)]
        exact h5 j hj
end
end Go.Proofs.Ytlcjhbemgagchaa
end

section
/-
  StreamReplies: the law's replies, where both are the same. (printed by pr_sta.py)
-/
namespace Go.Proofs.Ytlcjhbemgagchaa
open Go.RowKit
set_option linter.unusedVariables false
theorem flat_cells (l : List RR) : l.flatMap rcells = cellsOf rcells l := rfl
theorem infoRpl18 : (Try.prog.info? tRpl).map (·.size) = some 18 := by kernel_rfl
theorem Rpr.load {W w : World} {l : List RR} {b o n c : Nat} {g : Option Nat} (h : Rpr W w l (some ⟨b, o, none⟩) n c g) {i : Nat} {a : RR} (ha : l[i]? = some a) : (Instr.loadAt tRpl (.pointer (some ⟨b, o + i * 18, none⟩))).run Try.prog w = .ok (.agg #[.int .i64 a.id, .int .i64 a.err, .int .i64 a.num, .int .u64 (a.co : Int), .slice a.A a.n a.c, .string (strOf a.txt), .int .u32 (a.bits : Int), .int .i64 a.k.num, .int .i64 a.k.kind, .int .i64 a.k.by_, .int .i64 a.k.dl, .int .i64 a.k.to_, .int .i64 a.k.want, .int .u64 (a.k.pr : Int), .int .u64 (a.k.rs : Int), .int .u64 (a.k.st : Int), .int .i64 a.k.of_, .slice a.k.A a.k.n a.k.c]) w :=
  Ow.load (P := Try.prog) (enc := rcells) (by rw [← flat_cells]; exact h.ow) rcells_len ha h.len.symm Try.underlying35 rfl infoRpl18
theorem Rpr.addr {W w : World} {l : List RR} {A : Option Addr} {n c : Nat} {g : Option Nat} (h : Rpr W w l A n c g) (h0 : 0 < n) : ∃ b o, A = some ⟨b, o, none⟩ := by
  obtain ⟨b, o, hA, -⟩ := h.ow.sl.2 h0
  exact ⟨b, o, hA⟩
set_option maxHeartbeats 2000000 in
set_option maxRecDepth 8000 in
attribute [-go_sem] Go.Instr.loadAt in
theorem repliesLike_any (w W1 W2 : World) (l m : List RR) (hlk : LikeR l m) (A B : Option Addr) (n c d : Nat) (g g' : Option Nat) (hb : n ≤ 9223372036854775806) (h1 : Rpr W1 w l A n c g) (h2 : Rpr W2 w m B n d g') :
    Calls Try.prog 23 #[.slice A n c, .slice B n d] w fun e w' => e = .returned (.bool true) ∧ Fr (fun _ => False) w w' := by
  have H1 := hide h1
  have H2 := hide h2
  have HL := hide hlk
  clear h1 h2 hlk
  go_enter Try.func23, Try.ntmps23
  go_wp2_with fail
  go_loopw [5] (fun i wr => ∃ k : Nat, k ≤ n ∧ i = .int .i64 k ∧ Hid (Fr (fun _ => False) w wr)) (fun i _ => n - (intOf i).toNat)
  case atStart => exact ⟨0, Nat.zero_le _, rfl, Fr.refl _ _⟩
  case round =>
    obtain ⟨k, hk, rfl, hF⟩ := hrel
    by_cases hlt : k < n
    · have hr1 := H1.out.quiet hF.out
      have hr2 := H2.out.quiet hF.out
      obtain ⟨b, o, rfl⟩ := hr1.addr (by omega)
      obtain ⟨b', o', rfl⟩ := hr2.addr (by omega)
      obtain ⟨x, hx⟩ : ∃ x, l[k]? = some x := ⟨_, List.getElem?_eq_getElem (by have := hr1.len; omega)⟩
      obtain ⟨y, hy⟩ : ∃ y, m[k]? = some y := ⟨_, List.getElem?_eq_getElem (by have := hr2.len; omega)⟩
      have hxy := HL.out.at_ hx hy
      have ha := (hr1.rt x (List.mem_of_getElem? hx)).at_
      have hb' := (hr2.rt y (List.mem_of_getElem? hy)).at_
      have HC := hide (fun w' (hf : Fr (fun _ => False) wr w') => replyLike29_any w' x y hxy (ha.quiet hf) (hb'.quiet hf))
      have l1 : ∀ w', Fr (fun _ => False) wr w' → (Instr.loadAt tRpl (.pointer (some ⟨b, o + k * 18, none⟩))).run Try.prog w' = .ok (.agg #[.int .i64 x.id, .int .i64 x.err, .int .i64 x.num, .int .u64 (x.co : Int), .slice x.A x.n x.c, .string (strOf x.txt), .int .u32 (x.bits : Int), .int .i64 x.k.num, .int .i64 x.k.kind, .int .i64 x.k.by_, .int .i64 x.k.dl, .int .i64 x.k.to_, .int .i64 x.k.want, .int .u64 (x.k.pr : Int), .int .u64 (x.k.rs : Int), .int .u64 (x.k.st : Int), .int .i64 x.k.of_, .slice x.k.A x.k.n x.k.c]) w' := fun w' hf => (hr1.quiet hf).load hx
      have l2 : ∀ w', Fr (fun _ => False) wr w' → (Instr.loadAt tRpl (.pointer (some ⟨b', o' + k * 18, none⟩))).run Try.prog w' = .ok (.agg #[.int .i64 y.id, .int .i64 y.err, .int .i64 y.num, .int .u64 (y.co : Int), .slice y.A y.n y.c, .string (strOf y.txt), .int .u32 (y.bits : Int), .int .i64 y.k.num, .int .i64 y.k.kind, .int .i64 y.k.by_, .int .i64 y.k.dl, .int .i64 y.k.to_, .int .i64 y.k.want, .int .u64 (y.k.pr : Int), .int .u64 (y.k.rs : Int), .int .u64 (y.k.st : Int), .int .i64 y.k.of_, .slice y.k.A y.k.n y.k.c]) w' := fun w' hf => (hr2.quiet hf).load hy
      have i0 : (0 : Int) ≤ (k : Int) := by omega
      have i1 : (k : Int) < (n : Int) := by omega
      have hS : Fr (fun _ => False) wr wr := Fr.refl _ _
      clear hr1 hr2 hx hy hxy ha hb'
      go_wp2_with fail
      go_region_held3 (fun w' => Fr (fun _ => False) wr w') (first | assumption | exact Fr.drew (by assumption))
        ((go_at_call 51; refine (HC.out _ (by first | assumption | exact Fr.drew (by assumption))).mono ?_; rintro e w4 ⟨rfl, hf4⟩; have hf5 : Fr (fun _ => False) wr w4 := Fr.trans (by first | assumption | exact Fr.drew (by assumption)) hf4))
      have HF := hide (hF.out.trans hf5)
      clear l1 l2 hf4 hf5
      go_wp2_with fail
      exact ⟨⟨k + 1, by omega, by go_num, HF⟩, by simp [intOf]; omega⟩
    · go_wp2_with fail
      go_ret
      exact ⟨rfl, hF.out⟩
end Go.Proofs.Ytlcjhbemgagchaa
end

section
/-
  StreamReplies: replies that are written over, one by one.
-/
namespace Go.Proofs.Ytlcjhbemgagchaa
open Go.RowKit
set_option linter.unusedVariables false
theorem Ow.addr_of {w : World} {e : TypeId} {s n c : Nat} {A : Option Addr} {xs : List Value} {y : Nat} (h : Ow w e s A n c xs (some y)) : ∃ o, A = some ⟨y, o, none⟩ := by
  rcases h.2 with ⟨_, _, _, h0⟩ | ⟨b, o, cur, hA, hg, _⟩
  · cases h0
  · cases hg; exact ⟨o, hA⟩
theorem Reps.bound {bs : List Nat} {k : Nat} {l : List RR} {u e : Nat} (h : Reps bs k l u e) : 3 * l.length + k ≤ u ∧ (u = k ∨ u ≤ bs.length) := by
  induction h with
  | short _ => simp
  | long _ _ => simp
  | half _ _ _ => simp
  | bad _ _ _ _ => simp
  | one _ _ _ _ ih => simp only [List.length_cons]; omega
/-- The reply that is written over a reply. -/
def gone : RR := ⟨-6, 0, 0, 0, none, 0, 0, [], [], 0, ⟨0, 0, 0, 0, 0, 0, 0, 0, 0, 0, none, 0, 0, []⟩⟩
section
variable {W w w' w2 w3 w8 : World} {l : List RR} {A : Option Addr} {n c : Nat} {g : Option Nat} {S : Nat → Prop}
theorem Rps.low (h : Rps W w l A n c g) (hf : Fr S w w') (hS : ∀ x, S x → x < W.heap.size) : Rps W w' l A n c g :=
  ⟨h.len, h.ow.fr hf fun b e hs => by have := h.new b e; have := hS b hs; omega, h.new, fun q hq => ⟨(h.own q hq).1.low hf hS, (h.own q hq).2⟩, h.ap⟩
/-- What turns is a block of bytes, or new. -/
theorem Rpr.keep (h : Rpr W w l A n c g) (hf : Fr S w w') (hS : ∀ x, S x → Typed w x 5 ∨ w.heap.size ≤ x) : Rpr W w' l A n c g := by
  have key : ∀ {x : Nat} {t : TypeId}, Typed w x t → t ≠ 5 → ¬ S x := fun {x t} hx ht hs => by
    rcases hS x hs with h1 | h1
    · exact ht (hx.same h1)
    · obtain ⟨cs, hc⟩ := hx
      have := (Array.getElem?_eq_some_iff.1 hc).1
      omega
  exact ⟨h.len, h.ow.fr hf fun b e => key (h.ow.typed b e) (by decide), h.new, fun q hq => (h.rt q hq).frt hf (fun x hx => key hx (by decide)) (fun x hx => key hx (by decide))⟩
/-- Rows from i on, items from j on are as they were. -/
structure LS (w2 w3 w8 : World) (l : List RR) (A : Option Addr) (m d : Nat) (g : Option Nat) (i j0 : Nat) (w : World) : Prop where
  len : l.length = m
  nl : ∀ q ∈ l, q.n ≤ 1048576
  ow : ∃ l' : List RR, l'.length = m ∧ (∀ j, i ≤ j → l'[j]? = l[j]?) ∧ Ow w tRpl 18 A m d (cellsOf rcells l') g
  it : ∀ (j : Nat) (q : RR), l[j]? = some q → j0 ≤ j → ∃ gq, Ow w 3 1 q.A q.n q.c (q.items.map iv) gq ∧ ∀ x, gq = some x → w2.heap.size ≤ x ∧ x < w3.heap.size
  ap : l.Pairwise fun p q => ∀ x o y o', p.A = some ⟨x, o, none⟩ → q.A = some ⟨y, o', none⟩ → x < y
  gl : ∀ x, g = some x → w2.heap.size ≤ x ∧ x < w3.heap.size
  fr : Fr (fun x => w2.heap.size ≤ x ∧ x < w3.heap.size) w8 w
variable {m d i j0 : Nat}
theorem LS.start (h : Rps w2 w3 l A m d g) (h8 : Rps w2 w8 l A m d g) (h38 : w3.heap.size ≤ w8.heap.size) : LS w2 w3 w8 l A m d g 0 0 w8 :=
  ⟨h.len.symm, fun q hq => (h.own q hq).1.en, ⟨l, h.len.symm, fun _ _ => rfl, h8.ow⟩, fun j q hq _ => by
    have hm := List.mem_of_getElem? hq
    obtain ⟨gq, k1, k2⟩ := (h8.own q hm).1.eo
    obtain ⟨gp, k3, k4⟩ := (h.own q hm).1.eo
    refine ⟨gq, k1, fun x e => ⟨k2 x e, ?_⟩⟩
    subst e
    obtain ⟨o, hA⟩ := k1.addr_of
    exact k3.lt x (k3.sblk hA), h.ap, fun x e => ⟨h.new x e, h.ow.lt x e⟩, Fr.refl _ _⟩
/-- The cell that holds a reply's items. -/
theorem LS.items {b o : Nat} (h : LS w2 w3 w8 l (some ⟨b, o, none⟩) m d g i j0 w) {q : RR} (hq : l[i]? = some q) : w.cell? ⟨b, o + i * 18 + 4, none⟩ = some (.slice q.A q.n q.c) := by
  obtain ⟨l', h1, h2, h3⟩ := h.ow
  have h4 : l'[i]? = some q := (h2 i (Nat.le_refl _)).trans hq
  have h5 := cellsOf_at (enc := rcells) rcells_len l' i q h4 4 (by omega)
  obtain ⟨b', o', e, -, hc, -⟩ := h3.look (j := i * 18 + 4) (u := .slice q.A q.n q.c) (by rw [h5]; rfl)
  cases e
  rw [← Nat.add_assoc] at hc
  exact hc
/-- An item of the reply at hand is written. -/
theorem LS.put (h : LS w2 w3 w8 l A m d g i (i + 1) w) {q : RR} (hq : l[i]? = some q) {ys : List Int} {x o k : Nat} (hA : q.A = some ⟨x, o, none⟩) (hO : Ow w 3 1 q.A q.n q.c (ys.map iv) (some x)) (hk : k < q.n) (hx : w2.heap.size ≤ x ∧ x < w3.heap.size) (v : Int) :
    LS w2 w3 w8 l A m d g i (i + 1) (w.setCell ⟨x, o + k, none⟩ (.int .i64 v)) ∧ Ow (w.setCell ⟨x, o + k, none⟩ (.int .i64 v)) 3 1 q.A q.n q.c ((ys.set k v).map iv) (some x) := by
  have hF : Fr (· = x) w (w.setCell ⟨x, o + k, none⟩ (.int .i64 v)) := (Fr.refl _ _).setAt _
  obtain ⟨l', h1, h2, h3⟩ := h.ow
  refine ⟨⟨h.len, h.nl, ⟨l', h1, h2, h3.fr hF fun b e e' => ?_⟩, fun j p hp hj => ?_, h.ap, h.gl, h.fr.trans (hF.mono fun y _ e => by subst e; exact hx)⟩, ?_⟩
  · subst e'
    exact absurd ((h3.typed b e).same (hO.typed b rfl)) (by decide)
  · obtain ⟨gp, k1, k2⟩ := h.it j p hp hj
    refine ⟨gp, k1.fr hF fun b e e' => ?_, k2⟩
    subst e'
    rw [e] at k1
    obtain ⟨o', hA'⟩ := k1.addr_of
    obtain ⟨hi', ei⟩ := List.getElem?_eq_some_iff.1 hq
    obtain ⟨hj', ej⟩ := List.getElem?_eq_some_iff.1 hp
    have := List.pairwise_iff_getElem.1 h.ap i j hi' hj' (by omega) b o b o' (by rw [ei]; exact hA) (by rw [ej]; exact hA')
    omega
  · rw [List.map_set]
    have h4 := (hA ▸ hO).put (j := k) (by omega) (iv v)
    rw [hA]
    exact h4
/-- The reply at hand is written over. -/
theorem LS.over {b o : Nat} (h : LS w2 w3 w8 l (some ⟨b, o, none⟩) m d g i (i + 1) w) (hi : i < m) :
    ∃ w', (Instr.storeAt tRpl (.pointer (some ⟨b, o + i * 18, none⟩)) (.agg (rcells gone).toArray)).run Try.prog w = .ok () w' ∧ LS w2 w3 w8 l (some ⟨b, o, none⟩) m d g (i + 1) (i + 1) w' := by
  obtain ⟨l', h1, h2, h3⟩ := h.ow
  obtain ⟨w', k1, k2, k3⟩ := h3.store (P := Try.prog) rcells_len rcells_one hi h1 gone infoRpl18
  have hgb : g = some b := h3.sblk rfl
  refine ⟨w', k1, h.len, h.nl, ⟨l'.set i gone, by simp [h1], fun j hj => ?_, k2⟩, fun j q hq hj => ?_, h.ap, h.gl, h.fr.trans (k3.mono fun x _ e => by subst e; exact h.gl x hgb)⟩
  · rw [List.getElem?_set_ne (by omega)]; exact h2 j (by omega)
  · obtain ⟨gq, m1, m2⟩ := h.it j q hq hj
    exact ⟨gq, m1.fr k3 fun y e e' => by subst e'; exact absurd ((m1.typed y e).same (h3.typed y hgb)) (by decide), m2⟩
end
end Go.Proofs.Ytlcjhbemgagchaa
end

section
/-
  stream: Frame, the program's and the reference's.
-/
namespace Go.Proofs.Ytlcjhbemgagchaa
open Go.RowKit
set_option linter.unusedVariables false

def frameB (xs : List Nat) : List Nat := if xs.length ≤ 65536 then [xs.length / 65536 % 256, xs.length / 256 % 256, xs.length % 256] ++ xs else []
def frameE (xs : List Nat) : Nat := if xs.length ≤ 65536 then 0 else 3
theorem clip8_any (w : World) (A : Option Addr) (n c : Nat) (hn : n ≤ c) (hc : c ≤ maxLen) :
    Calls Try.prog 41 #[.slice A n c] w fun e w' => e = .returned (.slice A n n) ∧ w = w' := by
  unfold maxLen at hc
  go_enter Try.func41, Try.ntmps41
  go_wp2
  go_ret
  exact ⟨rfl, rfl⟩
set_option maxHeartbeats 1000000 in
set_option maxRecDepth 4000 in
theorem frame_any (w : World) (xs : List Nat) (A : Option Addr) (n c : Nat) (hn : n = xs.length) (hb : n ≤ 140737488355000) (hA : Sl w 1 A n (xs.map bn)) :
    Calls Try.prog 12 #[.slice A n c] w (PutPost (frameB xs) (frameE xs) w) := by
  obtain ⟨i0, hi, hz0, hz1, hz2⟩ := info_parts info5
  by_cases hl : n ≤ 65536
  · have e1 : frameB xs = [n / 65536 % 256, n / 256 % 256, n % 256] ++ xs := by unfold frameB; rw [← hn, if_pos hl]
    have e2 : frameE xs = 0 := by unfold frameE; rw [← hn, if_pos hl]
    have E1 := hide e1
    have b1 : ¬ (65536 : Int) < (n : Int) := by omega
    rw [e2]
    clear hn e1 e2
    have hv : [Value.int .u8 ((n : Int) / 65536), .int .u8 ((n : Int) / 256 % 256), .int .u8 ((n : Int) % 256)] = [n / 65536 % 256, n / 256 % 256, n % 256].map bn := by
      have e1 : n / 65536 % 256 = n / 65536 := by omega
      simp [bn, e1]
    have hO := Ow.made w 5 1 3 3 #[.int .u8 ((n : Int) / 65536), .int .u8 ((n : Int) / 256 % 256), .int .u8 ((n : Int) % 256)] [.int .u8 ((n : Int) / 65536), .int .u8 ((n : Int) / 256 % 256), .int .u8 ((n : Int) % 256)] rfl (Nat.le_refl _) (by unfold maxLen; omega) rfl
    have hA' := hA.below (w' := w.alloc (.cells #[.int .u8 ((n : Int) / 65536), .int .u8 ((n : Int) / 256 % 256), .int .u8 ((n : Int) % 256)] 5)) ((Fr.refl (fun _ => False) _).alloc _) (fun _ _ => id)
    have Hv := hide hv
    clear hv
    go_enter Try.func12, Try.ntmps12
    go_wp2_with (at_builtin; refine wpList_append_ow _ rfl _ _ 22 rfl 5 i0 (.int .u8 0) 1 1 Try.underlying22 hi hz0 hz1 hz2 rfl (by decide) _ _ _ _ _ rfl hO _ _ _ _ rfl hA' (bn_one _) (by unfold maxLen; omega) (by omega) ?_)
    intro A1 c1 w1 g1 hO1 hf1 hg1
    have hcap := hO1.cap
    have hcl := clip8_any w1 A1 (3 + n) c1 hcap.1 hcap.2
    have hnew : ∀ b, g1 = some b → w.heap.size ≤ b := fun b hb => by
      rcases hg1 with rfl | ⟨b', rfl, h⟩
      · cases hb; exact Nat.le_refl _
      · cases hb; omega
    have hF : Fr (fun _ => False) w w1 := ((Fr.refl (fun _ => False) w).alloc _).comp hf1 fun i hi e => by cases e; omega
    have hO1' : Ow w1 5 1 A1 (3 + n) c1 ((frameB xs).map bn) g1 := by rw [E1.out, List.map_append, ← Hv.out]; exact hO1
    have HO := hide hO1'
    clear hO1 hO1' hf1 hg1 hcap hO hA' hA
    go_wp2_with fail
    refine hcl.mono ?_
    rintro e w2 ⟨rfl, rfl⟩
    go_wp2_with fail
    go_ret2
    exact ⟨A1, 3 + n, 3 + n, g1, rfl, HO.out.clip, hnew, hF⟩
  · have e1 : frameB xs = [] := by unfold frameB; rw [← hn, if_neg hl]
    have e2 : frameE xs = 3 := by unfold frameE; rw [← hn, if_neg hl]
    have b1 : (65536 : Int) < (n : Int) := by omega
    rw [e1, e2]
    clear e1 e2 hA hn hl
    go_enter Try.func12, Try.ntmps12
    go_wp2_with fail
    go_ret2
    exact ⟨none, 0, 0, none, rfl, Ow.nil_ _ _ _, (fun b h => by cases h), Fr.refl _ _⟩
set_option maxHeartbeats 1000000 in
set_option maxRecDepth 4000 in
theorem rframe_any (w : World) (xs : List Nat) (A : Option Addr) (n c : Nat) (hn : n = xs.length) (hb : n ≤ 140737488355000) (hA : Sl w 1 A n (xs.map bn)) :
    Calls Try.prog 11 #[.slice A n c] w (PutPost (frameB xs) (frameE xs) w) := by
  obtain ⟨i0, hi, hz0, hz1, hz2⟩ := info_parts info5
  by_cases hl : n ≤ 65536
  · have e1 : frameB xs = [n / 65536 % 256, n / 256 % 256, n % 256] ++ xs := by unfold frameB; rw [← hn, if_pos hl]
    have e2 : frameE xs = 0 := by unfold frameE; rw [← hn, if_pos hl]
    have E1 := hide e1
    have b1 : ¬ (65536 : Int) < (n : Int) := by omega
    rw [e2]
    clear hn e1 e2
    have hv : [Value.int .u8 ((n : Int) / 65536), .int .u8 ((n : Int) / 256 % 256), .int .u8 ((n : Int) % 256)] = [n / 65536 % 256, n / 256 % 256, n % 256].map bn := by
      have e1 : n / 65536 % 256 = n / 65536 := by omega
      simp [bn, e1]
    have hO := Ow.made w 5 1 3 3 #[.int .u8 ((n : Int) / 65536), .int .u8 ((n : Int) / 256 % 256), .int .u8 ((n : Int) % 256)] [.int .u8 ((n : Int) / 65536), .int .u8 ((n : Int) / 256 % 256), .int .u8 ((n : Int) % 256)] rfl (Nat.le_refl _) (by unfold maxLen; omega) rfl
    have hA' := hA.below (w' := w.alloc (.cells #[.int .u8 ((n : Int) / 65536), .int .u8 ((n : Int) / 256 % 256), .int .u8 ((n : Int) % 256)] 5)) ((Fr.refl (fun _ => False) _).alloc _) (fun _ _ => id)
    have Hv := hide hv
    clear hv
    go_enter Try.func11, Try.ntmps11
    go_wp2_with (at_builtin; refine wpList_append_ow _ rfl _ _ 22 rfl 5 i0 (.int .u8 0) 1 1 Try.underlying22 hi hz0 hz1 hz2 rfl (by decide) _ _ _ _ _ rfl hO _ _ _ _ rfl hA' (bn_one _) (by unfold maxLen; omega) (by omega) ?_)
    intro A1 c1 w1 g1 hO1 hf1 hg1
    have hnew : ∀ b, g1 = some b → w.heap.size ≤ b := fun b hb => by
      rcases hg1 with rfl | ⟨b', rfl, h⟩
      · cases hb; exact Nat.le_refl _
      · cases hb; omega
    have hF : Fr (fun _ => False) w w1 := ((Fr.refl (fun _ => False) w).alloc _).comp hf1 fun i hi e => by cases e; omega
    have hO1' : Ow w1 5 1 A1 (3 + n) c1 ((frameB xs).map bn) g1 := by rw [E1.out, List.map_append, ← Hv.out]; exact hO1
    have HO := hide hO1'
    clear hO1 hO1' hf1 hg1  hO hA' hA
    go_wp2_with fail
    go_ret2
    exact ⟨A1, 3 + n, c1, g1, rfl, HO.out, hnew, hF⟩
  · have e1 : frameB xs = [] := by unfold frameB; rw [← hn, if_neg hl]
    have e2 : frameE xs = 3 := by unfold frameE; rw [← hn, if_neg hl]
    have b1 : (65536 : Int) < (n : Int) := by omega
    rw [e1, e2]
    clear e1 e2 hA hn hl
    go_enter Try.func11, Try.ntmps11
    go_wp2_with fail
    go_ret2
    exact ⟨none, 0, 0, none, rfl, Ow.nil_ _ _ _, (fun b h => by cases h), Fr.refl _ _⟩
/-- A frame of what was encoded. -/
def fB (bs : List Nat) (er : Nat) : List Nat := if er = 0 then frameB bs else []
def fE (bs : List Nat) (er : Nat) : Nat := if er = 0 then frameE bs else er
theorem framed_any (w : World) (bs : List Nat) (er : Nat) (A : Option Addr) (n c : Nat) (hn : n = bs.length) (hb : n ≤ 140737488355000) (hA : Sl w 1 A n (bs.map bn)) :
    Calls Try.prog 43 #[.slice A n c, .int .i64 (er : Int)] w (PutPost (fB bs er) (fE bs er) w) := by
  by_cases h0 : er = 0
  · subst h0
    have hf := frame_any w bs A n c hn hb hA
    show Calls _ _ _ _ (PutPost (frameB bs) (frameE bs) w)
    clear hA hn
    go_enter Try.func43, Try.ntmps43
    go_wp2_with fail
    refine hf.mono ?_
    rintro e w1 ⟨B, m, d, g, rfl, hO, hg, hF⟩
    have H := hide (And.intro hO (And.intro hg hF))
    clear hO hg hF hf
    go_wp2_with fail
    go_ret2
    exact ⟨B, m, d, g, rfl, H.out⟩
  · have e1 : fB bs er = [] := if_neg h0
    have e2 : fE bs er = er := if_neg h0
    rw [e1, e2]
    have h1 : ¬ (er : Int) = 0 := by omega
    clear e1 e2 hA hn h0
    go_enter Try.func43, Try.ntmps43
    go_wp2_with fail
    go_ret2
    exact ⟨none, 0, 0, none, rfl, Ow.nil_ _ _ _, (fun b h => by cases h), Fr.refl _ _⟩
end Go.Proofs.Ytlcjhbemgagchaa
end
