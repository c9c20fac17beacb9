/-
  Texts merged into one, to keep the claim small: Su9, SuA.
-/
import Derived.Test.YtlcjhbemgagchaaMs45
import Derived.Test.YtlcjhbemgagchaaMs25
import Derived.Test.YtlcjhbemgagchaaMs32
import Derived.Test.YtlcjhbemgagchaaMc3
import Derived.Test.YtlcjhbemgagchaaMs46
section
/-
  StreamFeeds: the law's pieces, where both are the same. (printed by pr_pcs.py)
-/
namespace Go.Proofs.Ytlcjhbemgagchaa
open Go.RowKit
set_option linter.unusedVariables false
theorem pflat_cells (l : List PC) : l.flatMap pcells = cellsOf pcells l := rfl
theorem Pcr.addr {W w : World} {l : List PC} {t : TypeId} {A : Option Addr} {n c : Nat} {g : Option Nat} (h : Pcr W w l t A n c g) (h0 : 0 < n) : ∃ b o, A = some ⟨b, o, none⟩ := by
  obtain ⟨b, o, hA, -⟩ := h.ow.sl.2 h0
  exact ⟨b, o, hA⟩
/-- A piece's command; its error. -/
theorem Pcr.loadC {W w : World} {l : List PC} {t : TypeId} {b o n c : Nat} {g : Option Nat} (h : Pcr W w l t (some ⟨b, o, none⟩) n c g) {i : Nat} {a : PC} (ha : l[i]? = some a) : (Instr.loadAt tCm (.pointer (some ⟨b, o + i * 25, none⟩))).run Try.prog w = .ok (.agg #[.int .i64 a.c.id, .int .i64 a.c.kind, .string (strOf a.c.name), .int .i64 a.c.to_, .int .u64 (a.c.co : Int), .int .i64 a.c.item, .int .i64 a.c.num, .int .i64 a.c.of_, .int .i64 a.c.e.acc, .int .i64 a.c.e.item, .int .u64 (a.c.e.co : Int), .int .u64 (a.c.e.pr : Int), .slice a.c.e.A a.c.e.n a.c.e.c, .int .i64 a.c.k.num, .int .i64 a.c.k.kind, .int .i64 a.c.k.by_, .int .i64 a.c.k.dl, .int .i64 a.c.k.to_, .int .i64 a.c.k.want, .int .u64 (a.c.k.pr : Int), .int .u64 (a.c.k.rs : Int), .int .u64 (a.c.k.st : Int), .int .i64 a.c.k.of_, .slice a.c.k.A a.c.k.n a.c.k.c]) w := by
  have ho := h.ow
  rw [pflat_cells] at ho
  obtain ⟨b', o', cur, hA, hg, hh, h1, h2, h3, h4⟩ := ho.row pcells_len ha h.len.symm
  cases hA
  have h5 : (cur.toList.drop (o + i * 25)).take 24 = ccells a.c := by
    have := congrArg (List.take 24) h4
    rw [List.take_take] at this
    exact this
  simp only [Instr.loadAt, Instr.sureAddr, Sem.run_bind, Sem.run_pure, Result.andThen_ok]
  rw [run_loadVar_at w b (o + i * 25) t tCm cur (ccells a.c).toArray (0, 0) _ hh Try.underlying31 rfl (by simpa [ccells_len] using infoCm) (by simpa [ccells_len] using h5)]
  rfl
theorem Pcr.err {W w : World} {l : List PC} {t : TypeId} {b o n c : Nat} {g : Option Nat} (h : Pcr W w l t (some ⟨b, o, none⟩) n c g) {i : Nat} {a : PC} (ha : l[i]? = some a) : w.cell? ⟨b, o + i * 25 + 24, none⟩ = some (.int .i64 (a.er : Int)) := by
  have ho := h.ow
  rw [pflat_cells] at ho
  have h5 := cellsOf_at (enc := pcells) pcells_len l i a ha 24 (by omega)
  obtain ⟨b', o', e, -, hc, -⟩ := ho.look (j := i * 25 + 24) (u := .int .i64 (a.er : Int)) (by rw [h5]; rfl)
  cases e
  rw [← Nat.add_assoc] at hc
  exact hc
set_option maxHeartbeats 2000000 in
set_option maxRecDepth 8000 in
attribute [-go_sem] Go.Instr.loadAt in
theorem pcsLike_any (w W1 W2 : World) (l m : List PC) (hlk : LikeP l m) (A B : Option Addr) (n c d : Nat) (g g' : Option Nat) (hb : n ≤ 1048576) (h1 : Pcr W1 w l tPc A n c g) (h2 : Pcr W2 w m tRp B n d g') :
    Calls Try.prog 28 #[.slice A n c, .slice B n d] w fun e w' => e = .returned (.bool true) ∧ Fr (fun _ => False) w w' := by
  have H1 := hide h1
  have H2 := hide h2
  have HL := hide hlk
  clear h1 h2 hlk
  go_enter Try.func28, Try.ntmps28
  go_wp2_with fail
  go_loopw [5] (fun i wr => ∃ k : Nat, k ≤ n ∧ i = .int .i64 k ∧ Hid (Fr (fun _ => False) w wr)) (fun i _ => n - (intOf i).toNat)
  case atStart => exact ⟨0, Nat.zero_le _, rfl, Fr.refl _ _⟩
  case round =>
    obtain ⟨k, hk, rfl, hF⟩ := hrel
    by_cases hlt : k < n
    · have hr1 := H1.out.quiet hF.out
      have hr2 := H2.out.quiet hF.out
      obtain ⟨b, o, rfl⟩ := hr1.addr (by omega)
      obtain ⟨b', o', rfl⟩ := hr2.addr (by omega)
      obtain ⟨x, hx⟩ : ∃ x, l[k]? = some x := ⟨_, List.getElem?_eq_getElem (by have := hr1.len; omega)⟩
      obtain ⟨y, hy⟩ : ∃ y, m[k]? = some y := ⟨_, List.getElem?_eq_getElem (by have := hr2.len; omega)⟩
      have hxy := HL.out.at_ hx hy
      have ha := (hr1.rt x (List.mem_of_getElem? hx)).at_
      have hb' := (hr2.rt y (List.mem_of_getElem? hy)).at_
      have HC := hide (fun w' (hf : Fr (fun _ => False) wr w') => commandLike29_any w' x.c y.c hxy.1 (ha.quiet hf) (hb'.quiet hf))
      have l1 : ∀ w', Fr (fun _ => False) wr w' → (Instr.loadAt tCm (.pointer (some ⟨b, o + k * 25, none⟩))).run Try.prog w' = .ok (.agg #[.int .i64 x.c.id, .int .i64 x.c.kind, .string (strOf x.c.name), .int .i64 x.c.to_, .int .u64 (x.c.co : Int), .int .i64 x.c.item, .int .i64 x.c.num, .int .i64 x.c.of_, .int .i64 x.c.e.acc, .int .i64 x.c.e.item, .int .u64 (x.c.e.co : Int), .int .u64 (x.c.e.pr : Int), .slice x.c.e.A x.c.e.n x.c.e.c, .int .i64 x.c.k.num, .int .i64 x.c.k.kind, .int .i64 x.c.k.by_, .int .i64 x.c.k.dl, .int .i64 x.c.k.to_, .int .i64 x.c.k.want, .int .u64 (x.c.k.pr : Int), .int .u64 (x.c.k.rs : Int), .int .u64 (x.c.k.st : Int), .int .i64 x.c.k.of_, .slice x.c.k.A x.c.k.n x.c.k.c]) w' := fun w' hf => (hr1.quiet hf).loadC hx
      have l2 : ∀ w', Fr (fun _ => False) wr w' → (Instr.loadAt tCm (.pointer (some ⟨b', o' + k * 25, none⟩))).run Try.prog w' = .ok (.agg #[.int .i64 y.c.id, .int .i64 y.c.kind, .string (strOf y.c.name), .int .i64 y.c.to_, .int .u64 (y.c.co : Int), .int .i64 y.c.item, .int .i64 y.c.num, .int .i64 y.c.of_, .int .i64 y.c.e.acc, .int .i64 y.c.e.item, .int .u64 (y.c.e.co : Int), .int .u64 (y.c.e.pr : Int), .slice y.c.e.A y.c.e.n y.c.e.c, .int .i64 y.c.k.num, .int .i64 y.c.k.kind, .int .i64 y.c.k.by_, .int .i64 y.c.k.dl, .int .i64 y.c.k.to_, .int .i64 y.c.k.want, .int .u64 (y.c.k.pr : Int), .int .u64 (y.c.k.rs : Int), .int .u64 (y.c.k.st : Int), .int .i64 y.c.k.of_, .slice y.c.k.A y.c.k.n y.c.k.c]) w' := fun w' hf => (hr2.quiet hf).loadC hy
      have l3 : ∀ w', Fr (fun _ => False) wr w' → (Instr.loadAt 32 (.pointer (some ⟨b, o + k * 25 + 24, none⟩))).run Try.prog w' = .ok (.int .i64 (x.er : Int)) w' := fun w' hf => In.run_loadAt_cell _ _ Try.underlying32 rfl ((hr1.quiet hf).err hx)
      have l4 : ∀ w', Fr (fun _ => False) wr w' → (Instr.loadAt 3 (.pointer (some ⟨b', o' + k * 25 + 24, none⟩))).run Try.prog w' = .ok (.int .i64 (x.er : Int)) w' := fun w' hf => In.run_loadAt_cell _ _ Try.underlying3 rfl (by rw [hxy.2]; exact (hr2.quiet hf).err hy)
      have HN := hide (fun w' => num29_any w' (x.er : Int))
      have i0 : (0 : Int) ≤ (k : Int) := by omega
      have i1 : (k : Int) < (n : Int) := by omega
      have hS : Fr (fun _ => False) wr wr := Fr.refl _ _
      clear hr1 hr2 hx hy hxy ha hb'
      go_wp2_with fail
      go_region_held3 (fun w' => Fr (fun _ => False) wr w') (first | assumption | exact Fr.drew (by assumption))
        (first
          | (go_at_call 38; refine (HC.out _ (by first | assumption | exact Fr.drew (by assumption))).mono ?_; rintro e w4 ⟨rfl, hf4⟩; have hf5 : Fr (fun _ => False) wr w4 := Fr.trans (by first | assumption | exact Fr.drew (by assumption)) hf4)
          | (go_at_call 13; refine (HN.out _).mono ?_; rintro e w4 ⟨rfl, rfl⟩))
      have HF := hide (hF.out.trans hf5)
      clear l1 l2 l3 l4 hf4 hf5
      go_wp2_with fail
      exact ⟨⟨k + 1, by omega, by go_num, HF⟩, by simp [intOf]; omega⟩
    · go_wp2_with fail
      go_ret
      exact ⟨rfl, hF.out⟩
end Go.Proofs.Ytlcjhbemgagchaa
end

section
/-
  StreamFeeds: pieces that are written over, one by one, and gone on with.
-/
namespace Go.Proofs.Ytlcjhbemgagchaa
open Go.RowKit
set_option linter.unusedVariables false
/-- What is written over: wishes, pieces; new. -/
def SpS (W w8 : World) (x : Nat) : Prop := W.heap.size ≤ x ∧ (Typed w8 x 3 ∨ Typed w8 x tPc)
section
variable {W w w' w8 : World} {l : List PC} {A : Option Addr} {n c : Nat} {g : Option Nat} {S : Nat → Prop}
/-- Rows from i on, wishes from j on are as they were. -/
structure LSp (W w8 : World) (l : List PC) (A : Option Addr) (m d : Nat) (g : Option Nat) (i j0 : Nat) (w : World) : Prop where
  len : l.length = m
  nl : ∀ q ∈ l, q.c.e.n ≤ 1048576
  ow : ∃ l' : List PC, l'.length = m ∧ (∀ j, i ≤ j → l'[j]? = l[j]?) ∧ Ow w tPc 25 A m d (cellsOf pcells l') g
  it : ∀ (j : Nat) (q : PC), l[j]? = some q → j0 ≤ j → ∃ gq, Ow w 3 1 q.c.e.A q.c.e.n q.c.e.c (q.c.e.ws.map iv) gq ∧ ∀ x, gq = some x → W.heap.size ≤ x ∧ Typed w8 x 3
  ap : l.Pairwise fun p q => ∀ x o y o', p.c.e.A = some ⟨x, o, none⟩ → q.c.e.A = some ⟨y, o', none⟩ → x < y
  gl : ∀ x, g = some x → W.heap.size ≤ x ∧ Typed w8 x tPc
  fr : Fr (SpS W w8) w8 w
variable {m d i j0 : Nat}
theorem LSp.start (h : Pcm W w8 l A m d g) : LSp W w8 l A m d g 0 0 w8 :=
  ⟨h.len.symm, fun q hq => (h.own q hq).en, ⟨l, h.len.symm, fun _ _ => rfl, h.ow⟩, fun j q hq _ => by
    obtain ⟨gq, k1, k2⟩ := (h.own q (List.mem_of_getElem? hq)).eo
    exact ⟨gq, k1, fun x e => ⟨k2 x e, k1.typed x e⟩⟩, h.ap, fun x e => ⟨h.new x e, h.ow.typed x e⟩, Fr.refl _ _⟩
/-- The cell that holds a piece's wishes. -/
theorem LSp.items {b o : Nat} (h : LSp W w8 l (some ⟨b, o, none⟩) m d g i j0 w) {q : PC} (hq : l[i]? = some q) : w.cell? ⟨b, o + i * 25 + 12, none⟩ = some (.slice q.c.e.A q.c.e.n q.c.e.c) := by
  obtain ⟨l', h1, h2, h3⟩ := h.ow
  have h4 : l'[i]? = some q := (h2 i (Nat.le_refl _)).trans hq
  have h5 := cellsOf_at (enc := pcells) pcells_len l' i q h4 12 (by omega)
  obtain ⟨b', o', e, -, hc, -⟩ := h3.look (j := i * 25 + 12) (u := .slice q.c.e.A q.c.e.n q.c.e.c) (by rw [h5]; rfl)
  cases e
  rw [← Nat.add_assoc] at hc
  exact hc
/-- A wish of the piece at hand is written. -/
theorem LSp.put (h : LSp W w8 l A m d g i (i + 1) w) {q : PC} (hq : l[i]? = some q) {ys : List Int} {x o k : Nat} (hA : q.c.e.A = some ⟨x, o, none⟩) (hO : Ow w 3 1 q.c.e.A q.c.e.n q.c.e.c (ys.map iv) (some x)) (hk : k < q.c.e.n) (hx : W.heap.size ≤ x ∧ Typed w8 x 3) (v : Int) :
    LSp W w8 l A m d g i (i + 1) (w.setCell ⟨x, o + k, none⟩ (.int .i64 v)) ∧ Ow (w.setCell ⟨x, o + k, none⟩ (.int .i64 v)) 3 1 q.c.e.A q.c.e.n q.c.e.c ((ys.set k v).map iv) (some x) := by
  have hF : Fr (· = x) w (w.setCell ⟨x, o + k, none⟩ (.int .i64 v)) := (Fr.refl _ _).setAt _
  obtain ⟨l', h1, h2, h3⟩ := h.ow
  refine ⟨⟨h.len, h.nl, ⟨l', h1, h2, h3.fr hF fun b e e' => ?_⟩, fun j p hp hj => ?_, h.ap, h.gl, h.fr.trans (hF.mono fun y _ e => by subst e; exact ⟨hx.1, .inl hx.2⟩)⟩, ?_⟩
  · subst e'
    exact absurd ((h3.typed b e).same (hO.typed b rfl)) (by decide)
  · obtain ⟨gp, k1, k2⟩ := h.it j p hp hj
    refine ⟨gp, k1.fr hF fun b e e' => ?_, k2⟩
    subst e'
    rw [e] at k1
    obtain ⟨o', hA'⟩ := k1.addr_of
    obtain ⟨hi', ei⟩ := List.getElem?_eq_some_iff.1 hq
    obtain ⟨hj', ej⟩ := List.getElem?_eq_some_iff.1 hp
    have := List.pairwise_iff_getElem.1 h.ap i j hi' hj' (by omega) b o b o' (by rw [ei]; exact hA) (by rw [ej]; exact hA')
    omega
  · rw [List.map_set]
    have h4 := (hA ▸ hO).put (j := k) (by omega) (iv v)
    rw [hA]
    exact h4
/-- The piece at hand is written over. -/
theorem LSp.over {b o : Nat} (h : LSp W w8 l (some ⟨b, o, none⟩) m d g i (i + 1) w) (hi : i < m) :
    ∃ w', (Instr.storeAt tPc (.pointer (some ⟨b, o + i * 25, none⟩)) (.agg (pcells ⟨zeroC, 7⟩).toArray)).run Try.prog w = .ok () w' ∧ LSp W w8 l (some ⟨b, o, none⟩) m d g (i + 1) (i + 1) w' := by
  obtain ⟨l', h1, h2, h3⟩ := h.ow
  obtain ⟨w', k1, k2, k3⟩ := h3.store (P := Try.prog) pcells_len pcells_one hi h1 ⟨zeroC, 7⟩ infoPc
  have hgb : g = some b := h3.sblk rfl
  refine ⟨w', k1, h.len, h.nl, ⟨l'.set i ⟨zeroC, 7⟩, by simp [h1], fun j hj => ?_, k2⟩, fun j q hq hj => ?_, h.ap, h.gl, h.fr.trans (k3.mono fun x _ e => by subst e; exact ⟨(h.gl x hgb).1, .inr (h.gl x hgb).2⟩)⟩
  · rw [List.getElem?_set_ne (by omega)]; exact h2 j (by omega)
  · obtain ⟨gq, m1, m2⟩ := h.it j q hq hj
    exact ⟨gq, m1.fr k3 fun y e e' => by subst e'; exact absurd ((m1.typed y e).same (h3.typed y hgb)) (by decide), m2⟩
end
theorem run_storeAt_intS {w : World} {a : Addr} {u : Value} {v : Int} (hc : w.cell? a = some u) (hz : w.frozen? a = false) : (Instr.storeAt 3 (.pointer (some a)) (.int .i64 v)).run Try.prog w = .ok () (w.setCell a (.int .i64 v)) := by
  simp [go_sem, hc, hz]
set_option maxHeartbeats 2000000 in
set_option maxRecDepth 100000 in
attribute [-go_sem] Go.Instr.storeAt in
theorem spoil_any (W w : World) (l : List PC) (A : Option Addr) (m c : Nat) (g : Option Nat) (h : Pcm W w l A m c g) (hm : m ≤ 1048576) :
    Calls Try.prog 29 #[.slice A m c] w fun e w' => e = .returned (.tuple #[]) ∧ Fr (SpS W w) w w' := by
  obtain ⟨j0, hj, hj0, hj1, hj2⟩ := info_parts infoPc3
  have HLS := hide (LSp.start h)
  clear h
  go_enter Try.func29, Try.ntmps29
  go_wp2_with fail
  go_loopw [2] (fun v wr => ∃ i : Nat, v = .int .i64 (i : Int) ∧ i ≤ m ∧ Hid (LSp W w l A m c g i i wr)) (fun v _ => m - (intOf v).toNat)
  case atStart => exact ⟨0, rfl, Nat.zero_le _, HLS.out⟩
  case round =>
    obtain ⟨i, rfl, hi, hS⟩ := hrel
    clear HLS
    by_cases hlt : i < m
    · obtain ⟨q, hq⟩ : ∃ q, l[i]? = some q := ⟨_, List.getElem?_eq_getElem (by have := hS.out.len; omega)⟩
      obtain ⟨gq, hOq, hgq⟩ := hS.out.it i q hq (Nat.le_refl _)
      obtain ⟨b, o, rfl⟩ : ∃ b o, A = some ⟨b, o, none⟩ := by
        obtain ⟨l', h1, -, h3⟩ := hS.out.ow
        obtain ⟨b, o, hB, -⟩ := h3.sl.2 (by omega)
        exact ⟨b, o, hB⟩
      have hS1 : LSp W w l (some ⟨b, o, none⟩) m c g i (i + 1) wr := ⟨hS.out.len, hS.out.nl, hS.out.ow, fun j p hp hj => hS.out.it j p hp (by omega), hS.out.ap, hS.out.gl, hS.out.fr⟩
      have HS1 := hide hS1
      have HQ := hide hOq
      have Hgq := hide hgq
      have Hq := hide hq
      have hqn : q.c.e.n ≤ 1048576 := hS.out.nl q (List.mem_of_getElem? hq)
      obtain ⟨wo, rfl⟩ : ∃ z, z = wr := ⟨_, rfl⟩
      have j0 : (0 : Int) ≤ (i : Int) := by omega
      have j1 : (i : Int) < (m : Int) := by omega
      clear hS hOq hgq hS1 hq
      go_wp2_with fail
      go_loopw [3] (fun v wr => ∃ (k : Nat) (ys : List Int), v = .int .i64 (k : Int) ∧ k ≤ q.c.e.n ∧ Hid (LSp W w l (some ⟨b, o, none⟩) m c g i (i + 1) wr) ∧ Hid (Ow wr 3 1 q.c.e.A q.c.e.n q.c.e.c (ys.map iv) gq)) (fun v _ => q.c.e.n - (intOf v).toNat)
      case atStart => exact ⟨0, q.c.e.ws, rfl, Nat.zero_le _, HS1.out, HQ.out⟩
      case round =>
        obtain ⟨k, ys, rfl, hk, hS, hO⟩ := hrel
        clear HS1 HQ
        have hcell := hS.out.items Hq.out
        by_cases hkl : k < q.c.e.n
        · obtain ⟨u, hu⟩ : ∃ u, (ys.map iv)[k]? = some u := ⟨_, List.getElem?_eq_getElem (by have := hO.out.1; simp at this; rw [List.length_map]; omega)⟩
          obtain ⟨x, p, hqA, hgx, hcx, hzx⟩ := hO.out.look hu
          have hput := hS.out.put Hq.out hqA (hgx ▸ hO.out) hkl (Hgq.out x hgx) (-5)
          have HP := hide hput
          have Hgx := hide hgx
          rw [hqA] at hcell
          have hsx : (Instr.storeAt 3 (.pointer (some ⟨x, p + k, none⟩)) (.int .i64 (-5))).run Try.prog wr = .ok () (wr.setCell ⟨x, p + k, none⟩ (.int .i64 (-5))) := run_storeAt_intS hcx hzx
          have k1 : (0 : Int) ≤ (k : Int) := by omega
          have k2 : (k : Int) < (q.c.e.n : Int) := by omega
          clear hS hO hu hput hgx hqA
          go_wp2_with fail
          exact ⟨⟨k + 1, ys.set k (-5), by go_num, by omega, HP.out.1, by show Ow _ _ _ _ _ _ _ gq; rw [Hgx.out]; exact HP.out.2⟩, by simp [intOf]; omega⟩
        · obtain ⟨w9, hst, hS9⟩ := hS.out.over hlt
          have HS9 := hide hS9
          have hst' : (Instr.storeAt tPc (.pointer (some ⟨b, o + i * 25, none⟩)) (.agg #[.int .i64 0, .int .i64 0, .string ⟨#[]⟩, .int .i64 0, .int .u64 0, .int .i64 0, .int .i64 0, .int .i64 0, .int .i64 0, .int .i64 0, .int .u64 0, .int .u64 0, .slice none 0 0, .int .i64 0, .int .i64 0, .int .i64 0, .int .i64 0, .int .i64 0, .int .i64 0, .int .u64 0, .int .u64 0, .int .u64 0, .int .i64 0, .slice none 0 0, .int .i64 7])).run Try.prog wr = .ok () w9 := hst
          clear hS hO hst hS9
          go_wp2_with fail
          exact ⟨⟨i + 1, by go_num, by omega, HS9⟩, by simp [intOf]; omega⟩
    · obtain rfl : i = m := by omega
      obtain ⟨l', -, -, hO⟩ := hS.out.ow
      have hf := hS.out.fr
      have Hgl := hide hS.out.gl
      have HO := hide hO
      have HF := hide hf
      clear hS hO hf
      go_wp2_with fail
      go_loopw [0, 4] (fun v v4 wr => ∃ (k : Nat) (xs : List Value) (A : Option Addr) (c : Nat) (g' : Option Nat), k ≤ 20 ∧ v = .slice A (i + k) c ∧ v4 = .int .i64 k ∧ Hid (Ow wr tPc 25 A (i + k) c xs g') ∧ Hid (g' = g ∨ ∃ b, g' = some b ∧ w.heap.size ≤ b) ∧ Hid (Fr (SpS W w) w wr)) (fun _ v _ => 20 - (intOf v).toNat)
      case atStart => exact ⟨0, _, A, c, g, by omega, rfl, rfl, HO.out, .inl rfl, HF.out⟩
      case round =>
        clear HO HF
        obtain ⟨k, zs, A2, c2, g2, hk, rfl, rfl, hO, hg, hf⟩ := hrel
        have hO2 := hO.out
        by_cases hlt : k < 20
        · go_wp2_with (at_builtin; go_loud (refine wpList_append_ow _ rfl _ _ 67 rfl tPc j0 (.agg #[.int .i64 0, .int .i64 0, .string ⟨#[]⟩, .int .i64 0, .int .u64 0, .int .i64 0, .int .i64 0, .int .i64 0, .int .i64 0, .int .i64 0, .int .u64 0, .int .u64 0, .slice none 0 0, .int .i64 0, .int .i64 0, .int .i64 0, .int .i64 0, .int .i64 0, .int .i64 0, .int .u64 0, .int .u64 0, .int .u64 0, .int .i64 0, .slice none 0 0, .int .i64 0]) 25 240 Try.underlying67 hj hj0 hj1 hj2 rfl (by decide) _ _ _ _ _ rfl (hO2.fr (S := fun _ => False) ((Fr.refl _ _).alloc _) (fun _ _ => id)) _ _ _ (pcells ⟨zeroC, 8⟩) rfl (sl_pc _ ⟨zeroC, 8⟩ _) (pcells_one ⟨zeroC, 8⟩) (by unfold maxLen; omega) (by omega) ?_))
          intro A3 c3 w3 g3 hO3 hf3 hg3
          have HO3 := hide hO3
          have H3 := hide (And.intro hf3 hg3)
          clear hO2 hO3 hf3 hg3
          go_wp2_with fail
          obtain ⟨hf3, hg3⟩ := H3.out
          refine ⟨⟨k + 1, _, A3, c3, g3, by omega, rfl, by go_num, by rw [← Nat.add_assoc]; exact HO3.out, ?_, ?_⟩, by simp [intOf]; omega⟩
          · have := hf.out.size
            rcases hg3 with rfl | ⟨b, rfl, hb⟩
            · exact hg.out
            · exact .inr ⟨b, rfl, by first | omega | (simp at hb; omega)⟩
          · refine (hf.out.alloc _).comp hf3 fun x hx e => ?_
            rcases hg.out with rfl | ⟨b, rfl, hb⟩
            · exact ⟨(Hgl.out x e.symm).1, .inr (Hgl.out x e.symm).2⟩
            · cases e; omega
        · clear hO2
          go_wp2_with fail
          go_end0
          exact ⟨rfl, hf.out⟩
end Go.Proofs.Ytlcjhbemgagchaa
end
