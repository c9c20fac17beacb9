/-
  does: the kinds that call one ring: Pop, At, Put, Drop, none.
-/
import Derived.Test.YteleakbbppbnnaaRrb
import Derived.Test.YteleakbbppbnnaaReg
namespace Go.Proofs.Yteleakbbppbnnaa
open Go.RowKit
set_option linter.unusedVariables false
attribute [local go_sem ↓] Go.wp_at_zero Go.wp_at_succ
abbrev tOp : TypeId := 36
theorem round_any (w : World) (k n : Int) (n1 : 1 ≤ n) (n2 : n ≤ 4611686018427387904) :
    Calls Try.prog 26 #[.int .i64 k, .int .i64 n] w fun e w' => e = .returned (.int .i64 (k % n)) ∧ w = w' := by
  have h0 := Int.emod_nonneg k (show n ≠ 0 by omega)
  have h1 := Int.emod_lt_of_pos k (show 0 < n by omega)
  have tb : k.tmod n = k % n ∨ (k.tmod n = k % n - n) := by
    rw [Int.tmod_eq_emod]; split
    · exact .inl (by omega)
    · exact .inr (by omega)
  by_cases hk : 0 ≤ k.tmod n
  · have e1 : k.tmod n = k % n := by omega
    clear tb
    go_enter Try.func26, Try.ntmps26
    go_wp2
    go_ret
    exact ⟨rfl, rfl⟩
  · have e2 : -n ≤ k.tmod n := by omega
    have e1 : Hid (k % n = k.tmod n + n) := show k % n = k.tmod n + n by omega
    clear tb
    go_enter Try.func26, Try.ntmps26
    go_wp2
    go_ret
    exact ⟨by rw [e1.out]; rfl, rfl⟩
theorem round_nat (w : World) (wh : Int) (m k : Nat) (h1 : 1 ≤ m) (h2 : m ≤ 1000) (hk : wh % (m : Int) = (k : Int)) :
    Calls Try.prog 26 #[.int .i64 wh, .int .i64 (m : Int)] w fun e w' => e = .returned (.int .i64 (k : Int)) ∧ w = w' := by
  rw [← hk]; exact round_any w wh m (by omega) (by omega)
/-- Several rings beside the document's, their rows of pointers; each as the document's. -/
def WW (B0 wb : Nat) (L : List (Option RE)) (w : World) : Prop := ∃ A1 c1 g1 A2 c2 g2, PW B0 wb L A1 c1 g1 A2 c2 g2 w ∧ RW B0 w L ∧ Even L
def DoesIs (B0 wb : Nat) (L L' : List (Option RE)) (w w' : World) : Prop :=
  WW B0 wb L' w' ∧ L'.length = L.length ∧ (∀ k : Nat, L[k]? = some none → L'[k]? = some none) ∧ Fr (fun k => B0 ≤ k) w w'
def DoesOut (B0 wb : Nat) (L : List (Option RE)) (w w' : World) : Prop := ∃ L', DoesIs B0 wb L L' w w'
section
variable {B0 wb : Nat} {L : List (Option RE)} {A1 : Option Addr} {c1 : Nat} {g1 : Option Nat} {A2 : Option Addr} {c2 : Nat} {g2 : Option Nat} {w wA w2 w3 w4 : World} {k : Nat} {e : Option RE}
theorem DoesOut.same (hW : PW B0 wb L A1 c1 g1 A2 c2 g2 w) (hI : RW B0 w L) (hE : Even L) (hf : Fr (fun _ => False) w w2) : DoesOut B0 wb L w w2 :=
  ⟨L, ⟨_, _, _, _, _, _, hW.quiet hf, hI.quiet hf, hE⟩, rfl, fun _ => id, hf.weak _⟩
theorem Even.few (hE : Even L) (hI : RW B0 w L) (hk : L[k]? = some e) : few e := by
  rintro a rfl
  have h1 := (hI.look hk).a.bounds
  have h2 := hE a (List.mem_of_getElem? hk)
  rw [← h2]
  omega
theorem Even.at_ (hE : Even L) (hk : L[k]? = some e) : e.map RE.xs = e.map RE.ys := by
  cases e with
  | none => rfl
  | some a => show some a.xs = some a.ys; rw [hE a (List.mem_of_getElem? hk)]
/-- Behind both calls. -/
theorem DoesIs.two {f : Nat → List Int → List Int} (hW : PW B0 wb L A1 c1 g1 A2 c2 g2 w) (hI : RW B0 w L) (hE : Even L) (hk : L[k]? = some e) (hA : Fr (fun _ => False) w wA)
    (hB : B0 ≤ w.heap.size) {e1 e2 : Option RE} (t1 : Turns f keep_ e e1) (hf2 : Fr (efoot e) wA w2) (hR2 : RW B0 w2 (L.set k e1)) (hq : Fr (fun _ => False) w2 w3) (t2 : Turns keep_ f e1 e2) (hR4 : RW B0 w4 ((L.set k e1).set k e2)) (hf4 : Fr (efoot e1) w3 w4) :
    DoesIs B0 wb L (L.set k e2) w w4 := by
  have hl : k < L.length := (List.getElem?_eq_some_iff.1 hk).1
  rw [List.set_set] at hR4
  have he1 : (L.set k e1)[k]? = some e1 := List.getElem?_set_self hl
  have s1 : Small (efoot e) wA := (hI.quiet hA).small (List.mem_of_getElem? hk)
  have s2 : Small (efoot e1) w3 := (hR2.quiet hq).small (List.mem_of_getElem? he1)
  have hP := (((hW.quiet hA).fr hf2 s1).quiet hq).fr hf4 s2
  refine ⟨⟨_, _, _, _, _, _, hP.alike (by simp) (map_set_same hk (t2.ptrs.1.trans t1.ptrs.1)) (map_set_same hk (t2.ptrs.2.trans t1.ptrs.2)), hR4, ?_⟩, by simp, ?_, ?_⟩
  · intro a ha
    obtain ⟨i, hi⟩ := List.mem_iff_getElem?.1 ha
    by_cases hik : k = i
    · subst hik
      rw [List.getElem?_set_self hl] at hi
      cases hi
      cases e1 with
      | none => simp only [Turns] at t2
      | some b =>
        cases e with
        | none => simp only [Turns] at t1
        | some c =>
          obtain ⟨-, -, r1, x1, y1⟩ := t1
          obtain ⟨-, -, r2, x2, y2⟩ := t2
          rw [x2, y2]
          show b.xs = f b.room b.ys
          rw [x1, y1, r1, show keep_ c.room c.ys = c.ys from rfl, hE c (List.mem_of_getElem? hk)]
    · rw [List.getElem?_set_ne hik] at hi
      exact hE a (List.mem_of_getElem? hi)
  · intro i hi
    by_cases hik : k = i
    · subst hik
      rw [List.getElem?_set_self hl]
      rw [hk] at hi
      cases hi
      cases e1 with
      | none =>
        cases e2 with
        | none => rfl
        | some c => simp only [Turns] at t2
      | some b => simp only [Turns] at t1
    · rw [List.getElem?_set_ne hik]; exact hi
  · refine (((hA.weak _).comp hf2 ?_).trans (hq.weak _)).comp hf4 ?_
    · rintro i - ⟨a, rfl, hb⟩
      exact hI.lo a (List.mem_of_getElem? hk) i hb
    · rintro i - ⟨a, rfl, hb⟩
      exact hR2.lo a (List.mem_of_getElem? he1) i hb
theorem DoesOut.two {f : Nat → List Int → List Int} (hW : PW B0 wb L A1 c1 g1 A2 c2 g2 w) (hI : RW B0 w L) (hE : Even L) (hk : L[k]? = some e) (hA : Fr (fun _ => False) w wA)
    (hB : B0 ≤ w.heap.size) {e1 e2 : Option RE} (t1 : Turns f keep_ e e1) (hf2 : Fr (efoot e) wA w2) (hR2 : RW B0 w2 (L.set k e1)) (hq : Fr (fun _ => False) w2 w3) (t2 : Turns keep_ f e1 e2) (hR4 : RW B0 w4 ((L.set k e1).set k e2)) (hf4 : Fr (efoot e1) w3 w4) :
    DoesOut B0 wb L w w4 := ⟨_, DoesIs.two hW hI hE hk hA hB t1 hf2 hR2 hq t2 hR4 hf4⟩
/-- A block of numbers of one's own turned besides. -/
theorem DoesIs.far {L' : List (Option RE)} {w5 : World} {g : Nat} {cs : Array Value} (h : DoesIs B0 wb L L' w w4) (hb : Bl w4 g tInt cs) (hg : w.heap.size ≤ g) (hB : B0 ≤ w.heap.size) (hn : ∀ a, some a ∈ L' → ¬ a.foot g) (hf : Fr (fun x => x = g) w4 w5) : DoesIs B0 wb L L' w w5 := by
  obtain ⟨⟨A1, c1, g1, A2, c2, g2, hP, hR, hE⟩, h1, h2, h3⟩ := h
  refine ⟨⟨A1, c1, g1, A2, c2, g2, hP.fr hf ?_, hR.fr hf ?_, hE⟩, h1, h2, h3.trans (hf.mono fun x _ e => by subst e; omega)⟩
  · rintro x rfl _
    exact ⟨_, _, hb, .inr (.inl rfl)⟩
  · rintro a ha b hfo rfl
    exact hn a ha hfo
theorem set_at (hk : L[k]? = some e) (e1 : Option RE) : (L.set k e1)[k]? = some e1 := List.getElem?_set_self (List.getElem?_eq_some_iff.1 hk).1
theorem Turns.ys_ {f : Nat → List Int → List Int} {e e1 : Option RE} (h : Turns f keep_ e e1) : e1.map RE.ys = e.map RE.ys := by
  cases e <;> cases e1 <;> simp only [Turns] at h
  · rfl
  · exact congrArg some h.2.2.2.2
theorem Turns.few {f : Nat → List Int → List Int} {e e1 : Option RE} (h : Turns f keep_ e e1) (hf : few e) : few e1 := by
  rintro a rfl
  cases e with
  | none => simp only [Turns] at h
  | some b => have := hf b rfl; rw [h.2.2.2.2]; exact this
theorem Turns.pair {f : Nat → List Int → List Int} {e e1 : Option RE} (h : Turns f keep_ e e1) : pairOf RE.ys e1 = pairOf RE.ys e := by
  cases e <;> cases e1 <;> simp only [Turns] at h
  · rfl
  · obtain ⟨-, -, h1, -, h2⟩ := h
    simp only [pairOf, Option.map, h1, h2]; rfl
theorem Even.pair (hE : Even L) (hk : L[k]? = some e) : pairOf RE.xs e = pairOf RE.ys e := by
  cases e with
  | none => rfl
  | some a => show some (a.room, a.xs) = some (a.room, a.ys); rw [hE a (List.mem_of_getElem? hk)]
theorem popV_is (o : Option (List Int)) : ∃ v b, popV o = .tuple #[.int .i64 v, .bool b] := by
  cases o <;> exact ⟨_, _, rfl⟩
theorem atV_is (i : Int) (o : Option (List Int)) : ∃ v b, atV i o = .tuple #[.int .i64 v, .bool b] := by
  cases o with
  | none => exact ⟨_, _, rfl⟩
  | some xs =>
    by_cases h : 0 ≤ i ∧ i < (xs.length : Int)
    · exact ⟨_, _, if_pos h⟩
    · exact ⟨_, _, if_neg h⟩
theorem feet_old (hI : RW B0 w L) (hk : L[k]? = some e) {b : Nat} (hb : w.heap.size ≤ b) : ¬ efoot e b := by
  rintro ⟨a, rfl, h⟩
  have := hI.lt (List.mem_of_getElem? hk) h
  omega
/-- A block of another type is no ring's. -/
theorem feet_ty (hI : RW B0 w L) (hk : L[k]? = some e) {b : Nat} {t : TypeId} {cs : Array Value} (hb : Bl w b t cs) (h1 : ¬ (t = tRing ∨ t = tInt ∨ t = tRef)) : ¬ efoot e b := fun hf => by
  obtain ⟨t', cs', hc, ht⟩ := hI.small (List.mem_of_getElem? hk) b hf hb.lt
  have := (hb.same hc).2
  subst this
  exact h1 ht
/-- Readable cells below block B. -/
def SlB (w : World) (B : Nat) (A : Option Addr) (n : Nat) (xs : List Value) : Prop :=
  xs.length = n ∧ (0 < n → ∃ b o, A = some ⟨b, o, none⟩ ∧ b < B ∧ ∀ j u, xs[j]? = some u → w.cell? ⟨b, o + j, none⟩ = some u)
theorem SlB.sl {B : Nat} {A : Option Addr} {n : Nat} {xs : List Value} (h : SlB w B A n xs) : Sl w 1 A n xs :=
  ⟨by rw [h.1]; omega, fun hn => by obtain ⟨b, o, h1, -, h2⟩ := h.2 hn; exact ⟨b, o, h1, h2⟩⟩
theorem SlB.fr {B : Nat} {A : Option Addr} {n : Nat} {xs : List Value} {S : Nat → Prop} (h : SlB w B A n xs) (hf : Fr S w w2) (hB : B ≤ w.heap.size) (hS : ∀ x, S x → B ≤ x) : SlB w2 B A n xs :=
  ⟨h.1, fun hn => by
    obtain ⟨b, o, h1, h0, h2⟩ := h.2 hn
    exact ⟨b, o, h1, h0, fun j u hu => (hf.cell (p := ⟨b, o + j, none⟩) (Nat.lt_of_lt_of_le h0 hB) (fun hs => by have := hS b hs; omega)).trans (h2 j u hu)⟩⟩
theorem feet_lo (hI : RW B0 w L) (hk : L[k]? = some e) {b : Nat} (hb : efoot e b) : B0 ≤ b := by
  obtain ⟨a, rfl, h⟩ := hb
  exact hI.lo a (List.mem_of_getElem? hk) b h
set_option maxHeartbeats 4000000 in
set_option maxRecDepth 4000 in
theorem does_none (hW : PW B0 wb L A1 c1 g1 A2 c2 g2 w) (hI : RW B0 w L) (hE : Even L) (hB : B0 ≤ w.heap.size) (m : Nat) (Hm : Hid (L.length = m)) (hL1 : 1 ≤ m) (hL2 : m ≤ 20) (wh tt n x : Int) (k : Nat) (Hk : Hid (wh % (m : Int) = (k : Int))) (hkm : k < m) (e : Option RE) (he : L[k]? = some e) (kt : Nat) (Hkt : Hid (tt % (m : Int) = (kt : Int))) (hktm : kt < m) (AL : Option Addr) (nl cl : Nat) (kd : Int) (hkd : kd < 1 ∨ 8 < kd) :
    Calls Try.prog 18 #[.pointer (some ⟨wb, 0, none⟩), .agg #[.int .i64 kd, .int .i64 wh, .int .i64 tt, .int .i64 n, .int .i64 x, .slice AL nl cl]] w fun r w' => r = .returned (.bool true) ∧ DoesOut B0 wb L w w' := by
  (obtain ⟨b1, o1, rfl, hg1, hc1, -⟩ := hW.o1.look (j := k) (u := ptrP e) (by rw [List.getElem?_map, he]; rfl)); (obtain ⟨b2, o2, rfl, hg2, hc2, -⟩ := hW.o2.look (j := k) (u := ptrQ e) (by rw [List.getElem?_map, he]; rfl)); (have hl1 := hW.o1.lt b1 hg1); (have hl2 := hW.o2.lt b2 hg2); (have hlw := hW.bl.lt); (have w0 : w.cell? ⟨wb, 0, none⟩ = some (.slice (some ⟨b1, o1, none⟩) m c1) := by rw [← Hm.out]; exact hW.bl.cell' rfl); (have w1 : w.cell? ⟨wb, 1, none⟩ = some (.slice (some ⟨b2, o2, none⟩) m c2) := by rw [← Hm.out]; exact hW.bl.cell' rfl); (have He := hide he); (have HE := hide hE); (have HW := hide hW); (have HI := hide hI); clear he hE hW hI hg1 hg2
  have d1 : (kd == 1) = false := beq_eq_false_iff_ne.2 (by omega)
  have d2 : (kd == 2) = false := beq_eq_false_iff_ne.2 (by omega)
  have d3 : (kd == 3) = false := beq_eq_false_iff_ne.2 (by omega)
  have d4 : (kd == 4) = false := beq_eq_false_iff_ne.2 (by omega)
  have d5 : (kd == 5) = false := beq_eq_false_iff_ne.2 (by omega)
  have d6 : (kd == 6) = false := beq_eq_false_iff_ne.2 (by omega)
  have d7 : (kd == 7) = false := beq_eq_false_iff_ne.2 (by omega)
  have d8 : (kd == 8) = false := beq_eq_false_iff_ne.2 (by omega)
  clear hkd
  go_enter Try.func18, Try.ntmps18
  (go_wp2_with fail); (go_quiet ((go_at_call 26; exact quiet_left (round_nat _ wh m k (by omega) (by omega) Hk.out)))); (have hobq := (Bl.new w tOp #[.int .i64 kd, .int .i64 wh, .int .i64 tt, .int .i64 n, .int .i64 x, .slice AL nl cl]).drewN nq); (have hfq := ((Fr.refl (fun _ => False) w).alloc (.cells #[.int .i64 kd, .int .i64 wh, .int .i64 tt, .int .i64 n, .int .i64 x, .slice AL nl cl] tOp)).drewN nq); (generalize hwq : (w.alloc (.cells #[.int .i64 kd, .int .i64 wh, .int .i64 tt, .int .i64 n, .int .i64 x, .slice AL nl cl] tOp)).drewN nq = wq at hobq hfq ⊢); clear hwq; (have w0q := (hfq.cell hlw id).trans w0); (have w1q := (hfq.cell hlw id).trans w1); (have hc1q := (hfq.cell hl1 id).trans hc1); (have hc2q := (hfq.cell hl2 id).trans hc2); (have p0q : wq.cell? ⟨w.heap.size, 0, none⟩ = some (.int .i64 kd) := hobq.cell' rfl); (have p2q : wq.cell? ⟨w.heap.size, 2, none⟩ = some (.int .i64 tt) := hobq.cell' rfl); (have p3q : wq.cell? ⟨w.heap.size, 3, none⟩ = some (.int .i64 n) := hobq.cell' rfl); (have p4q : wq.cell? ⟨w.heap.size, 4, none⟩ = some (.int .i64 x) := hobq.cell' rfl); (have p5q : wq.cell? ⟨w.heap.size, 5, none⟩ = some (.slice AL nl cl) := hobq.cell' rfl); (go_wp2_with fail); (go_quiet ((go_at_call 26; exact quiet_left (round_nat _ tt m kt (by omega) (by omega) Hkt.out)))); (have hob := hobq.drewN nq); (have hfA := hfq.drewN nq); (generalize hwA : wq.drewN nq = wA at hob hfA ⊢); clear hwA hobq hfq w0q w1q hc1q hc2q p0q p2q p3q p4q p5q; (have w0A := (hfA.cell hlw id).trans w0); (have w1A := (hfA.cell hlw id).trans w1); (have hc1A := (hfA.cell hl1 id).trans hc1); (have hc2A := (hfA.cell hl2 id).trans hc2); (have p0A : wA.cell? ⟨w.heap.size, 0, none⟩ = some (.int .i64 kd) := hob.cell' rfl); (have p2A : wA.cell? ⟨w.heap.size, 2, none⟩ = some (.int .i64 tt) := hob.cell' rfl); (have p3A : wA.cell? ⟨w.heap.size, 3, none⟩ = some (.int .i64 n) := hob.cell' rfl); (have p4A : wA.cell? ⟨w.heap.size, 4, none⟩ = some (.int .i64 x) := hob.cell' rfl); (have p5A : wA.cell? ⟨w.heap.size, 5, none⟩ = some (.slice AL nl cl) := hob.cell' rfl); (go_wp2_with fail)
  go_ret
  exact ⟨rfl, DoesOut.same HW.out HI.out HE.out hfA⟩
end
end Go.Proofs.Yteleakbbppbnnaa
