/-
  TlvWrites: the walk.
-/
import Derived.Test.YtbglloafbmamoaaTlvW5
namespace Go.Proofs.Ytbglloafbmamoaa
open Go.RowKit
set_option linter.unusedVariables false
attribute [local go_sem ↓] Go.wp_at_zero Go.wp_at_succ

/-- One step of a script. -/
structure WStep where
  who : Int
  kind : Int
  tag : Int
  inn : Int
  N : Nat
  data : List Nat
  items : List (List Nat)
/-- What a step is, in memory. -/
def StepAt (w : World) (B : Nat) (b o : Nat) (s : WStep) : Prop :=
  ∃ V m d X n2 d2, (∀ j u, (boxed s.who s.kind s.tag s.inn s.N V m d X n2 d2)[j]? = some u → w.cell? ⟨b, o + j, none⟩ = some u) ∧ s.N < U64 ∧ m ≤ 1048576 ∧ (∀ x ∈ s.data, x < 256) ∧ Sl w 1 V m (s.data.map bn) ∧ (∀ b o, V = some ⟨b, o, none⟩ → 0 < m → b < B) ∧
    n2 ≤ 1048576 ∧ (∀ x ∈ s.items, x.length ≤ 1048576) ∧ (listAll s.items).length ≤ 100000000000 ∧ LAt w B X n2 s.items
def ScriptAt (w : World) (B : Nat) (A : Option Addr) (n : Nat) (sc : List WStep) : Prop :=
  n = sc.length ∧ (0 < n → ∃ b o, A = some ⟨b, o, none⟩ ∧ b < B ∧ ∀ (i : Nat) (hi : i < sc.length), StepAt w B b (o + i * 7) sc[i])
theorem StepAt.fr {w w' : World} {B b o : Nat} {s : WStep} (h : StepAt w B b o s) (hb : b < B) (hB : B ≤ w.heap.size) (hf : Fr (fun _ => False) w w') : StepAt w' B b o s := by
  obtain ⟨V, m, d, X, n2, d2, h1, h2, h3, h4, h5, h6, h7, h8, h9, h10⟩ := h
  exact ⟨V, m, d, X, n2, d2, fun j u hu => (hf.cell (p := ⟨b, o + j, none⟩) (by show b < w.heap.size; omega) id).trans (h1 j u hu), h2, h3, h4, h5.below hf (fun _ _ => id), h6, h7, h8, h9, h10.quiet hf⟩

def WS.new : WS := ⟨[], 0, 0⟩
theorem WS.new_ok : WS.new.ok := ⟨Nat.zero_le _, Nat.zero_le _⟩
def wcells : Array Value := #[.slice none 0 0, .int .i64 0, .int .i64 0]
def wo (p : Nat) : Option WO := some ⟨p, none, 0, 0, none⟩
def rowOf (a b c : Nat) : Array Value := #[.pointer (some ⟨a, 0, none⟩), .pointer (some ⟨b, 0, none⟩), .pointer (some ⟨c, 0, none⟩), .pointer none]
def wnew (w : World) : World := w.alloc (.cells wcells 51)
def rnew (w : World) : World := w.alloc (.cells wcells 55)
def writers8 (w : World) : World :=
  (rnew (rnew (rnew ((wnew (wnew (wnew w))).alloc (.cells (rowOf w.heap.size (w.heap.size + 1) (w.heap.size + 1 + 1)) 49))))).alloc (.cells (rowOf (w.heap.size + 1 + 1 + 1 + 1) (w.heap.size + 1 + 1 + 1 + 1 + 1) (w.heap.size + 1 + 1 + 1 + 1 + 1 + 1)) 53)
theorem wo_at {w : World} {ty : TypeId} {p : Nat} (h : Bl w p ty wcells) : TAt w ty (wo p) WS.new := ⟨h, Ow.nil_ _ _ _, WS.new_ok⟩
theorem wo_foot {p b : Nat} (h : foot (wo p) b) : b = p := by
  obtain ⟨r, e, h⟩ := h
  cases e
  rcases h with h | h
  · exact h
  · cases h
theorem no_foot {b : Nat} (h : foot none b) : False := by obtain ⟨r, e, _⟩ := h; cases e
def obs8 (B : Nat) : List Ob :=
  [⟨51, wo B, WS.new⟩, ⟨51, wo (B + 1), WS.new⟩, ⟨51, wo (B + 1 + 1), WS.new⟩, ⟨51, none, WS.none_⟩,
   ⟨55, wo (B + 1 + 1 + 1 + 1), WS.new⟩, ⟨55, wo (B + 1 + 1 + 1 + 1 + 1), WS.new⟩, ⟨55, wo (B + 1 + 1 + 1 + 1 + 1 + 1), WS.new⟩, ⟨55, none, WS.none_⟩]
theorem WI.init (w : World) : WI w (writers8 w) (w.heap.size + 1 + 1 + 1) (w.heap.size + 1 + 1 + 1 + 1 + 1 + 1 + 1) (rowOf w.heap.size (w.heap.size + 1) (w.heap.size + 1 + 1)) (rowOf (w.heap.size + 1 + 1 + 1 + 1) (w.heap.size + 1 + 1 + 1 + 1 + 1) (w.heap.size + 1 + 1 + 1 + 1 + 1 + 1)) (obs8 w.heap.size) := by
  have b0 : Bl (writers8 w) w.heap.size 51 wcells := by unfold writers8 rnew wnew; exact Bl.alloc (Bl.alloc (Bl.alloc (Bl.alloc (Bl.alloc (Bl.alloc (Bl.alloc (Bl.newAt rfl) _) _) _) _) _) _) _
  have b1 : Bl (writers8 w) (w.heap.size + 1) 51 wcells := by unfold writers8 rnew wnew; exact Bl.alloc (Bl.alloc (Bl.alloc (Bl.alloc (Bl.alloc (Bl.alloc (Bl.newAt (by simp)) _) _) _) _) _) _
  have b2 : Bl (writers8 w) (w.heap.size + 1 + 1) 51 wcells := by unfold writers8 rnew wnew; exact Bl.alloc (Bl.alloc (Bl.alloc (Bl.alloc (Bl.alloc (Bl.newAt (by simp)) _) _) _) _) _
  have b3 : Bl (writers8 w) (w.heap.size + 1 + 1 + 1) 49 (rowOf w.heap.size (w.heap.size + 1) (w.heap.size + 1 + 1)) := by unfold writers8 rnew wnew; exact Bl.alloc (Bl.alloc (Bl.alloc (Bl.alloc (Bl.newAt (by simp)) _) _) _) _
  have b4 : Bl (writers8 w) (w.heap.size + 1 + 1 + 1 + 1) 55 wcells := by unfold writers8 rnew wnew; exact Bl.alloc (Bl.alloc (Bl.alloc (Bl.newAt (by simp)) _) _) _
  have b5 : Bl (writers8 w) (w.heap.size + 1 + 1 + 1 + 1 + 1) 55 wcells := by unfold writers8 rnew wnew; exact Bl.alloc (Bl.alloc (Bl.newAt (by simp)) _) _
  have b6 : Bl (writers8 w) (w.heap.size + 1 + 1 + 1 + 1 + 1 + 1) 55 wcells := by unfold writers8 rnew wnew; exact Bl.alloc (Bl.newAt (by simp)) _
  have b7 : Bl (writers8 w) (w.heap.size + 1 + 1 + 1 + 1 + 1 + 1 + 1) 53 (rowOf (w.heap.size + 1 + 1 + 1 + 1) (w.heap.size + 1 + 1 + 1 + 1 + 1) (w.heap.size + 1 + 1 + 1 + 1 + 1 + 1)) := by unfold writers8 rnew wnew; exact Bl.newAt (by simp)
  refine ⟨⟨?_, ?_, ?_⟩, ?_, b3, b7, ?_, ?_⟩
  · intro x hx
    simp only [obs8, List.mem_cons, List.not_mem_nil, or_false] at hx
    rcases hx with rfl | rfl | rfl | rfl | rfl | rfl | rfl | rfl
    · exact wo_at b0
    · exact wo_at b1
    · exact wo_at b2
    · exact rfl
    · exact wo_at b4
    · exact wo_at b5
    · exact wo_at b6
    · exact rfl
  · intro x hx b hb
    simp only [obs8, List.mem_cons, List.not_mem_nil, or_false] at hx
    rcases hx with rfl | rfl | rfl | rfl | rfl | rfl | rfl | rfl <;> first | exact (no_foot hb).elim | (have := wo_foot hb; omega)
  · simp only [obs8, List.pairwise_cons, List.mem_cons, List.not_mem_nil, or_false, forall_eq_or_imp, forall_eq, false_implies, implies_true, List.Pairwise.nil, and_true]
    refine ⟨⟨?_, ?_, ?_, ?_, ?_, ?_, ?_⟩, ⟨?_, ?_, ?_, ?_, ?_, ?_⟩, ⟨?_, ?_, ?_, ?_, ?_⟩, ⟨?_, ?_, ?_, ?_⟩, ⟨?_, ?_, ?_⟩, ⟨?_, ?_⟩, ?_⟩ <;> intro b h1 h2 <;> first | exact no_foot h1 | exact no_foot h2 | (have := wo_foot h1; have := wo_foot h2; omega)
  · intro x hx
    simp only [obs8, List.mem_cons, List.not_mem_nil, or_false] at hx
    rcases hx with rfl | rfl | rfl | rfl | rfl | rfl | rfl | rfl <;> first | exact .inl rfl | exact .inr rfl
  · intro i hi
    have : i = 0 ∨ i = 1 ∨ i = 2 ∨ i = 3 := by omega
    rcases this with rfl | rfl | rfl | rfl
    · exact ⟨_, _, _, rfl, rfl, rfl, rfl⟩
    · exact ⟨_, _, _, rfl, rfl, rfl, rfl⟩
    · exact ⟨_, _, _, rfl, rfl, rfl, rfl⟩
    · exact ⟨_, _, _, rfl, rfl, rfl, rfl⟩
  · unfold writers8 rnew wnew
    exact (((((((((Fr.refl _ _).alloc _).alloc _).alloc _).alloc _).alloc _).alloc _).alloc _).alloc _)

set_option maxHeartbeats 8000000 in
set_option maxRecDepth 100000 in
theorem writes_walk (w : World) (sc : List WStep) (A : Option Addr) (n c : Nat) (hn : n ≤ 1048576) (hA : ScriptAt w w.heap.size A n sc) :
    Calls Try.prog 5 #[.slice A n c] w fun e w' => e = .returned (.bool true) ∧ Below w.heap.size w w' := by
  have Hl := hide hA.1
  have HA := hide hA
  clear hA
  go_enter Try.func5, Try.ntmps5
  go_wp2_with fail
  go_loopw [5] (fun i wr => ∃ (k : Nat) (l : List Ob), k ≤ n ∧ i = .int .i64 k ∧ WI w wr (w.heap.size + 1 + 1 + 1) (w.heap.size + 1 + 1 + 1 + 1 + 1 + 1 + 1) (rowOf w.heap.size (w.heap.size + 1) (w.heap.size + 1 + 1)) (rowOf (w.heap.size + 1 + 1 + 1 + 1) (w.heap.size + 1 + 1 + 1 + 1 + 1) (w.heap.size + 1 + 1 + 1 + 1 + 1 + 1)) l) (fun i _ => n - (intOf i).toNat)
  case atStart => exact ⟨0, _, by omega, rfl, WI.init w⟩
  case round =>
    obtain ⟨k, l, hk, rfl, hI⟩ := hrel
    by_cases hlt : k < n
    · have hkl : k < sc.length := by rw [← Hl.out]; exact hlt
      obtain ⟨b, o, rfl, hb, hc⟩ := HA.out.2 (by omega)
      have hst := (hc k hkl).fr hb (Nat.le_refl _) hI.fr
      obtain ⟨V, m, d, X, n2, d2, hcell, hN, hm, h256, hV, hVb, hn2, hMi, hLi, hX⟩ := hst
      obtain ⟨⟨who, kind, tag, inn, N, data, items⟩, hs⟩ : ∃ s, sc[k] = s := ⟨_, rfl⟩
      rw [hs] at hcell hN h256 hV hMi hLi hX
      have c0 := hcell 0 _ rfl
      have c1 := hcell 1 _ rfl
      have c2 := hcell 2 _ rfl
      have c3 := hcell 3 _ rfl
      have c4 := hcell 4 _ rfl
      have c5 := hcell 5 _ rfl
      have c6 := hcell 6 _ rfl
      rw [Nat.add_zero] at c0
      simp only at c0 c1 c2 c3 c4 c5 c6 hN h256 hV hMi hLi hX
      have H256 := hide h256
      have HMi := hide hMi
      have HX := hide hX
      have HI := hide hI
      have hV' := hide hV
      have HVb := hide hVb
      clear hc hcell hs h256 hMi hX hI hV hVb
      have i0 : (0 : Int) ≤ (k : Int) := by omega
      have i1 : (k : Int) < (n : Int) := by omega
      go_wp2_with fail
      refine (writes_any w wr _ _ _ _ l HI.out who kind tag inn N hN V m d data hm H256.out hV'.out HVb.out X n2 d2 items hn2 HMi.out hLi HX.out).mono ?_
      rintro e w2 ⟨rfl, l', hI'⟩
      have HI' := hide hI'
      clear hI'
      go_wp2_with fail
      exact ⟨⟨k + 1, l', by omega, by go_num, HI'.out⟩, by simp [intOf]; omega⟩
    · obtain rfl : k = n := by omega
      have HI := hide hI
      clear hlt hI
      go_wp2_with fail
      go_loopw [6] (fun i wf => ∃ (t : Nat), t ≤ 4 ∧ i = .int .i64 t ∧ Fr (fun _ => False) wr wf) (fun i _ => 4 - (intOf i).toNat)
      case atStart => exact ⟨0, by omega, rfl, Fr.refl _ _⟩
      case round =>
        obtain ⟨t, ht, rfl, hf⟩ := hrel
        by_cases hlt : t < 4
        · have hI := HI.out.quiet hf
          obtain ⟨p, p', s, q1, q2, q3, q4⟩ := hI.row t hlt
          have cp := hI.ws.cell' q3
          have cq := hI.rs.cell' q4
          have hT := hI.obs.at_ _ (List.mem_of_getElem? q1)
          have hR := hI.obs.at_ _ (List.mem_of_getElem? q2)
          simp only at hT hR
          have HI2 := hide hI
          have HT := hide hT
          have HR := hide hR
          have Q3 := hide q3
          have Q4 := hide q4
          clear hI hT hR q1 q2 q3 q4
          have i0 : (0 : Int) ≤ (t : Int) := by omega
          have i1 : (t : Int) < 4 := by omega
          go_wp2_with fail
          go_region_held3 (fun w' => w'.cell? ⟨w.heap.size + 1 + 1 + 1, t, none⟩ = some (wptr p) ∧ w'.cell? ⟨w.heap.size + 1 + 1 + 1 + 1 + 1 + 1 + 1, t, none⟩ = some (wptr p')) (go_keep)
            ((go_at_call 27; refine (forms_any _ p p' s (TAt.quiet HT.out (by exact (Fr.refl (fun _ => False) _).drew)) (TAt.quiet HR.out (by exact (Fr.refl (fun _ => False) _).drew))).mono ?_; rintro e w2 ⟨rfl, hf2⟩; have hI3 := (HI2.out.quiet ((Fr.refl (fun _ => False) _).drew)).quiet hf2; have kp := hI3.ws.cell' Q3.out; have kq := hI3.rs.cell' Q4.out))
          go_wp2_with fail
          exact ⟨⟨t + 1, by omega, by go_num, (hf.drew).trans hf2⟩, by simp [intOf]; omega⟩
        · obtain rfl : t = 4 := by omega
          clear hlt
          go_wp2_with fail
          go_ret
          exact ⟨rfl, (HI.out.fr.trans hf).toBelow (Nat.le_refl _) (fun _ _ => id)⟩
end Go.Proofs.Ytbglloafbmamoaa
