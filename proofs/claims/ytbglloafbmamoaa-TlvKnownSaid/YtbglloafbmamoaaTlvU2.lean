/-
  put (of TlvBack): what it puts into a writer. Fault, of a reader whose block alone is known.
-/
import Derived.Test.YtbglloafbmamoaaTlvU1
namespace Go.Proofs.Ytbglloafbmamoaa
open Go.RowKit
set_option linter.unusedVariables false
set_option linter.unusedSimpArgs false

abbrev tWr : TypeId := 51
theorem Fr.fresh {S : Nat → Prop} {w w' : World} (h : Fr S w w') (hS : ∀ k, S k → w.heap.size ≤ k) : Fr (fun _ => False) w w' := h.mono fun k hk hs => by have := hS k hs; omega
theorem OOut.go {o : Option WO} {s s2 : WS} {w w1 : World} {f : FuncId} {args : Value → Array Value} {E : Ending} (h : OOut tWr o s w w1) (k : ∀ o1, wptr o1 = wptr o → TAt w1 tWr o1 s → (∀ b, foot o1 b → foot o b ∨ w.heap.size ≤ b) → Calls Try.prog f (args (wptr o1)) w1 fun e w2 => e = E ∧ OOut tWr o1 s2 w1 w2) :
    Calls Try.prog f (args (wptr o)) w1 fun e w2 => e = E ∧ OOut tWr o s2 w w2 := by
  obtain ⟨o1, hp, hT, hft, hf⟩ := h
  have h2 := k o1 hp hT hft
  rw [hp] at h2
  refine h2.mono ?_
  rintro e w2 ⟨rfl, o2, hp2, hT2, hft2, hf2⟩
  refine ⟨rfl, o2, hp2.trans hp, hT2, fun b hb => ?_, hf.comp hf2 fun i hi hb => ?_⟩
  · rcases hft2 b hb with h | h
    · exact hft b h
    · exact .inr (Nat.le_trans hf.size h)
  · rcases hft i hb with h | h
    · exact h
    · omega
theorem OOut.quiet {o : Option WO} {s : WS} {w w1 w2 : World} (h : OOut tWr o s w w1) (hf : Fr (fun _ => False) w1 w2) : OOut tWr o s w w2 := by
  obtain ⟨o1, hp, hT, hft, h1⟩ := h
  exact ⟨o1, hp, hT.quiet hf, hft, h1.trans (hf.weak _)⟩
def inL (n : Nat) (s : List Nat) : List Fd := [(1, Nv n), (2, s)]
def rbOf (n : Nat) (s : List Nat) : List Nat := putAll (live (inL n s))
def l0 (n : Nat) (s raw : List Nat) (xss : List (List Nat)) : List Fd := [(2, Nv n), (3, s), (4, raw), (5, listAll xss), (6, listAll [rbOf n s, rbOf n s])]
theorem inL_asc (n : Nat) (s : List Nat) : Asc 0 (inL n s) := by simp [inL, Asc]
theorem l0_asc (n : Nat) (s raw : List Nat) (xss : List (List Nat)) : Asc 0 (l0 n s raw xss) := by simp [l0, Asc]
theorem inL_U {n : Nat} {s : List Nat} (hn : n < U64) (hs : s.length ≤ 10000) : ∀ f ∈ inL n s, f.2.length < U64 := by
  have := Nv_le hn
  intro f hf
  simp only [inL, List.mem_cons, List.mem_nil_iff, or_false] at hf
  unfold U64
  rcases hf with rfl | rfl <;> simp only <;> omega
theorem rb_len {n : Nat} {s : List Nat} (hn : n < U64) (hs : s.length ≤ 10000) : (rbOf n s).length ≤ 10032 := by
  have h := putAll_live_le (inL n s) (inL_U hn hs)
  have := Nv_le hn
  simp only [inL, List.map_cons, List.map_nil, List.sum_cons, List.sum_nil] at h
  show (putAll (live (inL n s))).length ≤ _
  have h2 : (putAll (live (inL n s))).length = (putAll (live [(1, Nv n), (2, s)])).length := rfl
  omega
theorem rb_fresh {n : Nat} {s : List Nat} (hn : n < U64) (hs : s.length ≤ 10000) : (WS.fresh.puts (inL n s)).form = rbOf n s ∧ (WS.fresh.puts (inL n s)).e = 0 := by
  have := puts_fresh (inL_asc n s) (by have := rb_len hn hs; unfold rbOf at this; omega)
  unfold WS.form
  rw [if_pos this.2]
  exact this
theorem short_len10 {n : Nat} (h : n ≤ 100000) : (short n).length ≤ 10 := (short_le (by unfold U64; omega)).2
theorem listAll2_len {b : List Nat} (h : b.length ≤ 10032) : (listAll [b, b]).length ≤ 20084 := by
  have := short_len10 (n := b.length) (by omega)
  simp only [listAll, List.flatMap_cons, List.flatMap_nil, List.length_append, List.length_nil]
  omega
set_option maxHeartbeats 2000000 in
set_option maxRecDepth 8000 in
theorem put5_any (w : World) (o : Option WO) (n : Nat) (hn : n < U64) (s raw : List Nat) (xss : List (List Nat)) (V A : Option Addr) (m d k c B : Nat) (hs : s.length ≤ 10000) (h256 : ∀ x ∈ s, x < 256) (hm : m ≤ 10000) (hV : Sl w 1 V m (raw.map bn))
    (hVB : ∀ b off, V = some ⟨b, off, none⟩ → 0 < m → b < B) (hB : B ≤ w.heap.size) (hx : ∀ x ∈ xss, x.length ≤ 10000) (hk : k ≤ 10000) (hL : (listAll xss).length ≤ 200000) (hA : LAt w B A k xss) (hoB : ∀ b, foot o b → B ≤ b) (hT : TAt w tWr o WS.fresh) :
    Calls Try.prog 44 #[wptr o, .int .u64 (n : Int), .string (strOf s), .slice V m d, .slice A k c] w fun e w' => e = .returned (.tuple #[]) ∧ OOut tWr o (WS.fresh.puts (l0 n s raw xss)) w w' := by
  obtain ⟨p, hp⟩ : ∃ p, wptr o = p := ⟨_, rfl⟩
  have Hx := hide hx
  have HL := hide hL
  have Hs := hide hs
  have H256 := hide h256
  have HVB := hide hVB
  have HoB := hide hoB
  have HV := hide hV
  have HA := hide hA
  have HT := hide hT
  have HB := hide hB
  have Hm := hide hm
  have Hk := hide hk
  clear hx hL hs h256 hVB hoB hV hA hT hB hm hk
  have q0 : ∀ w, TAt w tWr o WS.fresh → OOut tWr o WS.fresh w w := fun w hT => OOut.refl hT rfl (Fr.refl _ _)
  rw [hp]
  go_enter Try.func44, Try.ntmps44
  go_wp2_with fail
  have c1 := OOut.go (args := fun v => #[v, .int .i64 2, .int .u64 (n : Int)]) (q0 _ HT.out) (fun o1 _ hT1 _ => tnumber_any _ o1 _ 2 n hn hT1)
  rw [hp] at c1
  refine c1.mono ?_
  clear c1 q0
  rintro e w1 ⟨rfl, h1⟩
  go_wp2_with fail
  have c2 := OOut.go (args := fun v => #[v, .int .i64 3, .string (strOf s)]) h1 (fun o1 _ hT1 _ => ttext_any _ o1 _ 3 s (by have := Hs.out; omega) H256.out hT1)
  rw [hp] at c2
  clear h1
  refine c2.mono ?_
  clear c2
  rintro e w2 ⟨rfl, h2⟩
  go_wp2_with fail
  have hf2 : Fr (foot o) w w2 := by obtain ⟨_, _, _, _, hf⟩ := h2; exact hf
  have c3 := OOut.go (args := fun v => #[v, .int .i64 4, .slice V m d]) h2 (fun o1 _ hT1 hft => traw_any _ o1 _ 4 V m d raw (by have := Hm.out; omega) hT1 (Sl.fr' hf2 HV.out (fun b off e h0 hf => by have := HVB.out b off e h0; have := HoB.out b hf; omega))
    (fun r e b off eV h0 eg => by
      have h3 := HVB.out b off eV h0
      rcases hft b ⟨r, e, .inr eg.symm⟩ with h4 | h4
      · have := HoB.out b h4; omega
      · have := HB.out; omega))
  rw [hp] at c3
  clear h2 hf2
  refine c3.mono ?_
  clear c3
  rintro e w3 ⟨rfl, h3⟩
  go_wp2_with fail
  have hf3 : Fr (foot o) w w3 := by obtain ⟨_, _, _, _, hf⟩ := h3; exact hf
  have c4 := OOut.go (args := fun v => #[v, .int .i64 5, .slice A k c]) h3 (fun o1 _ hT1 hft => twlist_any _ o1 _ 5 xss A k c B (by have := Hk.out; omega) (Nat.le_trans HB.out hf3.size) (fun x hx => by have := Hx.out x hx; omega) (by have := HL.out; omega) (HA.out.fr hf3 fun b hb hf => by have := HoB.out b hf; omega) hT1)
  rw [hp] at c4
  clear h3 hf3
  refine c4.mono ?_
  clear c4
  rintro e w4 ⟨rfl, h4⟩
  have hN := Bl.new w4 tWr wcell
  have hW := wat_at hN
  have hfa : Fr (fun _ => False) w4 (w4.alloc (.cells wcell tWr)) := (Fr.refl _ _).alloc _
  unfold wcell at hW hfa
  have H4 := hide h4
  clear hN h4
  go_wp2_with fail
  refine (tnumber_any _ (wat w4.heap.size) WS.fresh 1 n hn hW).mono ?_
  rintro e w5 ⟨rfl, o5, hp5, hT5, hft5, hf5⟩
  have c6 := ttext_any w5 o5 _ 2 s (by have := Hs.out; omega) H256.out hT5
  rw [hp5] at c6
  go_wp2_with fail
  refine c6.mono ?_
  rintro e w6 ⟨rfl, o6, hp6, hT6, hft6, hf6⟩
  have hs6 : (WS.fresh.number 1 n).put 2 s = WS.fresh.puts (inL n s) := by rw [number_nv]; rfl
  obtain ⟨r1, r2⟩ := rb_fresh hn Hs.out
  rw [hs6] at hT6
  have c7 := tform_any' w6 o6 _ hT6
  unfold FormPost at c7
  rw [hp6, hp5, r1, r2] at c7
  have hfx : Fr (fun _ => False) w4 w6 := by
    have g1 : ∀ b, foot (wat w4.heap.size) b → w4.heap.size ≤ b := fun b hb => by rw [wat_foot hb]; exact Nat.le_refl _
    have z1 := hfa.size
    have f1 : Fr (fun _ => False) w4 w5 := hfa.comp hf5 fun x hx e => by have := g1 x e; omega
    refine f1.comp hf6 fun x hx e => ?_
    rcases hft5 x e with h | h
    · have := g1 x h; omega
    · have := hfa.size; omega
  clear hW hfa hT5 hft5 hf5 hT6 hft6 hf6 c6 hs6 r1 r2
  go_wp2_with fail
  refine c7.mono ?_
  rintro e w7 ⟨X, nx, cx, gx, rfl, hO, hg, hf7⟩
  have hlen : nx = (rbOf n s).length := hO.sl.len
  have hf47 : Fr (fun _ => False) w4 w7 := hfx.trans hf7
  have hcap := hO.cap
  have hOs := hO.sl
  have HO := hide hO
  clear hO hg hf7 hfx c7
  have Hl := hide hlen
  clear hlen
  go_wp2_with fail
  obtain ⟨w8, hw8⟩ : ∃ w8, w8 = w7.alloc (.cells #[.slice X nx cx, .slice X nx cx] 23) := ⟨_, rfl⟩
  have hf78 : Fr (fun _ => False) w7 w8 := by rw [hw8]; exact (Fr.refl _ _).alloc _
  have hb8 : Bl w8 w7.heap.size 23 #[.slice X nx cx, .slice X nx cx] := by rw [hw8]; exact Bl.new _ _ _
  have hL8 : LAt w8 w8.heap.size (some ⟨w7.heap.size, 0, none⟩) 2 [rbOf n s, rbOf n s] := by
    refine ⟨rfl, fun _ => ⟨_, _, rfl, hb8.lt, fun i hi => ?_⟩⟩
    have hi2 : i < 2 := hi
    have e2 : [rbOf n s, rbOf n s][i] = rbOf n s := by
      rcases i with _ | _ | i
      · rfl
      · rfl
      · omega
    have hsl8 : Sl w8 1 X nx ((rbOf n s).map bn) := Sl.fr' hf78 hOs fun _ _ _ _ => id
    refine ⟨X, nx, cx, ?_, hcap.1, ?_, by rw [e2]; exact hsl8, ?_⟩
    · rcases i with _ | _ | i
      · exact hb8.cell' rfl
      · exact hb8.cell' rfl
      · omega
    · have := hcap.2; unfold maxLen at this; exact this
    · exact hsl8.lt
  have h8 : OOut tWr o _ w w8 := H4.out.quiet (hf47.trans hf78)
  have c8 := OOut.go (args := fun v => #[v, .int .i64 6, .slice (some ⟨w7.heap.size, 0, none⟩) 2 2]) h8 (fun o1 _ hT1 hft => twlist_any w8 o1 _ 6 [rbOf n s, rbOf n s] _ 2 2 w8.heap.size (by omega) (Nat.le_refl _)
    (fun x hx => by have : x = rbOf n s := by simpa using hx
                    subst this; have := rb_len hn Hs.out; omega) (by have := listAll2_len (rb_len hn Hs.out); omega) hL8 hT1)
  rw [hp, hw8] at c8
  rw [hw8] at h8
  refine c8.mono ?_
  rintro e w9 ⟨rfl, h9⟩
  clear c8 h8 hL8 hb8 hf78 H4
  go_wp2_with fail
  go_end0
  refine ⟨rfl, ?_⟩
  have hss : (((((WS.fresh.number 2 n).put 3 s).put 4 raw).put 5 (listAll xss)).put 6 (listAll [rbOf n s, rbOf n s])) = WS.fresh.puts (l0 n s raw xss) := by rw [number_nv]; rfl
  rw [← hss]
  exact h9
end Go.Proofs.Ytbglloafbmamoaa
