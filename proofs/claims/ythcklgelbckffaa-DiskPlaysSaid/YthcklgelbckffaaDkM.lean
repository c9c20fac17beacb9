/-
  marked of chapter 08: lists in memory of their own are written over, gone on with, and looked at.
-/
import Derived.Test.YthcklgelbckffaaDkB
namespace Go.Proofs.Ythcklgelbckffaa
open Go.RowKit
set_option linter.unusedVariables false
set_option linter.unusedSimpArgs false
/-- An item of a row of lists: its own block, its capacity its length. -/
def It (w : World) (b o n : Nat) (xs : List Nat) : Prop := ∃ e, Ow w e 1 (some ⟨b, o, none⟩) n n (xs.map bn) (some b)
structure Its (w : World) (rb m : Nat) (B O N : Nat → Nat) (f : Nat → List Nat) : Prop where
  row : ∀ i, i < m → w.cell? ⟨rb, i, none⟩ = some (.slice (some ⟨B i, O i, none⟩) (N i) (N i))
  it : ∀ i, i < m → It w (B i) (O i) (N i) (f i)
  apart : ∀ i j, i < m → j < m → B i = B j → i = j
  off : ∀ i, i < m → B i ≠ rb
theorem It.len {w : World} {b o n : Nat} {xs : List Nat} (h : It w b o n xs) : xs.length = n := by
  obtain ⟨e, h⟩ := h; have := h.1; simpa using this
theorem It.fr {w w' : World} {b o n : Nat} {xs : List Nat} {S : Nat → Prop} (h : It w b o n xs) (hf : Fr S w w') (hS : ¬ S b) : It w' b o n xs := by
  obtain ⟨e, h⟩ := h; exact ⟨e, h.fr hf (fun x hx => by cases hx; exact hS)⟩
theorem It.lt {w : World} {b o n : Nat} {xs : List Nat} (h : It w b o n xs) : b < w.heap.size := by
  obtain ⟨e, h⟩ := h; exact h.lt b rfl
theorem It.cap {w : World} {b o n : Nat} {xs : List Nat} (h : It w b o n xs) : n ≤ maxLen := by
  obtain ⟨e, h⟩ := h; exact h.cap.2
theorem It.look {w : World} {b o n : Nat} {xs : List Nat} (h : It w b o n xs) {k : Nat} (hk : k < n) : w.cell? ⟨b, o + k, none⟩ = some (.int .u8 ((xs.getD k 0 : Nat) : Int)) ∧ w.frozen? ⟨b, o + k, none⟩ = false := by
  have hl := h.len
  obtain ⟨e, h⟩ := h
  obtain ⟨b', o', e1, -, c, z⟩ := h.look (bn_get (xs := xs) (k := k) (by omega))
  cases e1; exact ⟨c, z⟩
theorem It.put {w : World} {b o n : Nat} {xs : List Nat} (h : It w b o n xs) {k : Nat} (hk : k < n) (v : Nat) : It (w.setCell ⟨b, o + k, none⟩ (bn v)) b o n (xs.set k v) := by
  obtain ⟨e, h⟩ := h
  have := h.put (j := k) (by omega) (bn v)
  rw [← List.map_set] at this
  exact ⟨e, this⟩
def upd (f : Nat → List Nat) (i : Nat) (xs : List Nat) : Nat → List Nat := fun j => if j = i then xs else f j
theorem Its.fr {w w' : World} {rb m : Nat} {B O N : Nat → Nat} {f : Nat → List Nat} {S : Nat → Prop} (h : Its w rb m B O N f) (hf : Fr S w w') (hr : ¬ S rb) (hS : ∀ i, i < m → ¬ S (B i)) : Its w' rb m B O N f :=
  ⟨fun i hi => (hf.cell (p := ⟨rb, i, none⟩) (World.block_lt_of_cell? w _ (h.row i hi)) hr).trans (h.row i hi), fun i hi => (h.it i hi).fr hf (hS i hi), h.apart, h.off⟩
theorem Its.put {w : World} {rb m : Nat} {B O N : Nat → Nat} {f : Nat → List Nat} (h : Its w rb m B O N f) {i k : Nat} (hi : i < m) (hk : k < N i) (v : Nat) : Its (w.setCell ⟨B i, O i + k, none⟩ (bn v)) rb m B O N (upd f i ((f i).set k v)) := by
  have hF : Fr (fun x => x = B i) w (w.setCell ⟨B i, O i + k, none⟩ (bn v)) := (Fr.refl _ _).setAt _
  refine ⟨fun j hj => (hF.cell (p := ⟨rb, j, none⟩) (World.block_lt_of_cell? w _ (h.row j hj)) (fun e => h.off i hi e.symm)).trans (h.row j hj), fun j hj => ?_, h.apart, h.off⟩
  by_cases e : j = i
  · subst e; unfold upd; rw [if_pos rfl]; exact (h.it j hj).put hk v
  · unfold upd; rw [if_neg e]; exact (h.it j hj).fr hF (fun q => e (h.apart j i hj hi q))
/-- The marks that marked lays. -/
def mkN (i k : Nat) : Nat := (37 * i + k) % 256
def mkT (i k : Nat) : List Nat := (List.range k).map fun x => (11 * i + x) % 256
theorem mkT_succ (i k : Nat) : mkT i (k + 1) = mkT i k ++ [(11 * i + k) % 256] := by simp [mkT, List.range_succ]
theorem mkT_len (i k : Nat) : (mkT i k).length = k := by simp [mkT]
theorem wrap_u8n (x : Nat) : IntKind.u8.wrap ((x : Nat) : Int) = ((x % 256 : Nat) : Int) := by rw [IntKind.wrap_u8]; omega
/-- A list that was gone on with. -/
def MoreAt (w0 w : World) (N : Nat → Nat) (f : Nat → List Nat) (g5 : Option Nat) (j : Nat) (v : Value) : Prop :=
  ∃ A c b e, v = .slice A (N j + 70) c ∧ Ow w e 1 A (N j + 70) c ((f j ++ mkT j 70).map bn) (some b) ∧ w0.heap.size ≤ b ∧ g5 ≠ some b
theorem MoreAt.fr {w0 w w' : World} {N : Nat → Nat} {f : Nat → List Nat} {g5 : Option Nat} {j : Nat} {v : Value} {S : Nat → Prop} (h : MoreAt w0 w N f g5 j v) (hf : Fr S w w') (hS : ∀ b, w0.heap.size ≤ b → g5 ≠ some b → b < w.heap.size → ¬ S b) : MoreAt w0 w' N f g5 j v := by
  obtain ⟨A, c, b, e, h1, h2, h3, h4⟩ := h
  exact ⟨A, c, b, e, h1, h2.fr hf (fun x hx => by cases hx; exact hS b h3 h4 (h2.lt b rfl)), h3, h4⟩
theorem Sl.adds {w : World} {b o m : Nat} {xs : List Value} (h : Sl w 1 (some ⟨b, o, none⟩) m xs) : ∀ (j : Nat) (u : Value), xs[j]? = some u → w.cell? ((⟨b, o, none⟩ : Addr).add j) = some u := fun j u hu => by
  obtain ⟨b', o', e1, c⟩ := h.at_ hu
  cases e1
  rw [Addr.add_lit]; exact c
theorem MoreAt.regrow {w0 w w' : World} {N : Nat → Nat} {f : Nat → List Nat} {g5 g6 : Option Nat} {j : Nat} {v : Value} (h : MoreAt w0 w N f g5 j v) (hf : Fr (fun k => some k = g5) w w') (hg : g6 = g5 ∨ ∃ b, g6 = some b ∧ w.heap.size ≤ b) : MoreAt w0 w' N f g6 j v := by
  obtain ⟨A, c, b, e, h1, h2, h3, h4⟩ := h
  refine ⟨A, c, b, e, h1, h2.fr hf (fun x hx => by cases hx; exact fun e => h4 e.symm), h3, ?_⟩
  rcases hg with rfl | ⟨b', rfl, hb⟩
  · exact h4
  · intro e; cases e; have := h2.lt b rfl; omega
theorem infoRow : (Try.prog.info? 34).map (fun i => (i.zero, i.size, i.bytes)) = some (some (.slice none 0 0), 1, 24) := by kernel_rfl
set_option maxHeartbeats 8000000 in
set_option maxRecDepth 8000 in
theorem marked_any (w : World) (rb m rc : Nat) (B O N : Nat → Nat) (f0 : Nat → List Nat) (hm : m ≤ 1000) (hN : ∀ i, i < m → N i ≤ 140737488355000) (hI : Its w rb m B O N f0) :
    Calls Try.prog 25 #[.slice (some ⟨rb, 0, none⟩) m rc] w fun e w' => e = .returned (.bool true) ∧ Fr (fun k => ∃ i, i < m ∧ k = B i) w w' := by
  obtain ⟨i0, hi, hz0, hz1, hz2⟩ := info_parts infoU8
  obtain ⟨j0, jj, jj0, jj1, jj2⟩ := info_parts infoRow
  have HN := hide hN
  clear hN
  go_enter Try.func25, Try.ntmps25
  go_wp2_with fail
  go_loopw [3] (fun v wr => ∃ (i : Nat) (f : Nat → List Nat), i ≤ m ∧ v = .int .i64 i ∧ Its wr rb m B O N f ∧ Fr (fun k => ∃ i, i < m ∧ k = B i) w wr ∧ Hid (∀ j, j < i → ∀ x, x < N j → (f j).getD x 0 = mkN j x)) (fun v _ => m - (intOf v).toNat)
  case atStart => exact ⟨0, f0, Nat.zero_le _, rfl, hI, Fr.refl _ _, fun j hj => by omega⟩
  case round =>
    clear hI
    obtain ⟨i, f, him, rfl, hIt, hf, hmk⟩ := hrel
    by_cases hlt : i < m
    · have hNi := HN.out i hlt
      go_wp2_with fail
      go_loopw [4] (fun v wr => ∃ (k : Nat) (f : Nat → List Nat), k ≤ N i ∧ v = .int .i64 k ∧ Its wr rb m B O N f ∧ Fr (fun k => ∃ i, i < m ∧ k = B i) w wr ∧ Hid (∀ j, j < i → ∀ x, x < N j → (f j).getD x 0 = mkN j x) ∧ Hid (∀ x, x < k → (f i).getD x 0 = mkN i x)) (fun v _ => N i - (intOf v).toNat)
      case atStart => exact ⟨0, f, Nat.zero_le _, rfl, hIt, hf, hmk, fun x hx => by omega⟩
      case round =>
        clear hIt hf hmk f
        obtain ⟨k, f, hk, rfl, hIt, hf, hmk, hmk2⟩ := hrel
        have hrow := hIt.row i hlt
        have i1 : (0 : Int) ≤ (i : Int) := by omega
        have i2 : (i : Int) < (m : Int) := by omega
        have i3 : (0 : Int) ≤ (k : Int) := by omega
        by_cases hlk : k < N i
        · obtain ⟨hc, hz⟩ := (hIt.it i hlt).look hlk
          have i4 : (k : Int) < (N i : Int) := by omega
          have q1 : IntKind.i64.wrap (37 * (i : Int)) = 37 * (i : Int) := IntWalk.i64_in _ (by omega)
          have q2 : IntKind.i64.wrap (37 * (i : Int) + (k : Int)) = ((37 * i + k : Nat) : Int) := by rw [IntWalk.i64_in _ (by omega)]; omega
          have q3 := wrap_u8n (37 * i + k)
          have HIt := hide hIt
          have Hf := hide hf
          have hlen := (hIt.it i hlt).len
          clear hIt hf
          go_wp2_with fail
          refine ⟨⟨k + 1, _, by omega, by go_num, HIt.out.put hlt hlk ((37 * i + k) % 256), Hf.out.setIn (.inl ⟨i, hlt, rfl⟩) _, ?_, ?_⟩, by simp [intOf]; omega⟩
          · intro j hj x hx
            unfold upd; rw [if_neg (by omega)]; exact hmk.out j hj x hx
          · intro x hx
            unfold upd; rw [if_pos rfl]
            by_cases e : x = k
            · subst e
              rw [List.getD_eq_getElem?_getD, List.getElem?_set_self (by omega)]; rfl
            · rw [List.getD_eq_getElem?_getD, List.getElem?_set_ne (by omega), ← List.getD_eq_getElem?_getD]
              exact hmk2.out x (by omega)
        · obtain rfl : k = N i := by omega
          have HIt := hide hIt
          have Hf := hide hf
          clear hIt hf
          go_wp2_with fail
          refine ⟨⟨i + 1, f, by omega, by go_num, HIt.out, Hf.out, ?_⟩, by simp [intOf]; omega⟩
          intro j hj x hx
          by_cases e : j = i
          · subst e; exact hmk2.out x hx
          · exact hmk.out j (by omega) x hx
    · obtain rfl : m = i := by omega
      obtain ⟨w1, rfl⟩ : ∃ w1, w1 = wr := ⟨_, rfl⟩
      have Hmk := hide hmk
      clear hmk hlt him
      have HI0 := hide hIt
      have HF0 := hide hf
      clear hIt hf
      go_wp2_with fail
      go_loopw [5, 6] (fun v5 v wr2 => ∃ (i : Nat) (vs : List Value) (A5 : Option Addr) (c5 : Nat) (g5 : Option Nat), i ≤ m ∧ v5 = .slice A5 i c5 ∧ v = .int .i64 i ∧ Ow wr2 34 1 A5 i c5 vs g5 ∧ Hid (∀ b, g5 = some b → w1.heap.size ≤ b) ∧ Hid (∀ j v, vs[j]? = some v → MoreAt w1 wr2 N f g5 j v) ∧ Hid (Fr (fun _ => False) w1 wr2)) (fun _ v _ => m - (intOf v).toNat)
      case atStart => exact ⟨0, [], none, 0, none, Nat.zero_le _, rfl, rfl, Ow.nil_ _ _ _, fun b hb => (by cases hb), fun j v hv => (by simp at hv), Fr.refl _ _⟩
      case round =>
        obtain ⟨w2, rfl⟩ : ∃ w2, w2 = wr := ⟨_, rfl⟩
        obtain ⟨i, vs, A5, c5, g5, him, rfl, rfl, hO5, hg5, hM, hfr⟩ := hrel
        have hIt : Its w2 rb m B O N f := HI0.out.fr hfr.out id (fun _ _ => id)
        by_cases hlt : i < m
        · have hrow := hIt.row i hlt
          have hNi := HN.out i hlt
          have i1 : (0 : Int) ≤ (i : Int) := by omega
          have i2 : (i : Int) < (m : Int) := by omega
          have q1 : IntKind.i64.wrap (11 * (i : Int)) = 11 * (i : Int) := IntWalk.i64_in _ (by omega)
          have HIt := hide hIt
          have HO5 := hide hO5
          clear hIt hO5
          go_wp2_with fail
          clear hrow
          go_loopw [7, 8] (fun v7 v wr3 => ∃ (k : Nat) (A : Option Addr) (c : Nat) (b : Nat) (e : TypeId), k ≤ 70 ∧ v7 = .slice A (N i + k) c ∧ v = .int .i64 k ∧ Ow wr3 e 1 A (N i + k) c ((f i ++ mkT i k).map bn) (some b) ∧ (k = 0 → c = N i ∧ b = B i) ∧ (¬ k = 0 → w2.heap.size ≤ b) ∧ Hid (Fr (fun _ => False) w2 wr3)) (fun _ v _ => 70 - (intOf v).toNat)
          case atStart =>
            obtain ⟨e, h⟩ := HIt.out.it i hlt
            refine ⟨0, some ⟨B i, O i, none⟩, N i, B i, e, by omega, rfl, rfl, by simpa [mkT] using h, fun _ => ⟨rfl, rfl⟩, fun h => absurd rfl h, Fr.refl _ _⟩
          case round =>
            obtain ⟨k, A, c, b, e, hk, rfl, rfl, hO, hk0, hk1, hf3⟩ := hrel
            by_cases hlk : k < 70
            · have q2 : IntKind.i64.wrap (11 * (i : Int) + (k : Int)) = ((11 * i + k : Nat) : Int) := by rw [IntWalk.i64_in _ (by omega)]; omega
              have q3 := wrap_u8n (11 * i + k)
              have hlen := hO.1
              by_cases hk2 : k = 0
              · obtain ⟨rfl, rfl⟩ := hk0 hk2
                subst hk2
                obtain ⟨hl, hb | ⟨b2, o2, cur, rfl, hg2, hrest⟩⟩ := id hO
                · exact absurd hb.2.2.2 (by simp)
                · cases hg2
                  have hsl := hide hO
                  clear hO hk0 hk1 hrest hl
                  go_wp2_with (at_builtin; refine wpList_append_grows _ rfl _ _ 34 rfl 5 i0 (.int .u8 0) 1 1 Try.underlying34 hi hz0 hz1 hz2 rfl (by decide) _ _ _ ((f i).map bn) rfl (fun h => by cases h) (by have := (HIt.out.it i hlt).len; simpa using this) (fun b hb j u hu => by cases hb; obtain ⟨b', o', e1, -, c, -⟩ := (hsl.out.fr (S := fun _ => False) ((Fr.refl _ _).alloc _) (fun _ _ => id)).look (j := j) (u := u) (by simpa [mkT] using hu); cases e1; rw [Addr.add_lit]; exact c) _ _ _ _ rfl rfl (Sl.adds (Sl.one _ _ _)) (by intro u hu; rw [List.mem_singleton] at hu; subst hu; rfl) (by omega) (by unfold maxLen; omega) (by omega) ?_)
                  intro v' w' hown hgr
                  obtain ⟨A3, c3, g3, rfl, hO3, hb3⟩ := Ow.ofOwns hown
                  clear hown
                  go_wp2_with fail
                  obtain ⟨hl3, h0 | ⟨b3, o3, cur3, rfl, hg3, hrest3⟩⟩ := id hO3
                  · exact absurd h0.2.1 (by omega)
                  · cases hg3
                    refine ⟨⟨1, some ⟨b3, o3, none⟩, c3, b3, 5, by omega, rfl, rfl, ?_, fun h => absurd h (by omega), fun _ => ?_, ?_⟩, by simp [intOf]⟩
                    · have e : List.map bn (f i ++ mkT i 1) = List.map bn (f i) ++ [Value.int .u8 (11 * (i : Int) % 256)] := by simp [mkT, bn]
                      rw [e]; exact hO3
                    · have h1 := hb3 b3 rfl
                      have h2 := hf3.out.size
                      omega
                    · exact hf3.out.trans (((Fr.refl _ _).alloc _).trans ((Fr.ofGrown hgr).mono fun x _ e => by cases e))
              · have hb := hk1 hk2
                clear hk0 hk1
                go_wp2_with (at_builtin; refine wpList_append_ob _ rfl _ _ 34 rfl 5 i0 (.int .u8 0) 1 1 Try.underlying34 hi hz0 hz1 hz2 rfl (by decide) _ _ _ _ _ rfl _ (hO.fr ((Fr.refl _ _).alloc _) (fun _ _ => id)) _ _ _ _ rfl (Sl.one _ _ _) (bn_one [_]) (by unfold maxLen; omega) (by omega) ?_)
                intro A3 c3 w3 g3 e3 hO3 hf4 hg3
                go_wp2_with fail
                have hsz3 := hf3.out.size
                have hb0 : ∃ b3, g3 = some b3 ∧ w2.heap.size ≤ b3 := by
                  rcases hg3 with rfl | ⟨b', rfl, h⟩
                  · exact ⟨b, rfl, hb⟩
                  · exact ⟨b', rfl, by first | omega | (simp at h; omega)⟩
                obtain ⟨b3, rfl, hb3⟩ := hb0
                refine ⟨⟨k + 1, A3, c3, b3, e3, by omega, rfl, by go_num, ?_, fun h => absurd h (by omega), fun _ => hb3, ?_⟩, by simp [intOf]; omega⟩
                · have e1 : List.map bn [(11 * i + k) % 256] = [Value.int .u8 ((11 * (i : Int) + (k : Int)) % 256)] := by simp [bn]
                  rw [mkT_succ, List.map_append, List.map_append, e1, ← Nat.add_assoc]
                  simpa [List.map_append] using hO3
                · exact (hf3.out.alloc _).comp hf4 (fun x hx e => by cases e; omega)
            · obtain rfl : k = 70 := by omega
              have hb := hk1 (by omega)
              clear hk0 hk1
              have hO5 : Ow wr 34 1 A5 i c5 vs g5 := HO5.out.fr hf3.out (fun _ _ => id)
              have hvl : vs.length = i := by have := HO5.out.1; simpa using this
              have hlt5 := HO5.out.lt
              have Hb := hide hb
              clear hb
              go_wp2_with (at_builtin; refine wpList_append_ow _ rfl _ _ 22 rfl 34 j0 (.slice none 0 0) 1 24 Try.underlying22 jj jj0 jj1 jj2 rfl (by decide) _ _ _ _ _ rfl (hO5.fr ((Fr.refl _ _).alloc _) (fun _ _ => id)) _ _ _ _ rfl (Sl.one _ _ _) (by intro u hu; rw [List.mem_singleton] at hu; subst hu; rfl) (by unfold maxLen; omega) (by omega) ?_)
              intro A6 c6 w6 g6 hO6 hf6 hg6
              go_wp2_with fail
              have hsz3 := hf3.out.size
              have hsz2 := hfr.out.size
              have hf7 : Fr (fun x => some x = g5) wr w6 := ((Fr.refl _ _).alloc _).trans hf6
              have hg7 : g6 = g5 ∨ ∃ b, g6 = some b ∧ wr.heap.size ≤ b := hg6.imp id fun ⟨b, e, h⟩ => ⟨b, e, by first | omega | (simp at h; omega)⟩
              refine ⟨⟨i + 1, _, A6, c6, g6, by omega, rfl, by go_num, hO6, ?_, ?_, ?_⟩, by simp [intOf]; omega⟩
              · rintro b' rfl
                rcases hg7 with e | ⟨b2, e, h⟩
                · exact hg5.out b' e.symm
                · cases e; omega
              · intro j v hv
                by_cases hj : j < vs.length
                · rw [List.getElem?_append_left hj] at hv
                  exact ((hM.out j v hv).fr hf3.out (fun _ _ _ _ => id)).regrow hf7 hg7
                · have hv2 := hv
                  rw [List.getElem?_append_right (by omega)] at hv2
                  have hj0 : j = i := by have := (List.getElem?_eq_some_iff.1 hv2).1; simp at this; omega
                  subst hj0
                  rw [hvl, Nat.sub_self] at hv2
                  cases hv2
                  refine MoreAt.regrow (g5 := g5) ⟨A, c, b, e, rfl, hO, ?_, ?_⟩ hf7 hg7
                  · have := Hb.out; omega
                  · intro e; have h1 := hlt5 b e; have h2 := Hb.out; omega
              · exact (hfr.out.trans hf3.out).comp hf7 (fun x hx e => by have := hg5.out x e.symm; omega)
        · obtain rfl : m = i := by omega
          have HIt := hide hIt
          have HO5 := hide hO5
          have hvl : Hid (vs.length = m) := by have := hO5.1; exact (by simpa using this : vs.length = m)
          clear hIt hO5 hlt him
          go_wp2_with fail
          go_loopw [9] (fun v wr => ∃ (i : Nat), i ≤ m ∧ v = .int .i64 i ∧ Hid (wr = w2)) (fun v _ => m - (intOf v).toNat)
          case atStart => exact ⟨0, Nat.zero_le _, rfl, rfl⟩
          case round =>
            obtain ⟨i, him, rfl, hw⟩ := hrel
            have hw2 := hw.out.symm
            subst hw2
            clear hw
            by_cases hlt : i < m
            · have hrow := HIt.out.row i hlt
              have hNi := HN.out i hlt
              have i1 : (0 : Int) ≤ (i : Int) := by omega
              have i2 : (i : Int) < (m : Int) := by omega
              obtain ⟨v, hv⟩ : ∃ v, vs[i]? = some v := ⟨_, List.getElem?_eq_getElem (by rw [hvl.out]; exact hlt)⟩
              obtain ⟨A, c, b, e, rfl, hO, -, -⟩ := hM.out i v hv
              obtain ⟨b5, o5, rfl, -, hc5, -⟩ := HO5.out.look hv
              obtain ⟨hl, h0 | ⟨b2, o2, cur, rfl, hg2, hrest⟩⟩ := id hO
              · exact absurd h0.2.1 (by omega)
              cases hg2
              have hfl := (HIt.out.it i hlt).len
              have q1 : IntKind.i64.wrap (37 * (i : Int)) = 37 * (i : Int) := IntWalk.i64_in _ (by omega)
              have p1 : IntKind.i64.wrap (11 * (i : Int)) = 11 * (i : Int) := IntWalk.i64_in _ (by omega)
              have Hfl := hide hfl
              have Hrest := hide hO
              clear hrest hl hv hO hfl
              go_wp2_with fail
              go_loopw [11] (fun v wr => ∃ (k : Nat), k ≤ N i ∧ v = .int .i64 k ∧ Hid (wr = w2)) (fun v _ => N i - (intOf v).toNat)
              case atStart => exact ⟨0, Nat.zero_le _, rfl, rfl⟩
              case round =>
                obtain ⟨k, hk, rfl, hw⟩ := hrel
                have hw2 := hw.out.symm
                subst hw2
                clear hw
                by_cases hlk : k < N i
                · obtain ⟨hc, -⟩ := (HIt.out.it i hlt).look hlk
                  have hm1 := Hmk.out.out i hlt k hlk
                  rw [hm1] at hc
                  obtain ⟨b', o', e1, -, hc2, -⟩ := Hrest.out.look (bn_get (k := k) (by rw [List.length_append, Hfl.out]; omega))
                  cases e1
                  have e2 : (f i ++ mkT i 70).getD k 0 = mkN i k := by rw [List.getD_eq_getElem?_getD, List.getElem?_append_left (by rw [Hfl.out]; exact hlk), ← List.getD_eq_getElem?_getD, hm1]
                  rw [e2] at hc2
                  have i3 : (0 : Int) ≤ (k : Int) := by omega
                  have i4 : (k : Int) < (N i : Int) := by omega
                  have i5 : (k : Int) < ((N i + 70 : Nat) : Int) := by omega
                  have q2 : IntKind.i64.wrap (37 * (i : Int) + (k : Int)) = ((37 * i + k : Nat) : Int) := by rw [IntWalk.i64_in _ (by omega)]; omega
                  have q3 : IntKind.u8.wrap ((37 * i + k : Nat) : Int) = ((mkN i k : Nat) : Int) := wrap_u8n (37 * i + k)
                  have hk2 : k < N i + 70 := by omega
                  clear hm1 e2
                  go_wp2_with fail
                  exact ⟨⟨k + 1, by omega, by go_num, trivial⟩, by simp [intOf]; omega⟩
                · obtain rfl : k = N i := by omega
                  clear hlk hk
                  go_wp2_with fail
                  go_loopw [12] (fun v wr => ∃ (k : Nat), k ≤ 70 ∧ v = .int .i64 k ∧ Hid (wr = w2)) (fun v _ => 70 - (intOf v).toNat)
                  case atStart => exact ⟨0, Nat.zero_le _, rfl, rfl⟩
                  case round =>
                    obtain ⟨k, hk, rfl, hw⟩ := hrel
                    have hw2 := hw.out.symm
                    subst hw2
                    clear hw
                    by_cases hlk : k < 70
                    · obtain ⟨b', o', e1, -, hc2, -⟩ := Hrest.out.look (bn_get (k := N i + k) (by rw [List.length_append, Hfl.out, mkT_len]; omega))
                      cases e1
                      have e2 : (f i ++ mkT i 70).getD (N i + k) 0 = (11 * i + k) % 256 := by
                        rw [List.getD_eq_getElem?_getD, List.getElem?_append_right (by rw [Hfl.out]; omega), Hfl.out, Nat.add_sub_cancel_left]
                        simp [mkT, hlk]
                      rw [e2] at hc2
                      have i3 : (0 : Int) ≤ (N i : Int) + (k : Int) := by omega
                      have i5 : (N i : Int) + (k : Int) < ((N i + 70 : Nat) : Int) := by omega
                      have i6 : N i + k < N i + 70 := by omega
                      have q2 : IntKind.i64.wrap (11 * (i : Int) + (k : Int)) = ((11 * i + k : Nat) : Int) := by rw [IntWalk.i64_in _ (by omega)]; omega
                      have q4 : IntKind.i64.wrap ((N i : Int) + (k : Int)) = ((N i + k : Nat) : Int) := by rw [IntWalk.i64_in _ (by omega)]; omega
                      have q3 : IntKind.u8.wrap ((11 * i + k : Nat) : Int) = (((11 * i + k) % 256 : Nat) : Int) := wrap_u8n (11 * i + k)
                      clear e2
                      go_wp2_with fail
                      trace_state
                      exact ⟨⟨k + 1, by omega, by go_num, trivial⟩, by simp [intOf]; omega⟩
                    · obtain rfl : k = 70 := by omega
                      go_wp2_with fail
                      exact ⟨⟨i + 1, by omega, by go_num, trivial⟩, by simp [intOf]; omega⟩
            · obtain rfl : m = i := by omega
              go_wp2_with fail
              go_ret
              exact ⟨rfl, HF0.out.trans (hfr.out.weak _)⟩
end Go.Proofs.Ythcklgelbckffaa
