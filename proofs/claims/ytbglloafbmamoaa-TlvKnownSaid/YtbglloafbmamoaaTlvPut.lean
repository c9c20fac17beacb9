/-
  tlv.Put and the reference's Put.
-/
import Derived.Test.YtbglloafbmamoaaTlvField
import Derived.Deep.RegionHeld3
import Derived.Deep.DeepCutAuto
import Derived.Deep.DrawnRows
namespace Go.Proofs.Ytbglloafbmamoaa
open Go.RowKit
set_option linter.unusedVariables false

def putScan (last : Int) : List (Int × List Nat) → Nat
  | [] => 0
  | (t, v) :: r => if t ≤ last ∨ 255 < t then 21 else if v.length = 0 then 20 else putScan t r
def putAll (fs : List (Int × List Nat)) : List Nat := fs.flatMap fun f => formF f.1.toNat f.2
def putErr (fs : List (Int × List Nat)) : Nat := if putScan 0 fs ≠ 0 then putScan 0 fs else if 1048576 < (putAll fs).length then 3 else 0
def putBytes (fs : List (Int × List Nat)) : List Nat := if putErr fs = 0 then putAll fs else []
theorem putAll_take {fs : List (Int × List Nat)} {k : Nat} (h : k < fs.length) : putAll (fs.take (k + 1)) = putAll (fs.take k) ++ formF fs[k].1.toNat fs[k].2 := by
  unfold putAll
  rw [List.take_succ_eq_append_getElem h, List.flatMap_append]; simp

/-- The slice '.slice A n c' leads to the fields fs (size cells each: the tag, the value, ..). -/
def FAt (w : World) (size : Nat) (A : Option Addr) (n : Nat) (fs : List (Int × List Nat)) : Prop :=
  n = fs.length ∧ (0 < n → ∃ b o, A = some ⟨b, o, none⟩ ∧ ∀ (i : Nat) (hi : i < fs.length), ∃ V m d, w.cell? ⟨b, o + i * size, none⟩ = some (.int .i64 fs[i].1) ∧ w.cell? ⟨b, o + i * size + 1, none⟩ = some (.slice V m d) ∧ Sl w 1 V m (fs[i].2.map bn))
theorem FAt.quiet {w w' : World} {size n : Nat} {A : Option Addr} {fs : List (Int × List Nat)} (h : FAt w size A n fs) (hf : Fr (fun _ => False) w w') : FAt w' size A n fs := by
  refine ⟨h.1, fun hn => ?_⟩
  obtain ⟨b, o, hA, hc⟩ := h.2 hn
  refine ⟨b, o, hA, fun i hi => ?_⟩
  obtain ⟨V, m, d, c0, c1, hS⟩ := hc i hi
  exact ⟨V, m, d, (hf.cell (World.block_lt_of_cell? w _ c0) id).trans c0, (hf.cell (World.block_lt_of_cell? w _ c1) id).trans c1, hS.below hf (fun _ _ => id)⟩
theorem Sl.lt {w : World} {n : Nat} {A : Option Addr} {xs : List Value} (hS : Sl w 1 A n xs) : ∀ b o, A = some ⟨b, o, none⟩ → 0 < n → b < w.heap.size := by
  intro b o hA hn
  obtain ⟨b2, o2, h2, hc2⟩ := hS.2 hn
  rw [hA] at h2; cases h2
  have hx : 0 < xs.length := by rw [hS.1]; omega
  exact World.block_lt_of_cell? w _ (hc2 0 _ (List.getElem?_eq_getElem hx))

/-- Behind Put: the bytes (none beside an error), in new memory; the error. -/
def PutPost (bs : List Nat) (er : Nat) (w : World) (e : Ending) (w' : World) : Prop :=
  ∃ A n c g, e = .returned (.tuple #[.slice A n c, .int .i64 (er : Int)]) ∧ Ow w' 5 1 A n c (bs.map bn) g ∧ (∀ b, g = some b → w.heap.size ≤ b) ∧ Fr (fun _ => False) w w'
theorem PutPost.err {fs : List (Int × List Nat)} {w w' : World} {er : Nat} (h : putErr fs = er) (h0 : er ≠ 0) (hf : Fr (fun _ => False) w w') : PutPost (putBytes fs) (putErr fs) w (.returned (.tuple #[.slice none 0 0, .int .i64 (er : Int)])) w' := by
  refine ⟨none, 0, 0, none, by rw [h], ?_, (fun b h => by cases h), hf⟩
  rw [putBytes, h, if_neg h0]; exact Ow.nil_ _ _ _

/-- How much of the bytes stands in b. -/
def Held (bs all : List Nat) : Prop := bs = all ∨ 1048576 < bs.length ∧ bs.length ≤ all.length

set_option maxHeartbeats 2000000 in
set_option maxRecDepth 4000 in
theorem put_any (w : World) (fs : List (Int × List Nat)) (A : Option Addr) (n c : Nat) (hn : n ≤ 140737488355328) (hA : FAt w 2 A n fs) (hM : ∀ (i : Nat) (hi : i < fs.length), fs[i].2.length ≤ 400000000000) :
    Calls Try.prog 25 #[.slice A n c] w (PutPost (putBytes fs) (putErr fs) w) := by
  have Hl := hide hA.1
  have HA := hide hA
  clear hA
  go_enter Try.func25, Try.ntmps25
  go_wp2_with fail
  go_loopw [4, 5, 10] (fun v l i wr => ∃ (k : Nat) (L : Int) (bs : List Nat) (B : Option Addr) (nb cb : Nat) (g : Option Nat), k ≤ n ∧ i = .int .i64 k ∧ l = .int .i64 L ∧ v = .slice B nb cb ∧ 0 ≤ L ∧ nb ≤ 600000000000 ∧ Hid (putScan 0 fs = putScan L (fs.drop k)) ∧
    Ow wr 5 1 B nb cb (bs.map bn) g ∧ Hid (Held bs (putAll (fs.take k))) ∧ (∀ b, g = some b → w.heap.size ≤ b) ∧ Fr (fun _ => False) w wr) (fun _ _ i _ => n - (intOf i).toNat)
  case atStart => exact ⟨0, 0, [], none, 0, 0, none, by omega, rfl, rfl, rfl, by omega, by omega, rfl, Ow.nil_ _ _ _, .inl rfl, (fun b h => by cases h), Fr.refl _ _⟩
  case round =>
    obtain ⟨k, L, bs, B, nb, cb, g, hk, rfl, rfl, rfl, hL, hnb, hS, hO, hH, hg, hf⟩ := hrel
    by_cases hlt : k < n
    · have hkl : k < fs.length := by rw [← Hl.out]; exact hlt
      obtain ⟨b, o, rfl, hcc⟩ := HA.out.2 (by omega)
      obtain ⟨V, m, d, c0w, c1w, hVw⟩ := hcc k hkl
      have c0 := (hf.cell (World.block_lt_of_cell? w _ c0w) id).trans c0w
      have c1 := (hf.cell (World.block_lt_of_cell? w _ c1w) id).trans c1w
      have hV := hVw.below hf (fun _ _ => id)
      have hVa : ∀ b o, V = some ⟨b, o, none⟩ → 0 < m → g ≠ some b := fun b o hA h0 e => by
        have h1 := hg b e
        have h2 := hVw.lt b o hA h0
        omega
      clear c0w c1w hVw
      have hm : m ≤ 400000000000 := by rw [hV.len]; exact hM k hkl
      have Hm := hide hV.len
      have hdrop : Hid (fs.drop k = fs[k] :: fs.drop (k + 1)) := List.drop_eq_getElem_cons hkl
      obtain ⟨T, hT⟩ : ∃ T, fs[k].1 = T := ⟨_, rfl⟩
      have HT := hide hT
      rw [hT] at c0
      clear hcc hT
      by_cases hbad : T ≤ L ∨ 255 < T
      · have he : Hid (putErr fs = 21) := by
          have e : putScan 0 fs = 21 := by rw [hS.out, hdrop.out, putScan, if_pos (by rw [HT.out]; exact hbad)]
          show _ = _
          rw [putErr, if_pos (by rw [e]; omega), e]
        clear hdrop
        rcases hbad with hb1 | hb1
        all_goals
          go_wp2_with fail
          all_goals (go_ret2; exact PutPost.err (er := 21) he.out (by omega) (hf.alloc _))
      · have hb1 : L < T := by omega
        have hb2 : T ≤ 255 := by omega
        have Hbad := hide hbad
        clear hbad
        have hnext : Hid (fs[k].2.length ≠ 0 → putScan 0 fs = putScan T (fs.drop (k + 1))) := fun h0 => by
          rw [hS.out, hdrop.out, putScan, if_neg (by rw [HT.out]; exact Hbad.out), if_neg h0, HT.out]
        by_cases hm0 : m = 0
        · have he : Hid (putErr fs = 20) := by
            have e : putScan 0 fs = 20 := by rw [hS.out, hdrop.out, putScan, if_neg (by rw [HT.out]; exact Hbad.out), if_pos (by rw [← Hm.out]; exact hm0)]
            show _ = _
            rw [putErr, if_pos (by rw [e]; omega), e]
          have hm1 : m ≤ 0 := by omega
          clear hdrop hm0
          go_wp2_with fail
          all_goals (go_ret2; exact PutPost.err (er := 20) he.out (by omega) (hf.alloc _))
        · have hm1 : 0 < m := by omega
          have hsc := hide (hnext.out (by rw [← Hm.out]; exact hm0))
          clear hm0 hnext hdrop
          by_cases hbig : nb ≤ 1048576
          · obtain ⟨t, rfl⟩ : ∃ t : Nat, T = (t : Int) := ⟨T.toNat, by omega⟩
            have hF : Bl (wr.alloc (.cells #[.int .i64 (t : Int), .slice V m d] 40)) wr.heap.size 40 #[.int .i64 (t : Int), .slice V m d] := Bl.new _ _ _
            have hsl := short_le (show m < U64 by unfold U64; omega)
            go_wp2_with fail
            refine (field_any _ bs fs[k].2 B V nb cb m d g t (by omega) (by omega) (by omega) (hO.fr ((Fr.refl (fun _ => False) _).alloc _) (fun _ _ => id)) (hV.below ((Fr.refl (fun _ => False) _).alloc _) (fun _ _ => id)) hVa).mono ?_
            rintro e w2 ⟨B2, cb2, g2, rfl, hO2, h2⟩
            have hF2 := (hF.fr h2.fr (fun e => by have := hO.lt _ e.symm; omega)).cell' (i := 0) rfl
            clear c0 c1 hF
            go_wp2_with fail
            refine ⟨⟨k + 1, _, _, B2, _, cb2, g2, by omega, by go_num, rfl, rfl, by omega, by omega, hsc, hO2, ?_, ?_, ?_⟩, by simp [intOf]; omega⟩
            · have e : Held bs (putAll (fs.take k)) := hH.out
              have e2 : bs.length ≤ 1048576 := by rw [← hO.len]; exact hbig
              rcases e with e | e
              · refine .inl ?_
                rw [e, putAll_take hkl, HT.out]; rfl
              · omega
            · intro b hb
              rcases h2.at_ with h | ⟨b', h, hb'⟩
              · exact hg b (h ▸ hb)
              · rw [h] at hb; cases hb
                have := hf.size
                simp at hb'; omega
            · exact (hf.alloc _).comp h2.fr fun i hi e => by have := hg i e.symm; omega
          · have hbig' : 1048576 < nb := by omega
            go_wp2_with fail
            refine ⟨⟨k + 1, _, bs, B, nb, cb, g, by omega, by go_num, rfl, rfl, by omega, by omega, hsc, hO.fr ((Fr.refl (fun _ => False) _).alloc _) (fun _ _ => id), ?_, hg, hf.alloc _⟩, by simp [intOf]; omega⟩
            have e : Held bs (putAll (fs.take k)) := hH.out
            have e2 : 1048576 < bs.length := by rw [← hO.len]; exact hbig'
            refine .inr ⟨e2, ?_⟩
            rw [putAll_take hkl, List.length_append]
            rcases e with e | e
            · rw [← e]; omega
            · omega
    · obtain rfl : k = n := by omega
      have hs0 : putScan 0 fs = 0 := by rw [hS.out, List.drop_eq_nil_of_le (by rw [← Hl.out]; exact Nat.le_refl _)]; rfl
      have hall : Held bs (putAll fs) := by have := hH.out; rwa [List.take_of_length_le (by rw [← Hl.out]; exact Nat.le_refl _)] at this
      have hlen := hO.len
      by_cases hbig : nb ≤ 1048576
      · have he : Hid (putErr fs = 0 ∧ putBytes fs = bs) := by
          have e : putAll fs = bs := by
            rcases hall with e | e
            · exact e.symm
            · omega
          have e1 : putErr fs = 0 := by rw [putErr, if_neg (by rw [hs0]; omega), if_neg (by rw [e]; omega)]
          exact ⟨e1, by rw [putBytes, if_pos e1, e]⟩
        clear hs0 hall hlen
        go_wp2_with fail
        refine (own_any _ bs B nb cb (by omega) hO.sl).mono ?_
        rintro e w2 ⟨B2, cb2, g2, rfl, hO2, hg2, hf2⟩
        go_wp2_with fail
        go_ret2
        refine ⟨B2, nb, cb2, g2, by rw [he.out.1]; rfl, by rw [he.out.2]; exact hO2, fun b hb => Nat.le_trans hf.size (hg2 b hb), hf.trans hf2⟩
      · have he : Hid (putErr fs = 3) := by
          show _ = _
          rw [putErr, if_neg (by rw [hs0]; omega), if_pos]
          rcases hall with e | e
          · rw [← e]; omega
          · omega
        have hbig' : 1048576 < nb := by omega
        clear hs0 hall hlen
        go_wp2_with fail
        go_ret2
        exact PutPost.err (er := 3) he.out (by omega) hf
end Go.Proofs.Ytbglloafbmamoaa
