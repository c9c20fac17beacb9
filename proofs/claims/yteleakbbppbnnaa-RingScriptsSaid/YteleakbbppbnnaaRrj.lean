/-
  does: Tell.
-/
import Derived.Test.YteleakbbppbnnaaRrc
import Derived.Test.YteleakbbppbnnaaRri
namespace Go.Proofs.Yteleakbbppbnnaa
open Go.RowKit
set_option linter.unusedVariables false
attribute [local go_sem ↓] Go.wp_at_zero Go.wp_at_succ
section
variable {B0 wb : Nat} {L : List (Option RE)} {A1 : Option Addr} {c1 : Nat} {g1 : Option Nat} {A2 : Option Addr} {c2 : Nat} {g2 : Option Nat} {w wA w2 w3 w4 : World} {k : Nat} {e : Option RE}
def lstOf : Option (List Int) → List Int
  | none => []
  | some l => l
theorem list_ent (w : World) (h : RW B0 w L) (hk : L[k]? = some e) :
    Calls Try.prog 10 #[ptrP e] w fun r w' => ListOut w (lstOf (e.map RE.xs)) r w' := by
  cases e with
  | none =>
    refine (list_nil w).mono ?_
    rintro r w' ⟨rfl, hf⟩
    exact ⟨none, 0, none, rfl, Ow.nil_ _ _ _, fun b hb => (by cases hb), hf⟩
  | some a => exact list_any w a.p a.g a.room a.xs (h.look hk).a
theorem DoesIs.farO {L' : List (Option RE)} {w5 : World} {A : Option Addr} {nn c : Nat} {xs : List Value} {g : Option Nat} (h : DoesIs B0 wb L L' w w4) (hO : Ow w4 tInt 1 A nn c xs g) (hg : ∀ b, g = some b → w.heap.size ≤ b) (hB : B0 ≤ w.heap.size) (hn : ∀ a, some a ∈ L' → ∀ b, g = some b → ¬ a.foot b) (hf : Fr (fun x => some x = g) w4 w5) : DoesIs B0 wb L L' w w5 := by
  cases g with
  | none =>
    obtain ⟨⟨A1, c1, g1, A2, c2, g2, hP, hR, hE⟩, h1, h2, h3⟩ := h
    have hf' : Fr (fun _ => False) w4 w5 := hf.mono fun x _ e => by cases e
    exact ⟨⟨A1, c1, g1, A2, c2, g2, hP.quiet hf', hR.quiet hf', hE⟩, h1, h2, h3.trans (hf'.weak _)⟩
  | some b =>
    obtain ⟨cs, hb⟩ := Ow.ty hO
    exact h.far hb (hg b rfl) hB (fun a ha => hn a ha b rfl) (hf.mono fun x _ e => by cases e; rfl)
set_option maxHeartbeats 4000000 in
set_option maxRecDepth 4000 in
theorem does_tell0 (hW : PW B0 wb L A1 c1 g1 A2 c2 g2 w) (hI : RW B0 w L) (hE : Even L) (hB : B0 ≤ w.heap.size) (m : Nat) (Hm : Hid (L.length = m)) (hL1 : 1 ≤ m) (hL2 : m ≤ 20) (wh tt n x : Int) (k : Nat) (Hk : Hid (wh % (m : Int) = (k : Int))) (hkm : k < m) (he : L[k]? = some none) (kt : Nat) (Hkt : Hid (tt % (m : Int) = (kt : Int))) (hktm : kt < m) (AL : Option Addr) (nl cl : Nat) :
    Calls Try.prog 18 #[.pointer (some ⟨wb, 0, none⟩), .agg #[.int .i64 6, .int .i64 wh, .int .i64 tt, .int .i64 n, .int .i64 x, .slice AL nl cl]] w fun r w' => r = .returned (.bool true) ∧ DoesOut B0 wb L w w' := by
  (obtain ⟨b1, o1, rfl, hg1, hc1, -⟩ := hW.o1.look (j := k) (u := ptrP (none)) (by rw [List.getElem?_map, he]; rfl)); (obtain ⟨b2, o2, rfl, hg2, hc2, -⟩ := hW.o2.look (j := k) (u := ptrQ (none)) (by rw [List.getElem?_map, he]; rfl)); (have hl1 := hW.o1.lt b1 hg1); (have hl2 := hW.o2.lt b2 hg2); (have hlw := hW.bl.lt); (have w0 : w.cell? ⟨wb, 0, none⟩ = some (.slice (some ⟨b1, o1, none⟩) m c1) := by rw [← Hm.out]; exact hW.bl.cell' rfl); (have w1 : w.cell? ⟨wb, 1, none⟩ = some (.slice (some ⟨b2, o2, none⟩) m c2) := by rw [← Hm.out]; exact hW.bl.cell' rfl); (have He := hide he); (have HE := hide hE); (have HW := hide hW); (have HI := hide hI); clear he hE hW hI hg1 hg2
  (replace hc1 : w.cell? ⟨b1, o1 + k, none⟩ = some (.pointer none) := hc1); (replace hc2 : w.cell? ⟨b2, o2 + k, none⟩ = some (.pointer none) := hc2)
  obtain ⟨v, hv⟩ : ∃ v, lenV (Option.map RE.xs (none)) = v := ⟨_, rfl⟩
  obtain ⟨v2, hv2⟩ : ∃ v, roomV (Option.map RE.room (none)) = v := ⟨_, rfl⟩
  obtain ⟨ls, hls⟩ : ∃ ls, lstOf (Option.map RE.xs (none)) = ls := ⟨_, rfl⟩
  obtain ⟨nn, hnn⟩ : ∃ nn, ls.length = nn := ⟨_, rfl⟩
  have Hv := hide hv
  have Hv2 := hide hv2
  have Hls := hide hls
  have Hnn := hide hnn
  clear hv hv2 hls hnn
  go_enter Try.func18, Try.ntmps18
  (go_wp2_with fail); (go_quiet ((go_at_call 26; exact quiet_left (round_nat _ wh m k (by omega) (by omega) Hk.out)))); (have hobq := (Bl.new w tOp #[.int .i64 6, .int .i64 wh, .int .i64 tt, .int .i64 n, .int .i64 x, .slice AL nl cl]).drewN nq); (have hfq := ((Fr.refl (fun _ => False) w).alloc (.cells #[.int .i64 6, .int .i64 wh, .int .i64 tt, .int .i64 n, .int .i64 x, .slice AL nl cl] tOp)).drewN nq); (generalize hwq : (w.alloc (.cells #[.int .i64 6, .int .i64 wh, .int .i64 tt, .int .i64 n, .int .i64 x, .slice AL nl cl] tOp)).drewN nq = wq at hobq hfq ⊢); clear hwq; (have w0q := (hfq.cell hlw id).trans w0); (have w1q := (hfq.cell hlw id).trans w1); (have hc1q := (hfq.cell hl1 id).trans hc1); (have hc2q := (hfq.cell hl2 id).trans hc2); (have p0q : wq.cell? ⟨w.heap.size, 0, none⟩ = some (.int .i64 6) := hobq.cell' rfl); (have p2q : wq.cell? ⟨w.heap.size, 2, none⟩ = some (.int .i64 tt) := hobq.cell' rfl); (have p3q : wq.cell? ⟨w.heap.size, 3, none⟩ = some (.int .i64 n) := hobq.cell' rfl); (have p4q : wq.cell? ⟨w.heap.size, 4, none⟩ = some (.int .i64 x) := hobq.cell' rfl); (have p5q : wq.cell? ⟨w.heap.size, 5, none⟩ = some (.slice AL nl cl) := hobq.cell' rfl); (go_wp2_with fail); (go_quiet ((go_at_call 26; exact quiet_left (round_nat _ tt m kt (by omega) (by omega) Hkt.out)))); (have hob := hobq.drewN nq); (have hfA := hfq.drewN nq); (generalize hwA : wq.drewN nq = wA at hob hfA ⊢); clear hwA hobq hfq w0q w1q hc1q hc2q p0q p2q p3q p4q p5q; (have w0A := (hfA.cell hlw id).trans w0); (have w1A := (hfA.cell hlw id).trans w1); (have hc1A := (hfA.cell hl1 id).trans hc1); (have hc2A := (hfA.cell hl2 id).trans hc2); (have p0A : wA.cell? ⟨w.heap.size, 0, none⟩ = some (.int .i64 6) := hob.cell' rfl); (have p2A : wA.cell? ⟨w.heap.size, 2, none⟩ = some (.int .i64 tt) := hob.cell' rfl); (have p3A : wA.cell? ⟨w.heap.size, 3, none⟩ = some (.int .i64 n) := hob.cell' rfl); (have p4A : wA.cell? ⟨w.heap.size, 4, none⟩ = some (.int .i64 x) := hob.cell' rfl); (have p5A : wA.cell? ⟨w.heap.size, 5, none⟩ = some (.slice AL nl cl) := hob.cell' rfl)
  go_wp2_with fail
  have hlist : Calls Try.prog 10 #[.pointer none] wA fun r w' => ListOut wA ls r w' := by
    have h := list_ent wA (HI.out.quiet hfA) He.out
    rw [Hls.out] at h
    exact h
  refine hlist.mono ?_
  rintro r w2 ⟨A, c, g, rfl, hO, hg, hf2⟩
  have hle : nn ≤ 65536 := by
    rw [← Hnn.out, ← Hls.out]
    exact Nat.zero_le _
  have hO' := hO
  rw [Hnn.out] at hO'
  have hsm : Calls Try.prog 11 #[.slice A nn c, .slice none 0 0] w2 fun e w' => e = .returned (.bool true) ∧ Fr (fun _ => False) w2 w' := by
    have h0 : nn = 0 := by rw [← Hnn.out, ← Hls.out]; rfl
    have h := same_int w2 ls A none c 0 nn Hnn.out.symm (by omega) hO'.sl (by have h : nn = 0 := (by rw [← Hnn.out, ← Hls.out]; rfl); exact ⟨by rw [List.length_map, Hnn.out, h], fun h0 => absurd h0 (by omega)⟩)
    rw [h0] at h ⊢
    exact h
  have HO := hide (And.intro hO' hg)
  have Hf2 := hide hf2
  rw [Hnn.out]
  clear hlist hO hO' hg hf2
  go_wp2_with fail
  refine hsm.mono ?_
  rintro r w3 ⟨rfl, hf3⟩
  have Hf3 := hide hf3
  clear hsm hf3
  go_wp2_with fail
  go_loopw [25] (fun i wr => ∃ (j : Nat) (ys : List Int), i = .int .i64 (j : Int) ∧ j ≤ nn ∧ ys.length = nn ∧ Ow wr tInt 1 A nn c (ys.map iv) g ∧ Fr (fun x => some x = g) w3 wr) (fun i _ => nn - (intOf i).toNat)
  case atStart =>
    exact ⟨0, ls, rfl, by omega, Hnn.out, HO.out.1.fr Hf3.out (fun _ _ => id), Fr.refl _ _⟩
  case round =>
    obtain ⟨j, ys, rfl, hj, hys, hOj, hfj⟩ := hrel
    by_cases hlt : j < nn
    · obtain ⟨b, o, rfl, hbg, hc, hz⟩ := hOj.look (j := j) (u := .int .i64 (ys.getD j 0)) (iv_get (by omega))
      have hO5 := hOj.put (j := j) (by omega) (.int .i64 (-2))
      have e5 : (ys.map iv).set j (.int .i64 (-2)) = (ys.set j (-2)).map iv := by rw [List.map_set]; rfl
      rw [e5] at hO5
      have hf6 := hfj.trans (((Fr.refl (fun x => x = b) wr).setAt (i := o + j) (.int .i64 (-2))).mono fun x _ e => by rw [e]; exact hbg.symm)
      have HO5 := hide hO5
      have Hf6 := hide hf6
      have Hys := hide hys
      have i1 : (0 : Int) ≤ (j : Int) := by omega
      clear hO5 hf6 hOj hfj hys e5 hbg
      go_wp2_with fail
      exact ⟨⟨j + 1, ys.set j (-2), by go_num, hlt, by rw [List.length_set]; exact Hys.out, HO5.out, Hf6.out⟩, by simp [intOf]; omega⟩
    · obtain rfl : j = nn := by omega
      have hF3 := (hfA.trans Hf2.out).trans Hf3.out
      have hD : DoesIs B0 wb L L w w3 := ⟨⟨_, _, _, _, _, _, HW.out.quiet hF3, HI.out.quiet hF3, HE.out⟩, rfl, fun _ h => h, hF3.weak _⟩
      have hD2 := hD.farO (HO.out.1.fr Hf3.out (fun _ _ => id)) (fun b hb => by have := HO.out.2 b hb; have := hfA.size; omega) hB (fun a ha b hb hfo => by have := HI.out.lt ha hfo; have := HO.out.2 b hb; have := hfA.size; omega) hfj
      have hR : RW B0 wr L := by
        obtain ⟨⟨_, _, _, _, _, _, _, hR, _⟩, _⟩ := hD2
        exact hR
      have hc1_ : Calls Try.prog 13 #[.pointer none] wr fun r w' => r = .returned (.int .i64 v) ∧ wr = w' := by
        have h := len_ent wr hR He.out
        rw [Hv.out] at h; exact h
      have hc2_ : Calls Try.prog 34 #[.pointer none] wr fun r w' => r = .returned (.int .i64 v) ∧ wr = w' := by
        have h := rlen_ent wr hR He.out
        rw [← HE.out.at_ He.out, Hv.out] at h; exact h
      have hc3_ : Calls Try.prog 12 #[.pointer none] wr fun r w' => r = .returned (.int .i64 v2) ∧ wr = w' := by
        have h := room_ent wr hR He.out
        rw [Hv2.out] at h; exact h
      have hc4_ : Calls Try.prog 35 #[.pointer none] wr fun r w' => r = .returned (.int .i64 v2) ∧ wr = w' := by
        have h := rroom_ent wr hR He.out
        rw [Hv2.out] at h; exact h
      have HD := hide hD2
      clear hD hD2 hR hF3 hOj hfj hys
      go_wp2_with fail
      refine hc1_.mono ?_
      rintro r w7 ⟨rfl, rfl⟩
      go_wp2_with fail
      refine hc2_.mono ?_
      rintro r w7 ⟨rfl, rfl⟩
      go_wp2_with fail
      refine hc3_.mono ?_
      rintro r w7 ⟨rfl, rfl⟩
      go_wp2_with fail
      refine hc4_.mono ?_
      rintro r w7 ⟨rfl, rfl⟩
      go_wp2_with fail
      go_ret
      exact ⟨rfl, _, HD.out⟩
set_option maxHeartbeats 4000000 in
set_option maxRecDepth 4000 in
theorem does_tell1 (hW : PW B0 wb L A1 c1 g1 A2 c2 g2 w) (hI : RW B0 w L) (hE : Even L) (hB : B0 ≤ w.heap.size) (m : Nat) (Hm : Hid (L.length = m)) (hL1 : 1 ≤ m) (hL2 : m ≤ 20) (wh tt n x : Int) (k : Nat) (Hk : Hid (wh % (m : Int) = (k : Int))) (hkm : k < m) (a : RE) (he : L[k]? = some (some a)) (kt : Nat) (Hkt : Hid (tt % (m : Int) = (kt : Int))) (hktm : kt < m) (AL : Option Addr) (nl cl : Nat) :
    Calls Try.prog 18 #[.pointer (some ⟨wb, 0, none⟩), .agg #[.int .i64 6, .int .i64 wh, .int .i64 tt, .int .i64 n, .int .i64 x, .slice AL nl cl]] w fun r w' => r = .returned (.bool true) ∧ DoesOut B0 wb L w w' := by
  (obtain ⟨b1, o1, rfl, hg1, hc1, -⟩ := hW.o1.look (j := k) (u := ptrP (some a)) (by rw [List.getElem?_map, he]; rfl)); (obtain ⟨b2, o2, rfl, hg2, hc2, -⟩ := hW.o2.look (j := k) (u := ptrQ (some a)) (by rw [List.getElem?_map, he]; rfl)); (have hl1 := hW.o1.lt b1 hg1); (have hl2 := hW.o2.lt b2 hg2); (have hlw := hW.bl.lt); (have w0 : w.cell? ⟨wb, 0, none⟩ = some (.slice (some ⟨b1, o1, none⟩) m c1) := by rw [← Hm.out]; exact hW.bl.cell' rfl); (have w1 : w.cell? ⟨wb, 1, none⟩ = some (.slice (some ⟨b2, o2, none⟩) m c2) := by rw [← Hm.out]; exact hW.bl.cell' rfl); (have He := hide he); (have HE := hide hE); (have HW := hide hW); (have HI := hide hI); clear he hE hW hI hg1 hg2
  (replace hc1 : w.cell? ⟨b1, o1 + k, none⟩ = some (.pointer (some ⟨a.p, 0, none⟩)) := hc1); (replace hc2 : w.cell? ⟨b2, o2 + k, none⟩ = some (.pointer (some ⟨a.q, 0, none⟩)) := hc2)
  obtain ⟨v, hv⟩ : ∃ v, lenV (Option.map RE.xs (some a)) = v := ⟨_, rfl⟩
  obtain ⟨v2, hv2⟩ : ∃ v, roomV (Option.map RE.room (some a)) = v := ⟨_, rfl⟩
  obtain ⟨ls, hls⟩ : ∃ ls, lstOf (Option.map RE.xs (some a)) = ls := ⟨_, rfl⟩
  obtain ⟨nn, hnn⟩ : ∃ nn, ls.length = nn := ⟨_, rfl⟩
  have Hv := hide hv
  have Hv2 := hide hv2
  have Hls := hide hls
  have Hnn := hide hnn
  clear hv hv2 hls hnn
  go_enter Try.func18, Try.ntmps18
  (go_wp2_with fail); (go_quiet ((go_at_call 26; exact quiet_left (round_nat _ wh m k (by omega) (by omega) Hk.out)))); (have hobq := (Bl.new w tOp #[.int .i64 6, .int .i64 wh, .int .i64 tt, .int .i64 n, .int .i64 x, .slice AL nl cl]).drewN nq); (have hfq := ((Fr.refl (fun _ => False) w).alloc (.cells #[.int .i64 6, .int .i64 wh, .int .i64 tt, .int .i64 n, .int .i64 x, .slice AL nl cl] tOp)).drewN nq); (generalize hwq : (w.alloc (.cells #[.int .i64 6, .int .i64 wh, .int .i64 tt, .int .i64 n, .int .i64 x, .slice AL nl cl] tOp)).drewN nq = wq at hobq hfq ⊢); clear hwq; (have w0q := (hfq.cell hlw id).trans w0); (have w1q := (hfq.cell hlw id).trans w1); (have hc1q := (hfq.cell hl1 id).trans hc1); (have hc2q := (hfq.cell hl2 id).trans hc2); (have p0q : wq.cell? ⟨w.heap.size, 0, none⟩ = some (.int .i64 6) := hobq.cell' rfl); (have p2q : wq.cell? ⟨w.heap.size, 2, none⟩ = some (.int .i64 tt) := hobq.cell' rfl); (have p3q : wq.cell? ⟨w.heap.size, 3, none⟩ = some (.int .i64 n) := hobq.cell' rfl); (have p4q : wq.cell? ⟨w.heap.size, 4, none⟩ = some (.int .i64 x) := hobq.cell' rfl); (have p5q : wq.cell? ⟨w.heap.size, 5, none⟩ = some (.slice AL nl cl) := hobq.cell' rfl); (go_wp2_with fail); (go_quiet ((go_at_call 26; exact quiet_left (round_nat _ tt m kt (by omega) (by omega) Hkt.out)))); (have hob := hobq.drewN nq); (have hfA := hfq.drewN nq); (generalize hwA : wq.drewN nq = wA at hob hfA ⊢); clear hwA hobq hfq w0q w1q hc1q hc2q p0q p2q p3q p4q p5q; (have w0A := (hfA.cell hlw id).trans w0); (have w1A := (hfA.cell hlw id).trans w1); (have hc1A := (hfA.cell hl1 id).trans hc1); (have hc2A := (hfA.cell hl2 id).trans hc2); (have p0A : wA.cell? ⟨w.heap.size, 0, none⟩ = some (.int .i64 6) := hob.cell' rfl); (have p2A : wA.cell? ⟨w.heap.size, 2, none⟩ = some (.int .i64 tt) := hob.cell' rfl); (have p3A : wA.cell? ⟨w.heap.size, 3, none⟩ = some (.int .i64 n) := hob.cell' rfl); (have p4A : wA.cell? ⟨w.heap.size, 4, none⟩ = some (.int .i64 x) := hob.cell' rfl); (have p5A : wA.cell? ⟨w.heap.size, 5, none⟩ = some (.slice AL nl cl) := hob.cell' rfl)
  have hxl : a.xs.length = nn := by rw [← Hnn.out, ← Hls.out]; rfl
  have hbb := ((HI.out.quiet hfA).look He.out).b
  rw [← HE.out a (List.mem_of_getElem? He.out)] at hbb
  obtain ⟨LA, cL, hblA, howA⟩ := hbb
  rw [hxl] at hblA
  have cq : wA.cell? ⟨a.q, 1, none⟩ = some (.slice LA nn cL) := hblA.cell' rfl
  clear hblA
  go_wp2_with fail
  have hlist : Calls Try.prog 10 #[.pointer (some ⟨a.p, 0, none⟩)] wA fun r w' => ListOut wA ls r w' := by
    have h := list_ent wA (HI.out.quiet hfA) He.out
    rw [Hls.out] at h
    exact h
  refine hlist.mono ?_
  rintro r w2 ⟨A, c, g, rfl, hO, hg, hf2⟩
  have hle : nn ≤ 65536 := by
    rw [← Hnn.out, ← Hls.out]
    have h1 := (HI.out.look He.out).a.bounds; show a.xs.length ≤ 65536; omega
  have hO' := hO
  rw [Hnn.out] at hO'
  have hsm : Calls Try.prog 11 #[.slice A nn c, .slice LA nn cL] w2 fun e w' => e = .returned (.bool true) ∧ Fr (fun _ => False) w2 w' := same_int w2 ls A _ c _ nn Hnn.out.symm (by omega) hO'.sl (by have h := (howA.fr hf2 (fun _ _ => id)).sl; rw [hxl] at h; have h2 : a.xs = ls := Hls.out; rw [h2] at h; exact h)
  have HO := hide (And.intro hO' hg)
  have Hf2 := hide hf2
  rw [Hnn.out]
  clear hlist hO hO' hg hf2
  go_wp2_with fail
  refine hsm.mono ?_
  rintro r w3 ⟨rfl, hf3⟩
  have Hf3 := hide hf3
  clear hsm hf3 howA hxl
  go_wp2_with fail
  go_loopw [25] (fun i wr => ∃ (j : Nat) (ys : List Int), i = .int .i64 (j : Int) ∧ j ≤ nn ∧ ys.length = nn ∧ Ow wr tInt 1 A nn c (ys.map iv) g ∧ Fr (fun x => some x = g) w3 wr) (fun i _ => nn - (intOf i).toNat)
  case atStart =>
    exact ⟨0, ls, rfl, by omega, Hnn.out, HO.out.1.fr Hf3.out (fun _ _ => id), Fr.refl _ _⟩
  case round =>
    obtain ⟨j, ys, rfl, hj, hys, hOj, hfj⟩ := hrel
    by_cases hlt : j < nn
    · obtain ⟨b, o, rfl, hbg, hc, hz⟩ := hOj.look (j := j) (u := .int .i64 (ys.getD j 0)) (iv_get (by omega))
      have hO5 := hOj.put (j := j) (by omega) (.int .i64 (-2))
      have e5 : (ys.map iv).set j (.int .i64 (-2)) = (ys.set j (-2)).map iv := by rw [List.map_set]; rfl
      rw [e5] at hO5
      have hf6 := hfj.trans (((Fr.refl (fun x => x = b) wr).setAt (i := o + j) (.int .i64 (-2))).mono fun x _ e => by rw [e]; exact hbg.symm)
      have HO5 := hide hO5
      have Hf6 := hide hf6
      have Hys := hide hys
      have i1 : (0 : Int) ≤ (j : Int) := by omega
      clear hO5 hf6 hOj hfj hys e5 hbg
      go_wp2_with fail
      exact ⟨⟨j + 1, ys.set j (-2), by go_num, hlt, by rw [List.length_set]; exact Hys.out, HO5.out, Hf6.out⟩, by simp [intOf]; omega⟩
    · obtain rfl : j = nn := by omega
      have hF3 := (hfA.trans Hf2.out).trans Hf3.out
      have hD : DoesIs B0 wb L L w w3 := ⟨⟨_, _, _, _, _, _, HW.out.quiet hF3, HI.out.quiet hF3, HE.out⟩, rfl, fun _ h => h, hF3.weak _⟩
      have hD2 := hD.farO (HO.out.1.fr Hf3.out (fun _ _ => id)) (fun b hb => by have := HO.out.2 b hb; have := hfA.size; omega) hB (fun a ha b hb hfo => by have := HI.out.lt ha hfo; have := HO.out.2 b hb; have := hfA.size; omega) hfj
      have hR : RW B0 wr L := by
        obtain ⟨⟨_, _, _, _, _, _, _, hR, _⟩, _⟩ := hD2
        exact hR
      have hc1_ : Calls Try.prog 13 #[.pointer (some ⟨a.p, 0, none⟩)] wr fun r w' => r = .returned (.int .i64 v) ∧ wr = w' := by
        have h := len_ent wr hR He.out
        rw [Hv.out] at h; exact h
      have hc2_ : Calls Try.prog 34 #[.pointer (some ⟨a.q, 0, none⟩)] wr fun r w' => r = .returned (.int .i64 v) ∧ wr = w' := by
        have h := rlen_ent wr hR He.out
        rw [← HE.out.at_ He.out, Hv.out] at h; exact h
      have hc3_ : Calls Try.prog 12 #[.pointer (some ⟨a.p, 0, none⟩)] wr fun r w' => r = .returned (.int .i64 v2) ∧ wr = w' := by
        have h := room_ent wr hR He.out
        rw [Hv2.out] at h; exact h
      have hc4_ : Calls Try.prog 35 #[.pointer (some ⟨a.q, 0, none⟩)] wr fun r w' => r = .returned (.int .i64 v2) ∧ wr = w' := by
        have h := rroom_ent wr hR He.out
        rw [Hv2.out] at h; exact h
      have HD := hide hD2
      clear hD hD2 hR hF3 hOj hfj hys
      go_wp2_with fail
      refine hc1_.mono ?_
      rintro r w7 ⟨rfl, rfl⟩
      go_wp2_with fail
      refine hc2_.mono ?_
      rintro r w7 ⟨rfl, rfl⟩
      go_wp2_with fail
      refine hc3_.mono ?_
      rintro r w7 ⟨rfl, rfl⟩
      go_wp2_with fail
      refine hc4_.mono ?_
      rintro r w7 ⟨rfl, rfl⟩
      go_wp2_with fail
      go_ret
      exact ⟨rfl, _, HD.out⟩
end
end Go.Proofs.Yteleakbbppbnnaa
