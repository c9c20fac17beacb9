/-
  StillOwn: the walk, from behind: filled, grown.
-/
import Derived.Test.YtchajbiloaiekaaSo2
namespace Go.Proofs.Ytchajbiloaiekaa
open Go.RowKit
set_option linter.unusedVariables false
attribute [local go_sem ↓] Go.wp_at_zero Go.wp_at_succ
theorem infoBs : (Try.prog.info? 22).map (fun i => (i.zero, i.size, i.bytes)) = some (some (.slice none 0 0), 1, 24) := by kernel_rfl
theorem sl_oneB (w : World) (v : Value) (e : TypeId) : Sl (w.alloc (.cells #[v] e)) 1 (some ⟨w.heap.size, 0, none⟩) 1 [v] := by
  refine ⟨rfl, fun _ => ⟨_, _, rfl, fun j u hu => ?_⟩⟩
  have h := Bl.new w e #[v]
  have h0 : j = 0 := by have := (List.getElem?_eq_some_iff.1 hu).1; simpa using this
  subst h0
  exact h.cell' (by simpa using hu)
set_option maxHeartbeats 8000000 in
set_option maxRecDepth 100000 in
theorem own12_tail16 (wz w0 wr : World) (hwz : Fr (fun _ => False) wz w0) (q p n t0 t1 N B : Nat) (F : Nat → Prop) (s : DS) (P1 : List Nat) (A1 : Option Addr) (m1 c1 : Nat) (g1 : Option Nat) (hn : 2 ≤ n ∧ n ≤ 21) (hN : 0 + 2 * n ≤ N) (hx1 : ∀ x ∈ P1, x < 256) (hl1 : P1.length = m1) (hP : openP s.told 0 n = P1) (hK0 : KW w0 wr q p 0 n t0 t1 N F s B) (hT0 : Sl wr 1 A1 m1 (P1.map bn)) (ab : Nat) (fA : Nat → Option Addr) (fn fc : Nat → Nat) (fg : Nat → Option Nat) (V : Nat → List Nat) (hnb : ∀ j, j < 3 → fn j ≤ 1344) (hfar : ∀ j, j < 3 → ∀ b, fg j = some b → ¬ F b ∧ q ≠ b ∧ w0.heap.size ≤ b ∧ ∀ o, A1 ≠ some ⟨b, o, none⟩) (hFO : BFO wr wr ab fA fn fc fg V) (hV : ∀ j, j < 3 → V j = fullB fn j)
    (u0 u3 u4 u5 u6 u8 u9 u10 u11 u12 u13 u14 u15 u16 u17 u18 u19 u20 u21 u22 u24 u25 u26 u27 u28 u29 u30 u31 u32 u33 u34 u35 u36 u37 u38 u39 u40 u41 u42 u43 u44 u45 u46 u47 u48 u49 u50 u51 u52 u53 u54 u55 u56 u57 u58 u59 u60 u61 u62 u63 u64 u65 u66 u67 u68 u69 u70 u71 u72 u73 u74 u75 u76 u77 u78 u79 u80 u81 u82 u83 u84 u85 u86 u87 u88 u89 u90 u91 u92 u93 u94 u95 u96 u97 u98 u99 u100 u101 u102 u103 u104 u105 u106 u107 u108 u109 u110 u111 u112 u113 u114 u115 u116 u117 u118 u119 u120 u121 u122 u123 u124 u125 u126 u127 u128 u129 u130 u131 u132 u133 u134 u135 u136 u137 u138 u139 u140 u141 u142 u143 u144 u145 u146 u147 u148 u149 u150 u151 u152 u153 u154 u155 u156 u157 u158 u159 u160 u161 u162 u163 u164 u165 u166 u167 u168 u169 u170 u171 u172 u173 u174 u175 u176 u177 u178 u179 u180 u181 u182 u183 u184 u185 u186 u187 u188 u189 u190 u191 u192 u193 u194 u195 u196 u197 u198 u199 u200 u201 u202 u203 u204 u205 u206 u207 u208 u209 u210 u211 u212 u213 u214 u215 u216 u217 u218 u219 u220 u221 u222 u223 u224 u225 u226 u227 u228 u229 u230 u231 u232 u233 u234 u235 u236 u237 u238 u239 u240 u241 u242 u243 u244 u245 u246 u247 u248 u249 u250 u251 u252 u253 u254 u255 u256 u257 u258 u259 u260 u261 u262 u263 u264 u265 u266 u267 u268 u269 u270 u271 u272 : Value) :
    Code.wp Try.prog (tailC 16 (Try.f3.body.getD .skip)) (bodyPost Try.prog Try.f3 fun e w' => e = .returned (.bool true) ∧ Fr (fun _ => False) wz w') { tmps := #[u0, .slice A1 m1 c1, .int .i64 (n : Int), u3, u4, u5, u6, .pointer (some ⟨p, 0, none⟩), u8, u9, u10, u11, u12, u13, u14, u15, u16, u17, u18, u19, u20, u21, u22, .slice (some ⟨ab, 0, none⟩) 3 3, u24, u25, u26, u27, u28, u29, u30, u31, u32, u33, u34, u35, u36, u37, u38, u39, u40, u41, u42, u43, u44, u45, u46, u47, u48, u49, u50, u51, u52, u53, u54, u55, u56, u57, u58, u59, u60, u61, u62, u63, u64, u65, u66, u67, u68, u69, u70, u71, u72, u73, u74, u75, u76, u77, u78, u79, u80, u81, u82, u83, u84, u85, u86, u87, u88, u89, u90, u91, u92, u93, u94, u95, u96, u97, u98, u99, u100, u101, u102, u103, u104, u105, u106, u107, u108, u109, u110, u111, u112, u113, u114, u115, u116, u117, u118, u119, u120, u121, u122, u123, u124, u125, u126, u127, u128, u129, u130, u131, u132, u133, u134, u135, u136, u137, u138, u139, u140, u141, u142, u143, u144, u145, u146, u147, u148, u149, u150, u151, u152, u153, u154, u155, u156, u157, u158, u159, u160, u161, u162, u163, u164, u165, u166, u167, u168, u169, u170, u171, u172, u173, u174, u175, u176, u177, u178, u179, u180, u181, u182, u183, u184, u185, u186, u187, u188, u189, u190, u191, u192, u193, u194, u195, u196, u197, u198, u199, u200, u201, u202, u203, u204, u205, u206, u207, u208, u209, u210, u211, u212, u213, u214, u215, u216, u217, u218, u219, u220, u221, u222, u223, u224, u225, u226, u227, u228, u229, u230, u231, u232, u233, u234, u235, u236, u237, u238, u239, u240, u241, u242, u243, u244, u245, u246, u247, u248, u249, u250, u251, u252, u253, u254, u255, u256, u257, u258, u259, u260, u261, u262, u263, u264, u265, u266, u267, u268, u269, u270, u271, u272], defers := [] } wr := by
  obtain ⟨wb, rfl⟩ : ∃ z, z = wr := ⟨_, rfl⟩
  obtain ⟨i0, hi, hz0, hz1, hz2⟩ := info_parts infoU8
  obtain ⟨j0, hj, hj0, hj1, hj2⟩ := info_parts infoBs
  have HK := hide hK0
  have HT := hide hT0
  have HP := hide hP
  have HFar := hide hfar
  have HGO := hide (hFO.go hV)
  clear hK0 hT0 hP hFO hV hfar
  refine wp_tail rfl ?_
  simp only [tailC]
  go_upto_block 6 with fail
  go_cut [26] (fun v wx => ∃ (Rs : List RSl) (G : Option Addr) (gc : Nat) (gg : Option Nat) (gs : List (Option Addr × Nat × Nat)), v = .slice G 3 gc ∧ BGO wb wx ab fA fn fc fg 3 Rs G gc gg gs)
  case first =>
    go_wp2_with fail
    go_loopw [26, 27] (fun v26 v27 wx => ∃ (i : Nat) (Rs : List RSl) (G : Option Addr) (gc : Nat) (gg : Option Nat) (gs : List (Option Addr × Nat × Nat)), v26 = .slice G i gc ∧ v27 = .int .i64 (i : Int) ∧ i ≤ 3 ∧ BGO wb wx ab fA fn fc fg i Rs G gc gg gs) (fun _ v _ => 3 - (intOf v).toNat)
    case atStart => exact ⟨0, [], none, 0, none, [], rfl, rfl, by omega, HGO.out⟩
    case round =>
      obtain ⟨i, Rs, G, gc, gg, gs, rfl, rfl, hi3, hGO⟩ := hrel
      clear HGO
      by_cases hlt : i < 3
      · have hcell := bl3 hGO.bl hlt
        have HS := hide (hGO.start hlt)
        have hni := hnb i hlt
        clear hGO
        have i1 : (0 : Int) ≤ (i : Int) := by omega
        have i2 : (i : Int) < 3 := by omega
        obtain ⟨x9, hx9⟩ : ∃ x, 90 * i = x := ⟨_, rfl⟩
        have q9 : IntKind.i64.wrap (90 * (i : Int)) = (x9 : Int) := by rw [show 90 * (i : Int) = (x9 : Int) by omega]; exact IntWalk.i64_in _ (by omega)
        have Hx9 := hide hx9
        clear hx9
        go_wp2_with fail
        go_loopw [28, 29] (fun v28 v29 wx => ∃ (k : Nat) (mA : Option Addr) (mc : Nat) (mg : Option Nat) (Rs : List RSl), v28 = .slice mA (fn i + k) mc ∧ v29 = .int .i64 (k : Int) ∧ k ≤ 70 ∧ BGS wb wx ab fA fn fc fg i k mA mc mg Rs G gc gg gs) (fun _ v _ => 70 - (intOf v).toNat)
        case atStart => exact ⟨0, _, _, _, _, rfl, rfl, by omega, HS.out⟩
        case round =>
          clear HS hcell
          obtain ⟨k, mA, mc, mg, Rs, rfl, rfl, hk, hGS⟩ := hrel
          by_cases hkl : k < 70
          · have HGS := hide hGS
            obtain ⟨y, hy⟩ : ∃ y, (90 * i + k + 1) % 256 = y := ⟨_, rfl⟩
            obtain ⟨z, hz⟩ : ∃ z, x9 + k = z := ⟨_, rfl⟩
            obtain ⟨z2, hzz⟩ : ∃ z2, z + 1 = z2 := ⟨_, rfl⟩
            have q5 : IntKind.i64.wrap ((x9 : Int) + (k : Int)) = (z : Int) := by rw [show (x9 : Int) + (k : Int) = (z : Int) by omega]; exact IntWalk.i64_in _ (by have := Hx9.out; omega)
            have q6 : IntKind.i64.wrap ((z : Int) + 1) = (z2 : Int) := by rw [show (z : Int) + 1 = (z2 : Int) by omega]; exact IntWalk.i64_in _ (by have := Hx9.out; omega)
            have q7 : IntKind.u8.wrap (z2 : Int) = (y : Int) := by rw [wrap8, ← hzz, ← hz, ← Hx9.out, hy]
            have Hy := hide hy
            clear hGS hy hz hzz
            go_wp2_with (at_builtin; refine wpList_append_tf _ rfl _ _ 22 rfl 5 i0 (.int .u8 0) 1 Try.underlying22 hi hz0 hz1 hz2 rfl _ _ _ _ _ rfl (HGS.out.cur.fr ((Fr.refl (fun _ => False) _).alloc _) (fun _ _ => id)) _ _ _ [.int .u8 (y : Int)] rfl (sl_oneB _ _ _) (by intro u hu; simp at hu; subst hu; rfl) (by unfold maxLen; omega) (by omega) ?_)
            intro mA2 mc2 w3 mg2 hO3 hf3 hg3 ht3
            rw [← Hy.out] at hO3
            have HG2 := hide (HGS.out.grow ((Fr.refl _ _).alloc _) hO3 hf3 (by simpa using hg3) ht3)
            clear hO3 hf3 hg3 ht3 HGS
            go_wp2_with fail
            exact ⟨⟨k + 1, mA2, mc2, mg2, _, rfl, by go_num, by omega, HG2.out⟩, by simp [intOf]; omega⟩
          · obtain rfl : k = 70 := by omega
            have HG := hide hGS
            have hrow := hGS.row
            have Hlen := hide hGS.len
            rw [Hlen.out] at hrow
            clear hGS
            go_wp2_with (at_builtin; refine wpList_append_ow _ rfl _ _ 36 rfl 22 j0 (.slice none 0 0) 1 24 Try.underlying36 hj hj0 hj1 hj2 rfl (by decide) _ _ _ _ _ rfl (hrow.fr ((Fr.refl (fun _ => False) _).alloc _) (fun _ _ => id)) _ _ _ [.slice mA (fn i + 70) mc] rfl (sl_oneB _ _ _) (by intro u hu; simp at hu; subst hu; rfl) (by unfold maxLen; omega) (by omega) ?_)
            intro G2 gc2 w5 gg2 hO5 hf5 hg5
            have hO5' : Ow w5 tBs 1 G2 (gs.length + 1) gc2 (gs.map slcI ++ [.slice mA (fn i + 70) mc]) gg2 := by rw [Hlen.out]; exact hO5
            have HG3 := hide (HG.out.put ((Fr.refl _ _).alloc _) hO5' hf5 (by simpa using hg5))
            clear hO5 hf5 hg5 hO5' hrow
            go_wp2_with fail
            exact ⟨⟨i + 1, _, G2, gc2, gg2, _, rfl, by go_num, by omega, HG3.out⟩, by simp [intOf]; omega⟩
      · obtain rfl : i = 3 := by omega
        have HO := hide hGO
        clear hGO
        go_wp2_with fail
        go_meet
        case rel => exact ⟨_, _, _, _, _, rfl, HO.out⟩
  case rest =>
  obtain ⟨Rs, G, gc, gg, gs, rfl, hGO⟩ := hcut
  have hK2 := HK.out.away hGO.fr (fun b ⟨j, hj, e⟩ => ⟨(HFar.out j hj b e).1, (HFar.out j hj b e).2.1, (HFar.out j hj b e).2.2.1⟩)
  have hT2 := HT.out.fr (B := 0) hGO.fr (fun b ⟨o, e⟩ hb ⟨j, hj, e2⟩ => (HFar.out j hj b e2).2.2.2 o e)
  apply_assumption
  exact own12_tail18 wz w0 wc hwz q p n t0 t1 N B F s P1 A1 m1 c1 g1 hn hN hx1 hl1 HP.out hK2 hT2 wb ab fA fn fc fg Rs G gc gg gs hnb hGO _ _ _ _ _ _ _ _ _ _ _ _ _ _ _ _ _ _ _ _ _ _ _ _ _ _ _ _ _ _ _ _ _ _ _ _ _ _ _ _ _ _ _ _ _ _ _ _ _ _ _ _ _ _ _ _ _ _ _ _ _ _ _ _ _ _ _ _ _ _ _ _ _ _ _ _ _ _ _ _ _ _ _ _ _ _ _ _ _ _ _ _ _ _ _ _ _ _ _ _ _ _ _ _ _ _ _ _ _ _ _ _ _ _ _ _ _ _ _ _ _ _ _ _ _ _ _ _ _ _ _ _ _ _ _ _ _ _ _ _ _ _ _ _ _ _ _ _ _ _ _ _ _ _ _ _ _ _ _ _ _ _ _ _ _ _ _ _ _ _ _ _ _ _ _ _ _ _ _ _ _ _ _ _ _ _ _ _ _ _ _ _ _ _ _ _ _ _ _ _ _ _ _ _ _ _ _ _ _ _ _ _ _ _ _ _ _ _ _ _ _ _ _ _ _ _ _ _ _ _ _ _ _ _ _ _ _ _ _ _ _ _ _ _ _ _ _ _ _ _ _ _ _ _ _ _ _ _ _ _ _ _ _ _ _ _ _ _ 

set_option maxHeartbeats 8000000 in
set_option maxRecDepth 100000 in
theorem own12_tail15 (wz w0 wr : World) (hwz : Fr (fun _ => False) wz w0) (q p n t0 t1 N B : Nat) (F : Nat → Prop) (s : DS) (P1 : List Nat) (A1 : Option Addr) (m1 c1 : Nat) (g1 : Option Nat) (hn : 2 ≤ n ∧ n ≤ 21) (hN : 0 + 2 * n ≤ N) (hx1 : ∀ x ∈ P1, x < 256) (hl1 : P1.length = m1) (hP : openP s.told 0 n = P1) (hK0 : KW w0 wr q p 0 n t0 t1 N F s B) (hT0 : Sl wr 1 A1 m1 (P1.map bn)) (ab : Nat) (fA : Nat → Option Addr) (fn fc : Nat → Nat) (fg : Nat → Option Nat) (V : Nat → List Nat) (hnb : ∀ j, j < 3 → fn j ≤ 1344) (hfar : ∀ j, j < 3 → ∀ b, fg j = some b → ¬ F b ∧ q ≠ b ∧ w0.heap.size ≤ b ∧ ∀ o, A1 ≠ some ⟨b, o, none⟩) (hFO : BFO wr wr ab fA fn fc fg V)
    (u0 u3 u4 u5 u6 u8 u9 u10 u11 u12 u13 u14 u15 u16 u17 u18 u19 u20 u21 u22 u24 u25 u26 u27 u28 u29 u30 u31 u32 u33 u34 u35 u36 u37 u38 u39 u40 u41 u42 u43 u44 u45 u46 u47 u48 u49 u50 u51 u52 u53 u54 u55 u56 u57 u58 u59 u60 u61 u62 u63 u64 u65 u66 u67 u68 u69 u70 u71 u72 u73 u74 u75 u76 u77 u78 u79 u80 u81 u82 u83 u84 u85 u86 u87 u88 u89 u90 u91 u92 u93 u94 u95 u96 u97 u98 u99 u100 u101 u102 u103 u104 u105 u106 u107 u108 u109 u110 u111 u112 u113 u114 u115 u116 u117 u118 u119 u120 u121 u122 u123 u124 u125 u126 u127 u128 u129 u130 u131 u132 u133 u134 u135 u136 u137 u138 u139 u140 u141 u142 u143 u144 u145 u146 u147 u148 u149 u150 u151 u152 u153 u154 u155 u156 u157 u158 u159 u160 u161 u162 u163 u164 u165 u166 u167 u168 u169 u170 u171 u172 u173 u174 u175 u176 u177 u178 u179 u180 u181 u182 u183 u184 u185 u186 u187 u188 u189 u190 u191 u192 u193 u194 u195 u196 u197 u198 u199 u200 u201 u202 u203 u204 u205 u206 u207 u208 u209 u210 u211 u212 u213 u214 u215 u216 u217 u218 u219 u220 u221 u222 u223 u224 u225 u226 u227 u228 u229 u230 u231 u232 u233 u234 u235 u236 u237 u238 u239 u240 u241 u242 u243 u244 u245 u246 u247 u248 u249 u250 u251 u252 u253 u254 u255 u256 u257 u258 u259 u260 u261 u262 u263 u264 u265 u266 u267 u268 u269 u270 u271 u272 : Value) :
    Code.wp Try.prog (tailC 15 (Try.f3.body.getD .skip)) (bodyPost Try.prog Try.f3 fun e w' => e = .returned (.bool true) ∧ Fr (fun _ => False) wz w') { tmps := #[u0, .slice A1 m1 c1, .int .i64 (n : Int), u3, u4, u5, u6, .pointer (some ⟨p, 0, none⟩), u8, u9, u10, u11, u12, u13, u14, u15, u16, u17, u18, u19, u20, u21, u22, .slice (some ⟨ab, 0, none⟩) 3 3, u24, u25, u26, u27, u28, u29, u30, u31, u32, u33, u34, u35, u36, u37, u38, u39, u40, u41, u42, u43, u44, u45, u46, u47, u48, u49, u50, u51, u52, u53, u54, u55, u56, u57, u58, u59, u60, u61, u62, u63, u64, u65, u66, u67, u68, u69, u70, u71, u72, u73, u74, u75, u76, u77, u78, u79, u80, u81, u82, u83, u84, u85, u86, u87, u88, u89, u90, u91, u92, u93, u94, u95, u96, u97, u98, u99, u100, u101, u102, u103, u104, u105, u106, u107, u108, u109, u110, u111, u112, u113, u114, u115, u116, u117, u118, u119, u120, u121, u122, u123, u124, u125, u126, u127, u128, u129, u130, u131, u132, u133, u134, u135, u136, u137, u138, u139, u140, u141, u142, u143, u144, u145, u146, u147, u148, u149, u150, u151, u152, u153, u154, u155, u156, u157, u158, u159, u160, u161, u162, u163, u164, u165, u166, u167, u168, u169, u170, u171, u172, u173, u174, u175, u176, u177, u178, u179, u180, u181, u182, u183, u184, u185, u186, u187, u188, u189, u190, u191, u192, u193, u194, u195, u196, u197, u198, u199, u200, u201, u202, u203, u204, u205, u206, u207, u208, u209, u210, u211, u212, u213, u214, u215, u216, u217, u218, u219, u220, u221, u222, u223, u224, u225, u226, u227, u228, u229, u230, u231, u232, u233, u234, u235, u236, u237, u238, u239, u240, u241, u242, u243, u244, u245, u246, u247, u248, u249, u250, u251, u252, u253, u254, u255, u256, u257, u258, u259, u260, u261, u262, u263, u264, u265, u266, u267, u268, u269, u270, u271, u272], defers := [] } wr := by
  obtain ⟨wb, rfl⟩ : ∃ z, z = wr := ⟨_, rfl⟩
  have HK := hide hK0
  have HT := hide hT0
  have HP := hide hP
  have HFar := hide hfar
  have HFO := hide hFO
  clear hK0 hT0 hP hFO hfar
  refine wp_tail rfl ?_
  simp only [tailC]
  go_upto_block 2 with fail
  go_cut [24] (fun _ wx => ∃ V, BFO wb wx ab fA fn fc fg V ∧ ∀ j, j < 3 → V j = fullB fn j)
  case first =>
    go_wp2_with fail
    go_loopw [24] (fun v wx => ∃ (i : Nat) (V : Nat → List Nat), v = .int .i64 (i : Int) ∧ i ≤ 3 ∧ BFO wb wx ab fA fn fc fg V ∧ FilledB fn V i 0) (fun v _ => 3 - (intOf v).toNat)
    case atStart => exact ⟨0, V, rfl, by omega, HFO.out, ⟨fun j hj => absurd hj (by omega), by simp⟩⟩
    case round =>
      obtain ⟨i, V, rfl, hi3, hFO, hV⟩ := hrel
      clear HFO
      by_cases hlt : i < 3
      · have HO := hide hFO
        have HV := hide hV
        have hni := hnb i hlt
        clear hFO hV
        have i1 : (0 : Int) ≤ (i : Int) := by omega
        have i2 : (i : Int) < 3 := by omega
        obtain ⟨x4, hx4⟩ : ∃ x, 40 * i = x := ⟨_, rfl⟩
        have q4 : IntKind.i64.wrap (40 * (i : Int)) = (x4 : Int) := by rw [show 40 * (i : Int) = (x4 : Int) by omega]; exact IntWalk.i64_in _ (by omega)
        have Hx4 := hide hx4
        clear hx4
        obtain ⟨wo, rfl⟩ : ∃ z, z = wr := ⟨_, rfl⟩
        go_wp2_with fail
        go_loopw [25] (fun v wx => ∃ (k : Nat) (V : Nat → List Nat), v = .int .i64 (k : Int) ∧ k ≤ fn i ∧ BFO wb wx ab fA fn fc fg V ∧ FilledB fn V i k) (fun v _ => fn i - (intOf v).toNat)
        case atStart => exact ⟨0, V, rfl, by omega, HO.out, HV.out⟩
        case round =>
          obtain ⟨k, V, rfl, hk, hFO, hV⟩ := hrel
          clear HO HV
          have hcell := bl3 hFO.bl hlt
          by_cases hkl : k < fn i
          · obtain ⟨u, hu⟩ : ∃ u, ((V i).map bn)[k]? = some u := ⟨_, List.getElem?_eq_getElem (by rw [List.length_map, hFO.len hlt]; exact hkl)⟩
            obtain ⟨b, o, hAi, hgb, hc, hz⟩ := (hFO.ow i hlt).look hu
            obtain ⟨y, hy⟩ : ∃ y, (40 * i + k) % 256 = y := ⟨_, rfl⟩
            have hput := hFO.put hlt hkl hAi ((40 * i + k) % 256)
            have hV2 := hV.step (by rw [hFO.len hlt]; exact hkl)
            rw [hy] at hput hV2
            have Hput := hide hput
            have HV2 := hide hV2
            rw [hAi] at hcell
            obtain ⟨z, hzz⟩ : ∃ z, x4 + k = z := ⟨_, rfl⟩
            have q5 : IntKind.i64.wrap ((x4 : Int) + (k : Int)) = (z : Int) := by rw [show (x4 : Int) + (k : Int) = (z : Int) by omega]; exact IntWalk.i64_in _ (by have := Hx4.out; omega)
            have q7 : IntKind.u8.wrap (z : Int) = (y : Int) := by rw [wrap8, ← hzz, ← Hx4.out, hy]
            clear hu hFO hV hAi hgb hput hV2 hy hzz
            have k1 : (0 : Int) ≤ (k : Int) := by omega
            have k2 : (k : Int) < (fn i : Int) := by omega
            go_wp2_with fail
            exact ⟨⟨k + 1, _, by go_num, by omega, Hput.out, HV2.out⟩, by simp [intOf]; omega⟩
          · have Hend := hide (hV.done (hFO.len hlt) (by omega))
            have HO := hide hFO
            clear hFO hV
            go_wp2_with fail
            exact ⟨⟨i + 1, V, by go_num, by omega, HO.out, Hend.out⟩, by simp [intOf]; omega⟩
      · obtain rfl : i = 3 := by omega
        have HO := hide hFO
        have HV := hide hV
        clear hFO hV
        go_wp2_with fail
        go_meet
        case rel => exact ⟨V, HO.out, HV.out.1⟩
  case rest =>
  obtain ⟨V2, hFO2, hV2⟩ := hcut
  have hK2 := HK.out.away hFO2.fr (fun b ⟨j, hj, e⟩ => ⟨(HFar.out j hj b e).1, (HFar.out j hj b e).2.1, (HFar.out j hj b e).2.2.1⟩)
  have hT2 := HT.out.fr (B := 0) hFO2.fr (fun b ⟨o, e⟩ hb ⟨j, hj, e2⟩ => (HFar.out j hj b e2).2.2.2 o e)
  apply_assumption
  exact own12_tail16 wz w0 wc hwz q p n t0 t1 N B F s P1 A1 m1 c1 g1 hn hN hx1 hl1 HP.out hK2 hT2 ab fA fn fc fg V2 hnb HFar.out ⟨hFO2.hgd, hFO2.bl, hFO2.ow, Fr.refl _ _⟩ hV2 _ _ _ _ _ _ _ _ _ _ _ _ _ _ _ _ _ _ _ _ _ _ _ _ _ _ _ _ _ _ _ _ _ _ _ _ _ _ _ _ _ _ _ _ _ _ _ _ _ _ _ _ _ _ _ _ _ _ _ _ _ _ _ _ _ _ _ _ _ _ _ _ _ _ _ _ _ _ _ _ _ _ _ _ _ _ _ _ _ _ _ _ _ _ _ _ _ _ _ _ _ _ _ _ _ _ _ _ _ _ _ _ _ _ _ _ _ _ _ _ _ _ _ _ _ _ _ _ _ _ _ _ _ _ _ _ _ _ _ _ _ _ _ _ _ _ _ _ _ _ _ _ _ _ _ _ _ _ _ _ _ _ _ _ _ _ _ _ _ _ _ _ _ _ _ _ _ _ _ _ _ _ _ _ _ _ _ _ _ _ _ _ _ _ _ _ _ _ _ _ _ _ _ _ _ _ _ _ _ _ _ _ _ _ _ _ _ _ _ _ _ _ _ _ _ _ _ _ _ _ _ _ _ _ _ _ _ _ _ _ _ _ _ _ _ _ _ _ _ _ _ _ _ _ _ _ _ _ _ _ _ _ _ _ _ _ _ _ _ 

end Go.Proofs.Ytchajbiloaiekaa
