/-
  StillOwn: the walk, from behind.
-/
import Derived.Test.YtchajbiloaiekaaSo1
import Derived.Deep.CutBlock
namespace Go.Proofs.Ytchajbiloaiekaa
open Go.RowKit
set_option linter.unusedVariables false
attribute [local go_sem ↓] Go.wp_at_zero Go.wp_at_succ
/-- Code behind the first n statements of a row. -/
def tailC : Nat → Code → Code
  | 0, c => c
  | n + 1, .seq _ b => tailC n b
  | _, c => c
theorem wp_tail {P : Program} {fn : Func} {n : Nat} {c : Code} {Q : Exit → Act → World → Prop} {a : Act} {w : World} (hb : fn.body = some c) (h : (tailC n c).wp P Q a w) : (tailC n (fn.body.getD .skip)).wp P Q a w := by
  rw [hb]; exact h
set_option maxHeartbeats 8000000 in
set_option maxRecDepth 100000 in
theorem own12_tail19 (wz w0 wr : World) (hwz : Fr (fun _ => False) wz w0) (q p n t0 t1 N B : Nat) (F : Nat → Prop) (s : DS) (P1 : List Nat) (A1 : Option Addr) (m1 c1 : Nat) (g1 : Option Nat) (hn : 2 ≤ n ∧ n ≤ 21) (hN : 0 + 2 * n ≤ N) (hx1 : ∀ x ∈ P1, x < 256) (hl1 : P1.length = m1) (hP : openP s.told 0 n = P1) (hK0 : KW w0 wr q p 0 n t0 t1 N F s B) (hT0 : Sl wr 1 A1 m1 (P1.map bn))
    (u0 u3 u4 u5 u6 u8 u9 u10 u11 u12 u13 u14 u15 u16 u17 u18 u19 u20 u21 u22 u23 u24 u25 u26 u27 u28 u29 u30 u31 u32 u33 u34 u35 u36 u37 u38 u39 u40 u41 u42 u43 u44 u45 u46 u47 u48 u49 u50 u51 u52 u53 u54 u55 u56 u57 u58 u59 u60 u61 u62 u63 u64 u65 u66 u67 u68 u69 u70 u71 u72 u73 u74 u75 u76 u77 u78 u79 u80 u81 u82 u83 u84 u85 u86 u87 u88 u89 u90 u91 u92 u93 u94 u95 u96 u97 u98 u99 u100 u101 u102 u103 u104 u105 u106 u107 u108 u109 u110 u111 u112 u113 u114 u115 u116 u117 u118 u119 u120 u121 u122 u123 u124 u125 u126 u127 u128 u129 u130 u131 u132 u133 u134 u135 u136 u137 u138 u139 u140 u141 u142 u143 u144 u145 u146 u147 u148 u149 u150 u151 u152 u153 u154 u155 u156 u157 u158 u159 u160 u161 u162 u163 u164 u165 u166 u167 u168 u169 u170 u171 u172 u173 u174 u175 u176 u177 u178 u179 u180 u181 u182 u183 u184 u185 u186 u187 u188 u189 u190 u191 u192 u193 u194 u195 u196 u197 u198 u199 u200 u201 u202 u203 u204 u205 u206 u207 u208 u209 u210 u211 u212 u213 u214 u215 u216 u217 u218 u219 u220 u221 u222 u223 u224 u225 u226 u227 u228 u229 u230 u231 u232 u233 u234 u235 u236 u237 u238 u239 u240 u241 u242 u243 u244 u245 u246 u247 u248 u249 u250 u251 u252 u253 u254 u255 u256 u257 u258 u259 u260 u261 u262 u263 u264 u265 u266 u267 u268 u269 u270 u271 u272 : Value) :
    Code.wp Try.prog (tailC 19 (Try.f3.body.getD .skip)) (bodyPost Try.prog Try.f3 fun e w' => e = .returned (.bool true) ∧ Fr (fun _ => False) wz w') { tmps := #[u0, .slice A1 m1 c1, .int .i64 (n : Int), u3, u4, u5, u6, .pointer (some ⟨p, 0, none⟩), u8, u9, u10, u11, u12, u13, u14, u15, u16, u17, u18, u19, u20, u21, u22, u23, u24, u25, u26, u27, u28, u29, u30, u31, u32, u33, u34, u35, u36, u37, u38, u39, u40, u41, u42, u43, u44, u45, u46, u47, u48, u49, u50, u51, u52, u53, u54, u55, u56, u57, u58, u59, u60, u61, u62, u63, u64, u65, u66, u67, u68, u69, u70, u71, u72, u73, u74, u75, u76, u77, u78, u79, u80, u81, u82, u83, u84, u85, u86, u87, u88, u89, u90, u91, u92, u93, u94, u95, u96, u97, u98, u99, u100, u101, u102, u103, u104, u105, u106, u107, u108, u109, u110, u111, u112, u113, u114, u115, u116, u117, u118, u119, u120, u121, u122, u123, u124, u125, u126, u127, u128, u129, u130, u131, u132, u133, u134, u135, u136, u137, u138, u139, u140, u141, u142, u143, u144, u145, u146, u147, u148, u149, u150, u151, u152, u153, u154, u155, u156, u157, u158, u159, u160, u161, u162, u163, u164, u165, u166, u167, u168, u169, u170, u171, u172, u173, u174, u175, u176, u177, u178, u179, u180, u181, u182, u183, u184, u185, u186, u187, u188, u189, u190, u191, u192, u193, u194, u195, u196, u197, u198, u199, u200, u201, u202, u203, u204, u205, u206, u207, u208, u209, u210, u211, u212, u213, u214, u215, u216, u217, u218, u219, u220, u221, u222, u223, u224, u225, u226, u227, u228, u229, u230, u231, u232, u233, u234, u235, u236, u237, u238, u239, u240, u241, u242, u243, u244, u245, u246, u247, u248, u249, u250, u251, u252, u253, u254, u255, u256, u257, u258, u259, u260, u261, u262, u263, u264, u265, u266, u267, u268, u269, u270, u271, u272], defers := [] } wr := by
  have HK := hide hK0
  have HT := hide hT0
  have HP := hide hP
  clear hK0 hT0 hP
  refine wp_tail rfl ?_
  simp only [tailC]
  have hop := open_any (fr := 0) (n := n) HK.out.di HK.out.fz (by omega) hN HK.out.lt
  go_wp2_with fail
  refine hop.mono ?_
  rintro e w5 ho
  obtain ⟨q5, A5, c5, g5, rfl, hK5, hO5, -, hf5, -⟩ := KW.opened (B := B) HK.out.di HK.out.nF HK.out.fr_ HK.out.fz HK.out.row HK.out.lt HK.out.wr HK.out.sy ho
  rw [HP.out] at hO5 ⊢
  rw [hl1] at hO5 ⊢
  have hSM := same12_true w5 P1 hx1 A5 A1 m1 m1 c5 c1 hO5.sl (HT.out.below hf5 (fun _ _ => id))
  have HF := hide (HK.out.fr_.trans hf5)
  clear hop ho hK5 hO5 hf5
  go_wp2_with fail
  refine hSM.mono ?_
  rintro e w' ⟨rfl, rfl⟩
  go_wp2_with fail
  go_ret
  exact ⟨rfl, hwz.trans HF.out⟩

set_option maxHeartbeats 8000000 in
set_option maxRecDepth 100000 in
theorem own12_tail18 (wz w0 wr : World) (hwz : Fr (fun _ => False) wz w0) (q p n t0 t1 N B : Nat) (F : Nat → Prop) (s : DS) (P1 : List Nat) (A1 : Option Addr) (m1 c1 : Nat) (g1 : Option Nat) (hn : 2 ≤ n ∧ n ≤ 21) (hN : 0 + 2 * n ≤ N) (hx1 : ∀ x ∈ P1, x < 256) (hl1 : P1.length = m1) (hP : openP s.told 0 n = P1) (hK0 : KW w0 wr q p 0 n t0 t1 N F s B) (hT0 : Sl wr 1 A1 m1 (P1.map bn))
    (wb : World) (ab : Nat) (fA : Nat → Option Addr) (fn fc : Nat → Nat) (fg : Nat → Option Nat) (Rs : List RSl) (G : Option Addr) (gc : Nat) (gg : Option Nat) (gs : List (Option Addr × Nat × Nat)) (hnb : ∀ j, j < 3 → fn j ≤ 1344) (hG0 : BGO wb wr ab fA fn fc fg 3 Rs G gc gg gs)
    (u0 u3 u4 u5 u6 u8 u9 u10 u11 u12 u13 u14 u15 u16 u17 u18 u19 u20 u21 u22 u24 u25 u27 u28 u29 u30 u31 u32 u33 u34 u35 u36 u37 u38 u39 u40 u41 u42 u43 u44 u45 u46 u47 u48 u49 u50 u51 u52 u53 u54 u55 u56 u57 u58 u59 u60 u61 u62 u63 u64 u65 u66 u67 u68 u69 u70 u71 u72 u73 u74 u75 u76 u77 u78 u79 u80 u81 u82 u83 u84 u85 u86 u87 u88 u89 u90 u91 u92 u93 u94 u95 u96 u97 u98 u99 u100 u101 u102 u103 u104 u105 u106 u107 u108 u109 u110 u111 u112 u113 u114 u115 u116 u117 u118 u119 u120 u121 u122 u123 u124 u125 u126 u127 u128 u129 u130 u131 u132 u133 u134 u135 u136 u137 u138 u139 u140 u141 u142 u143 u144 u145 u146 u147 u148 u149 u150 u151 u152 u153 u154 u155 u156 u157 u158 u159 u160 u161 u162 u163 u164 u165 u166 u167 u168 u169 u170 u171 u172 u173 u174 u175 u176 u177 u178 u179 u180 u181 u182 u183 u184 u185 u186 u187 u188 u189 u190 u191 u192 u193 u194 u195 u196 u197 u198 u199 u200 u201 u202 u203 u204 u205 u206 u207 u208 u209 u210 u211 u212 u213 u214 u215 u216 u217 u218 u219 u220 u221 u222 u223 u224 u225 u226 u227 u228 u229 u230 u231 u232 u233 u234 u235 u236 u237 u238 u239 u240 u241 u242 u243 u244 u245 u246 u247 u248 u249 u250 u251 u252 u253 u254 u255 u256 u257 u258 u259 u260 u261 u262 u263 u264 u265 u266 u267 u268 u269 u270 u271 u272 : Value) :
    Code.wp Try.prog (tailC 18 (Try.f3.body.getD .skip)) (bodyPost Try.prog Try.f3 fun e w' => e = .returned (.bool true) ∧ Fr (fun _ => False) wz w') { tmps := #[u0, .slice A1 m1 c1, .int .i64 (n : Int), u3, u4, u5, u6, .pointer (some ⟨p, 0, none⟩), u8, u9, u10, u11, u12, u13, u14, u15, u16, u17, u18, u19, u20, u21, u22, .slice (some ⟨ab, 0, none⟩) 3 3, u24, u25, .slice G 3 gc, u27, u28, u29, u30, u31, u32, u33, u34, u35, u36, u37, u38, u39, u40, u41, u42, u43, u44, u45, u46, u47, u48, u49, u50, u51, u52, u53, u54, u55, u56, u57, u58, u59, u60, u61, u62, u63, u64, u65, u66, u67, u68, u69, u70, u71, u72, u73, u74, u75, u76, u77, u78, u79, u80, u81, u82, u83, u84, u85, u86, u87, u88, u89, u90, u91, u92, u93, u94, u95, u96, u97, u98, u99, u100, u101, u102, u103, u104, u105, u106, u107, u108, u109, u110, u111, u112, u113, u114, u115, u116, u117, u118, u119, u120, u121, u122, u123, u124, u125, u126, u127, u128, u129, u130, u131, u132, u133, u134, u135, u136, u137, u138, u139, u140, u141, u142, u143, u144, u145, u146, u147, u148, u149, u150, u151, u152, u153, u154, u155, u156, u157, u158, u159, u160, u161, u162, u163, u164, u165, u166, u167, u168, u169, u170, u171, u172, u173, u174, u175, u176, u177, u178, u179, u180, u181, u182, u183, u184, u185, u186, u187, u188, u189, u190, u191, u192, u193, u194, u195, u196, u197, u198, u199, u200, u201, u202, u203, u204, u205, u206, u207, u208, u209, u210, u211, u212, u213, u214, u215, u216, u217, u218, u219, u220, u221, u222, u223, u224, u225, u226, u227, u228, u229, u230, u231, u232, u233, u234, u235, u236, u237, u238, u239, u240, u241, u242, u243, u244, u245, u246, u247, u248, u249, u250, u251, u252, u253, u254, u255, u256, u257, u258, u259, u260, u261, u262, u263, u264, u265, u266, u267, u268, u269, u270, u271, u272], defers := [] } wr := by
  have HK := hide hK0
  have HT := hide hT0
  have HG := hide hG0
  have HP := hide hP
  clear hK0 hT0 hG0 hP
  refine wp_tail rfl ?_
  simp only [tailC]
  go_upto_block 10 with fail
  go_cut [30] (fun _ wx => wx = wr)
  case first =>
    go_wp2_with fail
    go_loopw [30] (fun v wx => ∃ i : Nat, v = .int .i64 (i : Int) ∧ i ≤ 3 ∧ wx = wr) (fun v _ => 3 - (intOf v).toNat)
    case atStart => exact ⟨0, rfl, by omega, rfl⟩
    case round =>
      obtain ⟨i, rfl, hi, hwr⟩ := hrel
      subst hwr
      by_cases hlt : i < 3
      · obtain ⟨⟨ra, rn, rc⟩, hr⟩ : ∃ r, gs[i]? = some r := ⟨_, List.getElem?_eq_getElem (by have := HG.out.len; omega)⟩
        obtain ⟨hrn, hrm⟩ := HG.out.gr i _ hr
        obtain ⟨gb, go, rfl, -, d1, -⟩ := HG.out.row.look (j := i) (u := .slice ra rn rc) (by rw [List.getElem?_map, hr]; rfl)
        have hSr : Sl wr 1 ra rn ((grownB fn i 70).map bn) := (HG.out.ok _ hrm).1.1
        have hSa : Sl wr 1 (fA i) (fn i) ((fullB fn i).map bn) := (HG.out.ok _ (HG.out.all i hlt)).1.1
        have d2 := bl3 HG.out.bl hlt
        have hni := hnb i hlt
        have hrn' : rn = fn i + 70 := hrn
        subst hrn'
        obtain ⟨m, hm⟩ : ∃ m, fn i = m := ⟨_, rfl⟩
        obtain ⟨x4, hx4⟩ : ∃ x, 40 * i = x := ⟨_, rfl⟩
        obtain ⟨x9, hx9⟩ : ∃ x, 90 * i = x := ⟨_, rfl⟩
        obtain ⟨M, hM⟩ : ∃ x, m + 70 = x := ⟨_, rfl⟩
        have q1 : IntKind.i64.wrap ((m : Int) + 70) = (M : Int) := by rw [show (m : Int) + 70 = (M : Int) by omega]; exact IntWalk.i64_in _ (by omega)
        have q4 : IntKind.i64.wrap (40 * (i : Int)) = (x4 : Int) := by rw [show 40 * (i : Int) = (x4 : Int) by omega]; exact IntWalk.i64_in _ (by omega)
        have q9 : IntKind.i64.wrap (90 * (i : Int)) = (x9 : Int) := by rw [show 90 * (i : Int) = (x9 : Int) by omega]; exact IntWalk.i64_in _ (by omega)
        have Hx := hide (And.intro hm (And.intro hx4 (And.intro hx9 hM)))
        have j1 : (0 : Int) ≤ (i : Int) := by omega
        have j2 : (i : Int) < 3 := by omega
        rw [hm] at d2 hni
        rw [hm, hM] at d1
        have HSr := hide hSr
        have HSa := hide hSa
        clear hr hrm hrn hm hx4 hx9 hM hSr hSa
        go_wp2_with fail
        go_loopw [32] (fun v wx => ∃ k : Nat, v = .int .i64 (k : Int) ∧ k ≤ M ∧ wx = wr) (fun v _ => M - (intOf v).toNat)
        case atStart => exact ⟨0, rfl, by omega, rfl⟩
        case round =>
          obtain ⟨k, rfl, hk, hwx⟩ := hrel
          subst hwx
          have k1 : (0 : Int) ≤ (k : Int) := by omega
          have hM2 := Hx.out.2.2.2
          by_cases hkl : k < M
          · have k2 : (k : Int) < (M : Int) := by omega
            by_cases hki : k < m
            · obtain ⟨y, hy⟩ : ∃ y, (40 * i + k) % 256 = y := ⟨_, rfl⟩
              have hg := get_fullB fn i k (by rw [Hx.out.1]; exact hki)
              rw [hy] at hg
              obtain ⟨fb, fo, hfa, d4⟩ := HSa.out.at_ hg
              rw [hfa] at d2
              have d5 : wr.cell? ⟨fb, fo + k, none⟩ = some (.int .u8 (y : Int)) := d4
              obtain ⟨z, hz⟩ : ∃ z, x4 + k = z := ⟨_, rfl⟩
              have q5 : IntKind.i64.wrap ((x4 : Int) + (k : Int)) = (z : Int) := by rw [show (x4 : Int) + (k : Int) = (z : Int) by omega]; exact IntWalk.i64_in _ (by have := Hx.out.2.1; omega)
              have q6 : IntKind.u8.wrap (z : Int) = (y : Int) := by rw [wrap8, ← hz, ← Hx.out.2.1, hy]
              have k3 : (k : Int) < (m : Int) := by omega
              have k4 : ¬ (m : Int) ≤ (k : Int) := by omega
              clear hy hz d4 hg hfa
              go_wp2_with fail
              exact ⟨⟨k + 1, by go_num, by omega, trivial⟩, by simp [intOf]; omega⟩
            · obtain ⟨y, hy⟩ : ∃ y, (90 * i + (k - fn i) + 1) % 256 = y := ⟨_, rfl⟩
              have hg := get_grownB fn i 70 k (by rw [Hx.out.1]; exact hki) (by rw [Hx.out.1]; omega)
              rw [hy] at hg
              obtain ⟨fb, fo, rfl, d4⟩ := HSr.out.at_ hg
              have d5 : wr.cell? ⟨fb, fo + k, none⟩ = some (.int .u8 (y : Int)) := d4
              obtain ⟨z, hz⟩ : ∃ z, x9 + k = z := ⟨_, rfl⟩
              obtain ⟨z2, hz2⟩ : ∃ z2, z - m = z2 := ⟨_, rfl⟩
              have hi2 := Hx.out.2.2.1
              have q5 : IntKind.i64.wrap ((x9 : Int) + (k : Int)) = (z : Int) := by rw [show (x9 : Int) + (k : Int) = (z : Int) by omega]; exact IntWalk.i64_in _ (by omega)
              have q7 : IntKind.i64.wrap ((z : Int) - (m : Int)) = (z2 : Int) := by rw [show (z : Int) - (m : Int) = (z2 : Int) by omega]; exact IntWalk.i64_in _ (by omega)
              have q8 : IntKind.i64.wrap ((z2 : Int) + 1) = ((z2 + 1 : Nat) : Int) := by rw [show (z2 : Int) + 1 = ((z2 + 1 : Nat) : Int) by omega]; exact IntWalk.i64_in _ (by omega)
              obtain ⟨z3, hz3⟩ : ∃ z3, z2 + 1 = z3 := ⟨_, rfl⟩
              rw [hz3] at q8
              have q6 : IntKind.u8.wrap (z3 : Int) = (y : Int) := by rw [wrap8, ← hz3, ← hy, Hx.out.1]; congr 2; omega
              have k3 : ¬ (k : Int) < (m : Int) := by omega
              have k4 : (m : Int) ≤ (k : Int) := by omega
              clear hy hz hz2 hz3 d4 hg hi2
              go_wp2_with fail
              exact ⟨⟨k + 1, by go_num, by omega, trivial⟩, by simp [intOf]; omega⟩
          · obtain rfl : k = M := by omega
            go_wp2_with fail
            exact ⟨⟨i + 1, by go_num, by omega, trivial⟩, by simp [intOf]; omega⟩
      · obtain rfl : i = 3 := by omega
        go_wp2_with fail
        go_meet
        case rel => rfl
  case rest =>
  obtain rfl := hcut
  apply_assumption
  exact own12_tail19 wz w0 wc hwz q p n t0 t1 N B F s P1 A1 m1 c1 g1 hn hN hx1 hl1 HP.out HK.out HT.out _ _ _ _ _ _ _ _ _ _ _ _ _ _ _ _ _ _ _ _ _ _ _ _ _ _ _ _ _ _ _ _ _ _ _ _ _ _ _ _ _ _ _ _ _ _ _ _ _ _ _ _ _ _ _ _ _ _ _ _ _ _ _ _ _ _ _ _ _ _ _ _ _ _ _ _ _ _ _ _ _ _ _ _ _ _ _ _ _ _ _ _ _ _ _ _ _ _ _ _ _ _ _ _ _ _ _ _ _ _ _ _ _ _ _ _ _ _ _ _ _ _ _ _ _ _ _ _ _ _ _ _ _ _ _ _ _ _ _ _ _ _ _ _ _ _ _ _ _ _ _ _ _ _ _ _ _ _ _ _ _ _ _ _ _ _ _ _ _ _ _ _ _ _ _ _ _ _ _ _ _ _ _ _ _ _ _ _ _ _ _ _ _ _ _ _ _ _ _ _ _ _ _ _ _ _ _ _ _ _ _ _ _ _ _ _ _ _ _ _ _ _ _ _ _ _ _ _ _ _ _ _ _ _ _ _ _ _ _ _ _ _ _ _ _ _ _ _ _ _ _ _ _ _ _ _ _ _ _ _ _ _ _ _ _ _ _ _ _ _ 

end Go.Proofs.Ytchajbiloaiekaa
