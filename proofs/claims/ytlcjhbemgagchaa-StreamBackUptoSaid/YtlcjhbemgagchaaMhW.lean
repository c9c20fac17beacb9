/-
  Texts merged into one, to keep the claim small: Sw5.
-/
import Derived.Test.YtlcjhbemgagchaaMhS
import Derived.Test.YtlcjhbemgagchaaMhV
import Derived.Test.YtlcjhbemgagchaaMhT
import Derived.Deep.CutBlock
/-
  StreamBack: the walk. (printed by pr_sw5.py)
-/
namespace Go.Proofs.Ytlcjhbemgagchaa
open Go.RowKit
set_option linter.unusedVariables false
theorem infoCm3 : (Try.prog.info? tCm).map (fun i => (i.zero, i.size, i.bytes)) = some (some (.agg #[.int .i64 0, .int .i64 0, .string ⟨#[]⟩, .int .i64 0, .int .u64 0, .int .i64 0, .int .i64 0, .int .i64 0, .int .i64 0, .int .i64 0, .int .u64 0, .int .u64 0, .slice none 0 0, .int .i64 0, .int .i64 0, .int .i64 0, .int .i64 0, .int .i64 0, .int .i64 0, .int .u64 0, .int .u64 0, .int .u64 0, .int .i64 0, .slice none 0 0]), 24, 232) := by kernel_rfl
theorem sl_cm (w : World) (q : KC) (e : TypeId) : Sl (w.alloc (.cells (ccells q).toArray e)) 24 (some ⟨w.heap.size, 0, none⟩) 1 (ccells q) := by
  refine ⟨rfl, fun _ => ⟨w.heap.size, 0, rfl, fun j u hu => ?_⟩⟩
  have hb := Bl.new w e (ccells q).toArray
  rw [Nat.zero_add]
  exact hb.cell' (by rw [List.getElem?_toArray]; exact hu)
/-- What was taken so far, and the frames of it. -/
structure BkA (w wr : World) (qs : List KC) (line : List Nat) (LA QA : Option Addr) (ln lc qn qc : Nat) (lg qg : Option Nat) : Prop where
  fr : Fr (fun _ => False) w wr
  li : Ow wr 5 1 LA ln lc (line.map bn) lg
  len : ln = line.length
  new : ∀ b, lg = some b → w.heap.size ≤ b
  as_ : Ckr w wr qs QA qn qc qg
  ok : ∀ q ∈ qs, q.ok = true ∧ q.wf
  is_ : line = qs.flatMap (fun q => fr3 q.form)
theorem BkA.bd {w wr : World} {qs : List KC} {line : List Nat} {LA QA : Option Addr} {ln lc qn qc : Nat} {lg qg : Option Nat} (h : BkA w wr qs line LA QA ln lc qn qc lg qg) : ln ≤ 515 * qn := by
  have : ∀ l : List KC, (∀ q ∈ l, q.ok = true ∧ q.wf) → (l.flatMap (fun q => fr3 q.form)).length ≤ 515 * l.length := fun l => by
    induction l with
    | nil => intro _; simp
    | cons q l ih =>
      intro hq
      have h1 := ih fun x hx => hq x (List.mem_cons_of_mem _ hx)
      obtain ⟨k1, k2⟩ := hq q (List.mem_cons_self ..)
      have h2 := (KC.short k1 k2).2
      rw [List.flatMap_cons, List.length_append, fr3_len, List.length_cons]
      omega
  rw [h.len, h.as_.len, h.is_]
  exact this qs h.ok
theorem BkA.quiet {w wr wr' : World} {qs : List KC} {line : List Nat} {LA QA : Option Addr} {ln lc qn qc : Nat} {lg qg : Option Nat} (h : BkA w wr qs line LA QA ln lc qn qc lg qg) (hf : Fr (fun _ => False) wr wr') : BkA w wr' qs line LA QA ln lc qn qc lg qg :=
  ⟨h.fr.trans hf, h.li.fr hf (fun _ _ => id), h.len, h.new, h.as_.quiet hf, h.ok, h.is_⟩
theorem BkA.start (w wr : World) (h : Fr (fun _ => False) w wr) : BkA w wr [] [] none none 0 0 0 0 none none :=
  ⟨h, Ow.nil_ _ _ _, rfl, (fun b e => by cases e), Ckr.nil_ _ _, (fun q h => by cases h), rfl⟩
/-- One more. -/
theorem BkA.more {w w1 w2 w3 w4 : World} {qs : List KC} {line : List Nat} {LA QA LA' QA' : Option Addr} {ln lc qn qc lc' qc' : Nat} {lg qg lg' qg' : Option Nat} (h : BkA w w1 qs line LA QA ln lc qn qc lg qg) {q : KC} (hq : q.at_ w) (hok : q.ok = true ∧ q.wf) {m : Nat} (hm : m = (fr3 q.form).length)
    (hf1 : Fr (fun _ => False) w1 w2) (hO : Ow w3 tCm 24 QA' (qn + 1) qc' (qs.flatMap ccells ++ ccells q) qg') (hf2 : Fr (fun x => some x = qg) w2 w3) (hg : qg' = qg ∨ ∃ b, qg' = some b ∧ w2.heap.size ≤ b)
    (hL : Ow w4 5 1 LA' (ln + m) lc' (line.map bn ++ (fr3 q.form).map bn) lg') (hf3 : Fr (fun x => some x = lg) w3 w4) (hl : lg' = lg ∨ ∃ b, lg' = some b ∧ w3.heap.size ≤ b) : BkA w w4 (qs ++ [q]) (line ++ fr3 q.form) LA' QA' (ln + m) lc' (qn + 1) qc' lg' qg' := by
  have z1 := h.fr.size
  have z2 := hf1.size
  have z3 := hf2.size
  have ht : ∀ b, lg = some b → Typed w3 b 5 := fun b e => (((h.li.typed b e).fr hf1 id).fr hf2 (fun e2 => by
    have t1 := (h.li.typed b e).fr hf1 id
    have t2 := (h.as_.ow.typed b e2.symm).fr hf1 id
    exact absurd (t1.same t2) (by decide)))
  refine ⟨((h.fr.trans hf1).comp hf2 fun i hi e => by have := h.as_.new i e.symm; omega).comp hf3 fun i hi e => by have := h.new i e.symm; omega, by rw [List.map_append]; exact hL, by rw [List.length_append, hm, h.len], fun b e => ?_, ?_, fun x hx => ?_, by rw [h.is_]; simp [List.flatMap_append]⟩
  · rcases hl with rfl | ⟨b', rfl, hb⟩
    · exact h.new b e
    · cases e; omega
  · have hk := (Ckr.app (h.as_.quiet hf1) (by omega) hq hO hg)
    exact hk.keep hf3 fun b e e2 => absurd ((hO.typed b e).same (ht b e2.symm)) (by decide)
  · rcases List.mem_append.1 hx with hx | hx
    · exact h.ok x hx
    · obtain rfl : x = q := by simpa using hx
      exact hok
/-- What was taken so far, and the frames of it. -/
structure BkR (w wr : World) (qs : List RR) (line : List Nat) (LA QA : Option Addr) (ln lc qn qc : Nat) (lg qg : Option Nat) : Prop where
  fr : Fr (fun _ => False) w wr
  li : Ow wr 5 1 LA ln lc (line.map bn) lg
  len : ln = line.length
  new : ∀ b, lg = some b → w.heap.size ≤ b
  as_ : Rkr w wr qs QA qn qc qg
  ok : ∀ q ∈ qs, q.ok = true ∧ q.wf
  is_ : line = qs.flatMap (fun q => fr3 q.form)
theorem BkR.bd {w wr : World} {qs : List RR} {line : List Nat} {LA QA : Option Addr} {ln lc qn qc : Nat} {lg qg : Option Nat} (h : BkR w wr qs line LA QA ln lc qn qc lg qg) : ln ≤ 40003 * qn := by
  have : ∀ l : List RR, (∀ q ∈ l, q.ok = true ∧ q.wf) → (l.flatMap (fun q => fr3 q.form)).length ≤ 40003 * l.length := fun l => by
    induction l with
    | nil => intro _; simp
    | cons q l ih =>
      intro hq
      have h1 := ih fun x hx => hq x (List.mem_cons_of_mem _ hx)
      obtain ⟨k1, k2⟩ := hq q (List.mem_cons_self ..)
      have h2 := (RR.len k1 k2).1
      rw [List.flatMap_cons, List.length_append, fr3_len, List.length_cons]
      omega
  rw [h.len, h.as_.len, h.is_]
  exact this qs h.ok
theorem BkR.quiet {w wr wr' : World} {qs : List RR} {line : List Nat} {LA QA : Option Addr} {ln lc qn qc : Nat} {lg qg : Option Nat} (h : BkR w wr qs line LA QA ln lc qn qc lg qg) (hf : Fr (fun _ => False) wr wr') : BkR w wr' qs line LA QA ln lc qn qc lg qg :=
  ⟨h.fr.trans hf, h.li.fr hf (fun _ _ => id), h.len, h.new, h.as_.quiet hf, h.ok, h.is_⟩
theorem BkR.start (w wr : World) (h : Fr (fun _ => False) w wr) : BkR w wr [] [] none none 0 0 0 0 none none :=
  ⟨h, Ow.nil_ _ _ _, rfl, (fun b e => by cases e), Rkr.nil_ _ _, (fun q h => by cases h), rfl⟩
/-- One more. -/
theorem BkR.more {w w1 w2 w3 w4 : World} {qs : List RR} {line : List Nat} {LA QA LA' QA' : Option Addr} {ln lc qn qc lc' qc' : Nat} {lg qg lg' qg' : Option Nat} (h : BkR w w1 qs line LA QA ln lc qn qc lg qg) {q : RR} (hq : q.at_ w) (hok : q.ok = true ∧ q.wf) {m : Nat} (hm : m = (fr3 q.form).length)
    (hf1 : Fr (fun _ => False) w1 w2) (hO : Ow w3 tRpl 18 QA' (qn + 1) qc' (qs.flatMap rcells ++ rcells q) qg') (hf2 : Fr (fun x => some x = qg) w2 w3) (hg : qg' = qg ∨ ∃ b, qg' = some b ∧ w2.heap.size ≤ b)
    (hL : Ow w4 5 1 LA' (ln + m) lc' (line.map bn ++ (fr3 q.form).map bn) lg') (hf3 : Fr (fun x => some x = lg) w3 w4) (hl : lg' = lg ∨ ∃ b, lg' = some b ∧ w3.heap.size ≤ b) : BkR w w4 (qs ++ [q]) (line ++ fr3 q.form) LA' QA' (ln + m) lc' (qn + 1) qc' lg' qg' := by
  have z1 := h.fr.size
  have z2 := hf1.size
  have z3 := hf2.size
  have ht : ∀ b, lg = some b → Typed w3 b 5 := fun b e => (((h.li.typed b e).fr hf1 id).fr hf2 (fun e2 => by
    have t1 := (h.li.typed b e).fr hf1 id
    have t2 := (h.as_.ow.typed b e2.symm).fr hf1 id
    exact absurd (t1.same t2) (by decide)))
  refine ⟨((h.fr.trans hf1).comp hf2 fun i hi e => by have := h.as_.new i e.symm; omega).comp hf3 fun i hi e => by have := h.new i e.symm; omega, by rw [List.map_append]; exact hL, by rw [List.length_append, hm, h.len], fun b e => ?_, ?_, fun x hx => ?_, by rw [h.is_]; simp [List.flatMap_append]⟩
  · rcases hl with rfl | ⟨b', rfl, hb⟩
    · exact h.new b e
    · cases e; omega
  · have hk := (Rkr.app (h.as_.quiet hf1) (by omega) hq hO hg)
    exact hk.keep hf3 fun b e e2 => absurd ((hO.typed b e).same (ht b e2.symm)) (by decide)
  · rcases List.mem_append.1 hx with hx | hx
    · exact h.ok x hx
    · obtain rfl : x = q := by simpa using hx
      exact hok
/-- Code behind the first n statements of a row. -/
def tailC : Nat → Code → Code
  | 0, c => c
  | n + 1, .seq _ b => tailC n b
  | _, c => c
theorem wp_tail {P : Program} {fn : Func} {n : Nat} {c : Code} {Q : Exit → Act → World → Prop} {a : Act} {w : World} (hb : fn.body = some c) (h : (tailC n c).wp P Q a w) : (tailC n (fn.body.getD .skip)).wp P Q a w := by
  rw [hb]; exact h
set_option maxHeartbeats 4000000 in
set_option maxRecDepth 100000 in
attribute [-go_sem] Go.Instr.loadAt in
theorem back_tail19 (w wx : World) (told : List RR) (line2 : List Nat) (LA2 QA2 : Option Addr) (ln2 lc2 qn2 qc2 bF oF cF k : Nat) (lg2 qg2 : Option Nat)
    (hqn2 : qn2 ≤ 1048576) (hB : BkR w wx told line2 LA2 QA2 ln2 lc2 qn2 qc2 lg2 qg2) (h256 : ∀ x ∈ line2, x < 256) (hSF0 : Sl wx 1 (some ⟨bF, oF, none⟩) 6 (([0, 0, 3, 1, 1, 9] : List Nat).map bn)) (hk5 : k ≤ 5) (hcF1 : 6 ≤ cF)
    (u0 u1 u2 u3 u4 u5 u6 u7 u8 u10 u11 u12 u13 u14 u15 u16 u17 u18 u19 u20 u22 u23 u24 u25 u27 u29 u31 u32 u33 u34 u35 u36 u37 u38 u39 u40 u41 u42 u43 u44 u45 u46 u47 u48 u49 u50 u51 u52 u53 u54 u55 u56 u57 u58 u59 u60 u61 u62 u63 u64 u65 u66 u67 u68 u69 u70 u71 u72 u73 u74 u75 u76 u77 u78 u79 u80 u81 u82 u83 u84 u85 u86 u87 u88 u89 u90 u91 u92 u93 u94 u95 u96 u97 u98 u99 u100 u101 u102 u103 u104 u105 u106 u107 u108 u109 u110 u111 u112 u113 u114 u115 u116 u117 u118 u119 u120 u121 u122 u123 u124 u125 u126 u127 u128 u129 u130 u131 u132 u133 u134 u135 u136 u137 u138 u139 u140 u141 u142 u143 u144 u145 u146 u147 u148 u149 u150 u151 u152 u153 u154 u155 u156 u157 u158 u159 u160 u161 u162 u163 u164 u165 u166 u167 u168 u169 u170 u171 u172 u173 u174 u175 u176 u177 u178 u179 u180 u181 u182 u183 u184 u185 u186 u187 u188 u189 u190 u191 u192 u193 u194 u195 u196 u197 u198 u199 u200 u201 u202 u203 u204 u205 u206 u207 u208 u209 u210 u211 u212 u213 u214 u215 u216 u217 u218 u219 u220 u221 u222 u223 u224 u225 u226 u227 u228 u229 u230 u231 u232 u233 u234 u235 u236 u237 u238 u239 u240 u241 u242 u243 u244 u245 u246 u247 u248 u249 u250 u251 u252 u253 u254 : Value) :
    Code.wp Try.prog (tailC 19 (Try.f8.body.getD .skip)) (bodyPost Try.prog Try.f8 fun e w' => e = .returned (.bool true) ∧ Fr (fun _ => False) w w') { tmps := #[u0, u1, u2, u3, u4, u5, u6, u7, u8, .slice LA2 ln2 lc2, u10, u11, u12, u13, u14, u15, u16, u17, u18, u19, u20, .slice QA2 qn2 qc2, u22, u23, u24, u25, .int .i64 (ln2 : Int), u27, .slice (some ⟨bF, oF, none⟩) 6 cF, u29, .int .i64 (k : Int), u31, u32, u33, u34, u35, u36, u37, u38, u39, u40, u41, u42, u43, u44, u45, u46, u47, u48, u49, u50, u51, u52, u53, u54, u55, u56, u57, u58, u59, u60, u61, u62, u63, u64, u65, u66, u67, u68, u69, u70, u71, u72, u73, u74, u75, u76, u77, u78, u79, u80, u81, u82, u83, u84, u85, u86, u87, u88, u89, u90, u91, u92, u93, u94, u95, u96, u97, u98, u99, u100, u101, u102, u103, u104, u105, u106, u107, u108, u109, u110, u111, u112, u113, u114, u115, u116, u117, u118, u119, u120, u121, u122, u123, u124, u125, u126, u127, u128, u129, u130, u131, u132, u133, u134, u135, u136, u137, u138, u139, u140, u141, u142, u143, u144, u145, u146, u147, u148, u149, u150, u151, u152, u153, u154, u155, u156, u157, u158, u159, u160, u161, u162, u163, u164, u165, u166, u167, u168, u169, u170, u171, u172, u173, u174, u175, u176, u177, u178, u179, u180, u181, u182, u183, u184, u185, u186, u187, u188, u189, u190, u191, u192, u193, u194, u195, u196, u197, u198, u199, u200, u201, u202, u203, u204, u205, u206, u207, u208, u209, u210, u211, u212, u213, u214, u215, u216, u217, u218, u219, u220, u221, u222, u223, u224, u225, u226, u227, u228, u229, u230, u231, u232, u233, u234, u235, u236, u237, u238, u239, u240, u241, u242, u243, u244, u245, u246, u247, u248, u249, u250, u251, u252, u253, u254], defers := [] } wx := by
  obtain ⟨i0, hi0, hz0, hz1, hz2⟩ := info_parts info5
  have HB3 := hide hB
  have H256 := hide h256
  have HSF := hide hSF0
  have HN0 := hide (fun w' => num29_any w' 0)
  have hlnb2 : ln2 ≤ 41946185728 := by have := hB.bd; omega
  clear hB h256 hSF0
  refine wp_tail rfl ?_
  simp only [tailC]
  obtain ⟨post, hpost⟩ : ∃ post, ([0, 0, 3, 1, 1, 9] : List Nat).take k = post := ⟨_, rfl⟩
  have hpl : post.length = k := by rw [← hpost, List.length_take]; simp; omega
  have hps : Short3 post := by
    rw [← hpost]
    have : k = 0 ∨ k = 1 ∨ k = 2 ∨ k = 3 ∨ k = 4 ∨ k = 5 := by omega
    rcases this with rfl | rfl | rfl | rfl | rfl | rfl
    · exact .inl (by decide)
    · exact .inl (by decide)
    · exact .inl (by decide)
    · exact .inr (by decide)
    · exact .inr (by decide)
    · exact .inr (by decide)
  have hp6 : ∀ x ∈ post, x < 256 := fun x hx => by
    have h1 : ∀ x ∈ ([0, 0, 3, 1, 1, 9] : List Nat), x < 256 := by decide
    exact h1 x (List.mem_of_mem_take (hpost ▸ hx))
  have hSF := HSF.out.cut1 (k := k) (by omega)
  rw [← List.map_take, hpost] at hSF
  have HPO := hide (And.intro hpl (And.intro hps hp6))
  have hli := HB3.out.li
  have a1 : (k : Int) ≤ (cF : Int) := by omega
  clear hpost hpl hps hp6
  go_wp2_with (at_builtin; go_loud (refine wpList_append_ow _ rfl _ _ 22 rfl 5 i0 (.int .u8 0) 1 1 Try.underlying22 hi0 hz0 hz1 hz2 rfl (by decide) _ _ _ _ _ rfl hli _ _ _ _ rfl hSF (bn_one _) (by unfold maxLen; omega) (by omega) ?_))
  intro A6 c6 w6 g6 hO6 hf6 hg6
  have hcap := hO6.cap
  have hS6 := hO6.sl
  rw [← List.map_append] at hS6
  have hrp2 := replies_wide w6 (line2 ++ post) 0 0 A6 (ln2 + k) c6 (by rw [List.length_append, HPO.out.1, HB3.out.len]) (by omega) hcap.1 hcap.2 (fun x hx => (List.mem_append.1 hx).elim (H256.out x) (HPO.out.2.2 x)) hS6
  have hto := HB3.out.as_.keep hf6 (fun x e e2 => absurd ((HB3.out.as_.ow.typed x e).same (HB3.out.li.typed x e2.symm)) (by decide))
  have hF6 : Fr (fun _ => False) w w6 := HB3.out.fr.comp hf6 (fun x hx e => by have := HB3.out.new x e.symm; omega)
  have H6 := hide (And.intro hto hF6)
  clear hO6 hf6 hg6 hcap hS6 hto hF6 hli hSF
  go_wp2_with fail
  refine hrp2.mono ?_
  rintro e w7 ⟨l2, u2, er2, B2, m2, d2, g2, rfl, r1, r2, r3⟩
  obtain ⟨j1, j2, j3⟩ := Reps.frames told [] post HPO.out.2.1 (fun q hq => HB3.out.ok q hq) (by rw [List.nil_append, ← HB3.out.is_]) r1
  subst j3
  obtain rfl : ln2 = u2 := by
    have h1 := HB3.out.len
    rw [List.length_append] at j2
    omega
  obtain rfl : qn2 = m2 := by
    have h1 := r2.len
    have h2 := j1.len
    have h3 := HB3.out.as_.len
    omega
  have hF7 := H6.out.2.trans r3
  have HRL := hide (fun w' (hf : Fr (fun _ => False) w7 w') => repliesTold_any w' w6 w l2 told j1 B2 QA2 qn2 d2 qc2 g2 qg2 (by omega) (r2.quiet hf).pr ((H6.out.1.quiet r3).quiet hf) (hF7.trans hf))
  have HF7 := hide hF7
  clear hrp2 r1 r2 r3 j1 j2 hF7
  go_wp2_with fail
  refine (HN0.out _).mono ?_
  rintro e w' ⟨rfl, rfl⟩
  go_wp2_with fail
  refine (HRL.out _ (Fr.refl _ _)).mono ?_
  rintro e w8 ⟨rfl, hf8⟩
  go_wp2_with fail
  go_ret
  exact ⟨rfl, HF7.out.trans hf8⟩
set_option maxHeartbeats 4000000 in
set_option maxRecDepth 100000 in
attribute [-go_sem] Go.Instr.loadAt in
theorem back_tail14 (w wo : World) (told : List RR) (line2 : List Nat) (LA2 QA2 : Option Addr) (ln2 lc2 qn2 qc2 : Nat) (lg2 qg2 : Option Nat) (cut : Int)
    (hqn2 : qn2 ≤ 1048576) (hB0 : BkR w wo told line2 LA2 QA2 ln2 lc2 qn2 qc2 lg2 qg2)
    (u0 u1 u2 u4 u5 u6 u7 u8 u10 u11 u12 u13 u14 u15 u16 u17 u18 u19 u20 u22 u23 u24 u25 u26 u27 u28 u29 u30 u31 u32 u33 u34 u35 u36 u37 u38 u39 u40 u41 u42 u43 u44 u45 u46 u47 u48 u49 u50 u51 u52 u53 u54 u55 u56 u57 u58 u59 u60 u61 u62 u63 u64 u65 u66 u67 u68 u69 u70 u71 u72 u73 u74 u75 u76 u77 u78 u79 u80 u81 u82 u83 u84 u85 u86 u87 u88 u89 u90 u91 u92 u93 u94 u95 u96 u97 u98 u99 u100 u101 u102 u103 u104 u105 u106 u107 u108 u109 u110 u111 u112 u113 u114 u115 u116 u117 u118 u119 u120 u121 u122 u123 u124 u125 u126 u127 u128 u129 u130 u131 u132 u133 u134 u135 u136 u137 u138 u139 u140 u141 u142 u143 u144 u145 u146 u147 u148 u149 u150 u151 u152 u153 u154 u155 u156 u157 u158 u159 u160 u161 u162 u163 u164 u165 u166 u167 u168 u169 u170 u171 u172 u173 u174 u175 u176 u177 u178 u179 u180 u181 u182 u183 u184 u185 u186 u187 u188 u189 u190 u191 u192 u193 u194 u195 u196 u197 u198 u199 u200 u201 u202 u203 u204 u205 u206 u207 u208 u209 u210 u211 u212 u213 u214 u215 u216 u217 u218 u219 u220 u221 u222 u223 u224 u225 u226 u227 u228 u229 u230 u231 u232 u233 u234 u235 u236 u237 u238 u239 u240 u241 u242 u243 u244 u245 u246 u247 u248 u249 u250 u251 u252 u253 u254 : Value) :
    Code.wp Try.prog (tailC 14 (Try.f8.body.getD .skip)) (bodyPost Try.prog Try.f8 fun e w' => e = .returned (.bool true) ∧ Fr (fun _ => False) w w') { tmps := #[u0, u1, u2, .int .i64 cut, u4, u5, u6, u7, u8, .slice LA2 ln2 lc2, u10, u11, u12, u13, u14, u15, u16, u17, u18, u19, u20, .slice QA2 qn2 qc2, u22, u23, u24, u25, u26, u27, u28, u29, u30, u31, u32, u33, u34, u35, u36, u37, u38, u39, u40, u41, u42, u43, u44, u45, u46, u47, u48, u49, u50, u51, u52, u53, u54, u55, u56, u57, u58, u59, u60, u61, u62, u63, u64, u65, u66, u67, u68, u69, u70, u71, u72, u73, u74, u75, u76, u77, u78, u79, u80, u81, u82, u83, u84, u85, u86, u87, u88, u89, u90, u91, u92, u93, u94, u95, u96, u97, u98, u99, u100, u101, u102, u103, u104, u105, u106, u107, u108, u109, u110, u111, u112, u113, u114, u115, u116, u117, u118, u119, u120, u121, u122, u123, u124, u125, u126, u127, u128, u129, u130, u131, u132, u133, u134, u135, u136, u137, u138, u139, u140, u141, u142, u143, u144, u145, u146, u147, u148, u149, u150, u151, u152, u153, u154, u155, u156, u157, u158, u159, u160, u161, u162, u163, u164, u165, u166, u167, u168, u169, u170, u171, u172, u173, u174, u175, u176, u177, u178, u179, u180, u181, u182, u183, u184, u185, u186, u187, u188, u189, u190, u191, u192, u193, u194, u195, u196, u197, u198, u199, u200, u201, u202, u203, u204, u205, u206, u207, u208, u209, u210, u211, u212, u213, u214, u215, u216, u217, u218, u219, u220, u221, u222, u223, u224, u225, u226, u227, u228, u229, u230, u231, u232, u233, u234, u235, u236, u237, u238, u239, u240, u241, u242, u243, u244, u245, u246, u247, u248, u249, u250, u251, u252, u253, u254], defers := [] } wo := by
  have hB := hide hB0
  have HN0 := hide (fun w' => num29_any w' 0)
  have hlnb2 : ln2 ≤ 41946185728 := by have := hB0.bd; omega
  clear hB0
  refine wp_tail rfl ?_
  simp only [tailC]
  have hcap := hB.out.li.cap
  have h256 : ∀ x ∈ line2, x < 256 := fun x hx => by
    rw [hB.out.is_] at hx
    obtain ⟨q, hq, hx⟩ := List.mem_flatMap.1 hx
    exact fr3_b (RR.form_b (hB.out.ok q hq).2) x hx
  have hrp := replies_wide wo line2 0 0 LA2 ln2 lc2 hB.out.len (by omega) hcap.1 hcap.2 h256 hB.out.li.sl
  have HBR := hide hB.out
  have H256 := hide h256
  clear hB hcap h256
  go_wp2_with fail
  refine hrp.mono ?_
  rintro e w1 ⟨l1, u1, er1, B1, m1, d1, g1, rfl, r1, r2, r3⟩
  obtain ⟨j1, j2, j3⟩ := Reps.frames told [] [] (.inl (by decide)) (fun q hq => HBR.out.ok q hq) (by rw [List.append_nil, List.nil_append]; exact HBR.out.is_) r1
  subst j3
  obtain rfl : ln2 = u1 := by
    have h1 := HBR.out.len
    have h2 : u1 + 0 = line2.length := j2
    omega
  obtain rfl : qn2 = m1 := by
    have h1 := r2.len
    have h2 := j1.len
    have h3 := HBR.out.as_.len
    omega
  have hB1 := HBR.out.quiet r3
  have HRL := hide (fun w' (hf : Fr (fun _ => False) w1 w') => repliesTold_any w' wo w l1 told j1 B1 QA2 qn2 d1 qc2 g1 qg2 (by omega) (r2.quiet hf).pr (hB1.as_.quiet hf) (hB1.fr.trans hf))
  have HB1 := hide hB1
  clear hrp r1 r2 r3 j1 j2 hB1 HBR
  go_wp2_with fail
  refine (HN0.out _).mono ?_
  rintro e w' ⟨rfl, rfl⟩
  go_wp2_with fail
  refine (HRL.out _ (Fr.refl _ _)).mono ?_
  rintro e w2 ⟨rfl, hf2⟩
  have hal : Fr (fun _ => False) w2 (w2.alloc (.cells ([1, 1, 9].map bn).toArray 5)) := (Fr.refl _ _).alloc _
  have HB2 := hide ((HB1.out.quiet hf2).quiet hal)
  have hfr := frame_any _ [1, 1, 9] (some ⟨w2.heap.size, 0, none⟩) 3 3 rfl (by decide) (sl_bytes w2 [1, 1, 9])
  have e6 : frameB [1, 1, 9] = [0, 0, 3, 1, 1, 9] := rfl
  have e7 : frameE [1, 1, 9] = 0 := rfl
  rw [e6, e7] at hfr
  clear hf2 hal e6 e7 HRL HB1
  go_wp2_with fail
  refine hfr.mono ?_
  intro e w3 hp
  obtain ⟨BF, cF, gF, rfl, hOF, hnF, hfF⟩ := hp.at_len (L := 6) rfl
  have HB3 := hide (HB2.out.quiet hfF)
  have hcF := hOF.cap
  obtain ⟨bF, oF, rfl, -⟩ := hOF.sl.2 (by omega)
  have hcF1 : 6 ≤ cF := hcF.1
  have HSF := hide hOF.sl
  have hq2 : -6 < cut.tmod 6 ∧ cut.tmod 6 < 6 := by
    have h1 := Int.tmod_lt_of_pos cut (show (0 : Int) < 6 by decide)
    have h2 := Int.lt_tmod_of_pos cut (show (0 : Int) < 6 by decide)
    omega
  clear hfr hp hOF hnF hfF hcF HB2
  go_upto_if 227 with fail
  obtain ⟨q, hq⟩ : ∃ q, cut.tmod 6 = q := ⟨_, rfl⟩
  simp only [hq]
  rw [hq] at hq2
  have HQ2 := hide hq2
  go_cut [30] (fun v wx => ∃ k : Nat, v = .int .i64 (k : Int) ∧ k ≤ 5 ∧ wx = w3)
  case first =>
    by_cases hneg : q < 0
    · have iw : IntKind.i64.wrap (q + 6) = q + 6 := IntWalk.i64_in _ (by omega)
      clear hq
      go_wp2_with fail
      go_meet
      case rel => exact ⟨(q + 6).toNat, by congr 1; omega, by omega, rfl⟩
    · clear hq
      go_wp2_with fail
      go_meet
      case rel => exact ⟨q.toNat, by congr 1; omega, by omega, rfl⟩
  case rest =>
  obtain ⟨k, rfl, hk5, hwc⟩ := hcut
  obtain ⟨wx, rfl⟩ : ∃ z, z = wc := ⟨_, rfl⟩
  obtain rfl := hwc
  apply_assumption
  exact back_tail19 w wx told line2 LA2 QA2 ln2 lc2 qn2 qc2 bF oF cF k lg2 qg2 hqn2 HB3.out H256.out HSF.out hk5 hcF1 _ _ _ _ _ _ _ _ _ _ _ _ _ _ _ _ _ _ _ _ _ _ _ _ _ _ _ _ _ _ _ _ _ _ _ _ _ _ _ _ _ _ _ _ _ _ _ _ _ _ _ _ _ _ _ _ _ _ _ _ _ _ _ _ _ _ _ _ _ _ _ _ _ _ _ _ _ _ _ _ _ _ _ _ _ _ _ _ _ _ _ _ _ _ _ _ _ _ _ _ _ _ _ _ _ _ _ _ _ _ _ _ _ _ _ _ _ _ _ _ _ _ _ _ _ _ _ _ _ _ _ _ _ _ _ _ _ _ _ _ _ _ _ _ _ _ _ _ _ _ _ _ _ _ _ _ _ _ _ _ _ _ _ _ _ _ _ _ _ _ _ _ _ _ _ _ _ _ _ _ _ _ _ _ _ _ _ _ _ _ _ _ _ _ _ _ _ _ _ _ _ _ _ _ _ _ _ _ _ _ _ _ _ _ _ _ _ _ _ _ _ _ _ _ _ _ _ _ _ _ _ _ _ _ _ _ _ _ _ _ _ _ _ _ _ _ _ _ _ _
set_option maxHeartbeats 4000000 in
set_option maxRecDepth 100000 in
attribute [-go_sem] Go.Instr.loadAt in
theorem back_tail29 (w w1 wd : World) (rs : List RR) (asked : List KC) (line : List Nat) (lb : List PC) (LA QA A R A2 : Option Addr) (n c m d ln lc qn qc nb cb sz p u2 : Nat) (lg qg s2 g2 : Option Nat) (d2 : Bool) (cut : Int)
    (hm : m ≤ 1048576) (hd : m ≤ d) (hR : RsAt w rs R m) (hB : BkA w w1 asked line LA QA ln lc qn qc lg qg) (hlnb : ln ≤ 540016640) (hqb : qn ≤ 1048576) (hPT : Typed w1 p tStm) (hpw : w.heap.size ≤ p) (hG0 : Gath w1 wd p line s2 A2 nb cb g2 lb u2 d2)
    (u0 u2 u4 u5 u6 u7 u8 u9 u11 u12 u13 u14 u15 u18 u19 u20 u21 u22 u23 u24 u25 u26 u27 u28 u29 u30 u31 u32 u33 u34 u35 u36 u37 u38 u39 u40 u41 u42 u43 u44 u45 u46 u47 u48 u49 u50 u51 u52 u53 u54 u55 u56 u57 u58 u59 u60 u61 u62 u63 u64 u65 u66 u67 u68 u69 u70 u71 u72 u73 u74 u75 u76 u77 u78 u79 u80 u81 u82 u83 u84 u85 u86 u87 u88 u89 u90 u91 u92 u93 u94 u95 u96 u97 u98 u99 u100 u101 u102 u103 u104 u105 u106 u107 u108 u109 u110 u111 u112 u113 u114 u115 u116 u117 u118 u119 u120 u121 u122 u123 u124 u125 u126 u127 u128 u129 u130 u131 u132 u133 u134 u135 u136 u137 u138 u139 u140 u141 u142 u143 u144 u145 u146 u147 u148 u149 u150 u151 u152 u153 u154 u155 u156 u157 u158 u159 u160 u161 u162 u163 u164 u165 u166 u167 u168 u169 u170 u171 u172 u173 u174 u175 u176 u177 u178 u179 u180 u181 u182 u183 u184 u185 u186 u187 u188 u189 u190 u191 u192 u193 u194 u195 u196 u197 u198 u199 u200 u201 u202 u203 u204 u205 u206 u207 u208 u209 u210 u211 u212 u213 u214 u215 u216 u217 u218 u219 u220 u221 u222 u223 u224 u225 u226 u227 u228 u229 u230 u231 u232 u233 u234 u235 u236 u237 u238 u239 u240 u241 u242 u243 u244 u245 u246 u247 u248 u249 u250 u251 u252 u253 u254 : Value) :
    Code.wp Try.prog (tailC 9 (Try.f8.body.getD .skip)) (bodyPost Try.prog Try.f8 fun e w' => e = .returned (.bool true) ∧ Fr (fun _ => False) w w') { tmps := #[u0, .slice R m d, u2, .int .i64 cut, u4, u5, u6, u7, u8, u9, .slice QA qn qc, u11, u12, u13, u14, u15, .pointer (some ⟨p, 0, none⟩), .slice A2 nb cb, u18, u19, u20, u21, u22, u23, u24, u25, u26, u27, u28, u29, u30, u31, u32, u33, u34, u35, u36, u37, u38, u39, u40, u41, u42, u43, u44, u45, u46, u47, u48, u49, u50, u51, u52, u53, u54, u55, u56, u57, u58, u59, u60, u61, u62, u63, u64, u65, u66, u67, u68, u69, u70, u71, u72, u73, u74, u75, u76, u77, u78, u79, u80, u81, u82, u83, u84, u85, u86, u87, u88, u89, u90, u91, u92, u93, u94, u95, u96, u97, u98, u99, u100, u101, u102, u103, u104, u105, u106, u107, u108, u109, u110, u111, u112, u113, u114, u115, u116, u117, u118, u119, u120, u121, u122, u123, u124, u125, u126, u127, u128, u129, u130, u131, u132, u133, u134, u135, u136, u137, u138, u139, u140, u141, u142, u143, u144, u145, u146, u147, u148, u149, u150, u151, u152, u153, u154, u155, u156, u157, u158, u159, u160, u161, u162, u163, u164, u165, u166, u167, u168, u169, u170, u171, u172, u173, u174, u175, u176, u177, u178, u179, u180, u181, u182, u183, u184, u185, u186, u187, u188, u189, u190, u191, u192, u193, u194, u195, u196, u197, u198, u199, u200, u201, u202, u203, u204, u205, u206, u207, u208, u209, u210, u211, u212, u213, u214, u215, u216, u217, u218, u219, u220, u221, u222, u223, u224, u225, u226, u227, u228, u229, u230, u231, u232, u233, u234, u235, u236, u237, u238, u239, u240, u241, u242, u243, u244, u245, u246, u247, u248, u249, u250, u251, u252, u253, u254], defers := [] } wd := by
  obtain ⟨i0, hi0, hz0, hz1, hz2⟩ := info_parts info5
  obtain ⟨k0, hkk, hkk0, hkk1, hkk2⟩ := info_parts infoRpl
  have HR := hide hR
  have HBA1 := hide hB
  have HPT := hide hPT
  have hG := hide hG0
  clear hR hB hPT hG0
  refine wp_tail rfl ?_
  simp only [tailC]
  have hG1 := hG.out
  obtain ⟨j1, j2, j3⟩ := Pcs.frames asked [] (fun q hq => HBA1.out.ok q hq) (by rw [List.nil_append]; exact HBA1.out.is_) hG1.ps
  subst j2 j3
  obtain rfl : nb = qn := by
    have h1 := hG1.rw_.len
    have h2 := j1.len
    have h3 := HBA1.out.as_.len
    rw [List.length_map] at h2
    omega
  have hw0 : waitN line line.length false = 0 := by show line.length - line.length = 0; omega
  have hWt := fun w' (hf : Fr (fun _ => False) wd w') => waiting_wide w' p line _ _ s2 (hG1.st.fr hf id (fun _ _ => id)) (by rw [← HBA1.out.len]; omega)
  simp only [hw0] at hWt
  have HWt := hide hWt
  have HAS := hide (HBA1.out.as_.keep hG1.fr (fun x e e2 => absurd ((HBA1.out.as_.ow.typed x e).same (e2 ▸ HPT.out)) (by decide)))
  have HGR := hide hG1.rw_
  have HL := hide j1
  have HFW := hide (HBA1.out.fr.comp hG1.fr (fun x hx e => by omega))
  clear hG1 hG j1 hw0 hWt HBA1 HPT
  go_wp2_with fail
  refine (HWt.out _ (Fr.refl _ _)).mono ?_
  rintro e w2 ⟨rfl, hf2⟩
  have HAS2 := hide (HAS.out.quiet hf2)
  have HGR2 := hide (HGR.out.quiet hf2)
  have HFW2 := hide (HFW.out.trans hf2)
  have HN0 := hide (fun w' => num29_any w' 0)
  have HN2 := hide (fun w' => num29_any w' 270)
  clear hf2 HWt HAS HGR HFW
  go_upto_block 4 with fail
  go_cut [20] (fun v wx => Hid (Fr (fun _ => False) w2 wx))
  case first =>
    go_wp2_with fail
    go_loopw [20] (fun v wr => ∃ k : Nat, k ≤ nb ∧ v = .int .i64 (k : Int) ∧ Hid (Fr (fun _ => False) w2 wr)) (fun v _ => nb - (intOf v).toNat)
    case atStart => exact ⟨0, Nat.zero_le _, rfl, Fr.refl _ _⟩
    case round =>
      obtain ⟨k, hk, rfl, hF⟩ := hrel
      by_cases hlt : k < nb
      · have hr1 := HGR2.out.quiet hF.out
        have hr2 := HAS2.out.quiet hF.out
        obtain ⟨b, o, rfl⟩ := hr1.addr (by omega)
        obtain ⟨b', o', rfl⟩ := hr2.addr (by omega)
        obtain ⟨x, hx⟩ : ∃ x, lb[k]? = some x := ⟨_, List.getElem?_eq_getElem (by have := hr1.len; omega)⟩
        obtain ⟨y, hy⟩ : ∃ y, asked[k]? = some y := ⟨_, List.getElem?_eq_getElem (by have := hr2.len; omega)⟩
        have hxy := HL.out.at_ hx (show (asked.map fun q => (⟨q, 0⟩ : PC))[k]? = some ⟨y, 0⟩ by rw [List.getElem?_map, hy]; rfl)
        have ha := (hr1.rt x (List.mem_of_getElem? hx)).at_
        have hb' := (hr2.at_ y (List.mem_of_getElem? hy)).quiet (HFW2.out.trans hF.out)
        have HC1 := hide (fun w' (hf : Fr (fun _ => False) wr w') => commandLike29_any w' x.c y hxy.1 (ha.quiet hf) (hb'.quiet hf))
        have l1 : ∀ w', Fr (fun _ => False) wr w' → (Instr.loadAt tCm (.pointer (some ⟨b, o + k * 25, none⟩))).run Try.prog w' = .ok (.agg #[.int .i64 x.c.id, .int .i64 x.c.kind, .string (strOf x.c.name), .int .i64 x.c.to_, .int .u64 (x.c.co : Int), .int .i64 x.c.item, .int .i64 x.c.num, .int .i64 x.c.of_, .int .i64 x.c.e.acc, .int .i64 x.c.e.item, .int .u64 (x.c.e.co : Int), .int .u64 (x.c.e.pr : Int), .slice x.c.e.A x.c.e.n x.c.e.c, .int .i64 x.c.k.num, .int .i64 x.c.k.kind, .int .i64 x.c.k.by_, .int .i64 x.c.k.dl, .int .i64 x.c.k.to_, .int .i64 x.c.k.want, .int .u64 (x.c.k.pr : Int), .int .u64 (x.c.k.rs : Int), .int .u64 (x.c.k.st : Int), .int .i64 x.c.k.of_, .slice x.c.k.A x.c.k.n x.c.k.c]) w' := fun w' hf => (hr1.quiet hf).loadC hx
        have l2 : ∀ w', Fr (fun _ => False) wr w' → (Instr.loadAt tCm (.pointer (some ⟨b', o' + k * 24, none⟩))).run Try.prog w' = .ok (.agg #[.int .i64 y.id, .int .i64 y.kind, .string (strOf y.name), .int .i64 y.to_, .int .u64 (y.co : Int), .int .i64 y.item, .int .i64 y.num, .int .i64 y.of_, .int .i64 y.e.acc, .int .i64 y.e.item, .int .u64 (y.e.co : Int), .int .u64 (y.e.pr : Int), .slice y.e.A y.e.n y.e.c, .int .i64 y.k.num, .int .i64 y.k.kind, .int .i64 y.k.by_, .int .i64 y.k.dl, .int .i64 y.k.to_, .int .i64 y.k.want, .int .u64 (y.k.pr : Int), .int .u64 (y.k.rs : Int), .int .u64 (y.k.st : Int), .int .i64 y.k.of_, .slice y.k.A y.k.n y.k.c]) w' := fun w' hf => (hr2.quiet hf).load hy
        have l3 : ∀ w', Fr (fun _ => False) wr w' → (Instr.loadAt 32 (.pointer (some ⟨b, o + k * 25 + 24, none⟩))).run Try.prog w' = .ok (.int .i64 0) w' := fun w' hf => by
          have h := (hr1.quiet hf).err hx
          rw [show x.er = 0 from hxy.2] at h
          exact In.run_loadAt_cell _ _ Try.underlying32 rfl h
        have i0' : (0 : Int) ≤ (k : Int) := by omega
        have i1 : (k : Int) < (nb : Int) := by omega
        have hS : Fr (fun _ => False) wr wr := Fr.refl _ _
        clear hr1 hr2 hx hy hxy ha hb'
        go_wp2_with fail
        go_region_held3 (fun w' => Fr (fun _ => False) wr w') (first | assumption | exact Fr.drew (by assumption))
          (first
            | (go_at_call 38; refine (HC1.out _ (by first | assumption | exact Fr.drew (by assumption))).mono ?_; rintro e w4 ⟨rfl, hf4⟩; have hf5 : Fr (fun _ => False) wr w4 := Fr.trans (by first | assumption | exact Fr.drew (by assumption)) hf4)
            | (go_at_call 13; refine (HN0.out _).mono ?_; rintro e w4 ⟨rfl, rfl⟩))
        have HF := hide (hF.out.trans hf5)
        clear l1 l2 l3 hf4 hf5
        go_wp2_with fail
        exact ⟨⟨k + 1, by omega, by go_num, HF⟩, by simp [intOf]; omega⟩
      · go_wp2_with fail
        go_meet
        case rel => exact hF
  case rest =>
  have HFR := hide (HFW2.out.trans hcut.out)
  clear HL HAS2 HGR2 HFW2 hcut
  go_upto_block 6 with fail
  go_cut [9, 21] (fun v9 v21 wx => ∃ (told : List RR) (line2 : List Nat) (LA2 QA2 : Option Addr) (ln2 lc2 qn2 qc2 : Nat) (lg2 qg2 : Option Nat), v9 = .slice LA2 ln2 lc2 ∧ v21 = .slice QA2 qn2 qc2 ∧ qn2 ≤ m ∧ Hid (BkR w wx told line2 LA2 QA2 ln2 lc2 qn2 qc2 lg2 qg2))
  case first =>
    go_wp2_with fail
    go_loopw [9, 21, 22] (fun v9 v21 v22 wr => ∃ (i : Nat) (told : List RR) (line2 : List Nat) (LA2 QA2 : Option Addr) (ln2 lc2 qn2 qc2 : Nat) (lg2 qg2 : Option Nat), v9 = .slice LA2 ln2 lc2 ∧ v21 = .slice QA2 qn2 qc2 ∧ v22 = .int .i64 (i : Int) ∧ i ≤ m ∧ qn2 ≤ i ∧ Hid (BkR w wr told line2 LA2 QA2 ln2 lc2 qn2 qc2 lg2 qg2)) (fun _ _ v _ => m - (intOf v).toNat)
    case atStart => exact ⟨0, [], [], none, none, 0, 0, 0, 0, none, none, rfl, rfl, rfl, Nat.zero_le _, Nat.zero_le _, BkR.start _ _ HFR.out⟩
    case round =>
      obtain ⟨i, told, line2, LA2, QA2, ln2, lc2, qn2, qc2, lg2, qg2, rfl, rfl, rfl, hi2, hqn2, hB⟩ := hrel
      clear HFR
      obtain ⟨wo, rfl⟩ : ∃ z, z = wr := ⟨_, rfl⟩
      have hlnb2 : ln2 ≤ 41946185728 := by have := hB.out.bd; omega
      by_cases hlt : i < m
      · have hC := HR.out.quiet hB.out.fr
        obtain ⟨b, o, rfl⟩ := hC.addr (by omega)
        obtain ⟨q, hq0⟩ : ∃ q, rs[i]? = some q := ⟨_, List.getElem?_eq_getElem (by have := HR.out.len; omega)⟩
        have hqm := List.mem_of_getElem? hq0
        have hat := hC.at_ q hqm
        have hwf := hC.wf q hqm
        have hatW := hide (HR.out.at_ q hqm)
        have l1 := hide (fun w' (hf : Fr (fun _ => False) wo w') => (hC.quiet hf).load hq0)
        have i0' : (0 : Int) ≤ (i : Int) := by omega
        have i1 : (i : Int) < (m : Int) := by omega
        have HI := hide hlt
        have l10 := l1.out wo (Fr.refl _ _)
        clear hqm hq0 hC hlt
        by_cases hok : q.ok = true
        · have hs2 := (RR.len hok hwf).1
          have e1 : q.eb = q.form := if_pos hok
          have e2 : q.ee = 0 := if_pos hok
          have ha := tell_any wo q hat hwf
          rw [e1, e2] at ha
          have e3 : fB q.form 0 = fr3 q.form := (if_pos rfl).trans (frameB_is (by omega))
          have e4 : fE q.form 0 = 0 := (if_pos rfl).trans (frameE_is (by omega))
          rw [e3, e4] at ha
          obtain ⟨fl, hfl⟩ : ∃ fl, q.form.length = fl := ⟨_, rfl⟩
          have hfl3 : (fr3 q.form).length = fl + 3 := by rw [fr3_len, hfl]
          rw [hfl] at hs2
          have HFL := hide hfl3
          have HQ := hide (And.intro hok hwf)
          clear e1 e2 e3 e4 hfl hfl3 hat hwf hok
          go_wp2_with fail
          refine ha.mono ?_
          intro e w1 hp
          obtain ⟨B1, d1, g1, rfl, hO1, hn1, hf1⟩ := hp.at_len HFL.out
          have hc1 := hO1.cap
          obtain ⟨b1, o1, rfl, -⟩ := hO1.sl.2 (by omega)
          have HB1 := hide (hn1 b1 (hO1.sblk rfl))
          have HS3 := hide hO1.sl
          have HF13 := hide hf1
          clear hp hO1 hn1 hf1 hc1 ha l10
          go_wp2_with fail
          refine (HN0.out _).mono ?_
          rintro e w' ⟨rfl, rfl⟩
          have l13 := l1.out w1 HF13.out
          have hOa := hB.out.as_.ow.fr HF13.out (fun _ _ => id)
          go_wp2_with (at_builtin; go_loud (refine wpList_append_ow _ rfl _ _ 49 rfl tRpl k0 (.agg #[.int .i64 0, .int .i64 0, .int .i64 0, .int .u64 0, .slice none 0 0, .string ⟨#[]⟩, .int .u32 0, .int .i64 0, .int .i64 0, .int .i64 0, .int .i64 0, .int .i64 0, .int .i64 0, .int .u64 0, .int .u64 0, .int .u64 0, .int .i64 0, .slice none 0 0]) 18 184 Try.underlying49 hkk hkk0 hkk1 hkk2 rfl (by decide) _ _ _ _ _ rfl (hOa.fr (S := fun _ => False) ((Fr.refl _ _).alloc _) (fun _ _ => id)) _ _ _ (rcells q) rfl (sl_rpl _ q _) (rcells_one q) (by unfold maxLen; omega) (by omega) ?_))
          intro QA4 qc4 w4 qg4 hO4 hf4 hg4
          have hal : Fr (fun _ => False) wo (w1.alloc (.cells (rcells q).toArray tRpl)) := HF13.out.alloc _
          have hli := (hB.out.li.fr hal (fun _ _ => id)).fr hf4 (fun x e e2 => absurd (((hB.out.li.typed x e).fr hal id).same ((hB.out.as_.ow.typed x e2.symm).fr hal id)) (by decide))
          have hS4 := ((HS3.out.below ((Fr.refl (fun _ => False) w1).alloc (.cells (rcells q).toArray tRpl)) (fun _ _ => id))).fr (B := 0) hf4 (fun x ⟨o', e⟩ hx e2 => by
            have h1 := hB.out.as_.ow.lt x e2.symm
            cases e
            have h2 := HB1.out
            omega)
          have H4 := hide (And.intro hO4 (And.intro hf4 (And.intro hg4 hal)))
          clear hO4 hf4 hg4 hal hOa l13
          go_wp2_with (at_builtin; go_loud (refine wpList_append_ow _ rfl _ _ 22 rfl 5 i0 (.int .u8 0) 1 1 Try.underlying22 hi0 hz0 hz1 hz2 rfl (by decide) _ _ _ _ _ rfl hli _ _ _ _ rfl hS4 (bn_one _) (by unfold maxLen; omega) (by omega) ?_))
          intro LA5 lc5 w5 lg5 hO5 hf5 hg5
          obtain ⟨hO4, hf4, hg4, hal⟩ := H4.out
          have hB5 := hide (hB.out.more hatW.out HQ.out HFL.out.symm hal hO4 hf4 (hg4.imp id fun ⟨x, e, h⟩ => ⟨x, e, by simpa using h⟩) hO5 hf5 hg5)
          clear hO4 hf4 hg4 hal hO5 hf5 hg5 hli hS4 H4
          go_wp2_with fail
          exact ⟨⟨i + 1, told ++ [q], line2 ++ fr3 q.form, LA5, QA4, ln2 + (fl + 3), lc5, qn2 + 1, qc4, lg5, qg4, rfl, rfl, by go_num, by have := HI.out; omega, by omega, hB5⟩, by have := HI.out; simp [intOf]; omega⟩
        · have hok2 : q.ok = false := by simpa using hok
          have e1 : q.eb = [] := by unfold RR.eb; rw [hok2]; rfl
          have e2 : q.ee = 270 := by unfold RR.ee; rw [hok2]; rfl
          have ha := tell_any wo q hat hwf
          rw [e1, e2] at ha
          have e3 : fB [] 270 = [] := rfl
          have e4 : fE [] 270 = 270 := rfl
          rw [e3, e4] at ha
          clear e1 e2 e3 e4 hat hwf hok hok2
          go_wp2_with fail
          refine ha.mono ?_
          intro e w1 hp
          obtain ⟨B1, d1, g1, rfl, hO1, hn1, hf1⟩ := hp.at_len (L := 0) rfl
          have HB2 := hide (hB.out.quiet hf1)
          clear hp hO1 hn1 hf1 ha l10
          go_wp2_with fail
          refine (HN2.out _).mono ?_
          rintro e w' ⟨rfl, rfl⟩
          go_wp2_with fail
          exact ⟨⟨i + 1, told, line2, LA2, QA2, ln2, lc2, qn2, qc2, lg2, qg2, rfl, rfl, by go_num, by have := HI.out; omega, by omega, HB2⟩, by have := HI.out; simp [intOf]; omega⟩
      · go_wp2_with fail
        go_meet
        case rel => exact ⟨told, line2, LA2, QA2, ln2, lc2, qn2, qc2, lg2, qg2, rfl, rfl, by omega, hB⟩
  case rest =>
  obtain ⟨told, line2, LA2, QA2, ln2, lc2, qn2, qc2, lg2, qg2, rfl, rfl, hqn2, hB⟩ := hcut
  apply_assumption
  exact back_tail14 w _ told line2 LA2 QA2 ln2 lc2 qn2 qc2 lg2 qg2 cut (by omega) hB.out _ _ _ _ _ _ _ _ _ _ _ _ _ _ _ _ _ _ _ _ _ _ _ _ _ _ _ _ _ _ _ _ _ _ _ _ _ _ _ _ _ _ _ _ _ _ _ _ _ _ _ _ _ _ _ _ _ _ _ _ _ _ _ _ _ _ _ _ _ _ _ _ _ _ _ _ _ _ _ _ _ _ _ _ _ _ _ _ _ _ _ _ _ _ _ _ _ _ _ _ _ _ _ _ _ _ _ _ _ _ _ _ _ _ _ _ _ _ _ _ _ _ _ _ _ _ _ _ _ _ _ _ _ _ _ _ _ _ _ _ _ _ _ _ _ _ _ _ _ _ _ _ _ _ _ _ _ _ _ _ _ _ _ _ _ _ _ _ _ _ _ _ _ _ _ _ _ _ _ _ _ _ _ _ _ _ _ _ _ _ _ _ _ _ _ _ _ _ _ _ _ _ _ _ _ _ _ _ _ _ _ _ _ _ _ _ _ _ _ _ _ _ _ _ _ _ _ _ _ _ _ _ _ _ _ _ _ _ _ _ _ _ _ _ _ _ _ _ _ _ _ _
set_option maxHeartbeats 4000000 in
set_option maxRecDepth 100000 in
attribute [-go_sem] Go.Instr.loadAt in
theorem back_walk29 (w : World) (cs : List KC) (rs : List RR) (size cut : Int) (A R : Option Addr) (n c m d : Nat) (hn : n ≤ 1048576) (hm : m ≤ 1048576) (hc : n ≤ c) (hd : m ≤ d) (hA : CsAt w cs A n) (hR : RsAt w rs R m) (hcut : -9223372036854775808 ≤ cut ∧ cut ≤ 9223372036854775807) :
    Calls Try.prog 8 #[.slice A n c, .slice R m d, .int .i64 size, .int .i64 cut] w fun e w' => e = .returned (.bool true) ∧ Fr (fun _ => False) w w' := by
  obtain ⟨i0, hi0, hz0, hz1, hz2⟩ := info_parts info5
  obtain ⟨j0, hj, hj0, hj1, hj2⟩ := info_parts infoCm3
  obtain ⟨k0, hkk, hkk0, hkk1, hkk2⟩ := info_parts infoRpl
  obtain ⟨p0, hp, hp0, hp1, hp2⟩ := info_parts infoPc3
  have HC := hide hA
  have HR := hide hR
  clear hA hR
  go_enter Try.func8, Try.ntmps8
  go_wp2_with fail
  refine (awake29_any w).mono ?_
  rintro e w0 ⟨rfl, hf0⟩
  have HF0 := hide hf0
  clear hf0
  go_upto_block 0 with fail
  go_cut [9, 10] (fun v9 v10 wx => ∃ (asked : List KC) (line : List Nat) (LA QA : Option Addr) (ln lc qn qc : Nat) (lg qg : Option Nat), v9 = .slice LA ln lc ∧ v10 = .slice QA qn qc ∧ qn ≤ n ∧ Hid (BkA w wx asked line LA QA ln lc qn qc lg qg))
  case first =>
    go_wp2_with fail
    go_loopw [9, 10, 11] (fun v9 v10 v11 wr => ∃ (i : Nat) (asked : List KC) (line : List Nat) (LA QA : Option Addr) (ln lc qn qc : Nat) (lg qg : Option Nat), v9 = .slice LA ln lc ∧ v10 = .slice QA qn qc ∧ v11 = .int .i64 (i : Int) ∧ i ≤ n ∧ qn ≤ i ∧ Hid (BkA w wr asked line LA QA ln lc qn qc lg qg)) (fun _ _ v _ => n - (intOf v).toNat)
    case atStart => exact ⟨0, [], [], none, none, 0, 0, 0, 0, none, none, rfl, rfl, rfl, Nat.zero_le _, Nat.zero_le _, BkA.start _ _ HF0.out⟩
    case round =>
      obtain ⟨i, asked, line, LA, QA, ln, lc, qn, qc, lg, qg, rfl, rfl, rfl, hi, hqn, hB⟩ := hrel
      obtain ⟨wo, rfl⟩ : ∃ z, z = wr := ⟨_, rfl⟩
      have hlnb : ln ≤ 540016640 := by have := hB.out.bd; omega
      by_cases hlt : i < n
      · have hC := HC.out.quiet hB.out.fr
        obtain ⟨b, o, rfl⟩ := hC.addr (by omega)
        obtain ⟨q, hq0⟩ : ∃ q, cs[i]? = some q := ⟨_, List.getElem?_eq_getElem (by have := HC.out.len; omega)⟩
        have hqm := List.mem_of_getElem? hq0
        have hat := hC.at_ q hqm
        have hwf := hC.wf q hqm
        have hatW := hide (HC.out.at_ q hqm)
        have l1 := hide (fun w' (hf : Fr (fun _ => False) wo w') => (hC.quiet hf).load hq0)
        have i0' : (0 : Int) ≤ (i : Int) := by omega
        have i1 : (i : Int) < (n : Int) := by omega
        have HI := hide hlt
        have HN := hide (fun w' => num29_any w' 0)
        have HN2 := hide (fun w' => num29_any w' 270)
        have l10 := l1.out wo (Fr.refl _ _)
        clear hqm hq0 hC hlt
        by_cases hok : q.ok = true
        · obtain ⟨hs1, hs2⟩ := KC.short hok hwf
          have e1 : q.eb = q.form := if_pos hok
          have e2 : q.ee = 0 := if_pos hok
          have ha := ask_any wo q hat hwf
          have he := fun w' (hf : Fr (fun _ => False) wo w') => Encode_any w' q (hat.quiet hf) hwf
          rw [e1, e2] at ha
          rw [e1, e2] at he
          have e3 : fB q.form 0 = fr3 q.form := (if_pos rfl).trans (frameB_is (by omega))
          have e4 : fE q.form 0 = 0 := (if_pos rfl).trans (frameE_is (by omega))
          rw [e3, e4] at ha
          obtain ⟨fl, hfl⟩ : ∃ fl, q.form.length = fl := ⟨_, rfl⟩
          have hfl3 : (fr3 q.form).length = fl + 3 := by rw [fr3_len, hfl]
          rw [hfl] at hs1 hs2
          have HFL := hide (And.intro hfl hfl3)
          have HE := hide he
          have HQ := hide (And.intro hok hwf)
          clear e1 e2 e3 e4 hfl hfl3 he hat hwf hok
          go_wp2_with fail
          refine ha.mono ?_
          intro e w1 hp
          obtain ⟨B1, d1, g1, rfl, hO1, hn1, hf1⟩ := hp.at_len HFL.out.2
          have l11 := l1.out w1 hf1
          have HP1 := hide (And.intro hO1 (And.intro hn1 hf1))
          have he1 := HE.out w1 hf1
          clear hp hO1 hn1 hf1 ha l10
          go_wp2_with fail
          refine he1.mono ?_
          intro e w2 hp
          obtain ⟨B2, d2, g2, rfl, hO2, hn2, hf2⟩ := hp.at_len HFL.out.1
          obtain ⟨hO1, hn1, hf1⟩ := HP1.out
          have hc1 := hO1.cap
          obtain ⟨b1, o1, rfl, -⟩ := hO1.sl.2 (by omega)
          have hS1 := (hO1.sl.below hf2 (fun _ _ => id)).rest8 (k := 3) (by omega)
          rw [fr3_drop] at hS1
          have hby := hide (fun w' (hf : Fr (fun _ => False) w2 w') => bytes29_true w' q.form (some ⟨b1, o1 + 3, none⟩) B2 (d1 - 3) d2 fl HFL.out.1.symm (by omega) (hS1.below hf (fun _ _ => id)) (hO2.sl.below hf (fun _ _ => id)))
          have HB1 := hide (hn1 b1 (hO1.sblk rfl))
          have hz1' : ¬ (d1 : Int) = 3 := by omega
          have hz2' : ¬ d1 = 3 := by omega
          have hz3' : 3 ≤ (d1 : Int) := by omega
          have hf12 := hf1.trans hf2
          have hS2 := hO1.sl.below hf2 (fun _ _ => id)
          have HS2 := hide hS2
          have HF12 := hide hf12
          clear hp hO1 hO2 hn1 hn2 hf1 hf2 hS1 hc1 hf12 hS2 he1 l11 HP1
          go_wp2_with fail
          refine (HN.out _).mono ?_
          rintro e w' ⟨rfl, rfl⟩
          go_wp2_with fail
          refine (hby.out _ (Fr.refl _ _)).mono ?_
          rintro e w3 ⟨rfl, hf3⟩
          have hf13 := HF12.out.trans hf3
          have HF13 := hide hf13
          have HS3 := hide (HS2.out.below hf3 (fun _ _ => id))
          clear hf3 hf13
          go_wp2_with fail
          refine (HN.out _).mono ?_
          rintro e w' ⟨rfl, rfl⟩
          go_wp2_with fail
          refine (HN.out _).mono ?_
          rintro e w' ⟨rfl, rfl⟩
          have l13 := l1.out w3 HF13.out
          have hOa := hB.out.as_.ow.fr HF13.out (fun _ _ => id)
          go_wp2_with (at_builtin; go_loud (refine wpList_append_ow _ rfl _ _ 77 rfl tCm j0 (.agg #[.int .i64 0, .int .i64 0, .string ⟨#[]⟩, .int .i64 0, .int .u64 0, .int .i64 0, .int .i64 0, .int .i64 0, .int .i64 0, .int .i64 0, .int .u64 0, .int .u64 0, .slice none 0 0, .int .i64 0, .int .i64 0, .int .i64 0, .int .i64 0, .int .i64 0, .int .i64 0, .int .u64 0, .int .u64 0, .int .u64 0, .int .i64 0, .slice none 0 0]) 24 232 Try.underlying77 hj hj0 hj1 hj2 rfl (by decide) _ _ _ _ _ rfl (hOa.fr (S := fun _ => False) ((Fr.refl _ _).alloc _) (fun _ _ => id)) _ _ _ (ccells q) rfl (sl_cm _ q _) (ccells_one q) (by unfold maxLen; omega) (by omega) ?_))
          intro QA4 qc4 w4 qg4 hO4 hf4 hg4
          have hal : Fr (fun _ => False) wo (w3.alloc (.cells (ccells q).toArray tCm)) := HF13.out.alloc _
          have hli := (hB.out.li.fr hal (fun _ _ => id)).fr hf4 (fun x e e2 => absurd (((hB.out.li.typed x e).fr hal id).same ((hB.out.as_.ow.typed x e2.symm).fr hal id)) (by decide))
          have hS4 := ((HS3.out.below ((Fr.refl (fun _ => False) w3).alloc (.cells (ccells q).toArray tCm)) (fun _ _ => id))).fr (B := 0) hf4 (fun x ⟨o', e⟩ hx e2 => by
            have h1 := hB.out.as_.ow.lt x e2.symm
            cases e
            have h2 := HB1.out
            omega)
          have H4 := hide (And.intro hO4 (And.intro hf4 (And.intro hg4 hal)))
          clear hO4 hf4 hg4 hal hOa l13
          go_wp2_with (at_builtin; go_loud (refine wpList_append_ow _ rfl _ _ 22 rfl 5 i0 (.int .u8 0) 1 1 Try.underlying22 hi0 hz0 hz1 hz2 rfl (by decide) _ _ _ _ _ rfl hli _ _ _ _ rfl hS4 (bn_one _) (by unfold maxLen; omega) (by omega) ?_))
          intro LA5 lc5 w5 lg5 hO5 hf5 hg5
          obtain ⟨hO4, hf4, hg4, hal⟩ := H4.out
          have hB5 := hide (hB.out.more hatW.out HQ.out HFL.out.2.symm hal hO4 hf4 (hg4.imp id fun ⟨x, e, h⟩ => ⟨x, e, by simpa using h⟩) hO5 hf5 hg5)
          clear hO4 hf4 hg4 hal hO5 hf5 hg5 hli hS4 H4
          go_wp2_with fail
          exact ⟨⟨i + 1, asked ++ [q], line ++ fr3 q.form, LA5, QA4, ln + (fl + 3), lc5, qn + 1, qc4, lg5, qg4, rfl, rfl, by go_num, by have := HI.out; omega, by omega, hB5⟩, by have := HI.out; simp [intOf]; omega⟩
        · have hok2 : q.ok = false := by simpa using hok
          have e1 : q.eb = [] := by unfold KC.eb; rw [hok2]; rfl
          have e2 : q.ee = 270 := by unfold KC.ee; rw [hok2]; rfl
          have ha := ask_any wo q hat hwf
          have he := fun w' (hf : Fr (fun _ => False) wo w') => Encode_any w' q (hat.quiet hf) hwf
          rw [e1, e2] at ha
          rw [e1, e2] at he
          have e3 : fB [] 270 = [] := rfl
          have e4 : fE [] 270 = 270 := rfl
          rw [e3, e4] at ha
          have HE := hide he
          clear e1 e2 e3 e4 he hat hwf hok hok2
          go_wp2_with fail
          refine ha.mono ?_
          intro e w1 hp
          obtain ⟨B1, d1, g1, rfl, hO1, hn1, hf1⟩ := hp.at_len (L := 0) rfl
          have l11 := l1.out w1 hf1
          have HF1 := hide hf1
          have he1 := HE.out w1 hf1
          clear hp hO1 hn1 hf1 ha l10
          go_wp2_with fail
          refine he1.mono ?_
          intro e w2 hp
          obtain ⟨B2, d2, g2, rfl, hO2, hn2, hf2⟩ := hp.at_len (L := 0) rfl
          have HB2 := hide (hB.out.quiet (HF1.out.trans hf2))
          clear hp hO2 hn2 hf2 he1 l11
          go_wp2_with fail
          refine (HN2.out _).mono ?_
          rintro e w' ⟨rfl, rfl⟩
          go_wp2_with fail
          refine (HN2.out _).mono ?_
          rintro e w' ⟨rfl, rfl⟩
          go_wp2_with fail
          refine (HN2.out _).mono ?_
          rintro e w' ⟨rfl, rfl⟩
          go_wp2_with fail
          exact ⟨⟨i + 1, asked, line, LA, QA, ln, lc, qn, qc, lg, qg, rfl, rfl, by go_num, by have := HI.out; omega, by omega, HB2⟩, by have := HI.out; simp [intOf]; omega⟩
      · go_wp2_with fail
        go_meet
        case rel => exact ⟨asked, line, LA, QA, ln, lc, qn, qc, lg, qg, rfl, rfl, by omega, hB⟩
  case rest =>
  obtain ⟨asked, line, LA, QA, ln, lc, qn, qc, lg, qg, rfl, rfl, hqn, HBA⟩ := hcut
  obtain ⟨wo, rfl⟩ : ∃ z, z = wc := ⟨_, rfl⟩
  have hlnb : ln ≤ 540016640 := by have := HBA.out.bd; omega
  go_upto_region 15 with fail
  go_cut [107] (fun v wx => v = .bool (decide (size < 1 ∨ 700 < size)) ∧ wx = wo)
  case first =>
    by_cases h1 : size < 1
    · go_wp2_with fail
      go_meet
      case rel => exact ⟨by rw [decide_eq_true (Or.inl h1)], rfl⟩
    · by_cases h2 : 700 < size
      · go_wp2_with fail
        go_meet
        case rel => exact ⟨by rw [decide_eq_true (Or.inr h2)], rfl⟩
      · go_wp2_with fail
        go_meet
        case rel => exact ⟨by rw [decide_eq_false (show ¬ (size < 1 ∨ 700 < size) by omega)], rfl⟩
  case rest =>
  obtain ⟨rfl, hwc⟩ := hcut
  obtain rfl := hwc
  obtain ⟨bz, hbz⟩ : ∃ bz, decide (size < 1 ∨ 700 < size) = bz := ⟨_, rfl⟩
  rw [hbz]
  have HBZ := hide hbz
  clear hbz
  obtain ⟨wo, rfl⟩ : ∃ z, z = wc := ⟨_, rfl⟩
  go_upto_if 107 with fail
  go_cut [2] (fun v wx => ∃ sz : Nat, v = .int .i64 (sz : Int) ∧ 1 ≤ sz ∧ sz ≤ 700 ∧ wx = wo)
  case first =>
    cases bz with
    | true =>
      go_wp2_with fail
      go_meet
      case rel => exact ⟨64, rfl, by omega, by omega, rfl⟩
    | false =>
      go_wp2_with fail
      go_meet
      case rel =>
        have := of_decide_eq_false HBZ.out
        exact ⟨size.toNat, by congr 1; omega, by omega, by omega, rfl⟩
  case rest =>
  obtain ⟨sz, rfl, hsz1, hsz2, hwc⟩ := hcut
  obtain rfl := hwc
  go_wp2_with fail
  refine (newS_any _).mono ?_
  rintro e w1 ⟨rfl, hpA, f1⟩
  obtain ⟨p, hpe⟩ : ∃ p, wc.heap.size = p := ⟨_, rfl⟩
  simp only [hpe] at hpA ⊢
  have HPE := hide hpe
  have HG0 := hide (Gath.start hpA.stm0)
  have HBA1 := hide (HBA.out.quiet f1)
  have HPT := hide (show Typed w1 p tStm from Bl.typed hpA.bl)
  have HLI := hide (fun w' (hf : Fr (fun x => x = p) w1 w') => (HBA1.out.li.fr hf (fun x e e2 => absurd ((HBA1.out.li.typed x e).same (e2 ▸ HPT.out)) (by decide))).sl)
  have hlc := HBA1.out.li.cap
  unfold maxLen at hlc
  clear hpA f1 hpe
  go_upto_block 2 with fail
  go_cut [17] (fun v17 wx => ∃ (nb cb : Nat) (A2 : Option Addr) (s2 g2 : Option Nat) (lb : List PC) (u2 : Nat) (d2 : Bool), v17 = .slice A2 nb cb ∧ Hid (Gath w1 wx p line s2 A2 nb cb g2 lb u2 d2))
  case first =>
    go_wp2_with fail
    go_loopw [17, 18] (fun v17 v18 wr => ∃ (at_ nb cb : Nat) (A2 : Option Addr) (s2 g2 : Option Nat) (lb : List PC) (u2 : Nat) (d2 : Bool), v17 = .slice A2 nb cb ∧ v18 = .int .i64 (at_ : Int) ∧ at_ ≤ ln + 700 ∧ Hid (Gath w1 wr p (line.take at_) s2 A2 nb cb g2 lb u2 d2)) (fun _ v _ => ln - (intOf v).toNat)
    case atStart => exact ⟨0, 0, 0, none, none, none, [], 0, false, rfl, rfl, Nat.zero_le _, HG0.out⟩
    case round =>
      obtain ⟨at_, nb, cb, A2, s2, g2, lb, u2, d2, rfl, rfl, hat, hG⟩ := hrel
      clear HG0
      obtain ⟨wd, rfl⟩ : ∃ z, z = wr := ⟨_, rfl⟩
      have hnb : nb ≤ 540016640 := by
        have h1 := hG.out.ps.bound
        have h2 := hG.out.rw_.len
        have h3 : (line.take at_).length ≤ ln := by rw [List.length_take, HBA1.out.len]; omega
        omega
      by_cases hlt : at_ < ln
      · have iw1 : IntKind.i64.wrap ((at_ : Int) + (sz : Int)) = (at_ : Int) + (sz : Int) := IntWalk.i64_in _ (by omega)
        go_upto_if 122 with fail
        go_cut [19] (fun v wx => ∃ k : Nat, v = .int .i64 ((at_ + k : Nat) : Int) ∧ at_ + k ≤ ln ∧ Hid (line.take (at_ + k) = line.take (at_ + sz)) ∧ 1 ≤ k ∧ wx = wd)
        case first =>
          by_cases hgt : ln < at_ + sz
          · have b1 : (ln : Int) < (at_ : Int) + (sz : Int) := by omega
            have HGT := hide hgt
            clear hgt
            go_wp2_with fail
            go_meet
            case rel => exact ⟨ln - at_, by congr 1; omega, by omega, by show _ = _; rw [List.take_of_length_le (by have := HBA1.out.len; omega), List.take_of_length_le (by have := HBA1.out.len; have := HGT.out; omega)], by omega, rfl⟩
          · have b1 : ¬ (ln : Int) < (at_ : Int) + (sz : Int) := by omega
            have HGT := hide hgt
            clear hgt
            go_wp2_with fail
            go_meet
            case rel => exact ⟨sz, by congr 1, by have := HGT.out; omega, rfl, hsz1, rfl⟩
        case rest =>
        obtain ⟨k, rfl, hk1, hk2, hk3, hwc2⟩ := hcut
        obtain ⟨wx, rfl⟩ : ∃ z, z = wc := ⟨_, rfl⟩
        obtain rfl := hwc2
        have hSl := HLI.out _ hG.out.fr
        obtain ⟨b, o, rfl, -⟩ := hSl.2 (by omega)
        have hd1 : ((line.drop at_).take k).length = k := by rw [List.length_take, List.length_drop, ← HBA1.out.len]; omega
        have e1 := take_drop_add line at_ k
        have hl3 : (line.take (at_ + k)).length ≤ ln := by rw [List.length_take, HBA1.out.len]; omega
        have h256 : ∀ x ∈ line, x < 256 := fun x hx => by
          rw [HBA1.out.is_] at hx
          obtain ⟨q, hq, hx⟩ := List.mem_flatMap.1 hx
          exact fr3_b (KC.form_b (HBA1.out.ok q hq).2) x hx
        have hfe := feed_wide wx p (line.take at_) u2 d2 s2 hG.out.st ((line.drop at_).take k) (some ⟨b, o + at_, none⟩) k (lc - at_) hd1.symm (by rw [e1]; omega) (by rw [e1]; exact fun x hx => h256 x (List.mem_of_mem_take hx)) (hSl.mid (by omega))
        have HE1 := hide e1
        have a0 : (0 : Int) ≤ (at_ : Int) := by omega
        have a1 : (at_ : Int) ≤ (at_ : Int) + (k : Int) := by omega
        have a2 : (at_ : Int) + (k : Int) ≤ (lc : Int) := by omega
        have a3 : ¬ (lc : Int) = (at_ : Int) := by omega
        have a4 : ¬ lc = at_ := by omega
        clear hSl hd1 e1 hl3 h256
        go_wp2_with fail
        refine hfe.mono ?_
        rintro e wf ⟨l1, u1, d1, B1, m1, g1, s', rfl, t1, t2, t3, t4, t5⟩
        have hm1 : m1 ≤ 540016641 := by
          have h1 := (t1.all hG.out.ps).bound
          have h2 := t2.len
          rw [HE1.out] at h1
          have h3 : (line.take (at_ + k)).length ≤ ln := by rw [List.length_take, HBA1.out.len]; omega
          rw [List.length_append] at h1
          omega
        have hsT := hG.out.st.typed
        have hO1 := (hG.out.rw_.keepS t5 (fun x e => by
          rcases e with rfl | e
          · exact .inl hsT.1
          · exact .inr (hsT.2 x e.symm))).ow
        have hS1 := t2.ow.sl
        have H1 := hide (And.intro t1 (And.intro t2 (And.intro t3 (And.intro t4 t5))))
        clear t1 t2 t3 t4 t5 hsT hfe
        go_wp2_with (at_builtin; go_loud (refine wpList_append_ow _ rfl _ _ 67 rfl tPc p0 (.agg #[.int .i64 0, .int .i64 0, .string ⟨#[]⟩, .int .i64 0, .int .u64 0, .int .i64 0, .int .i64 0, .int .i64 0, .int .i64 0, .int .i64 0, .int .u64 0, .int .u64 0, .slice none 0 0, .int .i64 0, .int .i64 0, .int .i64 0, .int .i64 0, .int .i64 0, .int .i64 0, .int .u64 0, .int .u64 0, .int .u64 0, .int .i64 0, .slice none 0 0, .int .i64 0]) 25 240 Try.underlying67 hp hp0 hp1 hp2 rfl (by decide) _ _ _ _ _ rfl hO1 _ _ _ _ rfl hS1 (pflat_one l1) (by unfold maxLen; omega) (by omega) ?_))
        intro A4 c4 w5 g4 hO5 hf5 hg5
        obtain ⟨t1, t2, t3, t4, t5⟩ := H1.out
        have hG5 := hG.out.fed t1 t2 t3 t4 t5 hO5 hf5 hg5
        rw [HE1.out, hk2.out] at hG5
        have HG5 := hide hG5
        clear t1 t2 t3 t4 t5 hO5 hf5 hg5 hG5 hO1 hS1
        go_wp2_with fail
        exact ⟨⟨at_ + sz, nb + m1, c4, A4, s', g4, lb ++ l1, u1, d1, rfl, by go_num, by omega, HG5⟩, by simp [intOf]; omega⟩
      · have hTT : line.take at_ = line := List.take_of_length_le (by rw [← HBA1.out.len]; omega)
        have HG1 := hide (hTT ▸ hG.out)
        clear hTT hG
        go_wp2_with fail
        go_meet
        case rel => exact ⟨nb, cb, A2, s2, g2, lb, u2, d2, rfl, HG1⟩
  case rest =>
  obtain ⟨nb, cb, A2, s2, g2, lb, u2, d2, rfl, hG⟩ := hcut
  have hpw : w.heap.size ≤ p := by have := HBA.out.fr.size; have := HPE.out; omega
  apply_assumption
  exact back_tail29 w w1 _ rs asked line lb LA QA A R A2 n c m d ln lc qn qc nb cb sz p u2 lg qg s2 g2 d2 cut hm hd HR.out HBA1.out hlnb (by omega) HPT.out hpw hG.out _ _ _ _ _ _ _ _ _ _ _ _ _ _ _ _ _ _ _ _ _ _ _ _ _ _ _ _ _ _ _ _ _ _ _ _ _ _ _ _ _ _ _ _ _ _ _ _ _ _ _ _ _ _ _ _ _ _ _ _ _ _ _ _ _ _ _ _ _ _ _ _ _ _ _ _ _ _ _ _ _ _ _ _ _ _ _ _ _ _ _ _ _ _ _ _ _ _ _ _ _ _ _ _ _ _ _ _ _ _ _ _ _ _ _ _ _ _ _ _ _ _ _ _ _ _ _ _ _ _ _ _ _ _ _ _ _ _ _ _ _ _ _ _ _ _ _ _ _ _ _ _ _ _ _ _ _ _ _ _ _ _ _ _ _ _ _ _ _ _ _ _ _ _ _ _ _ _ _ _ _ _ _ _ _ _ _ _ _ _ _ _ _ _ _ _ _ _ _ _ _ _ _ _ _ _ _ _ _ _ _ _ _ _ _ _ _ _ _ _ _ _ _ _ _ _ _ _ _ _ _ _ _ _ _ _ _ _ _ _ _ _ _ _ _ _ _ _ _ _
end Go.Proofs.Ytlcjhbemgagchaa
