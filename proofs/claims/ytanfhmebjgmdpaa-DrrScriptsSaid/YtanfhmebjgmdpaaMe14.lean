/-
  Texts merged into one, to keep the claim small: Dx8.
-/
import Derived.Test.YtanfhmebjgmdpaaMe13
import Derived.Deep.CutRange
/-
  bazaarref16.Drr: Next: a service (the walk's tail).
-/
namespace Go.Proofs.Ytanfhmebjgmdpaa
open Go.RowKit
set_option linter.unusedVariables false
/-- Parts of a code. -/
def tailC : Nat → Code → Code
  | 0, c => c
  | n + 1, .seq _ b => tailC n b
  | _, c => c
def headC : Code → Code
  | .seq a _ => a
  | c => c
def inC : Code → Code
  | .loop b => b
  | .block _ b => b
  | .cond _ a _ => a
  | c => c
/-- Next's service, behind the first thing's load. -/
def servC (c : Code) : Code := tailC 1 (inC (tailC 1 (headC (tailC 2 (inC (tailC 1 (inC (inC (headC (tailC 1 c)))))))))) 
theorem wp_servC {P : Program} {fn : Func} {c : Code} {Q : Exit → Act → World → Prop} {a : Act} {w : World} (hb : fn.body = some c) (h : (servC c).wp P Q a w) : (servC (fn.body.getD .skip)).wp P Q a w := by
  rw [hb]; exact h
section
variable {q : Nat} {b : DB} {s : DR}
set_option maxHeartbeats 16000000 in
set_option maxRecDepth 100000 in
theorem serve_tail (w wB : World) (hs : s.Fine) (x1 o1 x2 o2 x3 o3 : Nat) (e1 : b.tA = some ⟨x1, o1, none⟩) (e2 : b.cA = some ⟨x2, o2, none⟩) (e3 : b.dA = some ⟨x3, o3, none⟩) (hg : b.tg = some x1 ∧ b.cg = some x2 ∧ b.dg = some x3)
    (n : Nat) (hn : s.lines.length = n) (qv : Nat) (hqv : s.quantum = qv) (k j : Nat) (v : Bool) (hlt : j < n) (l : DQ) (hl : s.lines[j]? = some l) (s2 : DR) (l2 : DQ) (hN : Nx q b ({ s with at_ := (j : Int), vis := v } : DR) j l (Gs (toDS s) j v) s2 l2 true wB) (x : Int × Int) (t : List (Int × Int)) (hx2 : l2.things = x :: t) (hc2 : x.2 ≤ l2.df)
    (hGk : Gs (toDS s) k s.vis = Gs (toDS s) j v) (hFB : Fr (dfoot q b s) w wB) (xv : Int) (hxv : x.1 = xv) (Q : Exit → Act → World → Prop) (hQ : ∀ a w', bodyPost Try.prog Try.f72 (NextOut w q b s k) Exit.ret a w' → Q Exit.ret a w') (u1 u2 u3 u4 u7 u8 u9 u10 u11 u12 u13 u14 u15 u16 u17 u18 u19 u20 u21 u22 u23 u24 u25 u26 u27 u28 u29 u30 u31 u32 u33 u34 u35 u36 u37 u38 u39 u40 u41 u42 u43 u44 u45 u46 u47 u48 u49 u50 u51 u52 u53 u54 u55 u56 u57 u58 u59 u60 u61 u62 u63 u64 u65 u66 u67 u68 u69 u70 u71 u72 u73 u74 u75 u76 u77 u78 u79 u80 u81 u82 u83 u84 u85 u86 u87 u88 u89 u90 u91 u92 u93 u94 u95 u96 u97 u98 u99 u100 u101 u102 u103 u104 u105 u106 u107 u108 u109 u110 u111 u112 u113 u114 u115 u116 u117 u118 u119 u120 u121 u122 u123 u124 u125 u126 u127 u128 u129 u130 u131 u132 u133 u134 u135 u136 u137 u138 u139 u140 u141 u142 u143 u144 u145 u146 u147 u148 u149 u150 u151 u152 u153 u154 u155 u156 u157 u158 u159 u160 u161 u162 u163 u164 u165 u166 u167 u168 u169 u170 u171 u172 u173 u174 u175 u176 u177 : Value) :
    Code.wp Try.prog (servC (Try.f72.body.getD .skip)) Q { tmps := #[.pointer (some ⟨q, 0, none⟩), u1, u2, u3, u4, .int .i64 (j : Int), .int .i64 xv, u7, u8, u9, u10, u11, u12, u13, u14, u15, u16, u17, u18, u19, u20, u21, u22, u23, u24, u25, u26, u27, u28, u29, u30, u31, u32, u33, u34, u35, u36, u37, u38, u39, u40, u41, u42, u43, u44, u45, u46, u47, u48, u49, u50, u51, u52, u53, u54, u55, u56, u57, u58, u59, u60, u61, u62, u63, u64, u65, u66, u67, u68, u69, u70, u71, u72, u73, u74, u75, u76, u77, u78, u79, u80, u81, u82, u83, u84, u85, u86, u87, u88, u89, u90, u91, u92, u93, u94, u95, u96, u97, u98, u99, u100, u101, u102, u103, u104, u105, u106, u107, u108, u109, u110, u111, u112, u113, u114, u115, u116, u117, u118, u119, u120, u121, u122, u123, u124, u125, u126, u127, u128, u129, u130, u131, u132, u133, u134, u135, u136, u137, u138, u139, u140, u141, u142, u143, u144, u145, u146, u147, u148, u149, u150, u151, u152, u153, u154, u155, u156, u157, u158, u159, u160, u161, u162, u163, u164, u165, u166, u167, u168, u169, u170, u171, u172, u173, u174, u175, u176, u177], defers := [] } wB := by
  have Hr1 := hide e1
  have Hr2 := hide e2
  have Hr3 := hide e3
  have Hg := hide hg
  have Hn := hide hn
  have Hq := hide hqv
  have Hs := hide hs
  have Hl := hide hl
  have HN := hide hN
  have HGk := hide hGk
  have HFB := hide hFB
  have HQ := hide hQ
  have hn2 : n ≤ 1024 := by rw [← hn]; exact hs.n2
  clear e1 e2 e3 hg hn hqv hs hl hN hGk hFB hQ
  have j1 : (0 : Int) ≤ (j : Int) := by omega
  have j2 : (j : Int) < (n : Int) := by omega
  obtain ⟨cv, hcv⟩ : ∃ c, x.2 = c := ⟨_, rfl⟩
  obtain ⟨d2, hd2⟩ : ∃ d, l2.df = d := ⟨_, rfl⟩
  obtain ⟨m2, hm2⟩ : ∃ m, t.length = m := ⟨_, rfl⟩
  obtain ⟨M, hM⟩ : ∃ M, m2 + 1 = M := ⟨_, rfl⟩
  have hcd : cv ≤ d2 := by rw [← hcv, ← hd2]; exact hc2
  have hcb : 1 ≤ cv ∧ cv ≤ 8 := by rw [← hcv]; exact Hs.out.co l (List.mem_of_getElem? Hl.out) x (by rw [← HN.out.th, hx2]; simp)
  have hdb2 : 0 ≤ d2 ∧ d2 ≤ 4611686018427388928 := by rw [← hd2]; exact ⟨HN.out.d1, HN.out.d2⟩
  have hlen2 : l2.things.length = M := by rw [hx2, List.length_cons, hm2, hM]
  have Hx2 := hide (And.intro hx2 hc2)
  have Hcv := hide (And.intro hcv (And.intro hd2 (And.intro hxv hm2)))
  have hMM : (0 : Int) < (M : Int) := by omega
  have hMN : 0 < M := by omega
  have hMz : ¬ M = 0 := by omega
  have hMb : decide ((0 : Int) < (M : Int)) = true := decide_eq_true hMM
  have hMb2 : decide (0 < M) = true := decide_eq_true (by omega)
  have hcb2 : decide (cv ≤ d2) = true := decide_eq_true hcd
  have HM := hide hM
  have hm1024 : m2 ≤ 65536 := by
    have h1 := Hs.out.le l (List.mem_of_getElem? Hl.out)
    rw [← HN.out.th, hlen2] at h1
    omega
  have Hlen2 := hide hlen2
  have i4 : IntKind.i64.wrap (d2 - cv) = d2 - cv := IntWalk.i64_in _ (by omega)
  clear hx2 hc2 hcv hd2 hxv hm2 hM hlen2
  have hDB := HN.out.at_
  have HDB := hide hDB
  have hbl2 := hDB.bl
  unfold dcells at hbl2
  rw [show s2.lines.length = n from HN.out.len.trans Hn.out, show s2.quantum = qv from HN.out.qu.trans Hq.out, Hr1.out, Hr2.out, Hr3.out, HN.out.a, HN.out.v] at hbl2
  have b0 : wB.cell? ⟨q, 0, none⟩ = some (.int .i64 (n : Int)) := hbl2.cell' rfl
  have b2 : wB.cell? ⟨q, 2, none⟩ = some (.int .i64 (qv : Int)) := hbl2.cell' rfl
  have b3 : wB.cell? ⟨q, 3, none⟩ = some (.slice (some ⟨x1, o1, none⟩) n b.tc) := hbl2.cell' rfl
  have b4 : wB.cell? ⟨q, 4, none⟩ = some (.slice (some ⟨x2, o2, none⟩) n b.cc) := hbl2.cell' rfl
  have b5 : wB.cell? ⟨q, 5, none⟩ = some (.slice (some ⟨x3, o3, none⟩) n b.dc) := hbl2.cell' rfl
  have b6 : wB.cell? ⟨q, 6, none⟩ = some (.int .i64 (j : Int)) := hbl2.cell' rfl
  have b7 : wB.cell? ⟨q, 7, none⟩ = some (.bool true) := hbl2.cell' rfl
  have hSB := Stg.start hDB HN.out.hl
  have hi2 : j < s2.lines.length := (List.getElem?_eq_some_iff.1 HN.out.hl).1
  obtain ⟨cT2, zT2⟩ := hSB.lookT hi2 Hr1.out
  obtain ⟨cC2, zC2⟩ := hSB.lookC hi2 Hr2.out
  obtain ⟨cD2, zD2⟩ := hSB.lookD hi2 Hr3.out
  unfold thdr at cT2
  unfold chdr at cC2
  rw [Hlen2.out] at cT2 cC2
  rw [Hcv.out.2.1] at cD2 hSB
  have hl2m : l2 ∈ s2.lines := List.mem_of_getElem? HN.out.hl
  have hOt := hDB.lt l2 hl2m
  have hOc := hDB.lc l2 hl2m
  obtain ⟨y1, p1, hy1, -, cX, -⟩ := hOt.look (j := 0) (u := iv_ xv) (by unfold tvals; rw [Hx2.out.1, ← Hcv.out.2.2.1]; rfl)
  obtain ⟨y2, p2, hy2, -, cY, -⟩ := hOc.look (j := 0) (u := iv_ cv) (by unfold cvals; rw [Hx2.out.1, ← Hcv.out.1]; rfl)
  have cX' : wB.cell? ⟨y1, p1, none⟩ = some (.int .i64 xv) := cX
  have cY' : wB.cell? ⟨y2, p2, none⟩ = some (.int .i64 cv) := cY
  clear cX cY
  have cX := cX'
  have cY := cY'
  rw [hy1] at cT2
  rw [hy2] at cC2
  clear cX' cY' hbl2
  have HtA : ∃ y oy, l2.tA = some ⟨y, oy, none⟩ := ⟨_, _, hy1⟩
  have HcA : ∃ y oy, l2.cA = some ⟨y, oy, none⟩ := ⟨_, _, hy2⟩
  have hcT : M ≤ l2.tc := by have := hOt.cap.1; rw [Hlen2.out] at this; exact this
  have hcC : M ≤ l2.cc := by have := hOc.cap.1; rw [Hlen2.out] at this; exact this
  have HOt : Hid (Ow wB tInt_ 1 l2.tA M l2.tc (iv_ x.1 :: t.map fun x => iv_ x.1) l2.tg) := by
    have h := hOt
    unfold tvals at h
    rw [Hlen2.out, Hx2.out.1] at h
    exact h
  have HOc : Hid (Ow wB tInt_ 1 l2.cA M l2.cc (iv_ x.2 :: t.map fun x => iv_ x.2) l2.cg) := by
    have h := hOc
    unfold cvals at h
    rw [Hlen2.out, Hx2.out.1] at h
    exact h
  clear hOt hOc hy1 hy2
  have HSB := hide hSB
  clear hDB hSB
  refine wp_servC rfl ?_
  simp only [servC, tailC, headC, inC]
  go_wp2_with fail
  refine region_tail 23 (by kernel_rfl) (by kernel_rfl) ?_
  intro wq Hwq hcwq hzwq hswq
  simp only [List.take_succ_cons, List.take_zero, List.drop_succ_cons, List.drop_zero]
  repeat still_step
  refine wpStill_nil ?_
  go_wp2_with fail
  have hfc : Fr (fun _ => False) wB wq := by rw [Hwq.out]; exact (Fr.refl _ _).drew
  have h8 := (HSB.out.quiet hfc).setD HDB.out hi2 Hr3.out Hg.out.2.2 (d2 - cv)
  generalize hw8 : wq.setCell ⟨x3, o3 + j, none⟩ (.int .i64 (d2 - cv)) = w8 at h8 ⊢
  clear hw8 Hwq hcwq hzwq hswq hfc b0 b2 b3 b4 b5 b6 b7 cT2 cC2 cD2 zT2 zC2 zD2 cX cY
  have H8 := hide h8
  clear h8
  have hbl3 := HDB.out.bl.fr H8.out.fr (fun e => by rcases e with e | e | e; exact HDB.out.ne_t e; exact HDB.out.ne_c e; exact HDB.out.ne_d e)
  unfold dcells at hbl3
  rw [show s2.lines.length = n from HN.out.len.trans Hn.out, Hr1.out, Hr2.out, Hr3.out] at hbl3
  have r3 : w8.cell? ⟨q, 3, none⟩ = some (.slice (some ⟨x1, o1, none⟩) n b.tc) := hbl3.cell' rfl
  have r4 : w8.cell? ⟨q, 4, none⟩ = some (.slice (some ⟨x2, o2, none⟩) n b.cc) := hbl3.cell' rfl
  have r5 : w8.cell? ⟨q, 5, none⟩ = some (.slice (some ⟨x3, o3, none⟩) n b.dc) := hbl3.cell' rfl
  obtain ⟨p3, y3⟩ := H8.out.lookT hi2 Hr1.out
  obtain ⟨p4, y4⟩ := H8.out.lookC hi2 Hr2.out
  obtain ⟨p5, y5⟩ := H8.out.lookD hi2 Hr3.out
  clear hbl3
  unfold thdr at p3
  unfold chdr at p4
  rw [Hlen2.out] at p3 p4
  go_cut [0, 5, 6] from 7 to 177 (fun s0 s5 s6 wx => s0 = .pointer (some ⟨q, 0, none⟩) ∧ s5 = .int .i64 (j : Int) ∧ s6 = .int .i64 xv ∧ ∃ A' c', Hid (Stg wB q b s2 j (.slice A' m2 c') (chdr l2) (d2 - cv) wx) ∧ Hid (Ow wx tInt_ 1 A' m2 c' (t.map fun x => iv_ x.1) l2.tg))
  case first =>
    obtain ⟨y, oy, hyA⟩ : ∃ y oy, l2.tA = some ⟨y, oy, none⟩ := HtA
    have hOw := HOt.out.fr H8.out.fr (fun z hz e => foot_rows HDB.out hl2m (.inl hz) e)
    rw [hyA] at hOw
    have hfst := Ow.first (by rw [← HM.out] at hOw; exact hOw)
    have Hfst := hide hfst
    have HyA := hide hyA
    rw [hyA] at p3
    clear hOw hfst hyA
    by_cases hz : l2.tc = 1
    · obtain rfl : m2 = 0 := (Hfst.out.1 hz).2
      obtain rfl : M = 1 := by have := HM.out; omega
      rw [hz] at p3
      have Hz := hide hz
      clear hz
      refine region_tail 14 (by kernel_rfl) (by kernel_rfl) ?_
      intro wd Hwd hcwd hzwd hswd
      simp only [List.take_succ_cons, List.take_zero, List.drop_succ_cons, List.drop_zero]
      repeat still_step
      refine wpStill_nil ?_
      go_wp2_with fail
      go_meet
      case rel =>
        have hfd : Fr (fun _ => False) w8 wd := by rw [Hwd.out]; exact (Fr.refl _ _).drew
        have hst := (H8.out.quiet hfd).setT HDB.out hi2 Hr1.out Hg.out.1 (.slice (some ⟨y, oy, none⟩) 0 0)
        exact ⟨rfl, rfl, rfl, _, _, hst, ((Hfst.out.1 Hz.out).1.fr hfd (fun _ _ => id)).fr (((Fr.refl (fun z => z = x1) _).setAt _)) (fun z hz e => foot_rows HDB.out hl2m (.inl hz) (.inl (e ▸ Hg.out.1)))⟩
    · have Hz := hide hz
      obtain ⟨tcc, htcc⟩ : ∃ c, l2.tc = c := ⟨_, rfl⟩
      have hcapt : M ≤ tcc := by rw [← htcc]; exact hcT
      rw [htcc] at p3 hz
      have hz1 : ¬ (tcc : Int) = 1 := by omega
      have hz2 : (1 : Int) ≤ (M : Int) := by omega
      have hz3 : (1 : Int) ≤ (tcc : Int) := by omega
      have Htcc := hide htcc
      clear hz htcc
      refine region_tail 14 (by kernel_rfl) (by kernel_rfl) ?_
      intro wd Hwd hcwd hzwd hswd
      simp only [List.take_succ_cons, List.take_zero, List.drop_succ_cons, List.drop_zero]
      repeat still_step
      refine wpStill_nil ?_
      go_wp2_with fail
      go_meet
      case rel =>
        have hfd : Fr (fun _ => False) w8 wd := by rw [Hwd.out]; exact (Fr.refl _ _).drew
        have hst := (H8.out.quiet hfd).setT HDB.out hi2 Hr1.out Hg.out.1 (.slice (some ⟨y, oy + 1, none⟩) (M - 1) (tcc - 1))
        have hMm : M - 1 = m2 := by have := HM.out; omega
        rw [hMm] at hst ⊢
        refine ⟨rfl, rfl, rfl, _, _, hst, ?_⟩
        have h9 := Hfst.out.2 Hz.out
        rw [Htcc.out] at h9
        exact (h9.fr hfd (fun _ _ => id)).fr (((Fr.refl (fun z => z = x1) _).setAt _)) (fun z hz e => foot_rows HDB.out hl2m (.inl hz) (.inl (e ▸ Hg.out.1)))
  case rest =>
  obtain ⟨rfl, rfl, rfl, A2, c2, H9, HO2⟩ := hcut
  obtain ⟨w9, rfl⟩ : ∃ z, z = wc := ⟨_, rfl⟩
  clear r3 r4 r5 p3 p4 p5 y3 y4 y5
  have hbl3 := HDB.out.bl.fr H9.out.fr (fun e => by rcases e with e | e | e; exact HDB.out.ne_t e; exact HDB.out.ne_c e; exact HDB.out.ne_d e)
  unfold dcells at hbl3
  rw [show s2.lines.length = n from HN.out.len.trans Hn.out, Hr1.out, Hr2.out, Hr3.out] at hbl3
  have r3 : w9.cell? ⟨q, 3, none⟩ = some (.slice (some ⟨x1, o1, none⟩) n b.tc) := hbl3.cell' rfl
  have r4 : w9.cell? ⟨q, 4, none⟩ = some (.slice (some ⟨x2, o2, none⟩) n b.cc) := hbl3.cell' rfl
  have r5 : w9.cell? ⟨q, 5, none⟩ = some (.slice (some ⟨x3, o3, none⟩) n b.dc) := hbl3.cell' rfl
  obtain ⟨p3, y3⟩ := H9.out.lookT hi2 Hr1.out
  obtain ⟨p4, y4⟩ := H9.out.lookC hi2 Hr2.out
  obtain ⟨p5, y5⟩ := H9.out.lookD hi2 Hr3.out
  clear hbl3
  unfold chdr at p4
  rw [Hlen2.out] at p4
  go_upto_region 10 with fail
  go_cut [0, 5, 6] from 7 to 177 (fun s0 s5 s6 wx => s0 = .pointer (some ⟨q, 0, none⟩) ∧ s5 = .int .i64 (j : Int) ∧ s6 = .int .i64 xv ∧ ∃ A' c', Hid (Stg wB q b s2 j (.slice A2 m2 c2) (.slice A' m2 c') (d2 - cv) wx) ∧ Hid (Ow wx tInt_ 1 A2 m2 c2 (t.map fun x => iv_ x.1) l2.tg) ∧ Hid (Ow wx tInt_ 1 A' m2 c' (t.map fun x => iv_ x.2) l2.cg))
  case first =>
    obtain ⟨y, oy, hyA⟩ : ∃ y oy, l2.cA = some ⟨y, oy, none⟩ := HcA
    have hOw := HOc.out.fr H9.out.fr (fun z hz e => foot_rows HDB.out hl2m (.inr hz) e)
    rw [hyA] at hOw
    have hfst := Ow.first (by rw [← HM.out] at hOw; exact hOw)
    have Hfst := hide hfst
    rw [hyA] at p4
    clear hOw hfst hyA
    by_cases hz : l2.cc = 1
    · obtain rfl : m2 = 0 := (Hfst.out.1 hz).2
      obtain rfl : M = 1 := by have := HM.out; omega
      rw [hz] at p4
      have Hz := hide hz
      clear hz
      refine region_tail 14 (by kernel_rfl) (by kernel_rfl) ?_
      intro wd Hwd hcwd hzwd hswd
      simp only [List.take_succ_cons, List.take_zero, List.drop_succ_cons, List.drop_zero]
      repeat still_step
      refine wpStill_nil ?_
      go_wp2_with fail
      go_meet
      case rel =>
        have hfd : Fr (fun _ => False) w9 wd := by rw [Hwd.out]; exact (Fr.refl _ _).drew
        have hst := (H9.out.quiet hfd).setC HDB.out hi2 Hr2.out Hg.out.2.1 (.slice (some ⟨y, oy, none⟩) 0 0)
        exact ⟨rfl, rfl, rfl, _, _, hst, (HO2.out.fr hfd (fun _ _ => id)).fr (((Fr.refl (fun z => z = x2) _).setAt _)) (fun z hz e => foot_rows HDB.out hl2m (.inl hz) (.inr (.inl (e ▸ Hg.out.2.1)))), ((Hfst.out.1 Hz.out).1.fr hfd (fun _ _ => id)).fr (((Fr.refl (fun z => z = x2) _).setAt _)) (fun z hz e => foot_rows HDB.out hl2m (.inr hz) (.inr (.inl (e ▸ Hg.out.2.1))))⟩
    · have Hz := hide hz
      obtain ⟨tcc, htcc⟩ : ∃ c, l2.cc = c := ⟨_, rfl⟩
      have hcapt : M ≤ tcc := by rw [← htcc]; exact hcC
      rw [htcc] at p4 hz
      have hz1 : ¬ (tcc : Int) = 1 := by omega
      have hz2 : (1 : Int) ≤ (M : Int) := by omega
      have hz3 : (1 : Int) ≤ (tcc : Int) := by omega
      have Htcc := hide htcc
      clear hz htcc
      refine region_tail 14 (by kernel_rfl) (by kernel_rfl) ?_
      intro wd Hwd hcwd hzwd hswd
      simp only [List.take_succ_cons, List.take_zero, List.drop_succ_cons, List.drop_zero]
      repeat still_step
      refine wpStill_nil ?_
      go_wp2_with fail
      go_meet
      case rel =>
        have hfd : Fr (fun _ => False) w9 wd := by rw [Hwd.out]; exact (Fr.refl _ _).drew
        have hst := (H9.out.quiet hfd).setC HDB.out hi2 Hr2.out Hg.out.2.1 (.slice (some ⟨y, oy + 1, none⟩) (M - 1) (tcc - 1))
        have hMm : M - 1 = m2 := by have := HM.out; omega
        rw [hMm] at hst ⊢
        refine ⟨rfl, rfl, rfl, _, _, hst, (HO2.out.fr hfd (fun _ _ => id)).fr (((Fr.refl (fun z => z = x2) _).setAt _)) (fun z hz e => foot_rows HDB.out hl2m (.inl hz) (.inr (.inl (e ▸ Hg.out.2.1)))), ?_⟩
        have h9 := Hfst.out.2 Hz.out
        rw [Htcc.out] at h9
        exact (h9.fr hfd (fun _ _ => id)).fr (((Fr.refl (fun z => z = x2) _).setAt _)) (fun z hz e => foot_rows HDB.out hl2m (.inr hz) (.inr (.inl (e ▸ Hg.out.2.1))))
  case rest =>
  obtain ⟨rfl, rfl, rfl, A5, c5, H10, HO2', HO5⟩ := hcut
  obtain ⟨w10, rfl⟩ : ∃ z, z = wc := ⟨_, rfl⟩
  clear r3 r4 r5 p3 p4 p5 y3 y4 y5 HO2 H9
  have hbl3 := HDB.out.bl.fr H10.out.fr (fun e => by rcases e with e | e | e; exact HDB.out.ne_t e; exact HDB.out.ne_c e; exact HDB.out.ne_d e)
  unfold dcells at hbl3
  rw [show s2.lines.length = n from HN.out.len.trans Hn.out, Hr1.out, Hr2.out, Hr3.out] at hbl3
  have r3 : w10.cell? ⟨q, 3, none⟩ = some (.slice (some ⟨x1, o1, none⟩) n b.tc) := hbl3.cell' rfl
  have r4 : w10.cell? ⟨q, 4, none⟩ = some (.slice (some ⟨x2, o2, none⟩) n b.cc) := hbl3.cell' rfl
  have r5 : w10.cell? ⟨q, 5, none⟩ = some (.slice (some ⟨x3, o3, none⟩) n b.dc) := hbl3.cell' rfl
  obtain ⟨p3, y3⟩ := H10.out.lookT hi2 Hr1.out
  obtain ⟨p4, y4⟩ := H10.out.lookC hi2 Hr2.out
  obtain ⟨p5, y5⟩ := H10.out.lookD hi2 Hr3.out
  clear hbl3
  have hFr10 : Hid (Fr (dfoot q b s) w w10) := HFB.out.trans (H10.out.fr.mono fun y _ e => by rcases e with e | e | e; exact .inr (.inl e); exact .inr (.inr (.inl e)); exact .inr (.inr (.inr (.inl e))))
  by_cases hm20 : m2 = 0
  · have ht0 : t = [] := List.eq_nil_of_length_eq_zero (by rw [Hcv.out.2.2.2]; exact hm20)
    subst hm20
    have Ht0 := hide ht0
    clear ht0
    go_wp2_with fail
    refine HQ.out _ _ ?_
    go_ret3
    have hst := H10.out.setD HDB.out hi2 Hr3.out Hg.out.2.2 0
    have F3 : Fr (fun z => z = x3) w10 (w10.setCell ⟨x3, o3 + j, none⟩ (.int .i64 0)) := (Fr.refl _ _).setAt _
    have hlt0 : t.length = 0 := Hcv.out.2.2.2
    have hdone := Stg.done (t := t) (A2 := A2) (c2 := c2) (A5 := A5) (c5 := c5) HDB.out HN.out.hl (by rw [hlt0]; exact hst) (by rw [hlt0]; exact HO2'.out.fr F3 (fun z hz e => foot_rows HDB.out hl2m (.inl hz) (.inr (.inr (e ▸ Hg.out.2.2))))) (by rw [hlt0]; exact HO5.out.fr F3 (fun z hz e => foot_rows HDB.out hl2m (.inr hz) (.inr (.inr (e ▸ Hg.out.2.2)))))
    have hfin := next_served (s := s) (w := w) (k := k) HN.out rfl rfl rfl Hx2.out.1 Hx2.out.2 HGk.out (by rw [if_pos Ht0.out]) hdone (hFr10.out.trans (F3.mono fun y _ e => by subst e; exact .inr (.inr (.inr (.inl Hg.out.2.2)))))
    rw [Hcv.out.2.2.1] at hfin
    exact hfin
  · have hm2p : ¬ (m2 : Int) = 0 := by omega
    have Hm20 := hide hm20
    clear hm20
    go_wp2_with fail
    refine HQ.out _ _ ?_
    go_ret3
    have hlt0 : t.length = m2 := Hcv.out.2.2.2
    have ht0 : ¬ t = [] := fun e => Hm20.out (by rw [← hlt0, e]; rfl)
    have hdone := Stg.done (t := t) (A2 := A2) (c2 := c2) (A5 := A5) (c5 := c5) HDB.out HN.out.hl (by rw [hlt0]; exact H10.out) (by rw [hlt0]; exact HO2'.out) (by rw [hlt0]; exact HO5.out)
    have hfin := next_served (s := s) (w := w) (k := k) HN.out rfl rfl rfl Hx2.out.1 Hx2.out.2 HGk.out (by rw [if_neg ht0, Hcv.out.2.1, Hcv.out.1]) hdone hFr10.out
    rw [Hcv.out.2.2.1] at hfin
    exact hfin
end
end Go.Proofs.Ytanfhmebjgmdpaa
