/-
  Texts merged into one, to keep the claim small: Dx9.
-/
import Derived.Test.YtanfhmebjgmdpaaMe14
/-
  bazaarref16.Drr: Next: the walk.
-/
namespace Go.Proofs.Ytanfhmebjgmdpaa
open Go.RowKit
set_option linter.unusedVariables false
section
variable {q : Nat} {b : DB} {s : DR}
theorem DAt.hdrs {w : World} (h : DAt w q b s) (hn : 0 < s.lines.length) : (∃ x o, b.tA = some ⟨x, o, none⟩ ∧ b.tg = some x) ∧ (∃ x o, b.cA = some ⟨x, o, none⟩ ∧ b.cg = some x) ∧ (∃ x o, b.dA = some ⟨x, o, none⟩ ∧ b.dg = some x) := by
  obtain ⟨l, hl⟩ : ∃ l, s.lines[0]? = some l := ⟨_, List.getElem?_eq_getElem hn⟩
  obtain ⟨x1, o1, e1, g1, -, -⟩ := h.tlook hl
  obtain ⟨x2, o2, e2, g2, -, -⟩ := h.clook hl
  obtain ⟨x3, o3, e3, g3, -, -⟩ := h.dlook hl
  exact ⟨⟨x1, o1, e1, g1⟩, ⟨x2, o2, e2, g2⟩, ⟨x3, o3, e3, g3⟩⟩
set_option maxHeartbeats 16000000 in
set_option maxRecDepth 100000 in
theorem Next_any (w : World) (h : DAt w q b s) (hs : s.Fine) (k : Nat) (ha : s.at_ = (k : Int)) (hkn : k ≤ s.lines.length) (hv : s.vis = true → k < s.lines.length) (h0n : 0 < s.lines.length) :
    Calls Try.prog 72 #[.pointer (some ⟨q, 0, none⟩)] w (NextOut w q b s k) := by
  obtain ⟨⟨x1, o1, e1, g1⟩, ⟨x2, o2, e2, g2⟩, ⟨x3, o3, e3, g3⟩⟩ := h.hdrs h0n
  have hq2 := hs.q2
  have hn2 := hs.n2
  obtain ⟨n, hn⟩ : ∃ n, s.lines.length = n := ⟨_, rfl⟩
  obtain ⟨v0, hv0⟩ : ∃ v, s.vis = v := ⟨_, rfl⟩
  obtain ⟨qv, hqv⟩ : ∃ v, s.quantum = v := ⟨_, rfl⟩
  have Hq := hide hqv
  have hq1 := hs.q1
  rw [hqv] at hq1 hq2
  clear hqv
  rw [hn] at hkn h0n hn2 hv
  rw [hv0] at hv
  have Hn := hide hn
  have Hv0 := hide hv0
  have Hr1 := hide e1
  have Hr2 := hide e2
  have Hr3 := hide e3
  have Hg := hide (And.intro g1 (And.intro g2 g3))
  have Hs := hide hs
  have H := hide h
  have Ha := hide ha
  have hR0 : Hid (DAt w q b { s with at_ := (k : Int), vis := v0 }) := h.same w ha hv0
  obtain ⟨G, hG⟩ : ∃ G, Gs (toDS s) k v0 = G := ⟨_, rfl⟩
  have HG := hide hG
  clear hs h ha hn hv0 e1 e2 e3 g1 g2 g3 hG
  go_enter Try.func72, Try.ntmps72
  go_wp2_with fail
  go_loopw [5] (fun s5 wr => ∃ (j : Nat) (v : Bool), k ≤ j ∧ j ≤ n ∧ (v = true → j < n) ∧ Hid (DAt wr q b { s with at_ := (j : Int), vis := v }) ∧ Hid (Gs (toDS s) j v = G) ∧ Hid (Fr (fun x => x = q) w wr)) (fun _ wr => n - atOf wr q)
  case atStart => exact ⟨k, v0, Nat.le_refl _, hkn, hv, hR0, HG, Fr.refl _ _⟩
  case round =>
    clear hv hR0
    obtain ⟨j, v, hkj, hjn, hvj, HD, HGj, HF⟩ := hrel
    have hD := HD.out
    have hat : atOf wr q = j := by
      have hbl := hD.bl
      unfold dcells at hbl
      have f6 : wr.cell? ⟨q, 6, none⟩ = some (.int .i64 (j : Int)) := hbl.cell' rfl
      unfold atOf
      rw [f6]; simp
    have Hat := hide hat
    clear hat
    have hbl := hD.bl
    unfold dcells at hbl
    rw [show s.lines.length = n from Hn.out, show ({ s with at_ := (j : Int), vis := v } : DR).quantum = qv from Hq.out, Hr1.out, Hr2.out, Hr3.out, show ({ s with at_ := (j : Int), vis := v } : DR).at_ = (j : Int) from rfl, show ({ s with at_ := (j : Int), vis := v } : DR).vis = v from rfl] at hbl
    have f0 : wr.cell? ⟨q, 0, none⟩ = some (.int .i64 (n : Int)) := hbl.cell' rfl
    have f2 : wr.cell? ⟨q, 2, none⟩ = some (.int .i64 (qv : Int)) := hbl.cell' rfl
    have f3 : wr.cell? ⟨q, 3, none⟩ = some (.slice (some ⟨x1, o1, none⟩) n b.tc) := hbl.cell' rfl
    have f4 : wr.cell? ⟨q, 4, none⟩ = some (.slice (some ⟨x2, o2, none⟩) n b.cc) := hbl.cell' rfl
    have f5 : wr.cell? ⟨q, 5, none⟩ = some (.slice (some ⟨x3, o3, none⟩) n b.dc) := hbl.cell' rfl
    have f6 : wr.cell? ⟨q, 6, none⟩ = some (.int .i64 (j : Int)) := hbl.cell' rfl
    have f7 : wr.cell? ⟨q, 7, none⟩ = some (.bool v) := hbl.cell' rfl
    have z6 := hbl.free 6
    have z7 := hbl.free 7
    by_cases hlt : j < n
    · obtain ⟨l, hl⟩ : ∃ l, s.lines[j]? = some l := ⟨_, List.getElem?_eq_getElem (by rw [Hn.out]; exact hlt)⟩
      have Hl := hide hl
      clear hbl hD hl
      go_wp2_with fail
      go_quiet (fail)
      have hfA : Fr (fun _ => False) wr (wr.drewN nq) := (Fr.refl _ _).drewN nq
      generalize hwA : wr.drewN nq = wA at hfA ⊢
      clear hwA f0 f2 f3 f4 f5 f6 f7 z6 z7
      have hD := HD.out.quiet hfA
      have HDA := hide hD
      have hbl := hD.bl
      unfold dcells at hbl
      rw [show s.lines.length = n from Hn.out, show ({ s with at_ := (j : Int), vis := v } : DR).quantum = qv from Hq.out, Hr1.out, Hr2.out, Hr3.out, show ({ s with at_ := (j : Int), vis := v } : DR).at_ = (j : Int) from rfl, show ({ s with at_ := (j : Int), vis := v } : DR).vis = v from rfl] at hbl
      have f0 : wA.cell? ⟨q, 0, none⟩ = some (.int .i64 (n : Int)) := hbl.cell' rfl
      have f2 : wA.cell? ⟨q, 2, none⟩ = some (.int .i64 (qv : Int)) := hbl.cell' rfl
      have f3 : wA.cell? ⟨q, 3, none⟩ = some (.slice (some ⟨x1, o1, none⟩) n b.tc) := hbl.cell' rfl
      have f4 : wA.cell? ⟨q, 4, none⟩ = some (.slice (some ⟨x2, o2, none⟩) n b.cc) := hbl.cell' rfl
      have f5 : wA.cell? ⟨q, 5, none⟩ = some (.slice (some ⟨x3, o3, none⟩) n b.dc) := hbl.cell' rfl
      have f6 : wA.cell? ⟨q, 6, none⟩ = some (.int .i64 (j : Int)) := hbl.cell' rfl
      have f7 : wA.cell? ⟨q, 7, none⟩ = some (.bool v) := hbl.cell' rfl
      have z6 := hbl.free 6
      have z7 := hbl.free 7
      obtain ⟨m, hm⟩ : ∃ m, l.things.length = m := ⟨_, rfl⟩
      have Hm := hide hm
      have hS := Stg.start hD (show ({ s with at_ := (j : Int), vis := v } : DR).lines[j]? = some l from Hl.out)
      have hi : j < ({ s with at_ := (j : Int), vis := v } : DR).lines.length := by rw [show ({ s with at_ := (j : Int), vis := v } : DR).lines.length = n from Hn.out]; exact hlt
      obtain ⟨cT, zT⟩ := hS.lookT hi Hr1.out
      obtain ⟨cC, zC⟩ := hS.lookC hi Hr2.out
      obtain ⟨cD, zD⟩ := hS.lookD hi Hr3.out
      unfold thdr at cT
      unfold chdr at cC
      rw [hm] at cT cC
      obtain ⟨dv, hdv⟩ : ∃ d, l.df = d := ⟨_, rfl⟩
      rw [hdv] at cD
      have Hdv := hide hdv
      have hdb : 0 ≤ dv ∧ dv ≤ 4611686018427387904 := by rw [← hdv]; exact Hs.out.df l (List.mem_of_getElem? Hl.out)
      have HS := hide hS
      have j1 : (0 : Int) ≤ (j : Int) := by omega
      have j2 : (j : Int) < (n : Int) := by omega
      have nq3 : x3 ≠ q := fun e => hD.ne_d (e ▸ Hg.out.2.2)
      have i3 : IntKind.i64.wrap (dv + (qv : Int)) = dv + (qv : Int) := IntWalk.i64_in _ (by omega)
      clear hD hS hbl hm hdv hi
      cases v with
      | false =>
        by_cases hth : l.things = []
        · obtain rfl : m = 0 := by rw [← Hm.out, hth]; rfl
          have hnx := Nx.stay HDA.out ⟨Hs.out.q1, Hs.out.q2, Hs.out.n2, Hs.out.r2, Hs.out.co, Hs.out.le, Hs.out.df⟩ (show ({ s with at_ := (j : Int), vis := false } : DR).lines[j]? = some l from Hl.out) rfl false rfl (fun _ => hth)
          have HN := hide hnx
          clear hnx hth
          go_wp2_with fail
          go_quiet (fail)
          go_wp2_with fail
          obtain ⟨hE, hFE, hAE⟩ := round_end HDA.out ((Fr.refl (fun _ => False) wA).drewN nq)
          have hGE := (HN.out.non (.inl rfl)).1.symm.trans HGj.out
          exact ⟨⟨j + 1, false, by omega, hlt, (fun e => by cases e), hE, hGE, ((HF.out.trans (hfA.weak _)).trans (((Fr.refl (fun _ => False) wA).drewN nq).weak _)).trans hFE⟩, by rw [hAE, Hat.out]; omega⟩
        · obtain ⟨x, t, hx⟩ : ∃ x t, l.things = x :: t := List.exists_cons_of_ne_nil hth
          have hm1 : (0 : Int) < (m : Int) := by have := List.length_pos_iff.2 hth; rw [Hm.out] at this; omega
          have Hx := hide hx
          clear hth hx
          go_wp2_with fail
          refine region_tail 18 (by kernel_rfl) (by kernel_rfl) ?_
          intro wb Hwb hcwb hzwb hswb
          simp only [List.take_succ_cons, List.take_zero, List.drop_succ_cons, List.drop_zero]
          repeat still_step
          refine wpStill_nil ?_
          go_wp2_with fail
          have hfb : Fr (fun _ => False) wA wb := by rw [Hwb.out]; exact (Fr.refl _ _).drew
          obtain ⟨hV, hFV⟩ := visit_mem HDA.out hfb (show ({ s with at_ := (j : Int), vis := false } : DR).lines[j]? = some l from Hl.out) rfl Hr3.out Hg.out.2.2 (dv + (qv : Int))
          generalize hW : (wb.setCell ⟨x3, o3 + j, none⟩ (.int .i64 (dv + (qv : Int)))).setCell ⟨q, 7, none⟩ (.bool true) = W at hV hFV ⊢
          have hnx : Nx q b ({ s with at_ := (j : Int), vis := false } : DR) j l (Gs (toDS ({ s with at_ := (j : Int), vis := false } : DR)) j false) _ _ true W := Nx.visited HDA.out ⟨Hs.out.q1, Hs.out.q2, Hs.out.n2, Hs.out.r2, Hs.out.co, Hs.out.le, Hs.out.df⟩ (show ({ s with at_ := (j : Int), vis := false } : DR).lines[j]? = some l from Hl.out) rfl rfl Hx.out (by rw [show ((l.df : Int) + (({ s with at_ := (j : Int), vis := false } : DR).quantum : Int)) = dv + (qv : Int) from by rw [Hdv.out, show ({ s with at_ := (j : Int), vis := false } : DR).quantum = qv from Hq.out]]; exact hV)
          obtain ⟨s2, l2, hN, hth2, hdf2⟩ : ∃ s2 l2, Nx q b ({ s with at_ := (j : Int), vis := false } : DR) j l (Gs (toDS s) j false) s2 l2 true W ∧ l2.things = l.things ∧ l2.df = dv + (qv : Int) := ⟨_, _, hnx, rfl, by show l.df + (({ s with at_ := (j : Int), vis := false } : DR).quantum : Int) = _; rw [Hdv.out, show ({ s with at_ := (j : Int), vis := false } : DR).quantum = qv from Hq.out]⟩
          have HN := hide hN
          have hx2 : l2.things = x :: t := hth2.trans Hx.out
          have hc2 : x.2 ≤ l2.df := by
            have h1 := Hs.out.co l (List.mem_of_getElem? Hl.out) x (by rw [Hx.out]; simp)
            rw [hdf2]; omega
          have HFW : Hid (Fr (dfoot q b s) w W) := (((HF.out.mono fun y _ e => .inl e).trans (hfA.weak _)).trans hFV)
          clear hV hFV hnx hN hth2 hdf2 hW Hwb hcwb hzwb hswb hfb f0 f2 f3 f4 f5 f6 f7 z6 z7 cT cC cD zT zC zD i3
          obtain ⟨cv, hcv⟩ : ∃ c, x.2 = c := ⟨_, rfl⟩
          obtain ⟨d2, hd2⟩ : ∃ d, l2.df = d := ⟨_, rfl⟩
          obtain ⟨xv, hxv⟩ : ∃ c, x.1 = c := ⟨_, rfl⟩
          obtain ⟨m2, hm2⟩ : ∃ m, t.length = m := ⟨_, rfl⟩
          obtain ⟨M, hM⟩ : ∃ M, m2 + 1 = M := ⟨_, rfl⟩
          have hcd : cv ≤ d2 := by rw [← hcv, ← hd2]; exact hc2
          have hcb : 1 ≤ cv ∧ cv ≤ 8 := by rw [← hcv]; exact Hs.out.co l (List.mem_of_getElem? Hl.out) x (by rw [← HN.out.th, hx2]; simp)
          have hdb2 : 0 ≤ d2 ∧ d2 ≤ 4611686018427388928 := by rw [← hd2]; exact ⟨HN.out.d1, HN.out.d2⟩
          have hlen2 : l2.things.length = M := by rw [hx2, List.length_cons, hm2, hM]
          have Hx2 := hide (And.intro hx2 hc2)
          have Hcv := hide (And.intro hcv (And.intro hd2 (And.intro hxv hm2)))
          have hMM : (0 : Int) < (M : Int) := by omega
          have hMN : 0 < M := by omega
          have hMz : ¬ M = 0 := by omega
          have hMb : decide ((0 : Int) < (M : Int)) = true := decide_eq_true hMM
          have hMb2 : decide (0 < M) = true := decide_eq_true (by omega)
          have hcb2 : decide (cv ≤ d2) = true := decide_eq_true hcd
          have HM := hide hM
          have hm1024 : m2 ≤ 65536 := by
            have h1 := Hs.out.le l (List.mem_of_getElem? Hl.out)
            rw [← HN.out.th, hlen2] at h1
            omega
          have Hlen2 := hide hlen2
          have i4 : IntKind.i64.wrap (d2 - cv) = d2 - cv := IntWalk.i64_in _ (by omega)
          clear hx2 hc2 hcv hd2 hxv hm2 hM hlen2
          have hbl2 := HN.out.at_.bl
          unfold dcells at hbl2
          rw [show s2.lines.length = n from HN.out.len.trans Hn.out, show s2.quantum = qv from HN.out.qu.trans Hq.out, Hr1.out, Hr2.out, Hr3.out, HN.out.a, HN.out.v] at hbl2
          have b0 : W.cell? ⟨q, 0, none⟩ = some (.int .i64 (n : Int)) := hbl2.cell' rfl
          have b2 : W.cell? ⟨q, 2, none⟩ = some (.int .i64 (qv : Int)) := hbl2.cell' rfl
          have b3 : W.cell? ⟨q, 3, none⟩ = some (.slice (some ⟨x1, o1, none⟩) n b.tc) := hbl2.cell' rfl
          have b4 : W.cell? ⟨q, 4, none⟩ = some (.slice (some ⟨x2, o2, none⟩) n b.cc) := hbl2.cell' rfl
          have b5 : W.cell? ⟨q, 5, none⟩ = some (.slice (some ⟨x3, o3, none⟩) n b.dc) := hbl2.cell' rfl
          have b6 : W.cell? ⟨q, 6, none⟩ = some (.int .i64 (j : Int)) := hbl2.cell' rfl
          have b7 : W.cell? ⟨q, 7, none⟩ = some (.bool true) := hbl2.cell' rfl
          have hSB := Stg.start HN.out.at_ HN.out.hl
          have hi2 : j < s2.lines.length := (List.getElem?_eq_some_iff.1 HN.out.hl).1
          obtain ⟨cT2, zT2⟩ := hSB.lookT hi2 Hr1.out
          obtain ⟨cC2, zC2⟩ := hSB.lookC hi2 Hr2.out
          obtain ⟨cD2, zD2⟩ := hSB.lookD hi2 Hr3.out
          unfold thdr at cT2
          unfold chdr at cC2
          rw [Hlen2.out] at cT2 cC2
          rw [Hcv.out.2.1] at cD2 hSB
          have hl2m : l2 ∈ s2.lines := List.mem_of_getElem? HN.out.hl
          have hOt := HN.out.at_.lt l2 hl2m
          have hOc := HN.out.at_.lc l2 hl2m
          obtain ⟨y1, p1, hy1, -, cX, -⟩ := hOt.look (j := 0) (u := iv_ xv) (by unfold tvals; rw [Hx2.out.1, ← Hcv.out.2.2.1]; rfl)
          obtain ⟨y2, p2, hy2, -, cY, -⟩ := hOc.look (j := 0) (u := iv_ cv) (by unfold cvals; rw [Hx2.out.1, ← Hcv.out.1]; rfl)
          have cX' : W.cell? ⟨y1, p1, none⟩ = some (.int .i64 xv) := cX
          have cY' : W.cell? ⟨y2, p2, none⟩ = some (.int .i64 cv) := cY
          clear cX cY
          have cX := cX'
          have cY := cY'
          rw [hy1] at cT2
          rw [hy2] at cC2
          clear cX' cY' hbl2
          clear hSB hOt hOc hy1 hy2
          go_quiet (fail)
          have hfB : Fr (fun _ => False) W (W.drewN nq) := (Fr.refl _ _).drewN nq
          generalize hwB : W.drewN nq = wB at hfB ⊢
          clear hwB b0 b2 b3 b4 b5 b6 b7 cT2 cC2 cD2 zT2 zC2 zD2 cX cY
          have hDB := HN.out.at_.quiet hfB
          have HNB : Hid (Nx q b ({ s with at_ := (j : Int), vis := false } : DR) j l (Gs (toDS s) j false) s2 l2 true wB) := { HN.out with at_ := hDB }
          have HGk : Hid (Gs (toDS s) k s.vis = Gs (toDS s) j false) := by show _ = _; rw [Hv0.out, HG.out, HGj.out]
          go_upto_region 7 with fail
          go_cut [0, 5, 6] (fun s0 s5 s6 wx => s0 = .pointer (some ⟨q, 0, none⟩) ∧ s5 = .int .i64 (j : Int) ∧ s6 = .int .i64 xv ∧ Hid (wx = wB))
          case first =>
            have hbl2 := hDB.bl
            unfold dcells at hbl2
            rw [show s2.lines.length = n from HN.out.len.trans Hn.out, show s2.quantum = qv from HN.out.qu.trans Hq.out, Hr1.out, Hr2.out, Hr3.out, HN.out.a, HN.out.v] at hbl2
            have b0 : wB.cell? ⟨q, 0, none⟩ = some (.int .i64 (n : Int)) := hbl2.cell' rfl
            have b2 : wB.cell? ⟨q, 2, none⟩ = some (.int .i64 (qv : Int)) := hbl2.cell' rfl
            have b3 : wB.cell? ⟨q, 3, none⟩ = some (.slice (some ⟨x1, o1, none⟩) n b.tc) := hbl2.cell' rfl
            have b4 : wB.cell? ⟨q, 4, none⟩ = some (.slice (some ⟨x2, o2, none⟩) n b.cc) := hbl2.cell' rfl
            have b5 : wB.cell? ⟨q, 5, none⟩ = some (.slice (some ⟨x3, o3, none⟩) n b.dc) := hbl2.cell' rfl
            have b6 : wB.cell? ⟨q, 6, none⟩ = some (.int .i64 (j : Int)) := hbl2.cell' rfl
            have b7 : wB.cell? ⟨q, 7, none⟩ = some (.bool true) := hbl2.cell' rfl
            have hSB := Stg.start hDB HN.out.hl
            have hi2 : j < s2.lines.length := (List.getElem?_eq_some_iff.1 HN.out.hl).1
            obtain ⟨cT2, zT2⟩ := hSB.lookT hi2 Hr1.out
            obtain ⟨cC2, zC2⟩ := hSB.lookC hi2 Hr2.out
            obtain ⟨cD2, zD2⟩ := hSB.lookD hi2 Hr3.out
            unfold thdr at cT2
            unfold chdr at cC2
            rw [Hlen2.out] at cT2 cC2
            rw [Hcv.out.2.1] at cD2 hSB
            have hl2m : l2 ∈ s2.lines := List.mem_of_getElem? HN.out.hl
            have hOt := hDB.lt l2 hl2m
            have hOc := hDB.lc l2 hl2m
            obtain ⟨y1, p1, hy1, -, cX, -⟩ := hOt.look (j := 0) (u := iv_ xv) (by unfold tvals; rw [Hx2.out.1, ← Hcv.out.2.2.1]; rfl)
            obtain ⟨y2, p2, hy2, -, cY, -⟩ := hOc.look (j := 0) (u := iv_ cv) (by unfold cvals; rw [Hx2.out.1, ← Hcv.out.1]; rfl)
            have cX' : wB.cell? ⟨y1, p1, none⟩ = some (.int .i64 xv) := cX
            have cY' : wB.cell? ⟨y2, p2, none⟩ = some (.int .i64 cv) := cY
            clear cX cY
            have cX := cX'
            have cY := cY'
            rw [hy1] at cT2
            rw [hy2] at cC2
            clear cX' cY' hbl2
            clear hOt hOc hy1 hy2
            go_wp2_with fail
            go_meet
            case rel => exact ⟨rfl, rfl, rfl, rfl⟩
          case rest =>
          obtain ⟨rfl, rfl, rfl, hwc⟩ := hcut
          obtain rfl := hwc.out.symm
          apply_assumption
          exact serve_tail w _ Hs.out x1 o1 x2 o2 x3 o3 Hr1.out Hr2.out Hr3.out Hg.out n Hn.out qv Hq.out k j false hlt l Hl.out s2 l2 HNB.out x t Hx2.out.1 Hx2.out.2 HGk.out (HFW.out.trans (hfB.weak _)) xv Hcv.out.2.2.1 _ (by exact fun _ _ h => h) _ _ _ _ _ _ _ _ _ _ _ _ _ _ _ _ _ _ _ _ _ _ _ _ _ _ _ _ _ _ _ _ _ _ _ _ _ _ _ _ _ _ _ _ _ _ _ _ _ _ _ _ _ _ _ _ _ _ _ _ _ _ _ _ _ _ _ _ _ _ _ _ _ _ _ _ _ _ _ _ _ _ _ _ _ _ _ _ _ _ _ _ _ _ _ _ _ _ _ _ _ _ _ _ _ _ _ _ _ _ _ _ _ _ _ _ _ _ _ _ _ _ _ _ _ _ _ _ _ _ _ _ _ _ _ _ _ _ _ _ _ _ _ _ _ _ _ _ _ _ _ _ _ _ _ _ _ _ _ _ _ _ _ _ _ _ _ _ _ _ _ _ _ _ _
      | true =>
        have hnx := Nx.stay HDA.out ⟨Hs.out.q1, Hs.out.q2, Hs.out.n2, Hs.out.r2, Hs.out.co, Hs.out.le, Hs.out.df⟩ (show ({ s with at_ := (j : Int), vis := true } : DR).lines[j]? = some l from Hl.out) rfl true rfl (fun e => by cases e)
        have HN := hide hnx
        by_cases hsv : ∃ x t, l.things = x :: t ∧ x.2 ≤ l.df
        · obtain ⟨x, t, hx2, hc2⟩ := hsv
          have hm1 : (0 : Int) < (m : Int) := by rw [← Hm.out, hx2, List.length_cons]; omega
          have Hxx := hide (And.intro hx2 hc2)
          clear hx2 hc2 hnx
          go_wp2_with fail
          obtain ⟨W, hWW⟩ : ∃ W, wA = W := ⟨_, rfl⟩
          obtain ⟨s2, l2, hN, hth2, hdf2⟩ : ∃ s2 l2, Nx q b ({ s with at_ := (j : Int), vis := true } : DR) j l (Gs (toDS s) j true) s2 l2 true W ∧ l2.things = l.things ∧ l2.df = l.df := ⟨_, _, hWW ▸ HN.out, rfl, rfl⟩
          clear HN
          have HN := hide hN
          have hx2 : l2.things = x :: t := hth2.trans Hxx.out.1
          have hc2 : x.2 ≤ l2.df := by rw [hdf2]; exact Hxx.out.2
          have HFW : Hid (Fr (dfoot q b s) w W) := hWW ▸ ((HF.out.mono fun y _ e => .inl e).trans (hfA.weak _))
          clear hN hth2 hdf2
          rw [hWW]
          clear hWW HDA hfA HS f0 f2 f3 f4 f5 f6 f7 z6 z7 cT cC cD zT zC zD i3
          obtain ⟨cv, hcv⟩ : ∃ c, x.2 = c := ⟨_, rfl⟩
          obtain ⟨d2, hd2⟩ : ∃ d, l2.df = d := ⟨_, rfl⟩
          obtain ⟨xv, hxv⟩ : ∃ c, x.1 = c := ⟨_, rfl⟩
          obtain ⟨m2, hm2⟩ : ∃ m, t.length = m := ⟨_, rfl⟩
          obtain ⟨M, hM⟩ : ∃ M, m2 + 1 = M := ⟨_, rfl⟩
          have hcd : cv ≤ d2 := by rw [← hcv, ← hd2]; exact hc2
          have hcb : 1 ≤ cv ∧ cv ≤ 8 := by rw [← hcv]; exact Hs.out.co l (List.mem_of_getElem? Hl.out) x (by rw [← HN.out.th, hx2]; simp)
          have hdb2 : 0 ≤ d2 ∧ d2 ≤ 4611686018427388928 := by rw [← hd2]; exact ⟨HN.out.d1, HN.out.d2⟩
          have hlen2 : l2.things.length = M := by rw [hx2, List.length_cons, hm2, hM]
          have Hx2 := hide (And.intro hx2 hc2)
          have Hcv := hide (And.intro hcv (And.intro hd2 (And.intro hxv hm2)))
          have hMM : (0 : Int) < (M : Int) := by omega
          have hMN : 0 < M := by omega
          have hMz : ¬ M = 0 := by omega
          have hMb : decide ((0 : Int) < (M : Int)) = true := decide_eq_true hMM
          have hMb2 : decide (0 < M) = true := decide_eq_true (by omega)
          have hcb2 : decide (cv ≤ d2) = true := decide_eq_true hcd
          have HM := hide hM
          have hm1024 : m2 ≤ 65536 := by
            have h1 := Hs.out.le l (List.mem_of_getElem? Hl.out)
            rw [← HN.out.th, hlen2] at h1
            omega
          have Hlen2 := hide hlen2
          have i4 : IntKind.i64.wrap (d2 - cv) = d2 - cv := IntWalk.i64_in _ (by omega)
          clear hx2 hc2 hcv hd2 hxv hm2 hM hlen2
          have hbl2 := HN.out.at_.bl
          unfold dcells at hbl2
          rw [show s2.lines.length = n from HN.out.len.trans Hn.out, show s2.quantum = qv from HN.out.qu.trans Hq.out, Hr1.out, Hr2.out, Hr3.out, HN.out.a, HN.out.v] at hbl2
          have b0 : W.cell? ⟨q, 0, none⟩ = some (.int .i64 (n : Int)) := hbl2.cell' rfl
          have b2 : W.cell? ⟨q, 2, none⟩ = some (.int .i64 (qv : Int)) := hbl2.cell' rfl
          have b3 : W.cell? ⟨q, 3, none⟩ = some (.slice (some ⟨x1, o1, none⟩) n b.tc) := hbl2.cell' rfl
          have b4 : W.cell? ⟨q, 4, none⟩ = some (.slice (some ⟨x2, o2, none⟩) n b.cc) := hbl2.cell' rfl
          have b5 : W.cell? ⟨q, 5, none⟩ = some (.slice (some ⟨x3, o3, none⟩) n b.dc) := hbl2.cell' rfl
          have b6 : W.cell? ⟨q, 6, none⟩ = some (.int .i64 (j : Int)) := hbl2.cell' rfl
          have b7 : W.cell? ⟨q, 7, none⟩ = some (.bool true) := hbl2.cell' rfl
          have hSB := Stg.start HN.out.at_ HN.out.hl
          have hi2 : j < s2.lines.length := (List.getElem?_eq_some_iff.1 HN.out.hl).1
          obtain ⟨cT2, zT2⟩ := hSB.lookT hi2 Hr1.out
          obtain ⟨cC2, zC2⟩ := hSB.lookC hi2 Hr2.out
          obtain ⟨cD2, zD2⟩ := hSB.lookD hi2 Hr3.out
          unfold thdr at cT2
          unfold chdr at cC2
          rw [Hlen2.out] at cT2 cC2
          rw [Hcv.out.2.1] at cD2 hSB
          have hl2m : l2 ∈ s2.lines := List.mem_of_getElem? HN.out.hl
          have hOt := HN.out.at_.lt l2 hl2m
          have hOc := HN.out.at_.lc l2 hl2m
          obtain ⟨y1, p1, hy1, -, cX, -⟩ := hOt.look (j := 0) (u := iv_ xv) (by unfold tvals; rw [Hx2.out.1, ← Hcv.out.2.2.1]; rfl)
          obtain ⟨y2, p2, hy2, -, cY, -⟩ := hOc.look (j := 0) (u := iv_ cv) (by unfold cvals; rw [Hx2.out.1, ← Hcv.out.1]; rfl)
          have cX' : W.cell? ⟨y1, p1, none⟩ = some (.int .i64 xv) := cX
          have cY' : W.cell? ⟨y2, p2, none⟩ = some (.int .i64 cv) := cY
          clear cX cY
          have cX := cX'
          have cY := cY'
          rw [hy1] at cT2
          rw [hy2] at cC2
          clear cX' cY' hbl2
          clear hSB hOt hOc hy1 hy2
          go_quiet (fail)
          have hfB : Fr (fun _ => False) W (W.drewN nq) := (Fr.refl _ _).drewN nq
          generalize hwB : W.drewN nq = wB at hfB ⊢
          clear hwB b0 b2 b3 b4 b5 b6 b7 cT2 cC2 cD2 zT2 zC2 zD2 cX cY
          have hDB := HN.out.at_.quiet hfB
          have HNB : Hid (Nx q b ({ s with at_ := (j : Int), vis := true } : DR) j l (Gs (toDS s) j true) s2 l2 true wB) := { HN.out with at_ := hDB }
          have HGk : Hid (Gs (toDS s) k s.vis = Gs (toDS s) j true) := by show _ = _; rw [Hv0.out, HG.out, HGj.out]
          go_upto_region 7 with fail
          go_cut [0, 5, 6] (fun s0 s5 s6 wx => s0 = .pointer (some ⟨q, 0, none⟩) ∧ s5 = .int .i64 (j : Int) ∧ s6 = .int .i64 xv ∧ Hid (wx = wB))
          case first =>
            have hbl2 := hDB.bl
            unfold dcells at hbl2
            rw [show s2.lines.length = n from HN.out.len.trans Hn.out, show s2.quantum = qv from HN.out.qu.trans Hq.out, Hr1.out, Hr2.out, Hr3.out, HN.out.a, HN.out.v] at hbl2
            have b0 : wB.cell? ⟨q, 0, none⟩ = some (.int .i64 (n : Int)) := hbl2.cell' rfl
            have b2 : wB.cell? ⟨q, 2, none⟩ = some (.int .i64 (qv : Int)) := hbl2.cell' rfl
            have b3 : wB.cell? ⟨q, 3, none⟩ = some (.slice (some ⟨x1, o1, none⟩) n b.tc) := hbl2.cell' rfl
            have b4 : wB.cell? ⟨q, 4, none⟩ = some (.slice (some ⟨x2, o2, none⟩) n b.cc) := hbl2.cell' rfl
            have b5 : wB.cell? ⟨q, 5, none⟩ = some (.slice (some ⟨x3, o3, none⟩) n b.dc) := hbl2.cell' rfl
            have b6 : wB.cell? ⟨q, 6, none⟩ = some (.int .i64 (j : Int)) := hbl2.cell' rfl
            have b7 : wB.cell? ⟨q, 7, none⟩ = some (.bool true) := hbl2.cell' rfl
            have hSB := Stg.start hDB HN.out.hl
            have hi2 : j < s2.lines.length := (List.getElem?_eq_some_iff.1 HN.out.hl).1
            obtain ⟨cT2, zT2⟩ := hSB.lookT hi2 Hr1.out
            obtain ⟨cC2, zC2⟩ := hSB.lookC hi2 Hr2.out
            obtain ⟨cD2, zD2⟩ := hSB.lookD hi2 Hr3.out
            unfold thdr at cT2
            unfold chdr at cC2
            rw [Hlen2.out] at cT2 cC2
            rw [Hcv.out.2.1] at cD2 hSB
            have hl2m : l2 ∈ s2.lines := List.mem_of_getElem? HN.out.hl
            have hOt := hDB.lt l2 hl2m
            have hOc := hDB.lc l2 hl2m
            obtain ⟨y1, p1, hy1, -, cX, -⟩ := hOt.look (j := 0) (u := iv_ xv) (by unfold tvals; rw [Hx2.out.1, ← Hcv.out.2.2.1]; rfl)
            obtain ⟨y2, p2, hy2, -, cY, -⟩ := hOc.look (j := 0) (u := iv_ cv) (by unfold cvals; rw [Hx2.out.1, ← Hcv.out.1]; rfl)
            have cX' : wB.cell? ⟨y1, p1, none⟩ = some (.int .i64 xv) := cX
            have cY' : wB.cell? ⟨y2, p2, none⟩ = some (.int .i64 cv) := cY
            clear cX cY
            have cX := cX'
            have cY := cY'
            rw [hy1] at cT2
            rw [hy2] at cC2
            clear cX' cY' hbl2
            clear hOt hOc hy1 hy2
            go_wp2_with fail
            go_meet
            case rel => exact ⟨rfl, rfl, rfl, rfl⟩
          case rest =>
          obtain ⟨rfl, rfl, rfl, hwc⟩ := hcut
          obtain rfl := hwc.out.symm
          apply_assumption
          exact serve_tail w _ Hs.out x1 o1 x2 o2 x3 o3 Hr1.out Hr2.out Hr3.out Hg.out n Hn.out qv Hq.out k j true hlt l Hl.out s2 l2 HNB.out x t Hx2.out.1 Hx2.out.2 HGk.out (HFW.out.trans (hfB.weak _)) xv Hcv.out.2.2.1 _ (by exact fun _ _ h => h) _ _ _ _ _ _ _ _ _ _ _ _ _ _ _ _ _ _ _ _ _ _ _ _ _ _ _ _ _ _ _ _ _ _ _ _ _ _ _ _ _ _ _ _ _ _ _ _ _ _ _ _ _ _ _ _ _ _ _ _ _ _ _ _ _ _ _ _ _ _ _ _ _ _ _ _ _ _ _ _ _ _ _ _ _ _ _ _ _ _ _ _ _ _ _ _ _ _ _ _ _ _ _ _ _ _ _ _ _ _ _ _ _ _ _ _ _ _ _ _ _ _ _ _ _ _ _ _ _ _ _ _ _ _ _ _ _ _ _ _ _ _ _ _ _ _ _ _ _ _ _ _ _ _ _ _ _ _ _ _ _ _ _ _ _ _ _ _ _ _ _ _ _ _ _
        · have hno : ∀ x t, l.things = x :: t → l.df < x.2 := fun x t e => by
            rcases Int.lt_or_le l.df x.2 with h1 | h1
            · exact h1
            · exact absurd ⟨x, t, e, h1⟩ hsv
          have Hno := hide hno
          clear hno hsv hnx
          by_cases hth : l.things = []
          · obtain rfl : m = 0 := by rw [← Hm.out, hth]; rfl
            clear hth
            go_wp2_with fail
            go_quiet (fail)
            go_wp2_with fail
            obtain ⟨hE, hFE, hAE⟩ := round_end HDA.out ((Fr.refl (fun _ => False) wA).drewN nq)
            have hGE := (HN.out.non (.inr Hno.out)).1.symm.trans HGj.out
            exact ⟨⟨j + 1, false, by omega, hlt, (fun e => by cases e), hE, hGE, ((HF.out.trans (hfA.weak _)).trans ((((Fr.refl (fun _ => False) wA).drewN nq)).weak _)).trans hFE⟩, by rw [hAE, Hat.out]; omega⟩
          · obtain ⟨x, t, hx⟩ : ∃ x t, l.things = x :: t := List.exists_cons_of_ne_nil hth
            have hm1 : (0 : Int) < (m : Int) := by rw [← Hm.out, hx, List.length_cons]; omega
            have hMN : 0 < m := by omega
            have hMz : ¬ m = 0 := by omega
            have hMb : decide ((0 : Int) < (m : Int)) = true := decide_eq_true hm1
            have hMb2 : decide (0 < m) = true := decide_eq_true hMN
            obtain ⟨cv, hcv⟩ : ∃ c, x.2 = c := ⟨_, rfl⟩
            have hlt2 : dv < cv := by rw [← hcv, ← Hdv.out]; exact Hno.out x t hx
            have hcd : decide (cv ≤ dv) = false := decide_eq_false (by omega)
            have hOc := HDA.out.lc l (List.mem_of_getElem? Hl.out)
            obtain ⟨y2, p2, hy2, -, cY, -⟩ := hOc.look (j := 0) (u := iv_ cv) (by unfold cvals; rw [hx, ← hcv]; rfl)
            have cY' : wA.cell? ⟨y2, p2, none⟩ = some (.int .i64 cv) := cY
            rw [hy2] at cC
            have Hx := hide hx
            clear hth hx hcv hOc hy2 cY
            go_wp2_with fail
            go_quiet (fail)
            go_wp2_with fail
            obtain ⟨hE, hFE, hAE⟩ := round_end HDA.out ((Fr.refl (fun _ => False) wA).drewN nq)
            have hGE := (HN.out.non (.inr Hno.out)).1.symm.trans HGj.out
            exact ⟨⟨j + 1, false, by omega, hlt, (fun e => by cases e), hE, hGE, ((HF.out.trans (hfA.weak _)).trans ((((Fr.refl (fun _ => False) wA).drewN nq)).weak _)).trans hFE⟩, by rw [hAE, Hat.out]; omega⟩
    · obtain rfl : j = n := by omega
      obtain rfl : v = false := by cases v with | false => rfl | true => exact absurd (hvj rfl) hlt
      clear hbl hD
      go_wp2_with fail
      go_quiet (fail)
      have hfA : Fr (fun _ => False) wr (wr.drewN nq) := (Fr.refl _ _).drewN nq
      have hov := next_over (s := s) (w := w) (k := k) (G := G) (by rw [Hn.out]; exact HD.out.quiet hfA) (by rw [Hv0.out]; exact HG.out) (by rw [Hn.out]; exact HGj.out) ((HF.out.mono fun y _ e => .inl e).trans (hfA.weak _))
      have Hov := hide hov
      clear hov
      go_wp2_with fail
      go_ret3
      exact Hov.out
end
end Go.Proofs.Ytanfhmebjgmdpaa
