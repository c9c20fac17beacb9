/-
  Texts merged into one, to keep the claim small: PdF.
-/
import Derived.Test.YtlcjhbemgagchaaMr33
import Derived.Test.YtlcjhbemgagchaaMr9
import Derived.Test.YtlcjhbemgagchaaMr13
/-
  proto, the document's way: a list of numbers, an entry.
-/
namespace Go.Proofs.Ytlcjhbemgagchaa
open Go.RowKit
set_option linter.unusedVariables false
set_option linter.unusedSimpArgs false
theorem Ow.sblk' {w : World} {e : TypeId} {size n c : Nat} {A : Option Addr} {xs : List Value} {g : Option Nat} (h : Ow w e size A n c xs g) {x o : Nat} (hA : A = some ⟨x, o, none⟩) : g = some x := by
  rcases h.2 with ⟨h1, -⟩ | ⟨b, o', cur, h1, h2, -⟩
  · rw [h1] at hA; cases hA
  · rw [h1] at hA; cases hA; exact h2
/-- Numbers that can be read. -/
structure RL (w : World) (ws : List Int) (A : Option Addr) (n c : Nat) : Prop where
  le : n ≤ 65536
  cap : n ≤ c
  cap2 : c ≤ 9223372036854775807
  sl : Sl w 1 A n (ws.map iv)
theorem RL.quiet {w w' : World} {ws : List Int} {A : Option Addr} {n c : Nat} (h : RL w ws A n c) (hf : Fr (fun _ => False) w w') : RL w' ws A n c := ⟨h.le, h.cap, h.cap2, h.sl.quiet hf⟩
theorem RB.frt {w w' : World} {xs : List Nat} {A : Option Addr} {n c : Nat} (h : RB w xs A n c) {S : Nat → Prop} (hf : Fr S w w') (hS : ∀ b o, A = some ⟨b, o, none⟩ → ¬ S b) : RB w' xs A n c := ⟨h.len, h.le, h.cap, h.cap2, h.byte, h.sl.fr (B := 0) hf fun b ⟨o, e⟩ _ => hS b o e⟩
/-- The items of a value, read. -/
theorem itemsV_read {w : World} {v : List Nat} {A : Option Addr} {n c : Nat} (h : RB w v A n c) :
    Calls Try.prog 120 #[.slice A n c] w fun e w' => ∃ (rs : List BS) (D : Option Addr) (k d : Nat) (E : Option Addr) (d2 : Nat) (p er : Int), e = .returned (.tuple #[.slice D k d, .slice E k d2, .int .i64 p, .int .i64 er]) ∧
      Hid (rs.map (·.xs) = itemsV v ∧ k = rs.length ∧ k ≤ 65536 ∧ Sl w' 1 D k (rs.map BS.cell) ∧ (∀ r ∈ rs, RB w' r.xs r.A r.n r.c ∧ ∀ b o, r.A = some ⟨b, o, none⟩ → Typed w' b 5) ∧ ∀ b o, D = some ⟨b, o, none⟩ → Typed w' b 22) ∧ Fr (fun _ => False) w w' := by
  refine (ritems_any w v A n c (by have := h.le; omega) h.cap h.cap2 h.len h.byte h.sl).mono ?_
  rintro e w' ⟨rs, D, k, d, g, E, d2, g2, rfl, hT, -, -⟩
  have hlen : k = rs.length := by have := hT.ow.1; simpa using this.symm
  have hle : k ≤ v.length := by rw [hT.len]; exact itemsAll_len v
  have hv := h.len
  have hn := h.le
  refine ⟨rs, D, k, d, E, d2, _, _, rfl, ⟨hT.eq, hlen, by omega, hT.ow.sl, fun r hr => ?_, fun b o e => hT.ow.typed b (hT.ow.sblk' e)⟩, hT.fr⟩
  have ho := hT.own.own r hr
  simp only [marks, List.range_zero, List.map_nil, List.append_nil, Nat.add_zero] at ho
  have hc := ho.cap
  unfold maxLen at hc
  have hl : r.n = r.xs.length := by have := ho.1; simpa using this.symm
  have hm : r.xs ∈ (itemsAll v).1.map (GF.val v) := by rw [← hT.eq]; exact List.mem_map_of_mem hr
  obtain ⟨G, -, hG⟩ := List.mem_map.1 hm
  have h3 : r.xs.length ≤ v.length := by rw [← hG]; unfold GF.val; simp only [List.length_take, List.length_drop]; omega
  exact ⟨⟨hl, by omega, hc.1, hc.2, by rw [← hG]; exact GF.val_bytes h.byte, ho.sl⟩, fun b o e => ho.typed b (ho.sblk' e)⟩
theorem firstsL_step {xs : List (List Nat)} {j : Nat} (h : j < xs.length) (ns : List Nat) (hns : firstsL xs = (firstsL (xs.drop j)).map (ns ++ ·)) :
    (1125899906842624 < (readShort xs[j] 0).1 → firstsL xs = none) ∧ (¬ 1125899906842624 < (readShort xs[j] 0).1 → firstsL xs = (firstsL (xs.drop (j + 1))).map ((ns ++ [(readShort xs[j] 0).1]) ++ ·)) := by
  have hd : xs.drop j = xs[j] :: xs.drop (j + 1) := List.drop_eq_getElem_cons h
  rw [hd, firstsL] at hns
  constructor
  · intro hc
    rw [hns, if_pos hc]; rfl
  · intro hc
    rw [hns, if_neg hc, Option.map_map]
    congr 1
    funext l
    simp
set_option maxHeartbeats 4000000 in
set_option maxRecDepth 8000 in
theorem rlistI_any (w : World) (xs : List Nat) (A : Option Addr) (n c : Nat) (h : RB w xs A n c) (t : Int) :
    Calls Try.prog 88 #[.slice A n c, .int .i64 t] w fun e w' => ∃ B m d, e = .returned (.slice B m d) ∧ Hid (RL w' (listS xs t) B m d ∧ ∀ b o, B = some ⟨b, o, none⟩ → Typed w' b 3) ∧ Fr (fun _ => False) w w' := by
  obtain ⟨j0, hj, hj0, hj1, hj2⟩ := info_parts infoInt
  have HC := hide (rsaid_any w xs A n c h t)
  clear h
  go_enter Try.func88, Try.ntmps88
  go_wp2_with fail
  refine HC.out.mono ?_
  rintro e w1 ⟨B, m, d, rfl, hR, hf1⟩
  have HI := hide (itemsV_read hR.out)
  clear HC hR
  go_wp2_with fail
  refine HI.out.mono ?_
  rintro e W2 ⟨rs, D, k, dd, E, d2, p, er, rfl, HT, hf2⟩
  have Hf : Hid (Fr (fun _ => False) w W2) := hf1.trans hf2
  have hk := HT.out.2.2.1
  clear HI hf1 hf2
  go_wp2_with fail
  go_loopw [9, 10] (fun u i wr => ∃ (j : Nat) (ns : List Nat) (A : Option Addr) (ca : Nat) (ga : Option Nat), j ≤ k ∧ i = .int .i64 (j : Int) ∧ u = .slice A j ca ∧ Hid (firstsL (rs.map (·.xs)) = (firstsL ((rs.map (·.xs)).drop j)).map (ns ++ ·)) ∧ Ow wr 3 1 A j ca ((ns.map Int.ofNat).map iv) ga ∧ Hid ((∀ x, ga = some x → W2.heap.size ≤ x) ∧ Fr (fun _ => False) W2 wr)) (fun _ i _ => k - (intOf i).toNat)
  case atStart => exact ⟨0, [], none, 0, none, Nat.zero_le _, rfl, rfl, (by show _ = _; simp), Ow.nil_ _ _ _, (fun x e => by cases e), Fr.refl _ _⟩
  case round =>
    obtain ⟨j, ns, A2, ca, ga, hjk, rfl, rfl, hin, hA, hfr⟩ := hrel
    obtain ⟨w3, rfl⟩ : ∃ w3, w3 = wr := ⟨_, rfl⟩
    by_cases hlt : j < k
    · have hjl : j < rs.length := by rw [← HT.out.2.1]; exact hlt
      obtain ⟨y, hy⟩ : ∃ y, rs[j] = y := ⟨_, rfl⟩
      obtain ⟨b0, o0, rfl, c0⟩ := (HT.out.2.2.2.1.quiet hfr.out.2).at_ (j := j) (u := y.cell) (by rw [List.getElem?_map, List.getElem?_eq_getElem hjl, hy]; rfl)
      have hyr := (HT.out.2.2.2.2.1 y (by rw [← hy]; exact List.getElem_mem _)).1.quiet hfr.out.2
      have hxj : (rs.map (·.xs))[j]'(by rw [List.length_map]; exact hjl) = y.xs := by rw [List.getElem_map, hy]
      obtain ⟨s1, s2⟩ := firstsL_step (xs := rs.map (·.xs)) (by rw [List.length_map]; exact hjl) ns hin.out
      rw [hxj] at s1 s2
      obtain ⟨ys, YB, ym, yc, yg⟩ := y
      simp only [BS.cell] at c0 hyr s1 s2
      have HS0 := rread_any w3 ys YB ym yc 0 (by have := hyr.le; omega) hyr.len hyr.byte hyr.sl
      obtain ⟨N, en, er2, hrd⟩ : ∃ N en er, readShort ys 0 = (N, en, er) := ⟨_, _, _, rfl⟩
      rw [hrd] at s1 s2
      simp only at s1 s2
      have HS : Hid (Calls Try.prog 118 #[.slice YB ym yc, .int .i64 0] w3 fun e w' => e = .returned (.tuple #[.int .u64 (N : Int), .int .i64 en, .int .i64 (er2 : Int)]) ∧ w3 = w') := by
        unfold ReadVal at HS0
        rw [hrd] at HS0
        exact HS0
      have i0 : (0 : Int) ≤ (j : Int) := by omega
      have i1 : (j : Int) < (k : Int) := by omega
      have q1 : IntKind.i64.wrap ((j : Int) + 1) = ((j + 1 : Nat) : Int) := by rw [IntWalk.i64_in _ (by omega)]; omega
      have Hlt := hide hlt
      by_cases hbig : 1125899906842624 < N
      · have hb : (1125899906842624 : Int) < (N : Int) := by omega
        have Hl : Hid (listS xs t = [-1]) := by
          have h1 := s1 hbig
          rw [HT.out.1] at h1
          show _ = _
          unfold listS firstsI
          rw [h1]
        clear s1 s2 hrd hxj hy hjl hlt hyr HS0 hin hA hbig
        go_wp2_with fail
        refine HS.out.mono ?_
        rintro e w' ⟨rfl, rfl⟩
        go_wp2_with fail
        go_ret
        refine ⟨_, _, _, rfl, ?_, (Hf.out.trans hfr.out.2).alloc _⟩
        rw [Hl.out]
        exact ⟨⟨by omega, by omega, by omega, Sl.one _ _ _⟩, fun b o e => by cases e; exact (Bl.new w3 3 _).typed⟩
      · have hb : ¬ (1125899906842624 : Int) < (N : Int) := by omega
        have hNi : IntKind.i64.wrap (N : Int) = (N : Int) := IntWalk.i64_in _ (by omega)
        have Hnext := hide (s2 hbig)
        clear s1 s2 hrd hxj hy hjl hlt hyr HS0 hin hbig
        go_wp2_with fail
        refine HS.out.mono ?_
        rintro e w' ⟨rfl, rfl⟩
        go_wp2_with (first | (at_builtin; refine wpList_append_ow _ rfl _ _ 24 rfl 3 j0 (.int .i64 0) 1 8 Try.underlying24 hj hj0 hj1 hj2 rfl (by decide) _ _ _ _ _ rfl (hA.fr ((Fr.refl (fun _ => False) _).alloc _) (fun _ _ => id)) _ _ _ [.int .i64 (N : Int)] rfl (Sl.one _ _ _) (by intro u hu; simp at hu; subst hu; rfl) (by unfold maxLen; omega) (by omega) ?_) | go_in)
        intro A3 c3 w4 g3 hO3 hf3 hg3
        have hs := hfr.out.2.size
        have HR : Hid ((∀ x, g3 = some x → W2.heap.size ≤ x) ∧ Fr (fun _ => False) W2 w4) := by
          refine ⟨fun x e => ?_, ?_⟩
          · rcases hg3 with e2 | ⟨z, e2, hz⟩
            · rw [e2] at e; exact hfr.out.1 x e
            · rw [e2] at e; cases e
              (try simp at hz); omega
          · refine hfr.out.2.comp (((Fr.refl _ _).alloc _).comp hf3 (fun _ _ e => e)) fun x hx e => ?_
            have := hfr.out.1 x e.symm
            omega
        have hO4 : Ow w4 3 1 A3 (j + 1) c3 (((ns ++ [N]).map Int.ofNat).map iv) g3 := by
          have h9 := hO3
          simp only [List.map_append, List.map_map, List.map_cons, List.map_nil] at h9 ⊢
          exact h9
        clear hO3 hf3 hg3 hA
        go_wp2_with fail
        have := Hlt.out
        exact ⟨⟨j + 1, ns ++ [N], A3, c3, g3, by omega, by first | rfl | go_num, rfl, Hnext, hO4, HR⟩, by simp [intOf]; try omega⟩
    · obtain rfl : j = k := by omega
      have Hl : Hid (listS xs t = ns.map Int.ofNat) := by
        have h1 := hin.out
        rw [List.drop_eq_nil_of_le (by rw [List.length_map, ← HT.out.2.1]; exact Nat.le_refl _), HT.out.1] at h1
        show _ = _
        unfold listS firstsI
        rw [h1]; simp [firstsL]
      have hcap := hA.cap
      unfold maxLen at hcap
      clear hlt hin
      go_wp2_with fail
      go_ret
      have hs1 := Hf.out.size
      exact ⟨A2, j, ca, rfl, by rw [Hl.out]; exact ⟨⟨by omega, hcap.1, hcap.2, hA.sl⟩, fun b o e => hA.typed b (hA.sblk' e)⟩, Hf.out.trans hfr.out.2⟩
set_option maxHeartbeats 4000000 in
set_option maxRecDepth 8000 in
theorem rreadEntry_any (w : World) (xs : List Nat) (A : Option Addr) (n c : Nat) (h : RB w xs A n c) :
    Calls Try.prog 121 #[.slice A n c] w fun e w' => ∃ q : ER, e = .returned (.agg #[.int .i64 q.acc, .int .i64 q.item, .int .u64 (q.co : Int), .int .u64 (q.pr : Int), .slice q.A q.n q.c]) ∧ Hid (q.like (entS xs) ∧ q.at_ w' ∧ ∀ b o, q.A = some ⟨b, o, none⟩ → Typed w' b 3) ∧ Fr (fun _ => False) w w' := by
  have Hh := hide h
  clear h
  obtain ⟨a, ha⟩ : ∃ a, smallS xs 22 = a := ⟨_, rfl⟩
  obtain ⟨i, hi⟩ : ∃ i, smallS xs 6 = i := ⟨_, rfl⟩
  obtain ⟨co, hco⟩ : ∃ a, bigS xs 5 = a := ⟨_, rfl⟩
  obtain ⟨pr, hpr⟩ : ∃ a, bigS xs 10 = a := ⟨_, rfl⟩
  have H1 : Hid (∀ w1, Fr (fun _ => False) w w1 → Calls Try.prog 86 #[.slice A n c, .int .i64 22] w1 fun e w' => e = .returned (.int .i64 a) ∧ Fr (fun _ => False) w1 w') := fun w1 hf => by rw [← ha]; exact rsmall_any w1 xs A n c (Hh.out.quiet hf) 22
  have H2 : Hid (∀ w1, Fr (fun _ => False) w w1 → Calls Try.prog 86 #[.slice A n c, .int .i64 6] w1 fun e w' => e = .returned (.int .i64 i) ∧ Fr (fun _ => False) w1 w') := fun w1 hf => by rw [← hi]; exact rsmall_any w1 xs A n c (Hh.out.quiet hf) 6
  have H3 : Hid (∀ w1, Fr (fun _ => False) w w1 → Calls Try.prog 85 #[.slice A n c, .int .i64 5] w1 fun e w' => e = .returned (.int .u64 (co : Int)) ∧ Fr (fun _ => False) w1 w') := fun w1 hf => by rw [← hco]; exact rbig_any w1 xs A n c (Hh.out.quiet hf) 5
  have H4 : Hid (∀ w1, Fr (fun _ => False) w w1 → Calls Try.prog 85 #[.slice A n c, .int .i64 10] w1 fun e w' => e = .returned (.int .u64 (pr : Int)) ∧ Fr (fun _ => False) w1 w') := fun w1 hf => by rw [← hpr]; exact rbig_any w1 xs A n c (Hh.out.quiet hf) 10
  have H5 : Hid (∀ w1, Fr (fun _ => False) w w1 → Calls Try.prog 88 #[.slice A n c, .int .i64 11] w1 fun e w' => ∃ B m d, e = .returned (.slice B m d) ∧ Hid (RL w' (listS xs 11) B m d ∧ ∀ b o, B = some ⟨b, o, none⟩ → Typed w' b 3) ∧ Fr (fun _ => False) w1 w') := fun w1 hf => rlistI_any w1 xs A n c (Hh.out.quiet hf) 11
  have HE : Hid (entS xs = ⟨a, i, co, pr, none, 0, 0, listS xs 11⟩) := by show _ = _; unfold entS; rw [ha, hi, hco, hpr]
  have HB : Hid (Bl (w.alloc (.cells #[.int .i64 0, .int .i64 0, .int .u64 0, .int .u64 0, .slice none 0 0] tEnt)) w.heap.size tEnt #[.int .i64 0, .int .i64 0, .int .u64 0, .int .u64 0, .slice none 0 0]) := Bl.new _ _ _
  clear ha hi hco hpr Hh
  go_enter Try.func121, Try.ntmps121
  go_wp2_with fail
  refine (H1.out _ (by (repeat (first | with_reducible exact Fr.refl _ _ | with_reducible assumption | with_reducible refine Fr.drew ?_ | with_reducible refine Fr.drewN ?_ _ | with_reducible refine Fr.alloc ?_ _ | with_reducible refine Fr.setIn ?_ (by first | exact Or.inl rfl | exact Or.inr (by simp; done) | exact Or.inr (by simp; omega) | exact Or.inr (by omega)) _)))).mono ?_
  rintro e w1 ⟨rfl, hf1⟩
  have F1 : Hid (Fr (fun _ => False) (w.alloc (.cells #[.int .i64 0, .int .i64 0, .int .u64 0, .int .u64 0, .slice none 0 0] tEnt)) w1) := hf1
  have G0 : Hid (Fr (fun _ => False) w (w.alloc (.cells #[.int .i64 0, .int .i64 0, .int .u64 0, .int .u64 0, .slice none 0 0] tEnt))) := by show Fr _ _ _; (repeat (first | with_reducible exact Fr.refl _ _ | with_reducible assumption | with_reducible refine Fr.drew ?_ | with_reducible refine Fr.drewN ?_ _ | with_reducible refine Fr.alloc ?_ _ | with_reducible refine Fr.setIn ?_ (by first | exact Or.inl rfl | exact Or.inr (by simp; done) | exact Or.inr (by simp; omega) | exact Or.inr (by omega)) _))
  go_wp2_with fail
  refine (H2.out _ (G0.out.trans F1.out)).mono ?_
  rintro e w2 ⟨rfl, hf2⟩
  have F2 := hide (F1.out.trans hf2)
  go_wp2_with fail
  refine (H3.out _ (G0.out.trans F2.out)).mono ?_
  rintro e w3 ⟨rfl, hf3⟩
  have F3 := hide (F2.out.trans hf3)
  go_wp2_with fail
  refine (H4.out _ (G0.out.trans F3.out)).mono ?_
  rintro e w4 ⟨rfl, hf4⟩
  have F4 := hide (F3.out.trans hf4)
  go_wp2_with fail
  refine (H5.out _ (G0.out.trans F4.out)).mono ?_
  rintro e w5 ⟨B, m, d, rfl, hR, hf5⟩
  have F5 := hide (F4.out.trans hf5)
  have hB5 : Bl w5 w.heap.size tEnt #[.int .i64 0, .int .i64 0, .int .u64 0, .int .u64 0, .slice none 0 0] := HB.out.fr F5.out id
  have hB5h := hB5
  unfold Bl at hB5h
  clear H1 H2 H3 H4 H5 F1 F2 F3 F4 hf1 hf2 hf3 hf4 hf5 HB
  go_wp2_with (refine wpList_store_at rfl tEnt _ _ rfl w.heap.size 0 #[.int .i64 a, .int .i64 i, .int .u64 (co : Int), .int .u64 (pr : Int), .slice B m d] rfl rfl tEnt _ #[.int .i64 a, .int .i64 i, .int .u64 (co : Int), .int .u64 (pr : Int), .slice B m d] hB5h (by kernel_rfl) 5 5 rfl rfl (by decide) rfl rfl ?_)
  have hB9 := hB5.setRow #[.int .i64 a, .int .i64 i, .int .u64 (co : Int), .int .u64 (pr : Int), .slice B m d]
  try simp only [Exit.inBlock, Exit.then]
  refine bodyPost_ret (results_cell_row rfl _ _ w.heap.size tEnt #[.int .i64 a, .int .i64 i, .int .u64 (co : Int), .int .u64 (pr : Int), .slice B m d] (0, 0) _ rfl hB9 Try.underlying26 rfl (by kernel_rfl)) rfl ?_
  have hF : Fr (fun _ => False) w (w5.setRow w.heap.size #[.int .i64 a, .int .i64 i, .int .u64 (co : Int), .int .u64 (pr : Int), .slice B m d]) := (G0.out.trans F5.out).setRow (.inr (Nat.le_refl _)) _
  refine ⟨⟨a, i, co, pr, B, m, d, listS xs 11⟩, rfl, ⟨by rw [HE.out]; exact ER.like_mk rfl rfl rfl rfl rfl, ?_⟩, hF⟩
  have hne : ∀ b o, B = some ⟨b, o, none⟩ → b ≠ w.heap.size := fun b o e e2 => by subst e2; exact absurd ((hR.out.2 _ o e).same hB5.typed) (by decide)
  exact ⟨⟨hR.out.1.sl.fr (B := 0) (Fr.row _) (fun b ⟨o, e⟩ _ => hne b o e), by have := hR.out.1.le; show m ≤ _; omega, hR.out.1.cap, hR.out.1.cap2⟩, fun b o e => (hR.out.2 b o e).fr (Fr.row _) (hne b o e)⟩
end Go.Proofs.Ytlcjhbemgagchaa
