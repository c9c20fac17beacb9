/-
  Texts merged into one, to keep the claim small: PdK, St9.
-/
import Derived.Test.YtlcjhbemgagchaaMc24
import Derived.Test.YtlcjhbemgagchaaMc29
import Derived.Test.YtlcjhbemgagchaaMc30
import Derived.Laws.IdiomCopy
import Derived.Test.YtlcjhbemgagchaaMc25
section
/-
  proto: answers as verdicts; copy into a slice of one's own. (printed by pr_dlaw.py)
-/
namespace Go.Proofs.Ytlcjhbemgagchaa
open Go.RowKit
set_option linter.unusedVariables false
set_option linter.unusedSimpArgs false
theorem RDecPost.is {bs : List Nat} {w w' : World} {e : Ending} (h : RDecPost bs w e w') : DecIs bs w e w' := by
  rcases h with ⟨h1, rfl, hf⟩ | ⟨h1, h2, rfl, hf⟩ | ⟨h1, c, h2, rfl, h3, hf⟩
  · exact ⟨zeroC, 3, rfl, .inl ⟨h1, rfl, rfl⟩, zeroC_T _, hf⟩
  · exact ⟨zeroC, 270, rfl, .inr (.inl ⟨h1, h2, rfl, rfl⟩), zeroC_T _, hf⟩
  · exact ⟨c, 0, rfl, .inr (.inr ⟨h1, rfl, h2⟩), ⟨h3.1, h3.2.k⟩, hf⟩
theorem RRepPost.is {bs : List Nat} {w w' : World} {e : Ending} (h : RRepPost bs w e w') : RepIs bs w e w' := by
  rcases h with ⟨h1, rfl, hf⟩ | ⟨h1, h2, rfl, hf⟩ | ⟨h1, c, h2, rfl, h3, hf⟩
  · exact ⟨zeroR, 3, rfl, .inl ⟨h1, rfl, rfl⟩, zeroR_T _, hf⟩
  · exact ⟨zeroR, 270, rfl, .inr (.inl ⟨h1, h2, rfl, rfl⟩), zeroR_T _, hf⟩
  · exact ⟨c, 0, rfl, .inr (.inr ⟨h1, rfl, h2⟩), ⟨h3.1, h3.1.1.le, h3.2.k⟩, hf⟩
theorem u8size27 : (Try.prog.info? 5).map (·.size) = some 1 := by kernel_rfl
/-- copy over the beginning of a slice of one's own. -/
theorem wpList_copy_ow {w : World} {ops : Array Oper} {rest : List Oper} {o : Oper} {a : Act} {Q : Exit → Act → World → Prop} (hgd : o.guard = none) (d s : Operand)
    (hop : o.op = .call { callee := .builtin .copy, args := #[d, s], argTypes := #[22, 22] })
    (L : Option Addr) (n cd N c : Nat) (ys : List Value) (g : Option Nat) (hd : a.eval d = .slice L n cd) (hO : Ow w 5 1 L N c ys g) (hnN : n ≤ N)
    (S : Option Addr) (m cs : Nat) (zs : List Value) (hsv : a.eval s = .slice S m cs) (hS : Sl w 1 S m zs) (h1 : ∀ v ∈ zs, v.oneCell' = true)
    (h : ∀ w', Ow w' 5 1 L N c (zs.take (Nat.min m n) ++ ys.drop (Nat.min m n)) g → Fr (fun x => some x = g) w w' → wpList Try.prog ops Q rest (a.put o.dst (goInt (Nat.min m n))) w') : wpList Try.prog ops Q (o :: rest) a w := by
  have hzl : zs.length = m := by have := hS.1; simpa using this
  have hyl : ys.length = N := by have := hO.1; simpa using this
  by_cases h0 : Nat.min m n = 0
  · refine wpList_plain hgd fun K hK => ?_
    have hrun := run_copy_none (P := Try.prog) w 22 22 o.type 5 L S n cd m cs Try.underlying22 u8size27 h0
    unfold Oper.wp execOp
    simp only [hop, resolve, invoke, builtin, Sem.run_bind, Sem.run_pure, Result.andThen_ok, List.map_toArray, List.map_cons, List.map_nil, hd, hsv, hrun]
    refine hK _ _ ?_
    have := h w (by rw [h0]; simpa using hO) (Fr.refl _ _)
    rw [h0] at this
    exact this
  · have hmn : Nat.min m n ≤ m ∧ Nat.min m n ≤ n := ⟨Nat.min_le_left .., Nat.min_le_right ..⟩
    obtain ⟨k, hk⟩ : ∃ k, Nat.min m n = k := ⟨_, rfl⟩
    rw [hk] at h0 h hmn
    obtain ⟨bs, os, rfl, hsc⟩ := hS.2 (by omega)
    have hO' := hO
    rcases hO.2 with ⟨-, h2, -⟩ | ⟨b, of, cur, rfl, rfl, hh, h2, h3, h4, h5⟩
    · omega
    refine wpList_plain hgd fun K hK => ?_
    have hlen : (zs.take k).length = k := by rw [List.length_take]; omega
    have hrun := run_copy_cells (P := Try.prog) w 22 22 o.type 5 b of n cd ⟨bs, os, none⟩ m cs (zs.take k) Try.underlying22 u8size27 (by rw [hlen, hk]) (fun j v hv => by
      have hj : j < k := by rw [← hlen]; exact (List.getElem?_eq_some_iff.1 hv).1
      rw [List.getElem?_take_of_lt hj] at hv
      rw [Addr.add_lit]; exact hsc j v hv) (fun j hj => by
      rw [hlen] at hj
      have hc : cur[of + j]? = ys[j]? := h5 j (by omega)
      simp [World.cell?, hh, hc]
      omega) (fun j hj => by simp [World.frozen?, hh]) (fun v hv => h1 v (List.mem_of_mem_take hv))
    rw [hlen] at hrun
    obtain ⟨cur', a1, a2, a3, a4⟩ := heap_setCells b (zs.take k) of w cur 5 hh (fun _ _ => trivial)
    rw [hlen] at a3 a4
    unfold Oper.wp execOp
    simp only [hop, resolve, invoke, builtin, Sem.run_bind, Sem.run_pure, Result.andThen_ok, List.map_toArray, List.map_cons, List.map_nil, hd, hsv, hrun]
    refine hK _ _ (h _ ⟨by rw [List.length_append, hlen, List.length_drop]; omega, .inr ⟨b, of, cur', rfl, rfl, a1, by rw [a2]; exact h2, h3, h4, fun j hj => ?_⟩⟩ ((fr_setCells b _ of w).mono fun x _ e => by rw [e]))
    by_cases hjk : j < k
    · rw [List.getElem?_append_left (by rw [hlen]; exact hjk)]
      have hjz : j < (zs.take k).length := by rw [hlen]; exact hjk
      rw [List.getElem?_eq_getElem hjz]
      exact a4 (by omega) j _ (List.getElem?_eq_getElem hjz)
    · rw [List.getElem?_append_right (by rw [hlen]; omega), hlen, List.getElem?_drop, show k + (j - k) = j by omega, a3 (of + j) (.inr (by omega))]
      exact h5 j hj
end Go.Proofs.Ytlcjhbemgagchaa
end

section
/-
  stream: Replies, the reference's. (printed by pr_reps.py)
-/
namespace Go.Proofs.Ytlcjhbemgagchaa
open Go.RowKit
set_option linter.unusedVariables false
theorem longS_three (bs : List Nat) : longS (bs.take 3) = longS bs := by
  simp [longS, List.getD]
theorem Sl.three8 {w : World} {n b o : Nat} {xs : List Nat} (h : Sl w 1 (some ⟨b, o, none⟩) n (xs.map bn)) {k : Nat} (hk : k + 3 ≤ n) : Sl w 1 (some ⟨b, o + k, none⟩) 3 (((xs.drop k).take 3).map bn) := by
  have h1 := h.part (f := k) (t := k + 3) (by omega) hk
  rw [Nat.add_sub_cancel_left, ← List.map_drop, ← List.map_take] at h1
  exact h1
def RRepsPost (bs : List Nat) (w : World) (e : Ending) (w' : World) : Prop :=
  ∃ (l : List RR) (u er : Nat) (B : Option Addr) (m d : Nat) (g : Option Nat), e = .returned (.tuple #[.slice B m d, .int .i64 (u : Int), .int .i64 (er : Int)]) ∧ Reps bs 0 l u er ∧ Rpr w w' l B m d g ∧ Fr (fun _ => False) w w'
set_option maxHeartbeats 1000000 in
set_option maxRecDepth 8000 in
attribute [-go_sem] Go.Instr.loadAt Go.Instr.storeAt in
theorem rreplies_any (w : World) (bs : List Nat) (b0 o0 : Nat) (A : Option Addr) (n c : Nat) (hn : n = bs.length) (hb : n ≤ 2097152) (hc : n ≤ c) (hc2 : c ≤ maxLen) (h256 : ∀ x ∈ bs, x < 256) (hA : Sl w 1 A n (bs.map bn)) :
    Calls Try.prog 21 #[.slice A n c] w (RRepsPost bs w) := by
  obtain ⟨j0, hj, hj0, hj1, hj2⟩ := info_parts infoRpl
  unfold maxLen at hc2
  have HA := hide (fun w' (hf : Fr (fun _ => False) w w') => hA.below hf (fun _ _ => id))
  have Hn := hide hn
  have H256 := hide h256
  clear hA hn h256
  go_enter Try.func21, Try.ntmps21
  go_wp2_with fail
  go_loopw [5, 6] (fun v5 v6 wr => ∃ (k : Nat) (l : List RR) (B : Option Addr) (m d : Nat) (g : Option Nat), v5 = .slice B m d ∧ v6 = .int .i64 (k : Int) ∧ k ≤ n ∧ Hid (ToldR bs k l) ∧ Hid (Rpr w wr l B m d g) ∧ Hid (Fr (fun _ => False) w wr)) (fun _ v _ => n - (intOf v).toNat)
  case atStart => exact ⟨0, [], none, 0, 0, none, rfl, rfl, Nat.zero_le _, .nil, Rpr.nil_ _ _, Fr.refl _ _⟩
  case round =>
    obtain ⟨k, l, B, m, d, g, rfl, rfl, hk, hT, hR, hF⟩ := hrel
    obtain ⟨wo, rfl⟩ : ∃ z, z = wr := ⟨_, rfl⟩
    have hcap := hR.out.ow.cap
    have hRc := hR
    have hml : m ≤ 700000 := by have := hT.out.len; have := hR.out.len; have := Hn.out; omega
    clear hcap
    by_cases hsh : n < k + 3
    · have hD : Hid (Reps bs 0 l k 0) := by
        have := hT.out.reps (.short (by have := Hn.out; omega))
        rwa [List.append_nil] at this
      have b1 : ¬ (k : Int) + 3 ≤ (n : Int) := by omega
      have iw : IntKind.i64.wrap ((k : Int) + 3) = (k : Int) + 3 := IntWalk.i64_in _ (by omega)
      clear hsh
      go_wp2_with fail
      go_ret3
      exact ⟨l, k, 0, B, m, d, g, rfl, hD.out, hRc.out, hF.out⟩
    · have b1 : (k : Int) + 3 ≤ (n : Int) := by omega
      have iw : IntKind.i64.wrap ((k : Int) + 3) = (k : Int) + 3 := IntWalk.i64_in _ (by omega)
      have hA := HA.out wo hF.out
      obtain ⟨b, o, rfl, -⟩ := hA.byte (k := 0) (by omega)
      have hAk := hA.rest8 hk
      have hlg := rlong_any wo ((bs.drop k).take 3) _ 3 (c - k) (Nat.le_refl _) (hA.three8 (by omega)) (fun x hx => drop_bytes H256.out k x (List.mem_of_mem_take hx))
      rw [longS_three] at hlg
      obtain ⟨L, hL⟩ : ∃ L, longS (bs.drop k) = L := ⟨_, rfl⟩
      rw [hL] at hlg
      have HL := hide hL
      have k1 : (0 : Int) ≤ (k : Int) := by omega
      have k2 : (k : Int) ≤ (n : Int) := by omega
      have hS3 := fun (h : k + 3 + L ≤ n) => hA.body8 h HL.out
      have HS3 := hide hS3
      have hRw := fun w' (hf : Fr (fun _ => False) wo w') => hRc.out.quiet hf
      have HRw := hide hRw
      clear hL hA hAk hS3 hRw
      go_wp2_with fail
      refine hlg.mono ?_
      rintro e w' ⟨rfl, m1, rfl⟩
      have hf1 : Fr (fun _ => False) wo (wo.drewN m1) := (Fr.refl _ _).drewN m1
      obtain ⟨w1, hw1⟩ : ∃ w1, wo.drewN m1 = w1 := ⟨_, rfl⟩
      rw [hw1] at hf1
      have hf01 := hF.out.trans hf1
      rw [hw1]
      clear hw1 hlg
      by_cases h2 : 65536 < L
      · have hD : Hid (Reps bs 0 l k 290) := by
          have := hT.out.reps (.long (k := k) (by have := Hn.out; omega) (by rw [HL.out]; exact h2))
          rwa [List.append_nil] at this
        have b2 : (65536 : Int) < (L : Int) := by omega
        have HR1 := hide (HRw.out w1 hf1)
        have HF1 := hide hf01
        clear h2 hf1 hf01
        go_wp2_with fail
        go_ret3
        exact ⟨l, k, 290, B, m, d, g, rfl, hD.out, HR1.out, HF1.out⟩
      · have b2 : ¬ (65536 : Int) < (L : Int) := by omega
        have iw2 : IntKind.i64.wrap ((k : Int) + 3 + (L : Int)) = (k : Int) + 3 + (L : Int) := IntWalk.i64_in _ (by omega)
        by_cases h3 : n < k + 3 + L
        · have hD : Hid (Reps bs 0 l k 0) := by
            have := hT.out.reps (.half (k := k) (by have := Hn.out; omega) (by rw [HL.out]; omega) (by rw [HL.out]; have := Hn.out; omega))
            rwa [List.append_nil] at this
          have b3 : (n : Int) < (k : Int) + 3 + (L : Int) := by omega
          have HR1 := hide (HRw.out w1 hf1)
          have HF1 := hide hf01
          clear h2 h3 hf1 hf01
          go_wp2_with fail
          go_ret3
          exact ⟨l, k, 0, B, m, d, g, rfl, hD.out, HR1.out, HF1.out⟩
        · have b3 : ¬ (n : Int) < (k : Int) + 3 + (L : Int) := by omega
          have hdec := fun (o' c' : Nat) (hc1 : L ≤ c') (hc9 : c' ≤ 9223372036854775807) (h : Sl w1 1 (some ⟨b, o', none⟩) L ((bodyS bs k).map bn)) => rDecodeReply_any w1 (bodyS bs k) (some ⟨b, o', none⟩) L c' (by unfold bodyS; rw [HL.out]; simp; have := Hn.out; omega) hc1 hc9 (body_bytes H256.out k) h
          have hS1 := (HS3.out (by omega)).below hf1 (fun _ _ => id)
          have HF1 := hide hf1
          have HF01 := hide hf01
          have h3' : k + 3 + L ≤ n := by omega
          have h2' : L ≤ 65536 := by omega
          clear h2 h3 hf1 hf01
          by_cases hz : c = k + 3
          · obtain rfl : L = 0 := by omega
            have hbz : bodyS bs k = [] := by unfold bodyS; rw [HL.out]; rfl
            have hdec := hdec o 0 (by omega) (by omega) (by rw [hbz]; exact Sl.nil_ _ _ _)
            obtain rfl : c = k + 3 := hz
            clear hS1
            go_wp2_with fail
            refine hdec.mono ?_
            intro v w2 hp
            obtain ⟨q, er, rfl, hV, hQ, hf2⟩ := hp.is
            clear hp hdec
            have p3 := put_rep (w := w2) q
            have hbx := box_new (w := w2) tRpl #[.int .i64 0, .int .i64 0, .int .i64 0, .int .u64 0, .slice none 0 0, .string ⟨#[]⟩, .int .u32 0, .int .i64 0, .int .i64 0, .int .i64 0, .int .i64 0, .int .i64 0, .int .i64 0, .int .u64 0, .int .u64 0, .int .u64 0, .int .i64 0, .slice none 0 0] #[.int .i64 q.id, .int .i64 q.err, .int .i64 q.num, .int .u64 (q.co : Int), .slice q.A q.n q.c, .string (strOf q.txt), .int .u32 (q.bits : Int), .int .i64 q.k.num, .int .i64 q.k.kind, .int .i64 q.k.by_, .int .i64 q.k.dl, .int .i64 q.k.to_, .int .i64 q.k.want, .int .u64 (q.k.pr : Int), .int .u64 (q.k.rs : Int), .int .u64 (q.k.st : Int), .int .i64 q.k.of_, .slice q.k.A q.k.n q.k.c]
            obtain ⟨w3, hw3⟩ : ∃ w3, (w2.alloc (.cells #[.int .i64 0, .int .i64 0, .int .i64 0, .int .u64 0, .slice none 0 0, .string ⟨#[]⟩, .int .u32 0, .int .i64 0, .int .i64 0, .int .i64 0, .int .i64 0, .int .i64 0, .int .i64 0, .int .u64 0, .int .u64 0, .int .u64 0, .int .i64 0, .slice none 0 0] tRpl)).setRow w2.heap.size #[.int .i64 q.id, .int .i64 q.err, .int .i64 q.num, .int .u64 (q.co : Int), .slice q.A q.n q.c, .string (strOf q.txt), .int .u32 (q.bits : Int), .int .i64 q.k.num, .int .i64 q.k.kind, .int .i64 q.k.by_, .int .i64 q.k.dl, .int .i64 q.k.to_, .int .i64 q.k.want, .int .u64 (q.k.pr : Int), .int .u64 (q.k.rs : Int), .int .u64 (q.k.st : Int), .int .i64 q.k.of_, .slice q.k.A q.k.n q.k.c] = w3 := ⟨_, rfl⟩
            rw [hw3] at hbx p3
            have hld := box_rep q hbx.1
            have hF3 := hbx.2
            by_cases her : er = 0
            · subst her
              have hT3' := hT.out.snoc (by rw [HL.out]; omega) (by rw [HL.out]; have := Hn.out; omega) hV.out
              rw [HL.out] at hT3'
              have hT3 := hide hT3'
              clear hT3'
              have hF13 := HF1.out.trans (hf2.trans hF3)
              have hR3 := hR.out.quiet hF13
              have hO3 := hR3.ow
              have H3 := hide (And.intro hR3 (And.intro (HF01.out.trans (hf2.trans hF3)) (And.intro hF13 hf2)))
              have hsz3 : wo.heap.size ≤ w3.heap.size := hF13.size
              have hF3' := hF3
              clear hbx hf2 hV hF3 hF13 hR3
              go_wp2_with (at_builtin; go_loud (refine wpList_append_ow _ rfl _ _ 49 rfl tRpl j0 (.agg #[.int .i64 0, .int .i64 0, .int .i64 0, .int .u64 0, .slice none 0 0, .string ⟨#[]⟩, .int .u32 0, .int .i64 0, .int .i64 0, .int .i64 0, .int .i64 0, .int .i64 0, .int .i64 0, .int .u64 0, .int .u64 0, .int .u64 0, .int .i64 0, .slice none 0 0]) 18 184 Try.underlying49 hj hj0 hj1 hj2 rfl (by decide) _ _ _ _ _ rfl (hO3.fr (S := fun _ => False) ((Fr.refl _ _).alloc _) (fun _ _ => id)) _ _ _ (rcells q) rfl (sl_rpl _ _ _) (rcells_one q) (by unfold maxLen; omega) (by omega) ?_))
              intro A4 c4 w4 g4 hO4 hf4 hg4
              clear hO3
              obtain ⟨hR3, hF03, hF13, hf2⟩ := H3.out
              have hal : Fr (fun _ => False) w3 (w3.alloc (.cells (rcells q).toArray tRpl)) := (Fr.refl _ _).alloc _
              have hR4 := Rpr.app (hR3.quiet hal) ((hQ.out.quiet hF3').quiet hal) hO4 hf4 (hg4.imp id fun ⟨x, e, h⟩ => ⟨x, e, by have := hF03.size; first | omega | (simp at h; omega)⟩)
              have hgn := hR.out.new
              have HR4 := hide hR4
              have HF4 : Hid (Fr (fun _ => False) w w4) := (hF03.trans hal).comp hf4 fun i hi e => by have := hgn i e.symm; omega
              clear hO4 hf4 hg4 hR3 hF03 hF13 hf2 hR4 hal
              go_wp2_with fail
              exact ⟨⟨k + 3 + 0, l ++ [q], A4, m + 1, c4, g4, rfl, by first | rfl | (congr 1; done) | (congr 1; omega), h3', hT3, HR4, HF4⟩, by simp [intOf]; omega⟩
            · have hD : Hid (Reps bs 0 l k 290) := by
                have := hT.out.reps (.bad (k := k) (er := er) (by rw [HL.out]; omega) (by rw [HL.out]; have := Hn.out; omega) hV.out her)
                rwa [List.append_nil] at this
              have b4 : ¬ er = 0 := her
              have HR3 := hide (hR.out.quiet (HF1.out.trans (hf2.trans hF3)))
              have HF3 := hide (HF01.out.trans (hf2.trans hF3))
              have hcm := HR3
              clear hld hbx hf2 hF3 hV her
              go_wp2_with fail
              go_ret3
              exact ⟨l, k, 290, B, m, d, g, rfl, hD.out, hcm.out, HF3.out⟩
          · have hz2 : ¬ (c : Int) = (k : Int) + 3 := by omega
            have hdec := hdec (o + (k + 3)) (c - (k + 3)) (by omega) (by omega) hS1
            clear hS1
            go_wp2_with fail
            refine hdec.mono ?_
            intro v w2 hp
            obtain ⟨q, er, rfl, hV, hQ, hf2⟩ := hp.is
            clear hp hdec
            have p3 := put_rep (w := w2) q
            have hbx := box_new (w := w2) tRpl #[.int .i64 0, .int .i64 0, .int .i64 0, .int .u64 0, .slice none 0 0, .string ⟨#[]⟩, .int .u32 0, .int .i64 0, .int .i64 0, .int .i64 0, .int .i64 0, .int .i64 0, .int .i64 0, .int .u64 0, .int .u64 0, .int .u64 0, .int .i64 0, .slice none 0 0] #[.int .i64 q.id, .int .i64 q.err, .int .i64 q.num, .int .u64 (q.co : Int), .slice q.A q.n q.c, .string (strOf q.txt), .int .u32 (q.bits : Int), .int .i64 q.k.num, .int .i64 q.k.kind, .int .i64 q.k.by_, .int .i64 q.k.dl, .int .i64 q.k.to_, .int .i64 q.k.want, .int .u64 (q.k.pr : Int), .int .u64 (q.k.rs : Int), .int .u64 (q.k.st : Int), .int .i64 q.k.of_, .slice q.k.A q.k.n q.k.c]
            obtain ⟨w3, hw3⟩ : ∃ w3, (w2.alloc (.cells #[.int .i64 0, .int .i64 0, .int .i64 0, .int .u64 0, .slice none 0 0, .string ⟨#[]⟩, .int .u32 0, .int .i64 0, .int .i64 0, .int .i64 0, .int .i64 0, .int .i64 0, .int .i64 0, .int .u64 0, .int .u64 0, .int .u64 0, .int .i64 0, .slice none 0 0] tRpl)).setRow w2.heap.size #[.int .i64 q.id, .int .i64 q.err, .int .i64 q.num, .int .u64 (q.co : Int), .slice q.A q.n q.c, .string (strOf q.txt), .int .u32 (q.bits : Int), .int .i64 q.k.num, .int .i64 q.k.kind, .int .i64 q.k.by_, .int .i64 q.k.dl, .int .i64 q.k.to_, .int .i64 q.k.want, .int .u64 (q.k.pr : Int), .int .u64 (q.k.rs : Int), .int .u64 (q.k.st : Int), .int .i64 q.k.of_, .slice q.k.A q.k.n q.k.c] = w3 := ⟨_, rfl⟩
            rw [hw3] at hbx p3
            have hld := box_rep q hbx.1
            have hF3 := hbx.2
            by_cases her : er = 0
            · subst her
              have hT3' := hT.out.snoc (by rw [HL.out]; omega) (by rw [HL.out]; have := Hn.out; omega) hV.out
              rw [HL.out] at hT3'
              have hT3 := hide hT3'
              clear hT3'
              have hF13 := HF1.out.trans (hf2.trans hF3)
              have hR3 := hR.out.quiet hF13
              have hO3 := hR3.ow
              have H3 := hide (And.intro hR3 (And.intro (HF01.out.trans (hf2.trans hF3)) (And.intro hF13 hf2)))
              have hsz3 : wo.heap.size ≤ w3.heap.size := hF13.size
              have hF3' := hF3
              clear hbx hf2 hV hF3 hF13 hR3
              go_wp2_with (at_builtin; go_loud (refine wpList_append_ow _ rfl _ _ 49 rfl tRpl j0 (.agg #[.int .i64 0, .int .i64 0, .int .i64 0, .int .u64 0, .slice none 0 0, .string ⟨#[]⟩, .int .u32 0, .int .i64 0, .int .i64 0, .int .i64 0, .int .i64 0, .int .i64 0, .int .i64 0, .int .u64 0, .int .u64 0, .int .u64 0, .int .i64 0, .slice none 0 0]) 18 184 Try.underlying49 hj hj0 hj1 hj2 rfl (by decide) _ _ _ _ _ rfl (hO3.fr (S := fun _ => False) ((Fr.refl _ _).alloc _) (fun _ _ => id)) _ _ _ (rcells q) rfl (sl_rpl _ _ _) (rcells_one q) (by unfold maxLen; omega) (by omega) ?_))
              intro A4 c4 w4 g4 hO4 hf4 hg4
              clear hO3
              obtain ⟨hR3, hF03, hF13, hf2⟩ := H3.out
              have hal : Fr (fun _ => False) w3 (w3.alloc (.cells (rcells q).toArray tRpl)) := (Fr.refl _ _).alloc _
              have hR4 := Rpr.app (hR3.quiet hal) ((hQ.out.quiet hF3').quiet hal) hO4 hf4 (hg4.imp id fun ⟨x, e, h⟩ => ⟨x, e, by have := hF03.size; first | omega | (simp at h; omega)⟩)
              have hgn := hR.out.new
              have HR4 := hide hR4
              have HF4 : Hid (Fr (fun _ => False) w w4) := (hF03.trans hal).comp hf4 fun i hi e => by have := hgn i e.symm; omega
              clear hO4 hf4 hg4 hR3 hF03 hF13 hf2 hR4 hal
              go_wp2_with fail
              exact ⟨⟨k + 3 + L, l ++ [q], A4, m + 1, c4, g4, rfl, by first | rfl | (congr 1; done) | (congr 1; omega), h3', hT3, HR4, HF4⟩, by simp [intOf]; omega⟩
            · have hD : Hid (Reps bs 0 l k 290) := by
                have := hT.out.reps (.bad (k := k) (er := er) (by rw [HL.out]; omega) (by rw [HL.out]; have := Hn.out; omega) hV.out her)
                rwa [List.append_nil] at this
              have b4 : ¬ er = 0 := her
              have HR3 := hide (hR.out.quiet (HF1.out.trans (hf2.trans hF3)))
              have HF3 := hide (HF01.out.trans (hf2.trans hF3))
              have hcm := HR3
              clear hld hbx hf2 hF3 hV her
              go_wp2_with fail
              go_ret3
              exact ⟨l, k, 290, B, m, d, g, rfl, hD.out, hcm.out, HF3.out⟩
end Go.Proofs.Ytlcjhbemgagchaa
end
