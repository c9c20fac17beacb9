/-
  Texts merged into one, to keep the claim small: TlvR3.
-/
import Derived.Test.YtlcjhbemgagchaaMr14
/-
  Readers of the program: End, read, NewReader, items.
-/
namespace Go.Proofs.Ytlcjhbemgagchaa
open Go.RowKit
set_option linter.unusedVariables false
attribute [local go_sem ↓] Go.wp_at_zero Go.wp_at_succ

theorem leftAt_first {d : RD} (ho : d.ok) {k : Nat} (hk : k < d.fs.length) (h1 : ∀ j, j < k → d.tk.getD j false = true) (h2 : d.tk.getD k false = false) : leftAt d.fs d.tk = k := by
  have hkt : k < d.tk.length := by rw [ho.tk]; exact hk
  have h2' : d.tk[k] = false := by simpa [List.getD, hkt] using h2
  unfold leftAt
  rcases Nat.lt_trichotomy (d.tk.findIdx fun b => !b) k with h | h | h
  · have h3 := List.findIdx_getElem (w := Nat.lt_trans h hkt)
    have h4 := h1 _ h
    simp [List.getD, Nat.lt_trans h hkt] at h4
    simp [h4] at h3
  · exact h
  · have := List.not_of_lt_findIdx h
    simp [h2'] at this
theorem leftAt_none {d : RD} (ho : d.ok) (h1 : ∀ j, j < d.fs.length → d.tk.getD j false = true) : d.fs[leftAt d.fs d.tk]? = none := by
  refine List.getElem?_eq_none ?_
  rcases Nat.lt_or_ge (leftAt d.fs d.tk) d.fs.length with h | h
  · have hl : leftAt d.fs d.tk < d.tk.length := by rw [ho.tk]; exact h
    have h3 := List.findIdx_getElem (w := hl)
    have h4 := h1 _ h
    have h5 : d.tk[leftAt d.fs d.tk] = true := by simpa [List.getD, hl] using h4
    have h6 : (!d.tk[leftAt d.fs d.tk]) = true := h3
    rw [h5] at h6; cases h6
  · exact h

set_option maxHeartbeats 4000000 in
set_option maxRecDepth 4000 in
theorem tend_any (w : World) (pf b : Nat) (r : TRd) (d : RD) (f : RF) (hT : TR w pf b r d) (hF : Flt w 210 pf f) :
    Calls Try.prog 131 #[rp r.p] w fun e w' => e = .returned (.tuple #[.int .i64 (endS d f).place, .int .i64 (endS d f).e]) ∧ TPost w pf b r d (endS d f) w' := by
  have HT := hide hT
  have HF := hide hF
  obtain ⟨p, L, n, c, g, ps⟩ := r
  have c0 : w.cell? ⟨p, 0, none⟩ = some (.pointer (some ⟨pf, 0, none⟩)) := hT.bl.cell' rfl
  have c1 : w.cell? ⟨p, 1, none⟩ = some (.int .i64 (d.base : Int)) := hT.bl.cell' rfl
  have c2 : w.cell? ⟨p, 2, none⟩ = some (.slice L n c) := hT.bl.cell' rfl
  have ce : w.cell? ⟨pf, 1, none⟩ = some (.int .i64 f.e) := Bl.cell' hF rfl
  have np : ¬ p = pf := fun e => absurd (hT.bl.typed.same (e ▸ Bl.typed hF)) (by decide)
  have Hn : Hid (n = ps.length) := hT.n_eq
  have hcap : n ≤ 9223372036854775807 := by have := hT.ls.cap; unfold maxLen at this; simp only at this; omega
  obtain ⟨er, her⟩ : ∃ er, f.e = er := ⟨_, rfl⟩
  rw [her] at ce
  have Her := hide her
  have hle := hT.ok.le
  obtain ⟨ba, hba⟩ : ∃ ba, d.base = ba := ⟨_, rfl⟩
  rw [hba] at c1 hle
  have Hba := hide hba
  have Hle := hide hle
  clear hT hF her hba hle
  by_cases h0 : ¬ er = 0
  · have hs : Hid (endS d f = f) := if_pos (by rw [Her.out]; exact h0)
    show Calls _ _ #[.pointer (some ⟨p, 0, none⟩)] _ _
    go_enter Try.func131, Try.ntmps131
    go_wp2_with fail
    refine (none_some w p pf c0).mono ?_
    rintro e w' ⟨rfl, rfl⟩
    go_wp2_with fail
    refine (tfault_any w pf b ⟨p, L, n, c, g, ps⟩ d f HT.out HF.out).mono ?_
    rintro e w1 ⟨rfl, hf1⟩
    go_wp2_with fail
    go_ret2
    rw [hs.out]
    exact ⟨rfl, (TPost.refl HT.out HF.out).quiet hf1⟩
  obtain rfl : er = 0 := by omega
  show Calls _ _ #[.pointer (some ⟨p, 0, none⟩)] _ _
  go_enter Try.func131, Try.ntmps131
  go_wp2_with fail
  refine (none_some w p pf c0).mono ?_
  rintro e w' ⟨rfl, rfl⟩
  go_wp2_with fail
  go_loopw [24] (fun i wr => ∃ k : Nat, k ≤ n ∧ i = .int .i64 k ∧ Hid (∀ j, j < k → d.tk.getD j false = true) ∧ Hid (wr = w)) (fun i _ => n - (intOf i).toNat)
  case atStart => exact ⟨0, by omega, rfl, fun j hj => absurd hj (by omega), rfl⟩
  case round =>
    obtain ⟨k, hk, rfl, hno, hwr⟩ := hrel
    obtain rfl := hwr.out
    by_cases hlt : k < n
    · have hkp : k < ps.length := by rw [← Hn.out]; exact hlt
      have hkf : k < d.fs.length := by rw [← HT.out.len]; exact hkp
      obtain ⟨⟨q, F, o'⟩, hy⟩ : ∃ y, ps[k] = y := ⟨_, rfl⟩
      obtain ⟨bL, oL, rfl, -, hcL, -⟩ := HT.out.ls.look (j := k) (u := rp q) (by simp [hkp, hy, ptr, rp])
      have hp := HT.out.at_ k hkp
      simp only [hy] at hp
      have hFe : d.fs[k] = F := by
        have := map_get HT.out.eq hkp
        simp only [hy, List.getElem?_eq_getElem hkf] at this
        exact (Option.some.inj this).symm
      have hat : F.at_ ≤ d.bs.length := by rw [← hFe]; exact (HT.out.ok.at_ _ (List.getElem_mem hkf)).2.2
      obtain ⟨am, ham⟩ : ∃ am, F.at_ = am := ⟨_, rfl⟩
      obtain ⟨tk, htk⟩ : ∃ tk, d.tk.getD k false = tk := ⟨_, rfl⟩
      have q1 : wr.cell? ⟨q, 1, none⟩ = some (.int .i64 (am : Int)) := by rw [← ham]; exact hp.bl.cell' rfl
      have q4 : wr.cell? ⟨q, 4, none⟩ = some (.bool tk) := by rw [← htk]; exact hp.bl.cell' rfl
      have nq : ¬ q = pf := fun e => absurd (hp.bl.typed.same (e ▸ Bl.typed HF.out)) (by decide)
      have hcL' : wr.cell? ⟨bL, oL + k, none⟩ = some (.pointer (some ⟨q, 0, none⟩)) := hcL
      have hw0 : IntKind.i64.wrap ((ba : Int) + (am : Int)) = (ba : Int) + am := IntWalk.i64_in _ (by have := Hle.out; omega)
      have HFe := hide hFe
      have Htk := hide htk
      have Ham := hide ham
      have HF1 := HF
      clear hcL hy hp hFe hat ham htk
      have i0 : (0 : Int) ≤ (k : Int) := by omega
      have i1 : (k : Int) < (n : Int) := by omega
      cases tk with
      | true =>
        go_wp2_with fail
        refine ⟨⟨k + 1, by omega, by go_num, fun j hj => ?_, hide trivial⟩, by simp [intOf]; omega⟩
        by_cases hjk : j = k
        · subst hjk; exact Htk.out
        · exact hno.out j (by omega)
      | false =>
        have hs : Hid (endS d f = f.wrong ((ba : Int) + am) 20) := by
          show _ = _
          rw [endS, if_neg (fun h => h Her.out), leftAt_first HT.out.ok hkf hno.out Htk.out, List.getElem?_eq_getElem hkf, HFe.out]
          simp only [Hba.out, Ham.out]
        go_wp2_with fail
        go_region_held3 (fun w' => w'.cell? ⟨p, 0, none⟩ = some (.pointer (some ⟨pf, 0, none⟩)) ∧ w'.cell? ⟨p, 1, none⟩ = some (.int .i64 (ba : Int)) ∧ w'.cell? ⟨q, 1, none⟩ = some (.int .i64 (am : Int))) (go_keep) ((go_at_call 127; refine (twrong_any _ pf f _ _ (by exact HF1.out)).mono ?_; rintro e w2 ⟨rfl, hF2, hf2⟩; have z0 := (hf2.cell (World.block_lt_of_cell? wr _ c0) np).trans c0; have z1 := (hf2.cell (World.block_lt_of_cell? wr _ c1) np).trans c1; have z2 := (hf2.cell (World.block_lt_of_cell? wr _ q1) nq).trans q1))
        have hP : TPost wr pf b ⟨p, some ⟨bL, oL, none⟩, n, c, g, ps⟩ d (f.wrong ((ba : Int) + am) 20) w2 := (TPost.refl HT.out HF.out).bad ((Fr.refl _ _).drew.trans hf2) hF2
        have HP := hide hP
        clear hP
        go_wp2_with fail
        refine (tfault_any w2 pf b ⟨p, some ⟨bL, oL, none⟩, n, c, g, ps⟩ d _ HP.out.tr HP.out.flt).mono ?_
        rintro e w3 ⟨rfl, hf3⟩
        go_wp2_with fail
        go_ret2
        rw [hs.out]
        exact ⟨rfl, HP.out.quiet hf3⟩
    · obtain rfl : k = n := by omega
      have hs : Hid (endS d f = f) := by
        show _ = _
        rw [endS, if_neg (fun h => h Her.out), leftAt_none HT.out.ok fun j hj => hno.out j (by rw [Hn.out, HT.out.len]; exact hj)]
      clear hlt
      go_wp2_with fail
      refine (tfault_any wr pf b ⟨p, L, k, c, g, ps⟩ d f HT.out HF.out).mono ?_
      rintro e w3 ⟨rfl, hf3⟩
      go_wp2_with fail
      go_ret2
      rw [hs.out]
      exact ⟨rfl, (TPost.refl HT.out HF.out).quiet hf3⟩

/-- A new reader, and the fault behind it. -/
structure NewT (w : World) (pf b : Nat) (r : TRd) (x : RD × RF) (w' : World) : Prop where
  tr : TR w' pf b r x.1
  flt : Flt w' 210 pf x.2
  new : ∀ y, r.foot y → w.heap.size ≤ y
  fr : Fr (fun y => y = pf) w w'
theorem NewT.behind {w w1 w' : World} {pf b : Nat} {r : TRd} {x : RD × RF} (hf : Fr (fun _ => False) w w1) (h : NewT w1 pf b r x w') : NewT w pf b r x w' :=
  ⟨h.tr, h.flt, fun y hy => Nat.le_trans hf.size (h.new y hy), (hf.weak _).trans h.fr⟩
theorem no_parts {w : World} {pf b p : Nat} {base : Nat} (h : Bl w p 197 #[.pointer (some ⟨pf, 0, none⟩), .int .i64 (base : Int), .slice none 0 0]) (hb : base ≤ 1048576) : TR w pf b ⟨p, none, 0, 0, none, []⟩ (RD.empty base) :=
  ⟨h, Ow.nil_ _ _ _, rfl, (fun i hi => absurd hi (by simp)), List.Pairwise.nil, (fun h => absurd h (by simp)), RD.empty_ok hb⟩

set_option maxHeartbeats 4000000 in
set_option maxRecDepth 4000 in
theorem tread_r (w : World) (pf b : Nat) (f : RF) (base : Nat) (bs : List Nat) (A : Option Addr) (n c : Nat) (hF : Flt w 210 pf f) (hn : n ≤ 140737488355328) (hc : n ≤ c) (hc2 : c ≤ 9223372036854775807) (h256 : ∀ x ∈ bs, x < 256) (hS : Sl w 1 A n (bs.map bn))
    (hb : ∀ b' o, A = some ⟨b', o, none⟩ → 0 < n → b' = b ∧ Typed w b 5) (hbase : base ≤ 1048576) (hle : base = 0 ∨ base + bs.length ≤ 1048576) :
    Calls Try.prog 135 #[rp pf, .int .i64 (base : Int), .slice A n c] w fun e w' => ∃ r, e = .returned (rp r.p) ∧ NewT w pf b r (readS f base bs) w' := by
  have ce : w.cell? ⟨pf, 1, none⟩ = some (.int .i64 f.e) := Bl.cell' hF rfl
  have Hn : Hid (n = bs.length) := hS.len
  have HF := hide hF
  have H256 := hide h256
  obtain ⟨er, her⟩ : ∃ er, f.e = er := ⟨_, rfl⟩
  rw [her] at ce
  have Her := hide her
  have hpl := Bl.lt hF
  clear hF her h256
  have hnew := Bl.new w 197 #[.pointer (some ⟨pf, 0, none⟩), .int .i64 (base : Int), .slice none 0 0]
  unfold rp
  by_cases h0 : ¬ er = 0
  · have hs : Hid (readS f base bs = (RD.empty base, f)) := if_pos (by rw [Her.out]; exact h0)
    go_enter Try.func135, Try.ntmps135
    go_wp2_with fail
    go_ret
    refine ⟨⟨w.heap.size, none, 0, 0, none, []⟩, rfl, ?_⟩
    rw [hs.out]
    exact ⟨no_parts hnew hbase, Bl.alloc HF.out _, (fun y ⟨z, hz, _⟩ => by cases hz), (Fr.refl _ _).alloc _⟩
  obtain rfl : er = 0 := by omega
  obtain ⟨pl, hplc⟩ : ∃ pl, (getAll bs).2.1 = pl := ⟨_, rfl⟩
  obtain ⟨e1, he1⟩ : ∃ e1, (getAll bs).2.2 = e1 := ⟨_, rfl⟩
  have Hpl := hide hplc
  have He1 := hide he1
  clear hplc he1
  go_enter Try.func135, Try.ntmps135
  go_wp2_with fail
  refine (parts_any _ bs A n c hn hc hc2 Hn.out H256.out (hS.below (S := fun _ => False) ((Fr.refl _ _).alloc _) (fun _ _ => id))).mono ?_
  rintro e w1 ⟨b1, hb1, ps, L, k, cl, gl, rfl, hps, hO, hgl, hP, hf1, hkm⟩
  rw [Hpl.out, He1.out]
  have hfa : Fr (fun _ => False) w w1 := ((Fr.refl _ _).alloc _).trans hf1
  have hB1 := hnew.fr hf1 id
  have hF1 : Flt w1 210 pf f := HF.out.fr hfa id
  have HB1 := hide hB1
  have hfree : w1.frozen? ⟨w.heap.size, 2, none⟩ = false := hB1.free 2
  have h2c : w1.cell? ⟨w.heap.size, 2, none⟩ = some (.slice none 0 0) := hB1.cell' rfl
  clear hB1
  by_cases hbad : ¬ e1 = 0
  · have hs : Hid (readS f base bs = (RD.empty base, f.wrong ((base : Int) + pl) e1)) := by
      show _ = _
      rw [readS, if_neg (fun h => h Her.out)]
      simp only [He1.out, Hpl.out, if_pos hbad, ne_eq]
    have hplb : pl ≤ 140737488355328 := by
      have h1 := getAll_pl bs
      rw [Hpl.out, ← Hn.out] at h1
      omega
    have hw0 : IntKind.i64.wrap ((base : Int) + (pl : Int)) = (base : Int) + pl := IntWalk.i64_in _ (by omega)
    go_wp2_with fail
    refine (twrong_any _ pf f _ _ hF1).mono ?_
    rintro e w2 ⟨rfl, hF2, hf2⟩
    go_wp2_with fail
    go_ret
    refine ⟨⟨w.heap.size, none, 0, 0, none, []⟩, rfl, ?_⟩
    rw [hs.out]
    exact ⟨no_parts (HB1.out.fr hf2 (fun e => by omega)) hbase, hF2, (fun y ⟨z, hz, _⟩ => by cases hz), (hfa.weak _).trans hf2⟩
  · obtain rfl : e1 = 0 := by omega
    have hs : Hid (readS f base bs = (⟨bs, base, (getAll bs).1, (getAll bs).1.map fun _ => false⟩, f)) := by
      show _ = _
      rw [readS, if_neg (fun h => h Her.out)]
      simp only [He1.out, ne_eq, not_true_eq_false, if_false]
    have hok : (readS f base bs).1.ok := readS_ok H256.out hbase hle
    rw [hs.out] at hok
    have Hps := hide hps
    have Hok := hide hok
    clear hps hok
    go_wp2_with fail
    go_ret
    refine ⟨⟨w.heap.size, L, k, cl, gl, ps⟩, rfl, ?_⟩
    rw [hs.out]
    have hset : Fr (fun x => x = w.heap.size) w1 (w1.setCell ⟨w.heap.size, 2, none⟩ (.slice L k cl)) := Fr.setIn (S := fun x => x = w.heap.size) (Fr.refl _ _) (.inl rfl) _
    have hty : Typed w1 w.heap.size 197 := HB1.out.typed
    have hbne : 0 < ps.length → b1 = b ∧ Typed w1 b 5 := fun h => by
      have hn0 : 0 < n := by
        rcases Nat.eq_zero_or_pos n with h0 | h0
        · have hbs : bs = [] := List.eq_nil_of_length_eq_zero (by rw [← Hn.out]; exact h0)
          have h9 := congrArg List.length Hps.out
          have h8 := getS_len bs 0 0
          unfold getAll at h9
          rw [hbs] at h9
          simp [getS_end] at h9
          rw [h9] at h; simp at h
        · exact h0
      obtain ⟨bb, oo, hA, _⟩ := hS.2 hn0
      obtain ⟨h1, h2⟩ := hb bb oo hA hn0
      exact ⟨(hb1 bb oo hA).trans h1, h2.fr hfa id⟩
    refine ⟨⟨?_, hO.fr hset (fun x e1 e2 => ?_), Hps.out, fun i hi => ?_, hP.ord, fun h => (hbne h).2.fr hset fun e => absurd ((hbne h).2.same (e ▸ hty)) (by decide), Hok.out⟩, hF1.fr hset (fun e => by omega), ?_, ?_⟩
    · have := HB1.out.set 2 (.slice L k cl)
      simpa using this
    · subst e2
      have := hO.typed _ e1
      exact absurd (this.same hty) (by decide)
    · have h1 := hP.at_ _ (List.getElem_mem hi)
      obtain ⟨h2, h3⟩ := hbne (by have h9 : i < ps.length := hi; omega)
      subst h2
      have e0 : ((getAll bs).1.map fun _ => false).getD i false = false := by
        simp [List.getD]
        rcases h : (getAll bs).1[i]? <;> rfl
      show PartAt _ bs _ _ _ _ (((getAll bs).1.map fun _ => false).getD i false)
      rw [e0]
      exact h1.fr hset (fun e => absurd (h1.bl.typed.same (e ▸ hty)) (by decide)) (fun e => absurd (h3.same (e ▸ hty)) (by decide))
    · rintro y ⟨z, hz, rfl⟩
      have := hP.new z hz
      simp at this; omega
    · exact (hfa.weak _).comp hset fun x hx e => by subst e; omega

set_option maxHeartbeats 2000000 in
set_option maxRecDepth 4000 in
theorem tnew_any (w : World) (bs : List Nat) (A : Option Addr) (n c : Nat) (hn : n ≤ 140737488355000) (h256 : ∀ x ∈ bs, x < 256) (hS : Sl w 1 A n (bs.map bn)) :
    Calls Try.prog 122 #[.slice A n c] w fun e w' => ∃ r pf b, e = .returned (rp r.p) ∧ TR w' pf b r (readS ⟨0, 0⟩ 0 bs).1 ∧ Flt w' 210 pf (readS ⟨0, 0⟩ 0 bs).2 ∧ w.heap.size ≤ pf ∧ (∀ y, r.foot y → w.heap.size ≤ y) ∧ (r.ps = [] ∨ w.heap.size ≤ b) ∧ Fr (fun _ => False) w w' := by
  go_enter Try.func122, Try.ntmps122
  go_wp2_with fail
  have hF0 : Flt (w.alloc (.cells #[.int .i64 0, .int .i64 0] 210)) 210 w.heap.size ⟨0, 0⟩ := Bl.new w 210 #[.int .i64 0, .int .i64 0]
  refine (own_any _ bs A n c (by omega) (hS.below (S := fun _ => False) ((Fr.refl _ _).alloc _) (fun _ _ => id))).mono ?_
  rintro e w1 ⟨A1, c1, g1, rfl, hO1, hg1, hf1⟩
  have hF1 := hF0.fr hf1 id
  have hcap := hO1.cap
  have k2 : c1 ≤ 9223372036854775807 := by have := hcap.2; unfold maxLen at this; exact this
  go_wp2_with fail
  refine (tread_r w1 w.heap.size (g1.getD 0) ⟨0, 0⟩ 0 bs A1 n c1 hF1 (by omega) hcap.1 k2 h256 hO1.sl (fun b' o e h0 => ?_) (by omega) (.inl rfl)).mono ?_
  · subst e
    have h1 := hO1.blk
    rw [h1]
    exact ⟨rfl, hO1.typed _ h1⟩
  · rintro e w2 ⟨r, rfl, hN⟩
    go_wp2_with fail
    go_ret
    have hs1 := hf1.size
    simp at hs1
    refine ⟨r, w.heap.size, g1.getD 0, rfl, hN.tr, hN.flt, Nat.le_refl _, (fun y hy => by have := hN.new y hy; omega), ?_, (((Fr.refl _ _).alloc _).trans hf1).comp hN.fr fun x hx e => by omega⟩
    rcases hg : g1 with _ | x
    · left
      have hn0 : n = 0 := by
        rw [hg] at hO1
        rcases hO1.2 with ⟨_, h, _⟩ | ⟨_, _, _, _, h, _⟩
        · exact h
        · cases h
      have hbs : bs = [] := List.eq_nil_of_length_eq_zero (by rw [← hS.len]; exact hn0)
      have h1 := hN.tr.eq
      rw [hbs] at h1
      have h2 : (readS ⟨0, 0⟩ 0 []).1.fs = [] := by
        unfold readS
        split
        · rfl
        · simp only
          split
          · rfl
          · show (getAll []).1 = []
            unfold getAll
            simp [getS_end]
      rw [h2] at h1
      exact List.map_eq_nil_iff.1 h1
    · right
      have := hg1 x hg
      simp at this ⊢; omega
end Go.Proofs.Ytlcjhbemgagchaa
