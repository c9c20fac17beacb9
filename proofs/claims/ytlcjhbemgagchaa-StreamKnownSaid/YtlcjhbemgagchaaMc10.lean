/-
  Texts merged into one, to keep the claim small: TlvR3, TlvR4, TlvAwake.
-/
import Derived.Test.YtlcjhbemgagchaaMc9
import Derived.Test.YtlcjhbemgagchaaMc4
section
/-
  Readers of the program: End, read, NewReader, items.
-/
namespace Go.Proofs.Ytlcjhbemgagchaa
open Go.RowKit
set_option linter.unusedVariables false
attribute [local go_sem ↓] Go.wp_at_zero Go.wp_at_succ

theorem leftAt_first {d : RD} (ho : d.ok) {k : Nat} (hk : k < d.fs.length) (h1 : ∀ j, j < k → d.tk.getD j false = true) (h2 : d.tk.getD k false = false) : leftAt d.fs d.tk = k := by
  have hkt : k < d.tk.length := by rw [ho.tk]; exact hk
  have h2' : d.tk[k] = false := by simpa [List.getD, hkt] using h2
  unfold leftAt
  rcases Nat.lt_trichotomy (d.tk.findIdx fun b => !b) k with h | h | h
  · have h3 := List.findIdx_getElem (w := Nat.lt_trans h hkt)
    have h4 := h1 _ h
    simp [List.getD, Nat.lt_trans h hkt] at h4
    simp [h4] at h3
  · exact h
  · have := List.not_of_lt_findIdx h
    simp [h2'] at this
theorem leftAt_none {d : RD} (ho : d.ok) (h1 : ∀ j, j < d.fs.length → d.tk.getD j false = true) : d.fs[leftAt d.fs d.tk]? = none := by
  refine List.getElem?_eq_none ?_
  rcases Nat.lt_or_ge (leftAt d.fs d.tk) d.fs.length with h | h
  · have hl : leftAt d.fs d.tk < d.tk.length := by rw [ho.tk]; exact h
    have h3 := List.findIdx_getElem (w := hl)
    have h4 := h1 _ h
    have h5 : d.tk[leftAt d.fs d.tk] = true := by simpa [List.getD, hl] using h4
    have h6 : (!d.tk[leftAt d.fs d.tk]) = true := h3
    rw [h5] at h6; cases h6
  · exact h

set_option maxHeartbeats 4000000 in
set_option maxRecDepth 4000 in
theorem tend_any (w : World) (pf b : Nat) (r : TRd) (d : RD) (f : RF) (hT : TR w pf b r d) (hF : Flt w 210 pf f) :
    Calls Try.prog 131 #[rp r.p] w fun e w' => e = .returned (.tuple #[.int .i64 (endS d f).place, .int .i64 (endS d f).e]) ∧ TPost w pf b r d (endS d f) w' := by
  have HT := hide hT
  have HF := hide hF
  obtain ⟨p, L, n, c, g, ps⟩ := r
  have c0 : w.cell? ⟨p, 0, none⟩ = some (.pointer (some ⟨pf, 0, none⟩)) := hT.bl.cell' rfl
  have c1 : w.cell? ⟨p, 1, none⟩ = some (.int .i64 (d.base : Int)) := hT.bl.cell' rfl
  have c2 : w.cell? ⟨p, 2, none⟩ = some (.slice L n c) := hT.bl.cell' rfl
  have ce : w.cell? ⟨pf, 1, none⟩ = some (.int .i64 f.e) := Bl.cell' hF rfl
  have np : ¬ p = pf := fun e => absurd (hT.bl.typed.same (e ▸ Bl.typed hF)) (by decide)
  have Hn : Hid (n = ps.length) := hT.n_eq
  have hcap : n ≤ 9223372036854775807 := by have := hT.ls.cap; unfold maxLen at this; simp only at this; omega
  obtain ⟨er, her⟩ : ∃ er, f.e = er := ⟨_, rfl⟩
  rw [her] at ce
  have Her := hide her
  have hle := hT.ok.le
  obtain ⟨ba, hba⟩ : ∃ ba, d.base = ba := ⟨_, rfl⟩
  rw [hba] at c1 hle
  have Hba := hide hba
  have Hle := hide hle
  clear hT hF her hba hle
  by_cases h0 : ¬ er = 0
  · have hs : Hid (endS d f = f) := if_pos (by rw [Her.out]; exact h0)
    show Calls _ _ #[.pointer (some ⟨p, 0, none⟩)] _ _
    go_enter Try.func131, Try.ntmps131
    go_wp2_with fail
    refine (none_some w p pf c0).mono ?_
    rintro e w' ⟨rfl, rfl⟩
    go_wp2_with fail
    refine (tfault_any w pf b ⟨p, L, n, c, g, ps⟩ d f HT.out HF.out).mono ?_
    rintro e w1 ⟨rfl, hf1⟩
    go_wp2_with fail
    go_ret2
    rw [hs.out]
    exact ⟨rfl, (TPost.refl HT.out HF.out).quiet hf1⟩
  obtain rfl : er = 0 := by omega
  show Calls _ _ #[.pointer (some ⟨p, 0, none⟩)] _ _
  go_enter Try.func131, Try.ntmps131
  go_wp2_with fail
  refine (none_some w p pf c0).mono ?_
  rintro e w' ⟨rfl, rfl⟩
  go_wp2_with fail
  go_loopw [24] (fun i wr => ∃ k : Nat, k ≤ n ∧ i = .int .i64 k ∧ Hid (∀ j, j < k → d.tk.getD j false = true) ∧ Hid (wr = w)) (fun i _ => n - (intOf i).toNat)
  case atStart => exact ⟨0, by omega, rfl, fun j hj => absurd hj (by omega), rfl⟩
  case round =>
    obtain ⟨k, hk, rfl, hno, hwr⟩ := hrel
    obtain rfl := hwr.out
    by_cases hlt : k < n
    · have hkp : k < ps.length := by rw [← Hn.out]; exact hlt
      have hkf : k < d.fs.length := by rw [← HT.out.len]; exact hkp
      obtain ⟨⟨q, F, o'⟩, hy⟩ : ∃ y, ps[k] = y := ⟨_, rfl⟩
      obtain ⟨bL, oL, rfl, -, hcL, -⟩ := HT.out.ls.look (j := k) (u := rp q) (by simp [hkp, hy, ptr, rp])
      have hp := HT.out.at_ k hkp
      simp only [hy] at hp
      have hFe : d.fs[k] = F := by
        have := map_get HT.out.eq hkp
        simp only [hy, List.getElem?_eq_getElem hkf] at this
        exact (Option.some.inj this).symm
      have hat : F.at_ ≤ d.bs.length := by rw [← hFe]; exact (HT.out.ok.at_ _ (List.getElem_mem hkf)).2.2
      obtain ⟨am, ham⟩ : ∃ am, F.at_ = am := ⟨_, rfl⟩
      obtain ⟨tk, htk⟩ : ∃ tk, d.tk.getD k false = tk := ⟨_, rfl⟩
      have q1 : wr.cell? ⟨q, 1, none⟩ = some (.int .i64 (am : Int)) := by rw [← ham]; exact hp.bl.cell' rfl
      have q4 : wr.cell? ⟨q, 4, none⟩ = some (.bool tk) := by rw [← htk]; exact hp.bl.cell' rfl
      have nq : ¬ q = pf := fun e => absurd (hp.bl.typed.same (e ▸ Bl.typed HF.out)) (by decide)
      have hcL' : wr.cell? ⟨bL, oL + k, none⟩ = some (.pointer (some ⟨q, 0, none⟩)) := hcL
      have hw0 : IntKind.i64.wrap ((ba : Int) + (am : Int)) = (ba : Int) + am := IntWalk.i64_in _ (by have := Hle.out; omega)
      have HFe := hide hFe
      have Htk := hide htk
      have Ham := hide ham
      have HF1 := HF
      clear hcL hy hp hFe hat ham htk
      have i0 : (0 : Int) ≤ (k : Int) := by omega
      have i1 : (k : Int) < (n : Int) := by omega
      cases tk with
      | true =>
        go_wp2_with fail
        refine ⟨⟨k + 1, by omega, by go_num, fun j hj => ?_, hide trivial⟩, by simp [intOf]; omega⟩
        by_cases hjk : j = k
        · subst hjk; exact Htk.out
        · exact hno.out j (by omega)
      | false =>
        have hs : Hid (endS d f = f.wrong ((ba : Int) + am) 20) := by
          show _ = _
          rw [endS, if_neg (fun h => h Her.out), leftAt_first HT.out.ok hkf hno.out Htk.out, List.getElem?_eq_getElem hkf, HFe.out]
          simp only [Hba.out, Ham.out]
        go_wp2_with fail
        go_region_held3 (fun w' => w'.cell? ⟨p, 0, none⟩ = some (.pointer (some ⟨pf, 0, none⟩)) ∧ w'.cell? ⟨p, 1, none⟩ = some (.int .i64 (ba : Int)) ∧ w'.cell? ⟨q, 1, none⟩ = some (.int .i64 (am : Int))) (go_keep) ((go_at_call 127; refine (twrong_any _ pf f _ _ (by exact HF1.out)).mono ?_; rintro e w2 ⟨rfl, hF2, hf2⟩; have z0 := (hf2.cell (World.block_lt_of_cell? wr _ c0) np).trans c0; have z1 := (hf2.cell (World.block_lt_of_cell? wr _ c1) np).trans c1; have z2 := (hf2.cell (World.block_lt_of_cell? wr _ q1) nq).trans q1))
        have hP : TPost wr pf b ⟨p, some ⟨bL, oL, none⟩, n, c, g, ps⟩ d (f.wrong ((ba : Int) + am) 20) w2 := (TPost.refl HT.out HF.out).bad ((Fr.refl _ _).drew.trans hf2) hF2
        have HP := hide hP
        clear hP
        go_wp2_with fail
        refine (tfault_any w2 pf b ⟨p, some ⟨bL, oL, none⟩, n, c, g, ps⟩ d _ HP.out.tr HP.out.flt).mono ?_
        rintro e w3 ⟨rfl, hf3⟩
        go_wp2_with fail
        go_ret2
        rw [hs.out]
        exact ⟨rfl, HP.out.quiet hf3⟩
    · obtain rfl : k = n := by omega
      have hs : Hid (endS d f = f) := by
        show _ = _
        rw [endS, if_neg (fun h => h Her.out), leftAt_none HT.out.ok fun j hj => hno.out j (by rw [Hn.out, HT.out.len]; exact hj)]
      clear hlt
      go_wp2_with fail
      refine (tfault_any wr pf b ⟨p, L, k, c, g, ps⟩ d f HT.out HF.out).mono ?_
      rintro e w3 ⟨rfl, hf3⟩
      go_wp2_with fail
      go_ret2
      rw [hs.out]
      exact ⟨rfl, (TPost.refl HT.out HF.out).quiet hf3⟩

/-- A new reader, and the fault behind it. -/
structure NewT (w : World) (pf b : Nat) (r : TRd) (x : RD × RF) (w' : World) : Prop where
  tr : TR w' pf b r x.1
  flt : Flt w' 210 pf x.2
  new : ∀ y, r.foot y → w.heap.size ≤ y
  fr : Fr (fun y => y = pf) w w'
theorem NewT.behind {w w1 w' : World} {pf b : Nat} {r : TRd} {x : RD × RF} (hf : Fr (fun _ => False) w w1) (h : NewT w1 pf b r x w') : NewT w pf b r x w' :=
  ⟨h.tr, h.flt, fun y hy => Nat.le_trans hf.size (h.new y hy), (hf.weak _).trans h.fr⟩
theorem no_parts {w : World} {pf b p : Nat} {base : Nat} (h : Bl w p 197 #[.pointer (some ⟨pf, 0, none⟩), .int .i64 (base : Int), .slice none 0 0]) (hb : base ≤ 1048576) : TR w pf b ⟨p, none, 0, 0, none, []⟩ (RD.empty base) :=
  ⟨h, Ow.nil_ _ _ _, rfl, (fun i hi => absurd hi (by simp)), List.Pairwise.nil, (fun h => absurd h (by simp)), RD.empty_ok hb⟩

set_option maxHeartbeats 4000000 in
set_option maxRecDepth 4000 in
theorem tread_r (w : World) (pf b : Nat) (f : RF) (base : Nat) (bs : List Nat) (A : Option Addr) (n c : Nat) (hF : Flt w 210 pf f) (hn : n ≤ 140737488355328) (hc : n ≤ c) (hc2 : c ≤ 9223372036854775807) (h256 : ∀ x ∈ bs, x < 256) (hS : Sl w 1 A n (bs.map bn))
    (hb : ∀ b' o, A = some ⟨b', o, none⟩ → 0 < n → b' = b ∧ Typed w b 5) (hbase : base ≤ 1048576) (hle : base = 0 ∨ base + bs.length ≤ 1048576) :
    Calls Try.prog 135 #[rp pf, .int .i64 (base : Int), .slice A n c] w fun e w' => ∃ r, e = .returned (rp r.p) ∧ NewT w pf b r (readS f base bs) w' := by
  have ce : w.cell? ⟨pf, 1, none⟩ = some (.int .i64 f.e) := Bl.cell' hF rfl
  have Hn : Hid (n = bs.length) := hS.len
  have HF := hide hF
  have H256 := hide h256
  obtain ⟨er, her⟩ : ∃ er, f.e = er := ⟨_, rfl⟩
  rw [her] at ce
  have Her := hide her
  have hpl := Bl.lt hF
  clear hF her h256
  have hnew := Bl.new w 197 #[.pointer (some ⟨pf, 0, none⟩), .int .i64 (base : Int), .slice none 0 0]
  unfold rp
  by_cases h0 : ¬ er = 0
  · have hs : Hid (readS f base bs = (RD.empty base, f)) := if_pos (by rw [Her.out]; exact h0)
    go_enter Try.func135, Try.ntmps135
    go_wp2_with fail
    go_ret
    refine ⟨⟨w.heap.size, none, 0, 0, none, []⟩, rfl, ?_⟩
    rw [hs.out]
    exact ⟨no_parts hnew hbase, Bl.alloc HF.out _, (fun y ⟨z, hz, _⟩ => by cases hz), (Fr.refl _ _).alloc _⟩
  obtain rfl : er = 0 := by omega
  obtain ⟨pl, hplc⟩ : ∃ pl, (getAll bs).2.1 = pl := ⟨_, rfl⟩
  obtain ⟨e1, he1⟩ : ∃ e1, (getAll bs).2.2 = e1 := ⟨_, rfl⟩
  have Hpl := hide hplc
  have He1 := hide he1
  clear hplc he1
  go_enter Try.func135, Try.ntmps135
  go_wp2_with fail
  refine (parts_any _ bs A n c hn hc hc2 Hn.out H256.out (hS.below (S := fun _ => False) ((Fr.refl _ _).alloc _) (fun _ _ => id))).mono ?_
  rintro e w1 ⟨b1, hb1, ps, L, k, cl, gl, rfl, hps, hO, hgl, hP, hf1, hkm⟩
  rw [Hpl.out, He1.out]
  have hfa : Fr (fun _ => False) w w1 := ((Fr.refl _ _).alloc _).trans hf1
  have hB1 := hnew.fr hf1 id
  have hF1 : Flt w1 210 pf f := HF.out.fr hfa id
  have HB1 := hide hB1
  have hfree : w1.frozen? ⟨w.heap.size, 2, none⟩ = false := hB1.free 2
  have h2c : w1.cell? ⟨w.heap.size, 2, none⟩ = some (.slice none 0 0) := hB1.cell' rfl
  clear hB1
  by_cases hbad : ¬ e1 = 0
  · have hs : Hid (readS f base bs = (RD.empty base, f.wrong ((base : Int) + pl) e1)) := by
      show _ = _
      rw [readS, if_neg (fun h => h Her.out)]
      simp only [He1.out, Hpl.out, if_pos hbad, ne_eq]
    have hplb : pl ≤ 140737488355328 := by
      have h1 := getAll_pl bs
      rw [Hpl.out, ← Hn.out] at h1
      omega
    have hw0 : IntKind.i64.wrap ((base : Int) + (pl : Int)) = (base : Int) + pl := IntWalk.i64_in _ (by omega)
    go_wp2_with fail
    refine (twrong_any _ pf f _ _ hF1).mono ?_
    rintro e w2 ⟨rfl, hF2, hf2⟩
    go_wp2_with fail
    go_ret
    refine ⟨⟨w.heap.size, none, 0, 0, none, []⟩, rfl, ?_⟩
    rw [hs.out]
    exact ⟨no_parts (HB1.out.fr hf2 (fun e => by omega)) hbase, hF2, (fun y ⟨z, hz, _⟩ => by cases hz), (hfa.weak _).trans hf2⟩
  · obtain rfl : e1 = 0 := by omega
    have hs : Hid (readS f base bs = (⟨bs, base, (getAll bs).1, (getAll bs).1.map fun _ => false⟩, f)) := by
      show _ = _
      rw [readS, if_neg (fun h => h Her.out)]
      simp only [He1.out, ne_eq, not_true_eq_false, if_false]
    have hok : (readS f base bs).1.ok := readS_ok H256.out hbase hle
    rw [hs.out] at hok
    have Hps := hide hps
    have Hok := hide hok
    clear hps hok
    go_wp2_with fail
    go_ret
    refine ⟨⟨w.heap.size, L, k, cl, gl, ps⟩, rfl, ?_⟩
    rw [hs.out]
    have hset : Fr (fun x => x = w.heap.size) w1 (w1.setCell ⟨w.heap.size, 2, none⟩ (.slice L k cl)) := Fr.setIn (S := fun x => x = w.heap.size) (Fr.refl _ _) (.inl rfl) _
    have hty : Typed w1 w.heap.size 197 := HB1.out.typed
    have hbne : 0 < ps.length → b1 = b ∧ Typed w1 b 5 := fun h => by
      have hn0 : 0 < n := by
        rcases Nat.eq_zero_or_pos n with h0 | h0
        · have hbs : bs = [] := List.eq_nil_of_length_eq_zero (by rw [← Hn.out]; exact h0)
          have h9 := congrArg List.length Hps.out
          have h8 := getS_len bs 0 0
          unfold getAll at h9
          rw [hbs] at h9
          simp [getS_end] at h9
          rw [h9] at h; simp at h
        · exact h0
      obtain ⟨bb, oo, hA, _⟩ := hS.2 hn0
      obtain ⟨h1, h2⟩ := hb bb oo hA hn0
      exact ⟨(hb1 bb oo hA).trans h1, h2.fr hfa id⟩
    refine ⟨⟨?_, hO.fr hset (fun x e1 e2 => ?_), Hps.out, fun i hi => ?_, hP.ord, fun h => (hbne h).2.fr hset fun e => absurd ((hbne h).2.same (e ▸ hty)) (by decide), Hok.out⟩, hF1.fr hset (fun e => by omega), ?_, ?_⟩
    · have := HB1.out.set 2 (.slice L k cl)
      simpa using this
    · subst e2
      have := hO.typed _ e1
      exact absurd (this.same hty) (by decide)
    · have h1 := hP.at_ _ (List.getElem_mem hi)
      obtain ⟨h2, h3⟩ := hbne (by have h9 : i < ps.length := hi; omega)
      subst h2
      have e0 : ((getAll bs).1.map fun _ => false).getD i false = false := by
        simp [List.getD]
        rcases h : (getAll bs).1[i]? <;> rfl
      show PartAt _ bs _ _ _ _ (((getAll bs).1.map fun _ => false).getD i false)
      rw [e0]
      exact h1.fr hset (fun e => absurd (h1.bl.typed.same (e ▸ hty)) (by decide)) (fun e => absurd (h3.same (e ▸ hty)) (by decide))
    · rintro y ⟨z, hz, rfl⟩
      have := hP.new z hz
      simp at this; omega
    · exact (hfa.weak _).comp hset fun x hx e => by subst e; omega

set_option maxHeartbeats 2000000 in
set_option maxRecDepth 4000 in
theorem tnew_any (w : World) (bs : List Nat) (A : Option Addr) (n c : Nat) (hn : n ≤ 140737488355000) (h256 : ∀ x ∈ bs, x < 256) (hS : Sl w 1 A n (bs.map bn)) :
    Calls Try.prog 122 #[.slice A n c] w fun e w' => ∃ r pf b, e = .returned (rp r.p) ∧ TR w' pf b r (readS ⟨0, 0⟩ 0 bs).1 ∧ Flt w' 210 pf (readS ⟨0, 0⟩ 0 bs).2 ∧ w.heap.size ≤ pf ∧ (∀ y, r.foot y → w.heap.size ≤ y) ∧ (r.ps = [] ∨ w.heap.size ≤ b) ∧ Fr (fun _ => False) w w' := by
  go_enter Try.func122, Try.ntmps122
  go_wp2_with fail
  have hF0 : Flt (w.alloc (.cells #[.int .i64 0, .int .i64 0] 210)) 210 w.heap.size ⟨0, 0⟩ := Bl.new w 210 #[.int .i64 0, .int .i64 0]
  refine (own_any _ bs A n c (by omega) (hS.below (S := fun _ => False) ((Fr.refl _ _).alloc _) (fun _ _ => id))).mono ?_
  rintro e w1 ⟨A1, c1, g1, rfl, hO1, hg1, hf1⟩
  have hF1 := hF0.fr hf1 id
  have hcap := hO1.cap
  have k2 : c1 ≤ 9223372036854775807 := by have := hcap.2; unfold maxLen at this; exact this
  go_wp2_with fail
  refine (tread_r w1 w.heap.size (g1.getD 0) ⟨0, 0⟩ 0 bs A1 n c1 hF1 (by omega) hcap.1 k2 h256 hO1.sl (fun b' o e h0 => ?_) (by omega) (.inl rfl)).mono ?_
  · subst e
    have h1 := hO1.blk
    rw [h1]
    exact ⟨rfl, hO1.typed _ h1⟩
  · rintro e w2 ⟨r, rfl, hN⟩
    go_wp2_with fail
    go_ret
    have hs1 := hf1.size
    simp at hs1
    refine ⟨r, w.heap.size, g1.getD 0, rfl, hN.tr, hN.flt, Nat.le_refl _, (fun y hy => by have := hN.new y hy; omega), ?_, (((Fr.refl _ _).alloc _).trans hf1).comp hN.fr fun x hx e => by omega⟩
    rcases hg : g1 with _ | x
    · left
      have hn0 : n = 0 := by
        rw [hg] at hO1
        rcases hO1.2 with ⟨_, h, _⟩ | ⟨_, _, _, _, h, _⟩
        · exact h
        · cases h
      have hbs : bs = [] := List.eq_nil_of_length_eq_zero (by rw [← hS.len]; exact hn0)
      have h1 := hN.tr.eq
      rw [hbs] at h1
      have h2 : (readS ⟨0, 0⟩ 0 []).1.fs = [] := by
        unfold readS
        split
        · rfl
        · simp only
          split
          · rfl
          · show (getAll []).1 = []
            unfold getAll
            simp [getS_end]
      rw [h2] at h1
      exact List.map_eq_nil_iff.1 h1
    · right
      have := hg1 x hg
      simp at this ⊢; omega
end Go.Proofs.Ytlcjhbemgagchaa
end

section
/-
  Readers of the program: items, List, Record, Records.
-/
namespace Go.Proofs.Ytlcjhbemgagchaa
open Go.RowKit
set_option linter.unusedVariables false
attribute [local go_sem ↓] Go.wp_at_zero Go.wp_at_succ

/-- What the items' call answers beside the items: the list of parts, in the bytes' own block. -/
structure ItT (w w' : World) (b : Nat) (d : RD) (x : Option GF × List GF × RF) (at_ : Int) (vs : List Nat) (ps : List PT) (L : Option Addr) (k c : Nat) (g : Option Nat) : Prop where
  eq : ps.map (·.2.1) = x.2.1
  own : ∀ F, x.1 = some F → at_ = ((d.base + F.from_ : Nat) : Int) ∧ vs = F.val d.bs ∧ F ∈ d.fs
  nil_ : x.1 = none → ps = []
  ow : Ow w' 189 1 L k c (ps.map fun x => ptr x.1) g
  new : ∀ b, g = some b → w.heap.size ≤ b
  ins : PartsIn w' vs b w.heap.size ps
  buf : 0 < ps.length → Typed w' b 5
theorem ItT.none_ (w w' : World) (b : Nat) (d : RD) (f : RF) : ItT w w' b d (none, [], f) 0 [] [] none 0 0 none :=
  ⟨rfl, (fun F h => by cases h), fun _ => rfl, Ow.nil_ _ _ _, (fun b h => by cases h), ⟨(fun x h => by cases h), (fun x h => by cases h), List.Pairwise.nil⟩, fun h => absurd h (by simp)⟩

set_option maxHeartbeats 4000000 in
set_option maxRecDepth 4000 in
theorem tit_any (w : World) (pf b : Nat) (r : TRd) (d : RD) (f : RF) (t most : Int) (hT : TR w pf b r d) (hF : Flt w 210 pf f) :
    Calls Try.prog 136 #[rp r.p, .int .i64 t, .int .i64 most] w fun e w' => ∃ at_ vs ps L k c g, e = .returned (.tuple #[.slice L k c, .int .i64 at_]) ∧ ItT w w' b d (itS d f t most) at_ vs ps L k c g ∧ TPost w pf b r (d.took f t) (itS d f t most).2.2 w' := by
  go_enter Try.func136, Try.ntmps136
  go_wp2_with fail
  refine (tfield_any w pf b r d f t hT hF).mono ?_
  rintro e w1 ⟨⟨i, hi, hix, hfl, rfl⟩ | ⟨hfl, rfl⟩, hT1, hf1⟩
  · have hP := TPost.fld hT hF hT1 hf1
    obtain ⟨p, L, n, c, g, ps⟩ := r
    obtain ⟨⟨q, F, o⟩, hy⟩ : ∃ y, ps[i]'hi = y := ⟨_, rfl⟩
    have hp := hT1.at_ i hi
    have hbuf := hT1.buf (by have h9 : i < ps.length := hi; show 0 < ps.length; omega)
    simp only [hy] at hp hfl
    simp only [hy, rp]
    have hok := hT.ok
    have q3 : w1.cell? ⟨q, 3, none⟩ = some (.slice (some ⟨b, o, none⟩) (F.to_ - F.from_) (F.to_ - F.from_)) := hp.bl.cell' rfl
    have np : ¬ p = pf := fun e => absurd (hT1.bl.typed.same (e ▸ Bl.typed hP.flt)) (by decide)
    have nq : ¬ q = pf := fun e => absurd (hp.bl.typed.same (e ▸ Bl.typed hP.flt)) (by decide)
    have hbd := hok.le
    have hto := hp.to_
    have hbs : (d.took f t).bs = d.bs := rfl
    rw [hbs] at hto
    have hval := hp.val
    rw [hbs] at hval
    obtain ⟨m, hm⟩ : ∃ m, F.to_ - F.from_ = m := ⟨_, rfl⟩
    obtain ⟨fm, hfm⟩ : ∃ fm, F.from_ = fm := ⟨_, rfl⟩
    obtain ⟨ba, hba⟩ : ∃ ba, d.base = ba := ⟨_, rfl⟩
    have hle := hp.le
    have hmb : m ≤ 1048576 := by omega
    have hfb : ba + fm ≤ 1048576 := by omega
    rw [hm] at q3 hval
    have hvl : Hid (m = (F.val d.bs).length) := hval.len
    have hv256 : Hid (∀ x ∈ F.val d.bs, x < 256) := GF.val_bytes hok.byte
    have hw0 : IntKind.i64.wrap ((ba : Int) + (fm : Int)) = (ba : Int) + fm := IntWalk.i64_in _ (by omega)
    have HP := hide hP
    have Hp := hide hp
    have HT1 := hide hT1
    obtain ⟨pl, hpl⟩ : ∃ pl, (itemsAll (F.val d.bs)).2.1 = pl := ⟨_, rfl⟩
    obtain ⟨e1, he1⟩ : ∃ e1, (itemsAll (F.val d.bs)).2.2 = e1 := ⟨_, rfl⟩
    have hplb : pl ≤ 1048576 := by
      have h1 := itemsAll_pl (F.val d.bs)
      rw [hpl, ← hvl.out] at h1; omega
    have Hba := hide hba
    have Hfm := hide hfm
    have hFm : Hid (F ∈ d.fs) := fld_mem hfl
    have Hbuf := hide hbuf
    have hspec : Hid (itS d f t most = if e1 ≠ 0 then (none, [], f.wrong ((ba : Int) + fm + pl) e1) else if max most 0 < ((itemsAll (F.val d.bs)).1.length : Int) then (none, [], f.wrong ((ba : Int) + fm) 3) else (some F, (itemsAll (F.val d.bs)).1, f)) := by
      show _ = _
      rw [itS, hfl]
      simp only [hpl, he1, hba, hfm]
    have hw1 : IntKind.i64.wrap ((ba : Int) + (fm : Int) + (pl : Int)) = (ba : Int) + fm + pl := IntWalk.i64_in _ (by omega)
    have Hpl := hide hpl
    have He1 := hide he1
    clear hP hT1 hf1 hT hF hix hfl hp hy hbd hto hbs hm hfm hba hle hok hpl he1 hbuf
    go_wp2_with fail
    refine (titems_any _ (F.val d.bs) _ m m (by omega) (Nat.le_refl _) (by omega) hvl.out hv256.out hval).mono ?_
    rintro e w2 ⟨b1, hb1, ps2, L2, k2, cl2, g2, rfl, hps2, hO2, hg2, hP2, hf2⟩
    obtain rfl : b1 = b := hb1 _ _ rfl
    rw [Hpl.out, He1.out]
    have hPP := HP.out.quiet hf2
    have HPP := hide hPP
    have HF2 := hide hPP.flt
    have a0 : w2.cell? ⟨p, 0, none⟩ = some (.pointer (some ⟨pf, 0, none⟩)) := hPP.tr.bl.cell' rfl
    have a1 : w2.cell? ⟨p, 1, none⟩ = some (.int .i64 (ba : Int)) := by rw [← Hba.out]; exact hPP.tr.bl.cell' rfl
    have q2 : w2.cell? ⟨q, 2, none⟩ = some (.int .i64 (fm : Int)) := by rw [← Hfm.out]; exact (Hp.out.bl.fr hf2 id).cell' rfl
    clear hPP
    have hkl : Hid (k2 = (itemsAll (F.val d.bs)).1.length) := by
      show _ = _
      have h1 := hO2.1
      have h2 := congrArg List.length hps2
      simp at h1 h2; omega
    by_cases hbad : ¬ e1 = 0
    · have hs := hide (hspec.out.trans (if_pos hbad))
      go_wp2_with fail
      go_region_held3 (fun w' => w'.cell? ⟨p, 0, none⟩ = some (.pointer (some ⟨pf, 0, none⟩)) ∧ w'.cell? ⟨p, 1, none⟩ = some (.int .i64 (ba : Int)) ∧ w'.cell? ⟨q, 2, none⟩ = some (.int .i64 (fm : Int))) (go_keep) ((go_at_call 127; refine (twrong_any _ pf f _ _ (by exact HF2.out)).mono ?_; rintro e w3 ⟨rfl, hF3, hf3⟩; have z0 := (hf3.cell (World.block_lt_of_cell? w2 _ a0) np).trans a0; have z1 := (hf3.cell (World.block_lt_of_cell? w2 _ a1) np).trans a1; have z2 := (hf3.cell (World.block_lt_of_cell? w2 _ q2) nq).trans q2))
      go_wp2_with fail
      go_ret2
      rw [hs.out]
      exact ⟨0, [], [], none, 0, 0, none, rfl, ItT.none_ _ _ _ _ _, HPP.out.bad ((Fr.refl _ _).drew.trans hf3) hF3⟩
    obtain rfl : e1 = 0 := by omega
    have hs0 := hide (hspec.out.trans (if_neg (fun h => h rfl)))
    have hmx : (most < 0 ∧ max most 0 = 0) ∨ (¬ most < 0 ∧ max most 0 = most) := by omega
    by_cases hmany : max most 0 < (k2 : Int)
    · have hs := hide (hs0.out.trans (if_pos (by rw [← hkl.out]; exact hmany)))
      rcases hmx with ⟨h1, h2⟩ | ⟨h1, h2⟩
      all_goals
        rw [h2] at hmany
        clear h2
        go_wp2_with fail
        go_region_held3 (fun w' => w'.cell? ⟨p, 0, none⟩ = some (.pointer (some ⟨pf, 0, none⟩)) ∧ w'.cell? ⟨p, 1, none⟩ = some (.int .i64 (ba : Int)) ∧ w'.cell? ⟨q, 2, none⟩ = some (.int .i64 (fm : Int))) (go_keep) ((go_at_call 127; refine (twrong_any _ pf f _ _ (by exact HF2.out)).mono ?_; rintro e w3 ⟨rfl, hF3, hf3⟩; have z0 := (hf3.cell (World.block_lt_of_cell? w2 _ a0) np).trans a0; have z1 := (hf3.cell (World.block_lt_of_cell? w2 _ a1) np).trans a1; have z2 := (hf3.cell (World.block_lt_of_cell? w2 _ q2) nq).trans q2))
        go_wp2_with fail
        go_ret2
        rw [hs.out]
        exact ⟨0, [], [], none, 0, 0, none, rfl, ItT.none_ _ _ _ _ _, HPP.out.bad ((Fr.refl _ _).drew.trans hf3) hF3⟩
    · have hs := hide (hs0.out.trans (if_neg (by rw [← hkl.out]; exact hmany)))
      rcases hmx with ⟨h1, h2⟩ | ⟨h1, h2⟩
      all_goals
        rw [h2] at hmany
        clear h2
        go_wp2_with fail
        go_quiet (fail)
        go_wp2_with fail
        go_ret2
        rw [hs.out]
        have hfd : Fr (fun _ => False) w2 (w2.drewN nq) := (Fr.refl _ _).drewN _
        have hsz := HP.out.fr.size
        refine ⟨((ba : Int) + fm), F.val d.bs, ps2, L2, k2, cl2, g2, rfl, ⟨hps2, fun F' h => ?_, (fun h => by cases h), hO2.fr hfd (fun _ _ => id), fun x e => Nat.le_trans hsz (hg2 x e), ⟨fun x hx => (hP2.at_ x hx).quiet hfd, fun x hx => Nat.le_trans hsz (hP2.new x hx), hP2.ord⟩, fun _ => (Hbuf.out.fr hf2 id).fr hfd id⟩, HPP.out.quiet hfd⟩
        cases h
        exact ⟨by rw [← Hba.out, ← Hfm.out]; omega, rfl, hFm.out⟩
  · have hs : Hid (itS d f t most = (none, [], f)) := by show _ = _; rw [itS, hfl]
    go_wp2_with fail
    go_ret2
    rw [hs.out]
    exact ⟨0, [], [], none, 0, 0, none, rfl, ItT.none_ _ _ _ _ _, TPost.fld hT hF hT1 hf1⟩

/-- The bytes of the items of a field. -/
def itVals (d : RD) (x : Option GF × List GF × RF) : List (List Nat) := match x.1 with | none => [] | some F => x.2.1.map (GF.val (F.val d.bs))

set_option maxHeartbeats 4000000 in
set_option maxRecDepth 100000 in
theorem trlist_any (w : World) (pf b : Nat) (r : TRd) (d : RD) (f : RF) (t most : Int) (hT : TR w pf b r d) (hF : Flt w 210 pf f) :
    Calls Try.prog 124 #[rp r.p, .int .i64 t, .int .i64 most] w fun e w' => ∃ rs D k g, e = .returned (.slice D k k) ∧ rs.map (·.xs) = itVals d (itS d f t most) ∧ k ≤ 1048576 ∧ Ow w' 22 1 D k k (rs.map BS.cell) g ∧ (∀ b, g = some b → w.heap.size ≤ b) ∧ BSs w' 0 w.heap.size rs ∧ TPost w pf b r (d.took f t) (itS d f t most).2.2 w' := by
  obtain ⟨bi, bj, bj0, bj1, bj2⟩ := info_parts infoB
  have hok := hide hT.ok
  go_enter Try.func124, Try.ntmps124
  go_wp2_with fail
  refine (tit_any w pf b r d f t most hT hF).mono ?_
  rintro e w1 ⟨at_, vs, ps, L, k, cl, gl, rfl, hI, hP⟩
  have Hk : Hid (k = ps.length) := by
    have := hI.ow.1; simp at this; exact this.symm
  have hvs : Hid (ps.map (fun x => GF.val vs x.2.1) = itVals d (itS d f t most)) := by
    show _ = _
    unfold itVals
    split
    · rename_i h; rw [hI.nil_ h]; rfl
    · rename_i F h
      obtain ⟨_, h2, _⟩ := hI.own F h
      rw [← hI.eq, h2, List.map_map]; rfl
  have hkb : k ≤ 1048576 := by
    rw [Hk.out]
    have h1 := congrArg List.length hI.eq
    rw [List.length_map] at h1
    rw [h1]
    unfold itS
    split
    · simp
    · rename_i F hfl
      simp only
      split
      · simp
      · split
        · simp
        · have h2 := itemsAll_len (F.val d.bs)
          have h3 := (hok.out.at_ F (fld_mem hfl)).2.1
          have h4 := hok.out.le
          rw [GF.val_len h3] at h2
          show (itemsAll (F.val d.bs)).1.length ≤ _
          omega
  have hvl : Hid (vs.length ≤ 1048576 ∨ ps = []) := by
    show _ ∨ _
    rcases hx : (itS d f t most).1 with _ | F
    · exact .inr (hI.nil_ hx)
    · obtain ⟨_, h2, h3⟩ := hI.own F hx
      have h4 := (hok.out.at_ F h3).2.1
      have h5 := hok.out.le
      left; rw [h2, GF.val_len h4]; omega
  have HI := hide hI
  have HP := hide hP
  have s1 := hP.fr.size
  clear hI hP hT hF
  go_wp2_with fail
  go_loopw [9, 21] (fun u i wr => ∃ (j : Nat) (rs : List BS) (B : Option Addr) (cb : Nat) (g : Option Nat), j ≤ k ∧ i = .int .i64 j ∧ u = .slice B j cb ∧ Hid (rs.map (·.xs) = (ps.take j).map (fun x => GF.val vs x.2.1)) ∧ Ow wr 22 1 B j cb (rs.map BS.cell) g ∧ (∀ b, g = some b → w1.heap.size ≤ b) ∧ BSs wr 0 w1.heap.size rs ∧ Fr (fun _ => False) w1 wr) (fun _ i _ => k - (intOf i).toNat)
  case atStart => exact ⟨0, [], none, 0, none, by omega, rfl, rfl, rfl, Ow.nil_ _ _ _, (fun b h => by cases h), BSs.nil_ _ _ _, Fr.refl _ _⟩
  case round =>
    obtain ⟨j, rs, B, cb, g, hjk, rfl, rfl, hrs, hB, hgB, hF, hf⟩ := hrel
    by_cases hlt : j < k
    · have hjp : j < ps.length := by rw [← Hk.out]; exact hlt
      obtain ⟨⟨p, F, o'⟩, hy⟩ : ∃ y, ps[j] = y := ⟨_, rfl⟩
      have hmem : (p, F, o') ∈ ps := by rw [← hy]; exact List.getElem_mem hjp
      obtain ⟨bL, oL, rfl, -, hcL, -⟩ := (HI.out.ow.fr hf (fun _ _ => id)).look (j := j) (u := ptr p) (by simp [hjp, hy])
      have hp := (HI.out.ins.at_ _ hmem).quiet hf
      simp only at hp
      have hFle := hp.to_
      obtain ⟨m, hm⟩ : ∃ m, F.to_ - F.from_ = m := ⟨_, rfl⟩
      have hmn : m ≤ 1048576 := by
        rcases hvl.out with h | h
        · omega
        · rw [h] at hmem; cases hmem
      have c3 : wr.cell? ⟨p, 3, none⟩ = some (.slice (some ⟨b, o', none⟩) m m) := by rw [← hm]; exact hp.bl.cell' rfl
      have hV := hp.val
      rw [hm] at hV
      have Hm := hide hm
      have hcL' : wr.cell? ⟨bL, oL + j, none⟩ = some (.pointer (some ⟨p, 0, none⟩)) := hcL
      have hdrop : Hid (ps.take (j + 1) = ps.take j ++ [(p, F, o')]) := by show _ = _; rw [List.take_succ_eq_append_getElem hjp, hy]
      have i1 : (0 : Int) ≤ (j : Int) := by omega
      have i2 : (j : Int) < (k : Int) := by omega
      clear hcL hy hm hp hFle hmem hjp
      go_wp2_with fail
      refine (own_any _ (F.val vs) (some ⟨b, o', none⟩) m m (by omega) hV).mono ?_
      rintro e w2 ⟨A2, c2, g2, rfl, hL2, hg2, hf2⟩
      have hB2 := hB.fr hf2 (fun _ _ => id)
      go_wp2_with (first | (at_builtin; refine wpList_append_ow _ rfl _ _ 82 rfl 22 bi (.slice none 0 0) 1 24 Try.underlying82 bj bj0 bj1 bj2 rfl (by decide) _ _ _ _ _ rfl (hB2.fr ((Fr.refl (fun _ => False) _).alloc _) (fun _ _ => id)) _ _ _ [.slice A2 m c2] rfl (Sl.one _ _ _) (by intro u hu; simp at hu; subst hu; rfl) (by unfold maxLen; omega) (by omega) ?_) | go_in)
      intro B3 cb3 w3 g3 hB3 hf3 hg3
      have hf23 : Fr (fun x => some x = g) w2 w3 := ((Fr.refl _ _).alloc _).comp hf3 (fun _ _ e => e)
      have s0 := hf.size
      have s2 := hf2.size
      go_wp2_with fail
      refine ⟨⟨j + 1, rs ++ [⟨F.val vs, A2, m, c2, g2⟩], B3, cb3, g3, by omega, by go_num, rfl, ?_, ?_, fresh_app hgB (by first | omega | (simp; omega)) hg3, ?_, ?_⟩, by simp [intOf]; omega⟩
      · show _ = _
        rw [hdrop.out, List.map_append, List.map_append, hrs.out]; rfl
      · rw [List.map_append]; exact hB3
      · have hL3 : Ow w3 5 1 A2 (m + 0) c2 ((F.val vs ++ marks 0).map bn) g2 := by
          have : F.val vs ++ marks 0 = F.val vs := by simp [marks]
          rw [this]
          exact hL2.fr hf23 fun x e1 e2 => by
            rw [← e2] at hB2; rw [e1] at hL2
            exact Ow.ne hB2 hL2 (by decide) rfl
        exact BSs.add (S := fun x => some x = g) hF ((hf2.weak _).comp hf23 (fun _ _ e => e)) (hF.apart hB (by decide)) (r := ⟨F.val vs, A2, m, c2, g2⟩) hL3 hg2 s0
      · exact (hf.trans hf2).comp hf23 fun x hx e => by have := hgB x e.symm; omega
    · obtain rfl : j = k := by omega
      have hcap := hB.cap
      have hc1 := hcap.1
      have hc4 : cb ≤ 9223372036854775807 := by have := hcap.2; unfold maxLen at this; exact this
      clear hcap
      go_wp2_with fail
      refine (clipB_any _ B j cb hc1 hc4).mono ?_
      rintro e w2 ⟨rfl, rfl⟩
      go_wp2_with fail
      go_ret
      have e1 := hrs.out
      rw [List.take_of_length_le (by rw [← Hk.out]; exact Nat.le_refl _)] at e1
      exact ⟨rs, B, j, g, rfl, e1.trans hvs.out, hkb, hB.clip, (fun b e => by have := hgB b e; omega), hF.more s1, HP.out.quiet hf⟩
end Go.Proofs.Ytlcjhbemgagchaa
end

section
/-
  awake.
-/
namespace Go.Proofs.Ytlcjhbemgagchaa
open Go.RowKit
set_option linter.unusedVariables false

def WS.fresh : WS := ⟨[], 0, 0⟩
theorem WS.fresh_ok : WS.fresh.ok := ⟨Nat.zero_le _, Nat.zero_le _⟩
def wcell : Array Value := #[.slice none 0 0, .int .i64 0, .int .i64 0]
def wat (p : Nat) : Option WO := some ⟨p, none, 0, 0, none⟩
theorem wat_at {w : World} {ty : TypeId} {p : Nat} (h : Bl w p ty wcell) : TAt w ty (wat p) WS.fresh := ⟨h, Ow.nil_ _ _ _, WS.fresh_ok⟩
theorem wat_foot {p b : Nat} (h : foot (wat p) b) : b = p := by
  obtain ⟨r, e, h⟩ := h
  cases e
  rcases h with h | h
  · exact h
  · cases h

theorem short300 : short 300 = [172, 2] := by rw [short_big (by omega), short_small (by omega)]
theorem short2 : short 2 = [2] := short_small (by omega)
def awakeBytes : List Nat := [1, 2, 172, 2, 3, 2, 97, 98]
theorem awake1 : WS.fresh.number 1 300 = ⟨[1, 2, 172, 2], 1, 0⟩ := by
  rw [WS.number, if_neg (by decide), short300]
  simp [WS.put, WS.fresh, formF, short2]
theorem awake2 : (⟨[1, 2, 172, 2], 1, 0⟩ : WS).put 2 [] = ⟨[1, 2, 172, 2], 1, 0⟩ := WS.put_nil
theorem awake3 : (⟨[1, 2, 172, 2], 1, 0⟩ : WS).put 3 [97, 98] = ⟨awakeBytes, 3, 0⟩ := by
  simp [WS.put, formF, short2, awakeBytes]
def awakeD (tk : List Bool) : RD := ⟨awakeBytes, 0, [⟨1, 0, 2, 4⟩, ⟨3, 4, 6, 8⟩], tk⟩
theorem awakeGet : getAll awakeBytes = ([⟨1, 0, 2, 4⟩, ⟨3, 4, 6, 8⟩], 0, 0) := by
  have h0 : getS awakeBytes 0 0 = ([⟨1, 0, 2, 4⟩, ⟨3, 4, 6, 8⟩], 0, 0) := by
    rw [getS_one (F := ⟨1, 0, 2, 4⟩) (by decide) (by rfl) (by decide), getS_one (F := ⟨3, 4, 6, 8⟩) (by decide) (by rfl) (by decide), getS_end (by decide)]
  rw [getAll, if_neg (by decide), h0]; rfl
theorem awakeRead : readS ⟨0, 0⟩ 0 awakeBytes = (awakeD [false, false], ⟨0, 0⟩) := by
  rw [readS, if_neg (by decide)]
  simp only [awakeGet]
  rfl

end Go.Proofs.Ytlcjhbemgagchaa
end
