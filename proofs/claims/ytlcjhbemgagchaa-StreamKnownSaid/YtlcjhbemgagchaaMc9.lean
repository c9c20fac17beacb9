/-
  Texts merged into one, to keep the claim small: TlvR1, TlvR2.
-/
import Derived.Test.YtlcjhbemgagchaaMc6
import Derived.Test.YtlcjhbemgagchaaMc7
import Derived.Test.YtlcjhbemgagchaaMc8
section
/-
  Readers in memory; none, wrong, field (tlv).
-/
namespace Go.Proofs.Ytlcjhbemgagchaa
open Go.RowKit
set_option linter.unusedVariables false
attribute [local go_sem ↓] Go.wp_at_zero Go.wp_at_succ

/-- A block that holds cells of a type, all of them writable. -/
def Typed (w : World) (b : Nat) (t : TypeId) : Prop := ∃ cs, w.heap[b]? = some (.cells cs t (0, 0))
theorem Bl.typed {w : World} {b : Nat} {t : TypeId} {cs : Array Value} (h : Bl w b t cs) : Typed w b t := ⟨cs, h⟩
theorem Ow.typed {w : World} {e : TypeId} {s n c : Nat} {A : Option Addr} {xs : List Value} {g : Option Nat} (h : Ow w e s A n c xs g) : ∀ b, g = some b → Typed w b e := by
  intro b hb
  rcases h.2 with ⟨_, _, _, h0⟩ | ⟨b', o, cur, _, h1, h2, _⟩
  · rw [h0] at hb; cases hb
  · rw [h1] at hb; cases hb; exact ⟨cur, h2⟩
theorem Typed.same {w : World} {b : Nat} {t t' : TypeId} (h : Typed w b t) (h' : Typed w b t') : t = t' := by
  obtain ⟨c, h⟩ := h
  obtain ⟨c', h'⟩ := h'
  rw [h] at h'; injection h' with h1; injection h1
theorem Typed.fr {w w' : World} {b : Nat} {t : TypeId} {S : Nat → Prop} (h : Typed w b t) (hf : Fr S w w') (hb : ¬ S b) : Typed w' b t := by
  obtain ⟨c, h⟩ := h
  exact ⟨c, (hf.block b (Array.getElem?_eq_some_iff.1 h).1 hb).trans h⟩
/-- The types of blocks that a reader's call may turn. -/
def Turns (t : TypeId) : Prop := t = 210 ∨ t = 192 ∨ t = 173
def Within (w : World) (S : Nat → Prop) : Prop := ∀ x, S x → ∃ t, Typed w x t ∧ Turns t
theorem Within.not {w : World} {S : Nat → Prop} (h : Within w S) {b : Nat} {t : TypeId} (hb : Typed w b t) (ht : ¬ Turns t) : ¬ S b := fun hs => by
  obtain ⟨t', h1, h2⟩ := h b hs
  exact ht (hb.same h1 ▸ h2)
theorem Within.none_ (w : World) : Within w fun _ => False := fun _ h => h.elim
theorem Within.or {w : World} {S T : Nat → Prop} (h : Within w S) (k : Within w T) : Within w fun x => S x ∨ T x := fun x hx => hx.elim (h x) (k x)

def Flt (w : World) (t : TypeId) (p : Nat) (f : RF) : Prop := Bl w p t #[.int .i64 f.place, .int .i64 f.e]

/-- A reader of the program: where it lies, its list of parts. -/
structure TRd where
  p : Nat
  L : Option Addr
  n : Nat
  c : Nat
  g : Option Nat
  ps : List PT
def TRd.foot (r : TRd) (x : Nat) : Prop := ∃ y ∈ r.ps, x = y.1
structure TR (w : World) (pf b : Nat) (r : TRd) (d : RD) : Prop where
  bl : Bl w r.p 197 #[.pointer (some ⟨pf, 0, none⟩), .int .i64 (d.base : Int), .slice r.L r.n r.c]
  ls : Ow w 189 1 r.L r.n r.c (r.ps.map fun x => ptr x.1) r.g
  eq : r.ps.map (·.2.1) = d.fs
  at_ : ∀ i (hi : i < r.ps.length), PartAt w d.bs b r.ps[i].1 r.ps[i].2.1 r.ps[i].2.2 (d.tk.getD i false)
  ord : r.ps.Pairwise fun x y => x.1 < y.1
  buf : 0 < r.ps.length → Typed w b 5
  ok : d.ok
theorem TR.len {w : World} {pf b : Nat} {r : TRd} {d : RD} (h : TR w pf b r d) : r.ps.length = d.fs.length := by rw [← h.eq, List.length_map]
theorem TR.n_eq {w : World} {pf b : Nat} {r : TRd} {d : RD} (h : TR w pf b r d) : r.n = r.ps.length := by have := h.ls.1; simpa using this.symm
theorem TR.within {w : World} {pf b : Nat} {r : TRd} {d : RD} (h : TR w pf b r d) : Within w r.foot := by
  rintro x ⟨y, hy, rfl⟩
  obtain ⟨i, hi, rfl⟩ := List.getElem_of_mem hy
  exact ⟨_, (h.at_ i hi).bl.typed, .inr (.inl rfl)⟩
theorem TR.fr {w w' : World} {pf b : Nat} {r : TRd} {d : RD} {S : Nat → Prop} (h : TR w pf b r d) (hf : Fr S w w') (hS : Within w S) (hp : ∀ x, r.foot x → ¬ S x) : TR w' pf b r d := by
  refine ⟨h.bl.fr hf (hS.not h.bl.typed (by unfold Turns; decide)), h.ls.fr hf (fun b e => hS.not (h.ls.typed b e) (by unfold Turns; decide)), h.eq, fun i hi => ?_, h.ord, fun h0 => (h.buf h0).fr hf (hS.not (h.buf h0) (by unfold Turns; decide)), h.ok⟩
  exact (h.at_ i hi).fr hf (hp _ ⟨_, List.getElem_mem hi, rfl⟩) (hS.not (h.buf (by omega)) (by unfold Turns; decide))
theorem TR.quiet {w w' : World} {pf b : Nat} {r : TRd} {d : RD} (h : TR w pf b r d) (hf : Fr (fun _ => False) w w') : TR w' pf b r d := h.fr hf (Within.none_ w) fun _ _ => id
def rp (p : Nat) : Value := .pointer (some ⟨p, 0, none⟩)

set_option maxHeartbeats 1000000 in
set_option maxRecDepth 4000 in
theorem none_nil (w : World) : Calls Try.prog 138 #[.pointer none] w fun e w' => e = .returned (.bool true) ∧ w = w' := by
  go_enter Try.func138, Try.ntmps138
  go_wp2
  go_ret
  exact ⟨rfl, rfl⟩
set_option maxHeartbeats 1000000 in
set_option maxRecDepth 4000 in
theorem none_zero (w : World) (p : Nat) (h : w.cell? ⟨p, 0, none⟩ = some (.pointer none)) : Calls Try.prog 138 #[rp p] w fun e w' => e = .returned (.bool true) ∧ w = w' := by
  unfold rp
  go_enter Try.func138, Try.ntmps138
  go_wp2
  go_ret
  exact ⟨rfl, rfl⟩
set_option maxHeartbeats 1000000 in
set_option maxRecDepth 4000 in
theorem none_some (w : World) (p pf : Nat) (h : w.cell? ⟨p, 0, none⟩ = some (.pointer (some ⟨pf, 0, none⟩))) : Calls Try.prog 138 #[rp p] w fun e w' => e = .returned (.bool false) ∧ w = w' := by
  unfold rp
  go_enter Try.func138, Try.ntmps138
  go_wp2
  go_ret
  exact ⟨rfl, rfl⟩

set_option maxHeartbeats 1000000 in
set_option maxRecDepth 4000 in
theorem twrong_any (w : World) (pf : Nat) (f : RF) (a e : Int) (h : Flt w 210 pf f) :
    Calls Try.prog 127 #[rp pf, .int .i64 a, .int .i64 e] w fun x w' => x = .returned (.tuple #[]) ∧ Flt w' 210 pf (f.wrong a e) ∧ Fr (fun x => x = pf) w w' := by
  have c0 : w.cell? ⟨pf, 0, none⟩ = some (.int .i64 f.place) := Bl.cell' h rfl
  have c1 : w.cell? ⟨pf, 1, none⟩ = some (.int .i64 f.e) := Bl.cell' h rfl
  have f0 : w.frozen? ⟨pf, 0, none⟩ = false := Bl.free h 0
  have f1 : w.frozen? ⟨pf, 1, none⟩ = false := Bl.free h 1
  have H := hide h
  obtain ⟨er, her⟩ : ∃ er, f.e = er := ⟨_, rfl⟩
  rw [her] at c1
  have Her := hide her
  clear h her
  unfold rp
  by_cases h0 : er = 0
  · have hw : Hid (f.wrong a e = ⟨a, e⟩) := RF.wrong_yes (by rw [Her.out]; exact h0)
    subst h0
    go_enter Try.func127, Try.ntmps127
    go_wp2_with fail
    ((try simp only [Exit.inBlock, Exit.then]); first | refine bodyPost_end (results_none rfl _ _ _) rfl ?_ | refine bodyPost_ret (results_none rfl _ _ _) rfl ?_)
    refine ⟨rfl, ?_, Fr.setIn (S := fun x => x = pf) (Fr.setIn (S := fun x => x = pf) (Fr.refl _ _) (.inl rfl) _) (.inl rfl) _⟩
    rw [hw.out]
    have := (Bl.set H.out 0 (.int .i64 a)).set 1 (.int .i64 e)
    simpa [Flt] using this
  · have hw : Hid (f.wrong a e = f) := RF.wrong_no (by rw [Her.out]; exact h0)
    go_enter Try.func127, Try.ntmps127
    go_wp2_with fail
    ((try simp only [Exit.inBlock, Exit.then]); first | refine bodyPost_end (results_none rfl _ _ _) rfl ?_ | refine bodyPost_ret (results_none rfl _ _ _) rfl ?_)
    exact ⟨rfl, by rw [hw.out]; exact H.out, Fr.refl _ _⟩

/-- Behind field: the part, or nil; the field is taken. -/
def FieldOut (w : World) (pf b : Nat) (r : TRd) (d : RD) (f : RF) (t : Int) (e : Ending) (w' : World) : Prop :=
  ((∃ (i : Nat) (hi : i < r.ps.length), d.idx f t = i ∧ d.fld f t = some r.ps[i].2.1 ∧ e = .returned (rp r.ps[i].1)) ∨ (d.fld f t = none ∧ e = .returned (.pointer none))) ∧ TR w' pf b r (d.took f t) ∧ Fr r.foot w w'
theorem fld_none_of {d : RD} {f : RF} {t : Int} (h : ¬ d.idx f t < d.fs.length) : d.fld f t = none := List.getElem?_eq_none (by omega)
theorem PartAt.take {w : World} {bs : List Nat} {b p o : Nat} {F : GF} {tk : Bool} (h : PartAt w bs b p F o tk) (hb : ¬ b = p) : PartAt (w.setCell ⟨p, 4, none⟩ (.bool true)) bs b p F o true :=
  ⟨by simpa using h.bl.set 4 (.bool true), h.val.fr (B := 0) (Fr.setIn (S := fun x => x = p) (Fr.refl _ _) (.inl rfl) _) fun k ⟨o', e⟩ _ => by cases e; exact hb, h.le, h.to_⟩
/-- A part's mark is written. -/
theorem TR.take {w : World} {pf b : Nat} {r : TRd} {d : RD} (h : TR w pf b r d) {k : Nat} (hk : k < r.ps.length) : TR (w.setCell ⟨r.ps[k].1, 4, none⟩ (.bool true)) pf b r { d with tk := d.tk.set k true } ∧ Fr r.foot w (w.setCell ⟨r.ps[k].1, 4, none⟩ (.bool true)) := by
  have hf1 : Fr (fun x => x = r.ps[k].1) w (w.setCell ⟨r.ps[k].1, 4, none⟩ (.bool true)) := Fr.setIn (S := fun x => x = r.ps[k].1) (Fr.refl _ _) (.inl rfl) _
  have hty := (h.at_ k hk).bl.typed
  have hw : Within w (fun x => x = r.ps[k].1) := fun x hx => by subst hx; exact ⟨_, hty, .inr (.inl rfl)⟩
  have hbuf := h.buf (by omega)
  have hbk : ¬ b = r.ps[k].1 := hw.not hbuf (by unfold Turns; decide)
  refine ⟨⟨h.bl.fr hf1 (hw.not h.bl.typed (by unfold Turns; decide)), h.ls.fr hf1 (fun b e => hw.not (h.ls.typed b e) (by unfold Turns; decide)), h.eq, fun i hi => ?_, h.ord, fun h0 => hbuf.fr hf1 hbk, ⟨by simp [h.ok.tk], h.ok.byte, h.ok.le, h.ok.at_⟩⟩, hf1.mono fun x _ e => ⟨_, List.getElem_mem hk, e⟩⟩
  have htk : d.tk.length = r.ps.length := by rw [h.ok.tk, h.len]
  by_cases hik : i = k
  · subst hik
    have e : (d.tk.set i true).getD i false = true := by simp [List.getD, htk, hi]
    show PartAt _ d.bs b _ _ _ ((d.tk.set i true).getD i false)
    rw [e]
    exact (h.at_ i hi).take hbk
  · have e : (d.tk.set k true).getD i false = d.tk.getD i false := by simp [List.getD, List.getElem?_set_ne (Ne.symm hik)]
    show PartAt _ d.bs b _ _ _ ((d.tk.set k true).getD i false)
    rw [e]
    refine (h.at_ i hi).fr hf1 (fun e' => ?_) hbk
    have hp := List.pairwise_iff_getElem.1 h.ord
    rcases Nat.lt_or_gt_of_ne hik with h1 | h1
    · have := hp i k hi hk h1; omega
    · have := hp k i hk hi h1; omega

set_option maxHeartbeats 2000000 in
set_option maxRecDepth 4000 in
theorem tfield_any (w : World) (pf b : Nat) (r : TRd) (d : RD) (f : RF) (t : Int) (hT : TR w pf b r d) (hF : Flt w 210 pf f) :
    Calls Try.prog 126 #[rp r.p, .int .i64 t] w (FieldOut w pf b r d f t) := by
  obtain ⟨p, L, n, c, g, ps⟩ := r
  have c0 : w.cell? ⟨p, 0, none⟩ = some (.pointer (some ⟨pf, 0, none⟩)) := hT.bl.cell' rfl
  have c2 : w.cell? ⟨p, 2, none⟩ = some (.slice L n c) := hT.bl.cell' rfl
  have ce : w.cell? ⟨pf, 1, none⟩ = some (.int .i64 f.e) := Bl.cell' hF rfl
  have Hn : Hid (n = ps.length) := hT.n_eq
  have hcap : n ≤ 9223372036854775807 := by have := hT.ls.cap; unfold maxLen at this; simp only at this; omega
  have HT := hide hT
  obtain ⟨er, her⟩ : ∃ er, f.e = er := ⟨_, rfl⟩
  rw [her] at ce
  have Her := hide her
  clear hT hF her
  by_cases h0 : ¬ er = 0
  · have hi : Hid (¬ d.idx f t < d.fs.length) := by
      show ¬ _; rw [RD.idx, if_pos (by rw [Her.out]; exact h0)]; omega
    show Calls _ _ #[.pointer (some ⟨p, 0, none⟩), _] _ _
    go_enter Try.func126, Try.ntmps126
    go_wp2_with fail
    refine (none_some w p pf c0).mono ?_
    rintro e w' ⟨rfl, rfl⟩
    go_wp2_with fail
    go_ret
    exact ⟨.inr ⟨fld_none_of hi.out, rfl⟩, by rw [RD.took_none HT.out.ok hi.out]; exact HT.out, Fr.refl _ _⟩
  obtain rfl : er = 0 := by omega
  have hidx : Hid (d.idx f t = tagAt d.fs t) := by show _ = _; rw [RD.idx, if_neg (fun h => h Her.out)]
  show Calls _ _ #[.pointer (some ⟨p, 0, none⟩), _] _ _
  go_enter Try.func126, Try.ntmps126
  go_wp2_with fail
  refine (none_some w p pf c0).mono ?_
  rintro e w' ⟨rfl, rfl⟩
  go_wp2_with fail
  go_loopw [24] (fun i wr => ∃ k : Nat, k ≤ n ∧ i = .int .i64 k ∧ Hid (∀ j (hj : j < k) (hl : j < d.fs.length), ¬ (d.fs[j].tag : Int) = t) ∧ Hid (wr = w)) (fun i _ => n - (intOf i).toNat)
  case atStart => exact ⟨0, by omega, rfl, fun j hj => absurd hj (by omega), rfl⟩
  case round =>
    obtain ⟨k, hk, rfl, hno, hwr⟩ := hrel
    obtain rfl := hwr.out
    by_cases hlt : k < n
    · have hkp : k < ps.length := by rw [← Hn.out]; exact hlt
      have hkf : k < d.fs.length := by rw [← HT.out.len]; exact hkp
      obtain ⟨⟨q, F, o'⟩, hy⟩ : ∃ y, ps[k] = y := ⟨_, rfl⟩
      obtain ⟨bL, oL, rfl, -, hcL, -⟩ := HT.out.ls.look (j := k) (u := rp q) (by simp [hkp, hy, ptr, rp])
      have hp := HT.out.at_ k hkp
      simp only [hy] at hp
      have hFe : d.fs[k] = F := by
        have := map_get HT.out.eq hkp
        simp only [hy, List.getElem?_eq_getElem hkf] at this
        exact (Option.some.inj this).symm
      obtain ⟨T, hT⟩ : ∃ T, F.tag = T := ⟨_, rfl⟩
      have q0 : wr.cell? ⟨q, 0, none⟩ = some (.int .i64 T) := by rw [← hT]; exact hp.bl.cell' rfl
      have q4 := hp.bl.cell (i := 4)
      have qf : wr.frozen? ⟨q, 4, none⟩ = false := hp.bl.free 4
      have q4' : wr.cell? ⟨q, 4, none⟩ = some (.bool (d.tk.getD k false)) := hp.bl.cell' rfl
      have hcL' : wr.cell? ⟨bL, oL + k, none⟩ = some (.pointer (some ⟨q, 0, none⟩)) := hcL
      have Htag : Hid ((d.fs[k].tag : Int) = T) := by show _ = _; rw [hFe, hT]
      have Hy := hide hy
      have HFe := hide hFe
      clear hcL hy hp hFe hT q4
      have i0 : (0 : Int) ≤ (k : Int) := by omega
      have i1 : (k : Int) < (n : Int) := by omega
      by_cases hm : (T : Int) = t
      · have hi : Hid (d.idx f t = k) := by
          show _ = _
          rw [hidx.out]
          exact tagAt_first hkf (fun j hj => hno.out j hj (by omega)) (Htag.out.trans hm)
        have htake := HT.out.take hkp
        simp only [Hy.out] at htake
        have HTk := hide htake
        clear htake
        go_wp2_with fail
        go_ret
        have e1 : d.took f t = { d with tk := d.tk.set k true } := by rw [RD.took, hi.out]
        refine ⟨.inl ⟨k, hkp, hi.out, ?_, ?_⟩, by rw [e1]; exact HTk.out.1, HTk.out.2⟩
        · rw [RD.fld, hi.out, List.getElem?_eq_getElem hkf, HFe.out]
          simp only [Hy.out]
        · simp only [Hy.out]; rfl
      · go_wp2_with fail
        refine ⟨⟨k + 1, by omega, by go_num, fun j hj hl => ?_, hide trivial⟩, by simp [intOf]; omega⟩
        by_cases hjk : j = k
        · subst hjk; rw [Htag.out]; exact hm
        · exact hno.out j (by omega) hl
    · obtain rfl : k = n := by omega
      have hi : Hid (¬ d.idx f t < d.fs.length) := by
        show ¬ _
        rw [hidx.out]
        exact tagAt_none fun j hj => hno.out j (by rw [Hn.out, HT.out.len]; exact hj) hj
      clear hlt
      go_wp2_with fail
      go_ret
      exact ⟨.inr ⟨fld_none_of hi.out, rfl⟩, by rw [RD.took_none HT.out.ok hi.out]; exact HT.out, Fr.refl _ _⟩
end Go.Proofs.Ytlcjhbemgagchaa
end

section
/-
  Readers of the program: Number, Raw, Text, Fault.
-/
namespace Go.Proofs.Ytlcjhbemgagchaa
open Go.RowKit
set_option linter.unusedVariables false
attribute [local go_sem ↓] Go.wp_at_zero Go.wp_at_succ

theorem Flt.notFoot {w : World} {pf b : Nat} {r : TRd} {d : RD} {f : RF} (hF : Flt w 210 pf f) (hT : TR w pf b r d) : ¬ r.foot pf := by
  rintro ⟨y, hy, e⟩
  obtain ⟨i, hi, rfl⟩ := List.getElem_of_mem hy
  have := (hT.at_ i hi).bl.typed
  rw [← e] at this
  exact absurd (this.same (Bl.typed hF)) (by decide)
theorem Flt.fr {w w' : World} {t : TypeId} {p : Nat} {f : RF} {S : Nat → Prop} (h : Flt w t p f) (hf : Fr S w w') (hs : ¬ S p) : Flt w' t p f := Bl.fr h hf hs
/-- Behind a call of a reader of the program. -/
structure TPost (w : World) (pf b : Nat) (r : TRd) (d' : RD) (f' : RF) (w' : World) : Prop where
  tr : TR w' pf b r d'
  flt : Flt w' 210 pf f'
  fr : Fr (fun x => x = pf ∨ r.foot x) w w'
theorem Flt.within {w : World} {pf : Nat} {f : RF} (h : Flt w 210 pf f) : Within w (fun x => x = pf) := fun x e => by subst e; exact ⟨_, Bl.typed h, .inl rfl⟩
theorem TR.wrong {w w' : World} {pf b : Nat} {r : TRd} {d : RD} {f : RF} (h : TR w pf b r d) (hF : Flt w 210 pf f) (hf : Fr (fun x => x = pf) w w') : TR w' pf b r d :=
  h.fr hf hF.within fun x hx e => by subst e; exact hF.notFoot h hx
/-- field alone. -/
theorem TPost.fld {w w1 : World} {pf b : Nat} {r : TRd} {d d' : RD} {f : RF} (hT : TR w pf b r d) (hF : Flt w 210 pf f) (h1 : TR w1 pf b r d') (hf : Fr r.foot w w1) : TPost w pf b r d' f w1 :=
  ⟨h1, hF.fr hf (hF.notFoot hT), hf.mono fun _ _ e => .inr e⟩
theorem TPost.quiet {w w1 w2 : World} {pf b : Nat} {r : TRd} {d' : RD} {f : RF} (h : TPost w pf b r d' f w1) (hf : Fr (fun _ => False) w1 w2) : TPost w pf b r d' f w2 :=
  ⟨h.tr.quiet hf, h.flt.fr hf id, h.fr.comp hf fun _ _ e => e.elim⟩
/-- a fault behind it. -/
theorem TPost.bad {w w1 w2 : World} {pf b : Nat} {r : TRd} {d' : RD} {f f' : RF} (h : TPost w pf b r d' f w1) (hf : Fr (fun x => x = pf) w1 w2) (hF : Flt w2 210 pf f') : TPost w pf b r d' f' w2 :=
  ⟨h.tr.wrong h.flt hf, hF, h.fr.comp hf fun _ _ e => .inl e⟩
theorem TPost.refl {w : World} {pf b : Nat} {r : TRd} {d : RD} {f : RF} (hT : TR w pf b r d) (hF : Flt w 210 pf f) : TPost w pf b r d f w := ⟨hT, hF, Fr.refl _ _⟩

set_option maxHeartbeats 4000000 in
set_option maxRecDepth 4000 in
theorem trnum_any (w : World) (pf b : Nat) (r : TRd) (d : RD) (f : RF) (t : Int) (above : Nat) (ha : above < U64) (hT : TR w pf b r d) (hF : Flt w 210 pf f) :
    Calls Try.prog 95 #[rp r.p, .int .i64 t, .int .u64 (above : Int)] w fun e w' => e = .returned (.int .u64 ((numberS d f t above).1 : Int)) ∧ TPost w pf b r (d.took f t) (numberS d f t above).2 w' := by
  go_enter Try.func95, Try.ntmps95
  go_wp2_with fail
  refine (tfield_any w pf b r d f t hT hF).mono ?_
  rintro e w1 ⟨⟨i, hi, hix, hfl, rfl⟩ | ⟨hfl, rfl⟩, hT1, hf1⟩
  · have hP := TPost.fld hT hF hT1 hf1
    obtain ⟨p, L, n, c, g, ps⟩ := r
    obtain ⟨⟨q, F, o⟩, hy⟩ : ∃ y, ps[i]'hi = y := ⟨_, rfl⟩
    have hp := hT1.at_ i hi
    simp only [hy] at hp hfl
    simp only [hy, rp]
    have hok := hT.ok
    have a0 : w1.cell? ⟨p, 0, none⟩ = some (.pointer (some ⟨pf, 0, none⟩)) := hT1.bl.cell' rfl
    have a1 : w1.cell? ⟨p, 1, none⟩ = some (.int .i64 (d.base : Int)) := hT1.bl.cell' rfl
    have q2 : w1.cell? ⟨q, 2, none⟩ = some (.int .i64 (F.from_ : Int)) := hp.bl.cell' rfl
    have q3 : w1.cell? ⟨q, 3, none⟩ = some (.slice (some ⟨b, o, none⟩) (F.to_ - F.from_) (F.to_ - F.from_)) := hp.bl.cell' rfl
    have np : ¬ p = pf := fun e => absurd (hT1.bl.typed.same (e ▸ Bl.typed hP.flt)) (by decide)
    have nq : ¬ q = pf := fun e => absurd (hp.bl.typed.same (e ▸ Bl.typed hP.flt)) (by decide)
    have hbd := hok.le
    have hto := hp.to_
    have hbs : (d.took f t).bs = d.bs := rfl
    rw [hbs] at hto
    have hval := hp.val
    rw [hbs] at hval
    obtain ⟨m, hm⟩ : ∃ m, F.to_ - F.from_ = m := ⟨_, rfl⟩
    obtain ⟨fm, hfm⟩ : ∃ fm, F.from_ = fm := ⟨_, rfl⟩
    obtain ⟨ba, hba⟩ : ∃ ba, d.base = ba := ⟨_, rfl⟩
    have hle := hp.le
    have hmb : m ≤ 1048576 := by omega
    have hfb : ba + fm ≤ 1048576 := by omega
    rw [hm] at q3 hval
    rw [hba] at a1
    rw [hfm] at q2
    have hvl : Hid (m = (F.val d.bs).length) := hval.len
    have hv256 : Hid (∀ x ∈ F.val d.bs, x < 256) := GF.val_bytes hok.byte
    have hw0 : IntKind.i64.wrap ((ba : Int) + (fm : Int)) = (ba : Int) + fm := IntWalk.i64_in _ (by omega)
    obtain ⟨N, hN⟩ : ∃ N, (readShort (F.val d.bs) 0).1 = N := ⟨_, rfl⟩
    obtain ⟨T, hTT⟩ : ∃ T, (readShort (F.val d.bs) 0).2.1 = T := ⟨_, rfl⟩
    obtain ⟨E, hE⟩ : ∃ E, (readShort (F.val d.bs) 0).2.2 = E := ⟨_, rfl⟩
    have hv : Hid (ReadVal (F.val d.bs) 0 = .tuple #[.int .u64 (N : Int), .int .i64 T, .int .i64 E]) := by show _ = _; rw [ReadVal, hN, hTT, hE]
    have HP := hide hP
    have HF1 := hide hP.flt
    have hspec : Hid (numberS d f t above = if E ≠ 0 ∨ T ≠ (m : Int) ∨ N = 0 then (0, f.wrong ((ba : Int) + fm) 20) else if above < N then (0, f.wrong ((ba : Int) + fm) 3) else (N, f)) := by
      show _ = _
      rw [numberS, hfl]
      simp only [hN, hTT, hE, hba, hfm, ← hvl.out]
    clear hP hT1 hf1 hT hF hix hfl hp hy hbd hto hbs hm hfm hba hle hok hN hTT hE
    by_cases hbad : E ≠ 0 ∨ T ≠ (m : Int) ∨ N = 0
    · have hs := hide (hspec.out.trans (if_pos hbad))
      by_cases hE : E = 0
      · subst hE
        by_cases hT : T = (m : Int)
        · subst hT
          have hN : N = 0 := by
            rcases hbad with h | h | h
            · exact absurd rfl h
            · exact absurd rfl h
            · exact h
          subst hN
          clear hbad
          go_wp2_with fail
          refine (tread_any _ (F.val d.bs) _ m m 0 (by omega) hvl.out hv256.out hval).mono ?_
          rintro e w' ⟨rfl, rfl⟩
          rw [hv.out]
          go_wp2_with fail
          go_region_held3 (fun w' => w'.cell? ⟨p, 0, none⟩ = some (.pointer (some ⟨pf, 0, none⟩)) ∧ w'.cell? ⟨p, 1, none⟩ = some (.int .i64 (ba : Int)) ∧ w'.cell? ⟨q, 2, none⟩ = some (.int .i64 (fm : Int))) (go_keep) ((go_at_call 127; refine (twrong_any _ pf f _ _ (by exact HF1.out)).mono ?_; rintro e w2 ⟨rfl, hF2, hf2⟩; have z0 := (hf2.cell (World.block_lt_of_cell? w1 _ a0) np).trans a0; have z1 := (hf2.cell (World.block_lt_of_cell? w1 _ a1) np).trans a1; have z2 := (hf2.cell (World.block_lt_of_cell? w1 _ q2) nq).trans q2))
          go_wp2_with fail
          go_ret
          rw [hs.out]
          exact ⟨rfl, HP.out.bad ((Fr.refl _ _).drew.trans hf2) hF2⟩
        · have hT' : ¬ T = (m : Int) := hT
          clear hbad
          go_wp2_with fail
          refine (tread_any _ (F.val d.bs) _ m m 0 (by omega) hvl.out hv256.out hval).mono ?_
          rintro e w' ⟨rfl, rfl⟩
          rw [hv.out]
          go_wp2_with fail
          go_region_held3 (fun w' => w'.cell? ⟨p, 0, none⟩ = some (.pointer (some ⟨pf, 0, none⟩)) ∧ w'.cell? ⟨p, 1, none⟩ = some (.int .i64 (ba : Int)) ∧ w'.cell? ⟨q, 2, none⟩ = some (.int .i64 (fm : Int))) (go_keep) ((go_at_call 127; refine (twrong_any _ pf f _ _ (by exact HF1.out)).mono ?_; rintro e w2 ⟨rfl, hF2, hf2⟩; have z0 := (hf2.cell (World.block_lt_of_cell? w1 _ a0) np).trans a0; have z1 := (hf2.cell (World.block_lt_of_cell? w1 _ a1) np).trans a1; have z2 := (hf2.cell (World.block_lt_of_cell? w1 _ q2) nq).trans q2))
          go_wp2_with fail
          go_ret
          rw [hs.out]
          exact ⟨rfl, HP.out.bad ((Fr.refl _ _).drew.trans hf2) hF2⟩
      · clear hbad
        go_wp2_with fail
        refine (tread_any _ (F.val d.bs) _ m m 0 (by omega) hvl.out hv256.out hval).mono ?_
        rintro e w' ⟨rfl, rfl⟩
        rw [hv.out]
        go_wp2_with fail
        go_region_held3 (fun w' => w'.cell? ⟨p, 0, none⟩ = some (.pointer (some ⟨pf, 0, none⟩)) ∧ w'.cell? ⟨p, 1, none⟩ = some (.int .i64 (ba : Int)) ∧ w'.cell? ⟨q, 2, none⟩ = some (.int .i64 (fm : Int))) (go_keep) ((go_at_call 127; refine (twrong_any _ pf f _ _ (by exact HF1.out)).mono ?_; rintro e w2 ⟨rfl, hF2, hf2⟩; have z0 := (hf2.cell (World.block_lt_of_cell? w1 _ a0) np).trans a0; have z1 := (hf2.cell (World.block_lt_of_cell? w1 _ a1) np).trans a1; have z2 := (hf2.cell (World.block_lt_of_cell? w1 _ q2) nq).trans q2))
        go_wp2_with fail
        go_ret
        rw [hs.out]
        exact ⟨rfl, HP.out.bad ((Fr.refl _ _).drew.trans hf2) hF2⟩
    · have hE : E = 0 := Classical.not_not.1 fun h => hbad (.inl h)
      have hT : T = (m : Int) := Classical.not_not.1 fun h => hbad (.inr (.inl h))
      have hN : ¬ N = 0 := fun h => hbad (.inr (.inr h))
      have hN' : ¬ (N : Int) = 0 := by omega
      have hs0 := hide (hspec.out.trans (if_neg hbad))
      subst hE hT
      clear hbad
      by_cases hab : above < N
      · have hs := hide (hs0.out.trans (if_pos hab))
        have hab' : (above : Int) < (N : Int) := by omega
        go_wp2_with fail
        refine (tread_any _ (F.val d.bs) _ m m 0 (by omega) hvl.out hv256.out hval).mono ?_
        rintro e w' ⟨rfl, rfl⟩
        rw [hv.out]
        go_wp2_with fail
        go_region_held3 (fun w' => w'.cell? ⟨p, 0, none⟩ = some (.pointer (some ⟨pf, 0, none⟩)) ∧ w'.cell? ⟨p, 1, none⟩ = some (.int .i64 (ba : Int)) ∧ w'.cell? ⟨q, 2, none⟩ = some (.int .i64 (fm : Int))) (go_keep) ((go_at_call 127; refine (twrong_any _ pf f _ _ (by exact HF1.out)).mono ?_; rintro e w2 ⟨rfl, hF2, hf2⟩; have z0 := (hf2.cell (World.block_lt_of_cell? w1 _ a0) np).trans a0; have z1 := (hf2.cell (World.block_lt_of_cell? w1 _ a1) np).trans a1; have z2 := (hf2.cell (World.block_lt_of_cell? w1 _ q2) nq).trans q2))
        go_wp2_with fail
        go_ret
        rw [hs.out]
        exact ⟨rfl, HP.out.bad ((Fr.refl _ _).drew.trans hf2) hF2⟩
      · have hs := hide (hs0.out.trans (if_neg hab))
        have hab' : ¬ (above : Int) < (N : Int) := by omega
        go_wp2_with fail
        refine (tread_any _ (F.val d.bs) _ m m 0 (by omega) hvl.out hv256.out hval).mono ?_
        rintro e w' ⟨rfl, rfl⟩
        rw [hv.out]
        go_wp2_with fail
        go_ret
        rw [hs.out]
        exact ⟨rfl, HP.out⟩
  · have hs : Hid (numberS d f t above = (0, f)) := by show _ = _; rw [numberS, hfl]
    go_wp2_with fail
    go_ret
    rw [hs.out]
    exact ⟨rfl, TPost.fld hT hF hT1 hf1⟩

/-- Bytes that are answered, in whatever memory. -/
def RawOut (v : List Nat) (e : Ending) (w' : World) : Prop := ∃ A n c, e = .returned (.slice A n c) ∧ n ≤ 1048576 ∧ Sl w' 1 A n (v.map bn) ∧ (∀ x ∈ v, x < 256)
set_option maxHeartbeats 4000000 in
set_option maxRecDepth 4000 in
theorem traw0_any (w : World) (pf b : Nat) (r : TRd) (d : RD) (f : RF) (t most : Int) (hT : TR w pf b r d) (hF : Flt w 210 pf f) :
    Calls Try.prog 123 #[rp r.p, .int .i64 t, .int .i64 most] w fun e w' => RawOut (rawS d f t most).1 e w' ∧ TPost w pf b r (d.took f t) (rawS d f t most).2 w' := by
  go_enter Try.func123, Try.ntmps123
  go_wp2_with fail
  refine (tfield_any w pf b r d f t hT hF).mono ?_
  rintro e w1 ⟨⟨i, hi, hix, hfl, rfl⟩ | ⟨hfl, rfl⟩, hT1, hf1⟩
  · have hP := TPost.fld hT hF hT1 hf1
    obtain ⟨p, L, n, c, g, ps⟩ := r
    obtain ⟨⟨q, F, o⟩, hy⟩ : ∃ y, ps[i]'hi = y := ⟨_, rfl⟩
    have hp := hT1.at_ i hi
    simp only [hy] at hp hfl
    simp only [hy, rp]
    have hok := hT.ok
    have a0 : w1.cell? ⟨p, 0, none⟩ = some (.pointer (some ⟨pf, 0, none⟩)) := hT1.bl.cell' rfl
    have a1 : w1.cell? ⟨p, 1, none⟩ = some (.int .i64 (d.base : Int)) := hT1.bl.cell' rfl
    have q2 : w1.cell? ⟨q, 2, none⟩ = some (.int .i64 (F.from_ : Int)) := hp.bl.cell' rfl
    have q3 : w1.cell? ⟨q, 3, none⟩ = some (.slice (some ⟨b, o, none⟩) (F.to_ - F.from_) (F.to_ - F.from_)) := hp.bl.cell' rfl
    have np : ¬ p = pf := fun e => absurd (hT1.bl.typed.same (e ▸ Bl.typed hP.flt)) (by decide)
    have nq : ¬ q = pf := fun e => absurd (hp.bl.typed.same (e ▸ Bl.typed hP.flt)) (by decide)
    have hbd := hok.le
    have hto := hp.to_
    have hbs : (d.took f t).bs = d.bs := rfl
    rw [hbs] at hto
    have hval := hp.val
    rw [hbs] at hval
    obtain ⟨m, hm⟩ : ∃ m, F.to_ - F.from_ = m := ⟨_, rfl⟩
    obtain ⟨fm, hfm⟩ : ∃ fm, F.from_ = fm := ⟨_, rfl⟩
    obtain ⟨ba, hba⟩ : ∃ ba, d.base = ba := ⟨_, rfl⟩
    have hle := hp.le
    have hmb : m ≤ 1048576 := by omega
    have hfb : ba + fm ≤ 1048576 := by omega
    rw [hm] at q3 hval
    rw [hba] at a1
    rw [hfm] at q2
    have hvl : Hid (m = (F.val d.bs).length) := hval.len
    have hv256 : Hid (∀ x ∈ F.val d.bs, x < 256) := GF.val_bytes hok.byte
    have hw0 : IntKind.i64.wrap ((ba : Int) + (fm : Int)) = (ba : Int) + fm := IntWalk.i64_in _ (by omega)
    have HP := hide hP
    have HF1 := hide hP.flt
    have hspec : Hid (rawS d f t most = if max most 0 < (m : Int) then ([], f.wrong ((ba : Int) + fm) 3) else (F.val d.bs, f)) := by
      show _ = _
      rw [rawS, hfl]
      simp only [hba, hfm, ← hvl.out]
    clear hP hT1 hf1 hT hF hix hfl hp hy hbd hto hbs hm hfm hba hle hok
    have hmx : (most < 0 ∧ max most 0 = 0) ∨ (¬ most < 0 ∧ max most 0 = most) := by omega
    by_cases hbad : max most 0 < (m : Int)
    · have hs := hide (hspec.out.trans (if_pos hbad))
      rcases hmx with ⟨h1, h2⟩ | ⟨h1, h2⟩
      all_goals
        rw [h2] at hbad
        clear h2
        go_wp2_with fail
        go_region_held3 (fun w' => w'.cell? ⟨p, 0, none⟩ = some (.pointer (some ⟨pf, 0, none⟩)) ∧ w'.cell? ⟨p, 1, none⟩ = some (.int .i64 (ba : Int)) ∧ w'.cell? ⟨q, 2, none⟩ = some (.int .i64 (fm : Int))) (go_keep) ((go_at_call 127; refine (twrong_any _ pf f _ _ (by exact HF1.out)).mono ?_; rintro e w2 ⟨rfl, hF2, hf2⟩; have z0 := (hf2.cell (World.block_lt_of_cell? w1 _ a0) np).trans a0; have z1 := (hf2.cell (World.block_lt_of_cell? w1 _ a1) np).trans a1; have z2 := (hf2.cell (World.block_lt_of_cell? w1 _ q2) nq).trans q2))
        go_wp2_with fail
        go_ret
        rw [hs.out]
        exact ⟨⟨none, 0, 0, rfl, by omega, Sl.nil_ _ _ _, (fun x h => by cases h)⟩, HP.out.bad ((Fr.refl _ _).drew.trans hf2) hF2⟩
    · have hs := hide (hspec.out.trans (if_neg hbad))
      rcases hmx with ⟨h1, h2⟩ | ⟨h1, h2⟩
      all_goals
        rw [h2] at hbad
        clear h2
        go_wp2_with fail
        go_ret
        rw [hs.out]
        exact ⟨⟨_, m, m, rfl, hmb, hval, hv256.out⟩, HP.out⟩
  · have hs : Hid (rawS d f t most = ([], f)) := by show _ = _; rw [rawS, hfl]
    go_wp2_with fail
    go_ret
    rw [hs.out]
    exact ⟨⟨none, 0, 0, rfl, by omega, Sl.nil_ _ _ _, (fun x h => by cases h)⟩, TPost.fld hT hF hT1 hf1⟩

set_option maxHeartbeats 2000000 in
set_option maxRecDepth 4000 in
theorem trtext_any (w : World) (pf b : Nat) (r : TRd) (d : RD) (f : RF) (t most : Int) (hT : TR w pf b r d) (hF : Flt w 210 pf f) :
    Calls Try.prog 92 #[rp r.p, .int .i64 t, .int .i64 most] w fun e w' => e = .returned (.string (strOf (rawS d f t most).1)) ∧ TPost w pf b r (d.took f t) (rawS d f t most).2 w' := by
  go_enter Try.func92, Try.ntmps92
  go_wp2_with fail
  refine (traw0_any w pf b r d f t most hT hF).mono ?_
  rintro e w1 ⟨⟨A, n, c, rfl, hn, hS, h256⟩, hP⟩
  have hcv := conv_bs w1 A n c _ h256 hS
  go_wp2_with fail
  go_ret
  exact ⟨rfl, hP⟩

set_option maxHeartbeats 2000000 in
set_option maxRecDepth 4000 in
theorem tfault_any (w : World) (pf b : Nat) (r : TRd) (d : RD) (f : RF) (hT : TR w pf b r d) (hF : Flt w 210 pf f) :
    Calls Try.prog 140 #[rp r.p] w fun e w' => e = .returned (.tuple #[.int .i64 f.place, .int .i64 f.e]) ∧ Fr (fun _ => False) w w' := by
  obtain ⟨p, L, n, c, g, ps⟩ := r
  have c0 : w.cell? ⟨p, 0, none⟩ = some (.pointer (some ⟨pf, 0, none⟩)) := hT.bl.cell' rfl
  have e0 : w.cell? ⟨pf, 0, none⟩ = some (.int .i64 f.place) := Bl.cell' hF rfl
  have e1 : w.cell? ⟨pf, 1, none⟩ = some (.int .i64 f.e) := Bl.cell' hF rfl
  clear hT hF
  show Calls _ _ #[.pointer (some ⟨p, 0, none⟩)] _ _
  go_enter Try.func140, Try.ntmps140
  go_wp2_with fail
  refine (none_some w p pf c0).mono ?_
  rintro e w' ⟨rfl, rfl⟩
  go_wp2_with fail
  go_quiet (fail)
  go_wp2_with fail
  go_ret2
  exact ⟨rfl, (Fr.refl _ _).drewN _⟩
set_option maxHeartbeats 1000000 in
set_option maxRecDepth 4000 in
theorem tfault_nil (w : World) : Calls Try.prog 140 #[.pointer none] w fun e w' => e = .returned (.tuple #[.int .i64 0, .int .i64 1]) ∧ w = w' := by
  go_enter Try.func140, Try.ntmps140
  go_wp2_with fail
  refine (none_nil w).mono ?_
  rintro e w' ⟨rfl, rfl⟩
  go_wp2_with fail
  go_ret2
  exact ⟨rfl, rfl⟩
end Go.Proofs.Ytlcjhbemgagchaa
end
