/-
  Texts merged into one, to keep the claim small: Do1.
-/
import Derived.Test.YtanfhmebjgmdpaaDp1i
import Derived.Test.YtanfhmebjgmdpaaMe27
import Derived.Test.YtanfhmebjgmdpaaDr3
import Derived.Test.YtanfhmebjgmdpaaGo
/-
  DrrOwn: two servers and slices that came out of them.
-/
namespace Go.Proofs.Ytanfhmebjgmdpaa.Qi
open Go.RowKit
set_option linter.unusedVariables false

theorem giv_get {xs : List Int} {k : Nat} (h : k < xs.length) : (xs.map giv)[k]? = some (.int .i64 (xs.getD k 0)) := by
  simp [giv, List.getElem?_eq_getElem h, List.getD]
theorem giv_one (xs : List Int) : ∀ u ∈ xs.map giv, u.oneCell' = true := by
  intro u hu; obtain ⟨v, -, rfl⟩ := List.mem_map.1 hu; rfl
set_option maxHeartbeats 1000000 in
set_option maxRecDepth 4000 in
theorem same_int (w : World) (xs : List Int) (A B : Option Addr) (c d : Nat) (n : Nat) (hn : n = xs.length) (h63 : n ≤ 9223372036854775806) (hA : Sl w 1 A n (xs.map giv)) (hB : Sl w 1 B n (xs.map giv)) :
    Calls Try.prog 18 #[.slice A n c, .slice B n d] w fun e w' => e = .returned (.bool true) ∧ Fr (fun _ => False) w w' := by
  have Hn := hide hn
  clear hn
  go_enter Try.func18, Try.ntmps18
  go_wp2_with fail
  go_loopw [5] (fun i wr => ∃ (k m : Nat), k ≤ n ∧ i = .int .i64 k ∧ Hid (wr = w.drewN m)) (fun i _ => n - (intOf i).toNat)
  case atStart => exact ⟨0, 0, Nat.zero_le _, rfl, rfl⟩
  case round =>
    obtain ⟨k, m, hk, rfl, hw⟩ := hrel
    obtain rfl := hw.out
    clear hw
    by_cases hlt : k < n
    · have hu := giv_get (xs := xs) (k := k) (by rw [← Hn.out]; exact hlt)
      obtain ⟨b, o, rfl, ca⟩ := hA.at_ hu
      obtain ⟨b', o', rfl, cb⟩ := hB.at_ hu
      clear hA hB hu
      have i0 : (0 : Int) ≤ (k : Int) := by omega
      have i1 : (k : Int) < (n : Int) := by omega
      go_wp2_with fail
      go_quiet (fail)
      go_wp2_with fail
      exact ⟨⟨k + 1, _, by omega, by go_num, rfl⟩, by simp [intOf]; omega⟩
    · go_wp2_with fail
      go_ret
      exact ⟨rfl, (Fr.refl _ _).drewN _⟩

/-- A slice of integers that came out. -/
structure Rec where
  A : Option Addr
  n : Nat
  c : Nat
  g : Option Nat
  V : List Int
def Rec.slc (r : Rec) : Value := .slice r.A r.n r.c
/-- Two servers, slices that came out of them, m of these in a row. -/
structure OT (w0 w : World) (d L f M : Nat) (sd sf : DS X) (Ls : List Rec) (m : Nat) (AA : Option Addr) (ac : Nat) (ag : Option Nat) : Prop where
  hd : DrrAt w d L 0 sd
  hf : DrrAt w f M 0 sf
  off : ∀ x, drfoot d L sd x → ¬ drfoot f M sf x
  fd : ∀ x, drfoot d L sd x → w0.heap.size ≤ x
  ff : ∀ x, drfoot f M sf x → w0.heap.size ≤ x
  row : Ow w tInts 1 AA m ac ((Ls.take m).map Rec.slc) ag
  agn : ∀ b, ag = some b → w0.heap.size ≤ b
  ow : ∀ (j : Nat) (r : Rec), Ls[j]? = some r → Ow w tInt 1 r.A r.n r.c (r.V.map giv) r.g ∧ r.n ≤ 65536 ∧ ∀ b, r.g = some b → w0.heap.size ≤ b
  hgd : ∀ (j j' : Nat) (r r' : Rec) (b : Nat), Ls[j]? = some r → Ls[j']? = some r' → r.g = some b → r'.g = some b → j = j'
  fr : Fr (fun x => w0.heap.size ≤ x) w0 w
section
variable {w0 w w' : World} {d L f M : Nat} {sd sf : DS X} {Ls : List Rec} {m : Nat} {AA : Option Addr} {ac : Nat} {ag : Option Nat}
theorem dr_ne {d L : Nat} {s : DS X} {D : Int} (h : DrrAt w d L D s) {x : Nat} {t : TypeId} {cs : Array Value} (hb : Bl w x t cs) (ht : t = tInt ∨ t = tInts) : ¬ drfoot d L s x := fun e => by
  obtain ⟨t', cs', hc, h1⟩ := h.ty e
  have h2 := (hb.same hc).2
  rcases ht with rfl | rfl
  · rw [← h2] at h1; revert h1; decide
  · rw [← h2] at h1; revert h1; decide
theorem dr_neO {d L : Nat} {s : DS X} {D : Int} (h : DrrAt w d L D s) {t : TypeId} {A : Option Addr} {n c : Nat} {xs : List Value} {g : Option Nat} (hO : Ow w t 1 A n c xs g) (ht : t = tInt ∨ t = tInts) : ∀ b, g = some b → ¬ drfoot d L s b := fun b hb => by
  subst hb
  obtain ⟨cs, hc⟩ := hO.blk
  exact dr_ne h hc ht
theorem OT.swap (h : OT w0 w d L f M sd sf Ls m AA ac ag) : OT w0 w f M d L sf sd Ls m AA ac ag :=
  ⟨h.hf, h.hd, fun x hx hy => h.off x hy hx, h.ff, h.fd, h.row, h.agn, h.ow, h.hgd, h.fr⟩
theorem OT.quiet (h : OT w0 w d L f M sd sf Ls m AA ac ag) (hq : Fr (fun _ => False) w w') : OT w0 w' d L f M sd sf Ls m AA ac ag :=
  ⟨h.hd.quiet hq, h.hf.quiet hq, h.off, h.fd, h.ff, h.row.fr hq (fun _ _ => id), h.agn, fun j r hr => ⟨(h.ow j r hr).1.fr hq (fun _ _ => id), (h.ow j r hr).2⟩, h.hgd, h.fr.trans (hq.weak _)⟩
theorem OT.step (h : OT w0 w d L f M sd sf Ls m AA ac ag) {sd' : DS X} (hat : DrrAt w' d L 0 sd') (hq : Fr (drfoot d L sd) w w') (hft : ∀ x, drfoot d L sd' x → drfoot d L sd x ∨ w.heap.size ≤ x) : OT w0 w' d L f M sd' sf Ls m AA ac ag :=
  ⟨hat, h.hf.fr hq (fun x hx e => h.off x e hx), fun x hx hy => (hft x hx).elim (fun h1 => h.off x h1 hy) (fun h1 => by have := h.hf.lt hy; omega),
    fun x hx => (hft x hx).elim (h.fd x) (fun h1 => Nat.le_trans h.fr.size h1), h.ff, h.row.fr hq (dr_neO h.hd h.row (.inr rfl)), h.agn,
    fun j r hr => ⟨(h.ow j r hr).1.fr hq (dr_neO h.hd (h.ow j r hr).1 (.inl rfl)), (h.ow j r hr).2⟩, h.hgd, h.fr.trans (hq.mono fun x _ hx => h.fd x hx)⟩
theorem OT.add (h : OT w0 w d L f M sd sf Ls m AA ac ag) (i : Nat) (l : LN X) (x : X) (hl : sd.lines[i]? = some l) (hb : sd.busy = false) (hc : 1 ≤ x.2 ∧ x.2 ≤ 8) (hlt : l.things.length < sd.room) :
    Calls Try.prog 16 #[.pointer (some ⟨d, 0, none⟩), .int .i64 (i : Int), .int .i64 x.2, .int .i64 x.1] w fun e w' => e = .returned (.int .i64 0) ∧
      ∃ g', OT w0 w' d L f M (sd.put i { l with things := l.things ++ [x], g := g' }) sf Ls m AA ac ag := by
  refine (Add_ok w h.hd i l x hl hb hc hlt).mono ?_
  rintro e w' ⟨rfl, g', hat, hq, hg⟩
  have hi : i < sd.lines.length := (List.getElem?_eq_some_iff.1 hl).1
  refine ⟨rfl, g', h.step hat hq fun y hy => ?_⟩
  rcases hy with rfl | rfl | ⟨b, hb, hx⟩
  · exact .inl (.inl rfl)
  · exact .inl (.inr (.inl rfl))
  · obtain ⟨k, hk⟩ := List.mem_iff_getElem?.1 hb
    by_cases hki : k = i
    · subst hki
      have h2 : (sd.lines.set k { l with things := l.things ++ [x], g := g' })[k]? = some b := hk
      rw [List.getElem?_set_self hi] at h2
      cases h2
      rcases hx with hx | hx
      · exact .inl (.inr (.inr ⟨l, List.mem_of_getElem? hl, .inl hx⟩))
      · rcases hg with e | ⟨b, e, hb⟩
        · exact .inl (.inr (.inr ⟨l, List.mem_of_getElem? hl, .inr (hx.trans e)⟩))
        · have h5 : some y = some b := hx.trans e
          cases h5; exact .inr hb
    · have h2 : (sd.lines.set i { l with things := l.things ++ [x], g := g' })[k]? = some b := hk
      rw [List.getElem?_set_ne (fun e => hki e.symm)] at h2
      exact .inl (.inr (.inr ⟨b, List.mem_of_getElem? h2, hx⟩))
theorem tcells_eq (xs : List X) : tcells xs = (xs.map Prod.fst).map giv := by simp [tcells, giv]
theorem OT.drop (h : OT w0 w d L f M sd sf Ls m AA ac ag) (hm : m ≤ Ls.length) (i : Nat) (l : LN X) (hl : sd.lines[i]? = some l) (hb : sd.busy = false) :
    Calls Try.prog 17 #[.pointer (some ⟨d, 0, none⟩), .int .i64 (i : Int)] w fun e w' => ∃ A c g', e = .returned (.tuple #[.slice A l.things.length c, .int .i64 0]) ∧
      OT w0 w' d L f M (sd.put i { l with things := [], df := 0 }) sf (Ls ++ [⟨A, l.things.length, c, g', l.things.map Prod.fst⟩]) m AA ac ag := by
  refine (Drop_ok w h.hd hb i l hl).mono ?_
  rintro e w' ⟨A, c, g', rfl, hO, hgn, hat, hq⟩
  have hbd := (h.hd.ring l (List.mem_of_getElem? hl)).bounds
  have h1 := h.step hat hq fun y hy => .inl ((drfoot_put (l' := { l with things := [], df := 0 }) hl rfl rfl y).1 hy)
  rw [tcells_eq] at hO
  have hat_ : ∀ (j : Nat) (r : Rec), (Ls ++ [(⟨A, l.things.length, c, g', l.things.map Prod.fst⟩ : Rec)])[j]? = some r → Ls[j]? = some r ∨ j = Ls.length ∧ r = ⟨A, l.things.length, c, g', l.things.map Prod.fst⟩ := fun j r hr => by
    by_cases hj : j < Ls.length
    · rw [List.getElem?_append_left hj] at hr; exact .inl hr
    · rw [List.getElem?_append_right (by omega)] at hr
      have hj0 : j - Ls.length = 0 := by
        rcases Nat.eq_zero_or_pos (j - Ls.length) with h0 | h0
        · exact h0
        · rw [List.getElem?_eq_none (by simp; omega)] at hr; cases hr
      rw [hj0] at hr
      simp at hr
      exact .inr ⟨by omega, hr.symm⟩
  refine ⟨A, c, g', rfl, h1.hd, h1.hf, h1.off, h1.fd, h1.ff, by rw [List.take_append_of_le_length hm]; exact h1.row, h1.agn, fun j r hr => ?_, fun j j' r r' b hr hr' hb hb' => ?_, h1.fr⟩
  · rcases hat_ j r hr with h2 | ⟨-, rfl⟩
    · exact h1.ow j r h2
    · exact ⟨hO, by show l.things.length ≤ 65536; omega, fun b hb => Nat.le_trans h.fr.size (hgn b hb)⟩
  · rcases hat_ j r hr with h2 | ⟨rfl, rfl⟩
    · rcases hat_ j' r' hr' with h3 | ⟨rfl, rfl⟩
      · exact h1.hgd j j' r r' b h2 h3 hb hb'
      · have := (h.ow j r h2).1.lt b hb; have := hgn b hb'; omega
    · rcases hat_ j' r' hr' with h3 | ⟨rfl, rfl⟩
      · have := (h.ow j' r' h3).1.lt b hb'; have := hgn b hb; omega
      · rfl
/-- One slice more is put into the row. -/
theorem OT.push {A2 : Option Addr} {c2 : Nat} {g2 : Option Nat} {wa w2 : World} {r : Rec} (h : OT w0 w d L f M sd sf Ls m AA ac ag) (hr : Ls[m]? = some r) (ha : Fr (fun _ => False) w wa)
    (hO : Ow w2 tInts 1 A2 (m + 1) c2 ((Ls.take m).map Rec.slc ++ [.slice r.A r.n r.c]) g2) (hf : Fr (fun k => some k = ag) wa w2) (hg : g2 = ag ∨ ∃ b, g2 = some b ∧ wa.heap.size ≤ b) :
    OT w0 w2 d L f M sd sf Ls (m + 1) A2 c2 g2 := by
  have h1 := h.quiet ha
  refine ⟨h1.hd.fr hf fun x hx e => dr_neO h1.hd h1.row (.inr rfl) x e.symm hx, h1.hf.fr hf fun x hx e => dr_neO h1.hf h1.row (.inr rfl) x e.symm hx, h1.off, h1.fd, h1.ff, ?_, fun b hb => ?_, fun j r hr => ⟨(h1.ow j r hr).1.fr hf fun b hb e => (h1.ow j r hr).1.apart_ty h1.row (by decide) hb e.symm, (h1.ow j r hr).2⟩, h1.hgd, h1.fr.trans (hf.mono fun x _ e => h1.agn x e.symm)⟩
  · rw [take_succ_of hr, List.map_append]; exact hO
  · rcases hg with rfl | ⟨b', rfl, h9⟩
    · exact h1.agn b hb
    · cases hb; exact Nat.le_trans h1.fr.size h9
/-- The slices as functions of their numbers. -/
def recAt (Ls : List Rec) (j : Nat) : Rec := Ls.getD j ⟨none, 0, 0, none, []⟩
theorem recAt_of {Ls : List Rec} {j : Nat} (hj : j < Ls.length) : Ls[j]? = some (recAt Ls j) := by simp [recAt, List.getD, List.getElem?_eq_getElem hj]
theorem OT.fo {N : Nat} (h : OT w0 w d L f M sd sf Ls N AA ac ag) (hN : Ls.length = N) : FO N w w AA ac ag (fun j => (recAt Ls j).A) (fun j => (recAt Ls j).n) (fun j => (recAt Ls j).c) (fun j => (recAt Ls j).g) (fun j => (recAt Ls j).V) := by
  refine ⟨fun j j' b hj hj' hb hb' => h.hgd j j' _ _ b (recAt_of (by omega)) (recAt_of (by omega)) hb hb', ?_, fun j hj => (h.ow j _ (recAt_of (by omega))).1, Fr.refl _ _⟩
  have h1 := h.row
  have e : (Ls.take N).map Rec.slc = rowOf N (fun j => (recAt Ls j).A) (fun j => (recAt Ls j).n) (fun j => (recAt Ls j).c) := by
    apply List.ext_getElem?
    intro j
    by_cases hj : j < N
    · rw [rowOf_at hj, List.getElem?_map, List.getElem?_take_of_lt hj, recAt_of (by omega)]; rfl
    · rw [List.getElem?_eq_none (by simp; omega), List.getElem?_eq_none (by simp [rowOf]; omega)]
  rw [e] at h1; exact h1
end
end Go.Proofs.Ytanfhmebjgmdpaa.Qi
