/-
  Texts merged into one, to keep the claim small: DxE.
-/
import Derived.Test.YtanfhmebjgmdpaaMe34
/-
  DrrScripts: goes: a turn of the round, the document's Next, the round's end.
-/
namespace Go.Proofs.Ytanfhmebjgmdpaa
open Go.RowKit
set_option linter.unusedVariables false
section
variable {X : Type} (cost : X → Int)
/-- The same room, the same number of lines, the same blocks. -/
def Alike (s s' : DS X) : Prop := s'.room = s.room ∧ s'.quantum = s.quantum ∧ s'.lines.length = s.lines.length ∧ ∀ d L x, drfoot d L s' x ↔ drfoot d L s x
theorem Alike.refl (s : DS X) : Alike s s := ⟨rfl, rfl, rfl, fun _ _ _ => Iff.rfl⟩
theorem Alike.trans {a b c : DS X} (h : Alike a b) (k : Alike b c) : Alike a c := ⟨k.1.trans h.1, k.2.1.trans h.2.1, k.2.2.1.trans h.2.2.1, fun d L x => (k.2.2.2 d L x).trans (h.2.2.2 d L x)⟩
theorem Alike.busy (s : DS X) (b : Bool) : Alike s { s with busy := b } := ⟨rfl, rfl, rfl, fun _ _ _ => Iff.rfl⟩
theorem Alike.put {s : DS X} {k : Nat} {l l' : LN X} (hl : s.lines[k]? = some l) (hp : l'.p = l.p) (hg : l'.g = l.g) : Alike s (s.put k l') := ⟨rfl, rfl, DS.put_len _ _ _, fun d L x => drfoot_put hl hp hg x⟩
theorem vstep_alike {s : DS X} {k : Nat} {r : RSt X} (h : vstep cost s k = some r) : Alike s r.s ∧ r.fin = false := by
  unfold vstep at h
  split at h
  · cases h
  · rename_i l hl
    split at h
    · cases h
    · split at h
      · cases h; exact ⟨Alike.put hl rfl rfl, rfl⟩
      · cases h
theorem adv_alike : ∀ (m : Nat) (s : DS X) (k : Nat), Alike s (adv cost m s k).s ∧ ((adv cost m s k).fin = true → (adv cost m s k).s.busy = false)
  | 0, s, k => ⟨Alike.busy s false, fun _ => rfl⟩
  | m + 1, s, k => by
    rw [adv]
    split
    · exact ⟨Alike.busy s false, fun _ => rfl⟩
    · rename_i l hl
      split
      · exact adv_alike m s (k + 1)
      · have hv : Alike s (visit s k l) := Alike.put hl rfl rfl
        split
        · rename_i r hr
          have := vstep_alike cost hr
          exact ⟨hv.trans this.1, fun e => by rw [this.2] at e; cases e⟩
        · have := adv_alike m (visit s k l) (k + 1)
          exact ⟨hv.trans this.1, this.2⟩
theorem go_alike (r : RSt X) : Alike r.s (r.go cost).s ∧ ((r.go cost).fin = true → (r.go cost).s.busy = false) := by
  unfold RSt.go
  split
  · unfold goOn
    split
    · rename_i r' hr
      have := vstep_alike cost hr
      exact ⟨this.1, fun e => by rw [this.2] at e; cases e⟩
    · exact adv_alike cost _ _ _
  · have := adv_alike cost (r.s.lines.length - r.k) { r.s with busy := true } r.k
    exact ⟨(Alike.busy r.s true).trans this.1, this.2⟩
end
namespace Qi
section
variable {w0 W W' : World} {s nb d L : Nat} {D : Int} {q : Nat} {b : DB} {F F1 : Nat → Prop} {op : Array Value} {r r' : RSt (Int × Int)}
/-- The program's own turn. -/
theorem GJ.turn (hD : 0 ≤ D) (hD2 : D + 2048 ≤ 4611686018427387904) (h : GJ w0 s nb d L D q b F F1 op r W) (hap : ∀ x, F1 x → ¬ F x) (ht : TnY (nb + 1) d L (D + 1024) r W r' W') (B : Nat) : GJ w0 s nb d L D q b F F1 op r' W' ∧ KeepsFrom B W W' := by
  obtain ⟨hp, hf, rfl, hrh, hfr⟩ := ht
  have hok := h.rh.at_.ok
  have hlo := go_low hD hok.q2 hok.co h.low
  have hfr1 : Fr F1 W W' := hfr.mono fun x _ e => h.ft x e
  obtain ⟨rd, r0, hd⟩ := h.docs
  obtain ⟨nv, h7⟩ := h.b7
  have hr0 : r = r0 := by
    rcases hd.e with e | ⟨-, e | e⟩
    · exact e
    · exact absurd hp e
    · rw [hf] at e; cases e
  subst hr0
  have hne : ∀ x, s ≤ x → ¬ F1 x := fun x hx e => by have := h.l1 x e; omega
  have hnb := h.nbs
  refine ⟨⟨hrh, hlo.1, ⟨rd, r, hd.at_.fr hfr1 (fun x hx e => hap x e (hd.ft x hx)), hd.ft, hd.p0, hd.f0, .inr ⟨rfl, hlo.2.imp (fun h => h.1) (fun h => h.2.1)⟩, hd.like, hd.a, hd.v, hd.kn, hd.vn, hd.fine⟩, h.b3.fr hfr1 (hne _ (by omega)), h.b4.fr hfr1 (hne _ (by omega)), h.b5.fr hfr1 (hne _ (by omega)), h.b6.fr hfr1 (hne _ (by omega)), ⟨nv, h7.fr hfr1 (hne _ (by omega))⟩,
    h.fr.trans (hfr1.mono fun x _ e => .inl e), fun x hx => h.ft x (((go_alike xc r).1.2.2.2 d L x).1 hx), h.l1, h.l2, h.sz, h.nbs⟩, go_foot h.rh hfr⟩
/-- The document's Next, where the program has served. -/
theorem GJ.served (h : GJ w0 s nb d L D q b F F1 op r W) {k : Nat} {y : Int × Int} (hp : r.pend = some (k, y)) (hf : r.fin = false) :
    Calls Try.prog 72 #[.pointer (some ⟨q, 0, none⟩)] W fun e W' => e = .returned (.tuple #[.int .i64 (k : Int), .int .i64 y.1, .bool true]) ∧ ∃ rd, DAt W' q b rd ∧ (∀ x, dfoot q b rd x → F x) ∧ Like r.s rd ∧ rd.at_ = (k : Int) ∧ rd.vis = true ∧ r.k = k ∧ k < rd.lines.length ∧ Fr F W W' := by
  obtain ⟨rd, r0, hd⟩ := h.docs
  have hr : r = r0.go xc := by
    rcases hd.e with e | ⟨e, -⟩
    · rw [e, hd.p0] at hp; cases hp
    · exact e
  have hal := (go_alike xc r0).1
  have hn0 : 0 < rd.lines.length := by
    have h1 := h.rh.at_.ok.n1
    have h2 := hal.2.2.1
    rw [← hr] at h2
    rw [← hd.like.len]; omega
  have hlike := go_like hd.like hd.v
  rw [← hr] at hlike
  refine (Next_any W hd.at_ hd.fine r0.k hd.a hd.kn (fun e => hd.vn (hd.v ▸ e)) hn0).mono ?_
  rintro e W' ⟨rd', hD', hq, hrm, hlines, hfr, hft, hcase⟩
  have hL : Like r.s rd' := by
    refine ⟨?_, ?_, ?_⟩
    · rw [hq]
      have h1 := hal.2.1
      rw [← hr] at h1
      rw [h1]; exact hd.like.quantum
    · rw [hrm]
      have h1 := hal.1
      rw [← hr] at h1
      rw [h1]; exact hd.like.room
    · rw [hlike.s.l, hlines, List.map_map]; rfl
  rcases hcase with ⟨x, h1, h2, h3, rfl, h5, h6, h7⟩ | ⟨h1, -⟩
  · rw [← hlike.pend, hp] at h1
    have h8 := Option.some.inj h1
    have hk : k = (Gs (toDS rd) r0.k rd.vis).k := congrArg Prod.fst h8
    have hx : y = x := congrArg Prod.snd h8
    subst hx
    rw [← hk] at h5 h7 ⊢
    have hlen : rd'.lines.length = rd.lines.length := by
      rw [← hL.len, ← hd.like.len, hr]; exact hal.2.2.1
    exact ⟨rfl, rd', hD', fun z hz => hd.ft z (hft z hz), hL, h5, h6, by rw [hlike.k]; exact hk.symm, by rw [hlen]; exact h7, hfr.mono fun z _ e => hd.ft z e⟩
  · rw [← hlike.pend, hp] at h1; cases h1
/-- The document's Next, where the program's round is over. -/
theorem GJ.over (h : GJ w0 s nb d L D q b F F1 op r W) (hp : r.fin = true) :
    Calls Try.prog 72 #[.pointer (some ⟨q, 0, none⟩)] W fun e W' => e = .returned (.tuple #[.int .i64 0, .int .i64 0, .bool false]) ∧ ∃ rd, DAt W' q b rd ∧ (∀ x, dfoot q b rd x → F x) ∧ Like r.s rd ∧ Fr F W W' := by
  obtain ⟨rd, r0, hd⟩ := h.docs
  have hr : r = r0.go xc := by
    rcases hd.e with e | ⟨e, -⟩
    · rw [e, hd.f0] at hp; cases hp
    · exact e
  have hal := (go_alike xc r0).1
  have hn0 : 0 < rd.lines.length := by
    have h1 := h.rh.at_.ok.n1
    have h2 := hal.2.2.1
    rw [← hr] at h2
    rw [← hd.like.len]; omega
  have hlike := go_like hd.like hd.v
  rw [← hr] at hlike
  refine (Next_any W hd.at_ hd.fine r0.k hd.a hd.kn (fun e => hd.vn (hd.v ▸ e)) hn0).mono ?_
  rintro e W' ⟨rd', hD', hq, hrm, hlines, hfr, hft, hcase⟩
  have hL : Like r.s rd' := by
    refine ⟨?_, ?_, ?_⟩
    · rw [hq]
      have h1 := hal.2.1
      rw [← hr] at h1
      rw [h1]; exact hd.like.quantum
    · rw [hrm]
      have h1 := hal.1
      rw [← hr] at h1
      rw [h1]; exact hd.like.room
    · rw [hlike.s.l, hlines, List.map_map]; rfl
  rcases hcase with ⟨x, h1, h2, -⟩ | ⟨h1, h2, rfl, -⟩
  · rw [← hlike.fin, hp] at h2; cases h2
  · exact ⟨rfl, rd', hD', fun z hz => hd.ft z (hft z hz), hL, hfr.mono fun z _ e => hd.ft z e⟩
theorem room_of {D : Int} (h : DrrAt W d L D r.s) : r.s.room ≤ 65536 := by
  have hn := h.ok.n1
  obtain ⟨l, hl⟩ : ∃ l, r.s.lines[0]? = some l := ⟨_, List.getElem?_eq_getElem (by omega)⟩
  exact (h.ring l (List.mem_of_getElem? hl)).bounds.2.1
/-- Behind a round that was left: the iterator's own end. -/
theorem GX.turn (hD2 : D + 2048 ≤ 4611686018427387904) (h : GX w0 s nb d L D q b F F1 r W) (hap : ∀ x, F1 x → ¬ F x) (hnb : s + 4 ≤ nb) (ht : LTY (nb + 1) d L (D + 1024) r W r' W') (B : Nat) : GX w0 s nb d L D q b F F1 r' W' ∧ KeepsFrom B W W' := by
  obtain ⟨rfl, hat, hfr⟩ := ht
  have hfr1 : Fr F1 W W' := hfr.mono fun x _ e => h.ft x e
  obtain ⟨rd, hd, hft, hl, ha⟩ := h.docs
  have hne : ∀ x, s ≤ x → ¬ F1 x := fun x hx e => by have := h.l1 x e; omega
  exact ⟨⟨⟨hat, h.rh.box.fr hfr1 (hne _ (by omega)), ⟨fun j l hlj _ => h.all l (List.mem_of_getElem? hlj)⟩, fun e => by cases e⟩, h.all, ⟨rd, hd.fr hfr1 (fun x hx e => hap x e (hft x hx)), hft, ⟨hl.quantum, hl.room, hl.lines⟩, ha⟩, h.b6.fr hfr1 (hne _ (by omega)), fun _ => rfl,
    h.fr.trans (hfr1.mono fun x _ e => .inl e), h.ft, h.l1, h.l2, h.sz⟩, go_foot h.rh hfr⟩
end
end Qi
end Go.Proofs.Ytanfhmebjgmdpaa
