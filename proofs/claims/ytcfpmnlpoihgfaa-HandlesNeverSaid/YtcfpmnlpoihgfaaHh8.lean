/-
  handles.Table[int]: Free of a good handle.
-/
import Derived.Test.YtcfpmnlpoihgfaaHh7
namespace Go.Proofs.Ytcfpmnlpoihgfaa
open Go.RowKit
set_option linter.unusedVariables false
set_option linter.unusedSimpArgs false
def FreePost (w : World) (p room : Nat) (F : Nat → Prop) (s : TS) (at_ : Nat) (th : Int) (tu : Nat) (e : Ending) (w' : World) : Prop :=
  ∃ ys, e = .returned (.tuple #[.int .i64 th, .int .i64 0]) ∧ Freed s at_ tu ys ∧ TOut w p room F (s.fre at_ tu ys) w'
theorem freed_bl {w : World} {p room : Nat} {CA : Option Addr} {cc : Nat} {gc : Option Nat} {FA : Option Addr} {fc : Nat} {gf : Option Nat} {s : TS} {cb : Nat} (h : TAt w p room CA cc gc FA fc gf s) (hcp : ¬ p = cb) (a b : Nat) (u v : Value) (n : Int) :
    Bl (((w.setCell ⟨cb, a, none⟩ u).setCell ⟨cb, b, none⟩ v).setCell ⟨p, 3, none⟩ (.int .i64 n)) p tTab #[.int .i64 (s.most : Int), .slice CA room cc, .slice FA s.free.length fc, .int .i64 n, .int .i64 (s.left : Int)] := by
  have := ((h.bl.far (p := ⟨cb, a, none⟩) hcp u).far (p := ⟨cb, b, none⟩) hcp v).set 3 (.int .i64 n)
  simpa using this
theorem freed_ow {w : World} {p room : Nat} {cc cb co : Nat} {FA : Option Addr} {fc : Nat} {gf : Option Nat} {s : TS} (h : TAt w p room (some ⟨cb, co, none⟩) cc (some cb) FA fc gf s) (hcp : ¬ p = cb) {at_ : Nat} (hat : at_ < room) {th : Int} {tu : Nat} (hc : s.cells[at_]? = some (th, tu, true)) (n : Int) :
    Ow (((w.setCell ⟨cb, co + at_ * 3, none⟩ (.int .i64 0)).setCell ⟨cb, co + at_ * 3 + 2, none⟩ (.bool false)).setCell ⟨p, 3, none⟩ (.int .i64 n)) tCel 3 (some ⟨cb, co, none⟩) room cc (tcells (s.cells.set at_ (0, tu, false))) (some cb) := by
  have h1 := (h.ow.put (j := at_ * 3) (by omega) (.int .i64 0)).put (j := at_ * 3 + 2) (by omega) (.bool false)
  rw [← Nat.add_assoc] at h1
  rw [tcells_put _ _ hc]
  exact h1.fr (S := fun k => k = p) ((Fr.refl _ _).setAt _) (fun b hb e => by cases hb; exact hcp e.symm)
theorem freed_fr {w : World} {p : Nat} {cb : Nat} (a b : Nat) (u v x : Value) (gf : Option Nat) :
    Fr (tfoot p (some cb) gf) w (((w.setCell ⟨cb, a, none⟩ u).setCell ⟨cb, b, none⟩ v).setCell ⟨p, 3, none⟩ x) :=
  (((Fr.refl _ _).setIn (.inl (.inr (.inl rfl))) _).setIn (.inl (.inr (.inl rfl))) _).setIn (.inl (.inl rfl)) _
theorem freed_pc {w : World} {p : Nat} {cb : Nat} (a b : Nat) (u v x : Value) :
    Fr (fun k => k = p ∨ k = cb) w (((w.setCell ⟨cb, a, none⟩ u).setCell ⟨cb, b, none⟩ v).setCell ⟨p, 3, none⟩ x) :=
  (((Fr.refl _ _).setIn (.inl (.inr rfl)) _).setIn (.inl (.inr rfl)) _).setIn (.inl (.inl rfl)) _
set_option maxHeartbeats 2000000 in
set_option maxRecDepth 8000 in
theorem free_ok {w : World} {p room : Nat} {F : Nat → Prop} {s : TS} (ht : TI w p room F s) (h : Int) (hh : h ≤ 9223372036854775807) (hl : 1 ≤ s.len) {at_ : Nat} {th : Int} {tu : Nat} (hg : s.goodAt h = some (at_, th, tu)) :
    Calls Try.prog 13 #[.pointer (some ⟨p, 0, none⟩), .int .i64 h] w (FreePost w p room F s at_ th tu) := by
  obtain ⟨CA, cc, gc, FA, fc, gf, ht, rfl⟩ := ht
  obtain ⟨e1, e2, e3, hc⟩ := goodAt_is hg
  obtain ⟨cb, co, rfl, rfl⟩ := ht.addr hc
  have hb := hide (good_ok ht h hh hg rfl)
  have hp : ∀ W : World, Calls Try.prog 12 #[.int .i64 h] W fun e w' => e = .returned (.tuple #[.int .i64 (at_ : Int), .int .i64 (tu : Int)]) ∧ W = w' := fun W => by
    have := parts_any W h hh; rw [e1, e2] at this; exact this
  have Hp := hide hp
  obtain ⟨t0, t1, t2⟩ := tcells_at s.cells at_ _ hc
  obtain ⟨b', o', e4, -, k0, z0⟩ := ht.ow.look t0
  cases e4
  obtain ⟨b', o', e4, -, k1, z1⟩ := ht.ow.look t1
  cases e4
  obtain ⟨b', o', e4, -, k2, z2⟩ := ht.ow.look t2
  cases e4
  rw [← Nat.add_assoc] at k1 z1 k2 z2
  have H := hide ht
  have Hc := hide hc
  have hat : at_ < room := by rw [← ht.ok.len]; exact (List.getElem?_eq_some_iff.1 hc).1
  have hpc : ¬ p = cb := fun e => ht.npc (by rw [e])
  have hcp : ¬ cb = p := fun e => hpc e.symm
  have p0 : w.cell? ⟨p, 0, none⟩ = some (.int .i64 (s.most : Int)) := ht.bl.cell' rfl
  have p3 : w.cell? ⟨p, 3, none⟩ = some (.int .i64 (s.len : Int)) := ht.bl.cell' rfl
  have f3 := ht.bl.free 3
  have hl1 := ht.ok.l1
  have htm := ht.ok.turn (th, tu, true) (List.mem_of_getElem? hc)
  have Htm := hide htm
  have q1 : IntKind.i64.wrap ((s.len : Int) - 1) = ((s.len - 1 : Nat) : Int) := by rw [IntWalk.i64_in _ (by omega)]; omega
  clear ht hg hc t0 t1 t2 e1 e2 htm hl1 hp
  by_cases hlt : tu < s.most
  · have i0 : ((tu : Int) < (s.most : Int)) := by omega
    have Hlt := hide hlt
    clear hlt
    go_enter Try.func13, Try.ntmps13
    go_wp2_with fail
    refine hb.out.mono ?_
    rintro e w' ⟨rfl, rfl⟩
    go_wp2_with fail
    go_region
    go_wp2_with fail
    refine (Hp.out _).mono ?_
    rintro e w2 ⟨rfl, hw⟩
    have hbl2 : Bl w2 p tTab #[.int .i64 (s.most : Int), .slice (some ⟨cb, co, none⟩) room cc, .slice FA s.free.length fc, .int .i64 ((s.len - 1 : Nat) : Int), .int .i64 (s.left : Int)] := by
      rw [← hw]; exact freed_bl H.out hpc _ _ _ _ _
    have how2 : Ow w2 tCel 3 (some ⟨cb, co, none⟩) room cc (tcells (s.cells.set at_ (0, tu, false))) (some cb) := by
      rw [← hw]; exact freed_ow H.out hpc hat Hc.out _
    have hF2 : Fr (tfoot p (some cb) gf) w w2 := by
      rw [← hw]; exact (freed_fr _ _ _ _ _ _).drew
    have hfr2 : Ow w2 3 1 FA s.free.length fc (s.free.map ix) gf := by
      have : Fr (fun k => k = p ∨ k = cb) w w2 := by rw [← hw]; exact (freed_pc _ _ _ _ _).drew
      exact H.out.fr.fr this (fun b hbb e => by
        rcases e with e | e
        · exact H.out.npf (by rw [hbb, e])
        · exact H.out.ncf rfl (by rw [hbb, e]))
    have hat2 : FAt w2 p FA s.free.length fc gf s.free := ⟨hbl2.cell' rfl, hbl2.free 2, hfr2, H.out.npf⟩
    have hroom := (free_room H.out.ok Hc.out).2
    rw [List.length_append, List.length_singleton] at hroom
    have hr1 := H.out.ok.r1
    have hpush := push_any hbl2 (by simp) hat2 (by omega) H.out.ok.heap at_
    have Hpush := hide hpush
    have Hbl2 := hide hbl2
    have How2 := hide how2
    have HF2 := hide hF2
    clear hpush hbl2 how2 hF2 hfr2 hat2 hw hroom hr1 k0 k1 k2 z0 z1 z2 p0 p3 f3
    go_wp2_with fail
    refine Hpush.out.mono ?_
    rintro e w3 ⟨A2, c2, g2, ys, w4, rfl, hP⟩
    have HP := hide hP
    clear hP
    go_wp2_with fail
    go_ret2
    have hlen : ys.length = s.free.length + 1 := HP.out.at_.len
    have hfd : Freed s at_ tu ys := .inl ⟨Hlt.out, HP.out.perm, HP.out.heap⟩
    have hgp : ¬ g2 = some p := HP.out.at_.off
    have hb3 : Bl w3 p tTab #[.int .i64 (s.most : Int), .slice (some ⟨cb, co, none⟩) room cc, .slice A2 ys.length c2, .int .i64 ((s.len - 1 : Nat) : Int), .int .i64 (s.left : Int)] := by
      have h1 := ((Hbl2.out.fr HP.out.fr H.out.npf).set 2 (.slice A2 (s.free.length + 1) c2)).fr HP.out.fr2 hgp
      rw [hlen]; simpa using h1
    have hgc : ¬ g2 = some cb := fun e => by
      rcases HP.out.new with e2 | ⟨b, e2, hb⟩
      · exact H.out.ncf rfl (by rw [← e2, e])
      · rw [e] at e2; cases e2
        have := How2.out.lt cb rfl
        omega
    have ho3 : Ow w3 tCel 3 (some ⟨cb, co, none⟩) room cc (tcells (s.cells.set at_ (0, tu, false))) (some cb) := by
      have h1 := How2.out.fr HP.out.fr (fun b hb e => by cases hb; exact H.out.ncf rfl e)
      have h2 := h1.fr (S := fun k => k = p) ((Fr.refl _ w4).setAt (i := 2) (.slice A2 (s.free.length + 1) c2)) (fun b hb e => by cases hb; exact hcp e)
      exact h2.fr HP.out.fr2 (fun b hb e => by cases hb; exact hgc e)
    have hF4 : Fr (tfoot p (some cb) gf) w w4 := HF2.out.trans (HP.out.fr.mono fun k _ e => (.inr (.inr e) : tfoot p (some cb) gf k))
    have hsz := HF2.out.size
    have hF5 : Fr (tfoot p (some cb) gf) w w3 := by
      refine Fr.comp (hF4.setIn (p := p) (i := 2) (.inl (.inl rfl)) _) HP.out.fr2 (fun i hi e => ?_)
      rcases HP.out.new with e2 | ⟨b, e2, hb⟩
      · exact .inr (.inr (by rw [← e2]; exact e))
      · rw [e2] at e; cases e; omega
    refine ⟨ys, rfl, hfd, tfoot p (some cb) g2, ⟨some ⟨cb, co, none⟩, cc, some cb, A2, c2, g2, ⟨hb3, ho3, ?_, fre_okk H.out.ok Hc.out hfd⟩, rfl⟩, hF5, fun k hk e => ?_⟩
    · show Ow _ _ _ _ ys.length _ _ _
      rw [hlen]; exact HP.out.at_.ow
    · rcases e with e | e | e
      · exact .inl e
      · exact .inr (.inl e)
      · rcases HP.out.new with e2 | ⟨b, e2, hb⟩
        · exact .inr (.inr (by rw [← e2]; exact e))
        · rw [e2] at e; cases e; omega
  · have i0 : ¬ ((tu : Int) < (s.most : Int)) := by omega
    have Hlt := hide hlt
    clear hlt
    go_enter Try.func13, Try.ntmps13
    go_wp2_with fail
    refine hb.out.mono ?_
    rintro e w' ⟨rfl, rfl⟩
    go_wp2_with fail
    go_region
    go_wp2_with fail
    go_ret2
    have hfd : Freed s at_ tu s.free := .inr ⟨by have h1 : tu ≤ s.most := Htm.out; have h2 := Hlt.out; omega, rfl⟩
    refine ⟨s.free, rfl, hfd, tfoot p (some cb) gf, ⟨some ⟨cb, co, none⟩, cc, some cb, FA, fc, gf, ⟨freed_bl H.out hpc _ _ _ _ _, freed_ow H.out hpc hat Hc.out _, ?_, fre_okk H.out.ok Hc.out hfd⟩, rfl⟩, (freed_fr _ _ _ _ _ _).drew, fun _ _ h => h⟩
    exact H.out.fr.fr (freed_pc _ _ _ _ _).drew (fun b hbb e => by
        rcases e with e | e
        · exact H.out.npf (by rw [hbb, e])
        · exact H.out.ncf rfl (by rw [hbb, e]))
end Go.Proofs.Ytcfpmnlpoihgfaa
