/-
  Texts merged into one, to keep the claim small: Pd6, Pd8, Pd9.
-/
import Derived.Test.YtlcjhbemgagchaaMc17
import Derived.Deep.CutBlock
import Derived.Test.YtlcjhbemgagchaaMc14
import Derived.Test.YtlcjhbemgagchaaMc3
section
/-
  proto: a record read as an entry.
-/
namespace Go.Proofs.Ytlcjhbemgagchaa
open Go.RowKit
set_option linter.unusedVariables false
set_option linter.unusedSimpArgs false
/-- The types of what a reader stands on. -/
def Rt (t : TypeId) : Prop := t = 197 ∨ t = 189 ∨ t = 192 ∨ t = 5
def Plain (t : TypeId) : Prop := ¬ Turns2 t ∧ ¬ Rt t
theorem TR.frt {w w' : World} {pf b : Nat} {r : TRd} {d : RD} {S : Nat → Prop} (h : TR w pf b r d) (hf : Fr S w w') (hS : ∀ x t, Typed w x t → Rt t → ¬ S x) : TR w' pf b r d :=
  ⟨h.bl.fr hf (hS _ _ h.bl.typed (.inl rfl)), h.ls.fr hf (fun b e => hS _ _ (h.ls.typed b e) (.inr (.inl rfl))), h.eq, fun i hi => (h.at_ i hi).fr hf (hS _ _ (h.at_ i hi).bl.typed (.inr (.inr (.inl rfl)))) (hS _ _ (h.buf (by omega)) (.inr (.inr (.inr rfl)))), h.ord, fun h0 => (h.buf h0).fr hf (hS _ _ (h.buf h0) (.inr (.inr (.inr rfl)))), h.ok⟩
/-- A block of another type turns. -/
theorem RC.other {w w' : World} {pf pb b : Nat} {r : TRd} {d : RD} {f : RF} {bad : Bool} (h : RC w pf pb b r d f bad) {g : Nat} {t : TypeId} (hg : Typed w g t) (ht : Plain t) (hf : Fr (fun x => x = g) w w') : RC w' pf pb b r d f bad := by
  have hn : ¬ rturn pf pb r g := h.not hg ht.1
  refine ⟨h.tr.frt hf fun x t' h1 h2 e => ?_, h.flt.fr hf fun e => hn (.inl e.symm), h.bd.fr hf fun e => hn (.inr (.inl e.symm))⟩
  subst e
  exact ht.2 (h1.same hg ▸ h2)
/-- A call's own reader, in a box; what was asked of it; other blocks. -/
structure Me (X : List (Nat × TypeId × Array Value)) (W w : World) (B pf pb b : Nat) (r : TRd) (d : RD) (T : List (RF × Int)) (f : RF) (bad : Bool) : Prop where
  xs : ∀ x ∈ X, Bl w x.1 x.2.1 x.2.2 ∧ ¬ Turns2 x.2.1 ∧ W.heap.size ≤ x.1
  rc : RC w pf pb b r (takes d T) f bad
  bx : Bl w B tRdr #[.pointer (some ⟨r.p, 0, none⟩), .pointer (some ⟨pb, 0, none⟩)]
  fr : Fr (rturn pf pb r) W w
section
variable {X : List (Nat × TypeId × Array Value)} {W w w' : World} {B pf pb b : Nat} {r : TRd} {d : RD} {T : List (RF × Int)} {f : RF} {bad : Bool}
theorem Me.quiet (h : Me X W w B pf pb b r d T f bad) (hf : Fr (fun _ => False) w w') : Me X W w' B pf pb b r d T f bad := ⟨fun x hx => ⟨(h.xs x hx).1.fr hf id, (h.xs x hx).2⟩, h.rc.quiet hf, h.bx.fr hf id, h.fr.trans (hf.weak _)⟩
theorem Me.hd {x : Nat} {t : TypeId} {cs : Array Value} (h : Me ((x, t, cs) :: X) W w B pf pb b r d T f bad) : Bl w x t cs := (h.xs _ (List.mem_cons_self ..)).1
theorem Me.hdle {x : Nat} {t : TypeId} {cs : Array Value} (h : Me ((x, t, cs) :: X) W w B pf pb b r d T f bad) : W.heap.size ≤ x := (h.xs _ (List.mem_cons_self ..)).2.2
theorem Me.push (h : Me X W w B pf pb b r d T f bad) (t : TypeId) (cs : Array Value) (ht : ¬ Turns2 t) : Me ((w.heap.size, t, cs) :: X) W (w.alloc (.cells cs t)) B pf pb b r d T f bad := by
  have h1 := h.quiet ((Fr.refl (fun _ => False) w).alloc (.cells cs t))
  refine ⟨fun x hx => ?_, h1.rc, h1.bx, h1.fr⟩
  rcases List.mem_cons.1 hx with rfl | hx
  · exact ⟨Bl.new w t cs, ht, h.fr.size⟩
  · exact h1.xs x hx
theorem Me.drop_ (h : Me X W w B pf pb b r d T f bad) : Me [] W w B pf pb b r d T f bad := ⟨(fun x hx => by cases hx), h.rc, h.bx, h.fr⟩
theorem Me.pushAt (h : Me X W w B pf pb b r d T f bad) (t : TypeId) (cs : Array Value) (ht : ¬ Turns2 t) (g : Nat) (hg : g = w.heap.size) : Me ((g, t, cs) :: X) W (w.alloc (.cells cs t)) B pf pb b r d T f bad := by subst hg; exact h.push t cs ht
/-- Another block is written. -/
theorem Me.set (h : Me [] W w B pf pb b r d T f bad) {g : Nat} {t : TypeId} {cs : Array Value} (hb : Bl w g t cs) (ht : Plain t) (hB : t ≠ tRdr) (hg : W.heap.size ≤ g) (new : Array Value) : Me [] W (w.setRow g new) B pf pb b r d T f bad := by
  have hf : Fr (fun x => x = g) w (w.setRow g new) := Fr.row new
  exact ⟨(fun x hx => by cases hx), h.rc.other hb.typed ht hf, h.bx.fr hf fun e => by subst e; exact hB (hb.typed.same h.bx.typed), h.fr.setRow (.inr hg) new⟩
theorem Me.step (h : Me X W w B pf pb b r d T f bad) {T' : List (RF × Int)} {f' : RF} {bad' : Bool} (hrc : RC w' pf pb b r (takes d T') f' bad') (hf : Fr (rturn pf pb r) w w') : Me X W w' B pf pb b r d T' f' bad' :=
  ⟨fun x hx => ⟨(h.xs x hx).1.fr hf (h.rc.not (h.xs x hx).1.typed (h.xs x hx).2.1), (h.xs x hx).2⟩, hrc, h.bx.fr hf (h.rc.not h.bx.typed (by unfold Turns2 Turns; decide)), h.fr.trans hf⟩
theorem Me.int (h : Me X W w B pf pb b r d T f bad) (t : Int) :
    Calls Try.prog 91 #[rdv r pb, .int .i64 t] w fun e w' => ∃ (n : Nat) (f' : RF), e = .returned (.int .i64 (n : Int)) ∧ Hid (numberS d f t 1125899906842624 = (n, f')) ∧ Me X W w' B pf pb b r d (T ++ [(f, t)]) f' bad := by
  refine (rint_any w h.rc t).mono ?_
  rintro e w' ⟨n, f', rfl, hn, hrc, hf⟩
  rw [num_takes] at hn
  rw [← takes_snoc] at hrc
  exact ⟨n, f', rfl, hn, h.step hrc hf⟩
theorem Me.all (h : Me X W w B pf pb b r d T f bad) (t : Int) :
    Calls Try.prog 93 #[rdv r pb, .int .i64 t] w fun e w' => ∃ (n : Nat) (f' : RF), e = .returned (.int .u64 (n : Int)) ∧ Hid (numberS d f t 18446744073709551615 = (n, f')) ∧ Me X W w' B pf pb b r d (T ++ [(f, t)]) f' bad := by
  refine (rall_any w h.rc t).mono ?_
  rintro e w' ⟨n, f', rfl, hn, hrc, hf⟩
  rw [num_takes] at hn
  rw [← takes_snoc] at hrc
  exact ⟨n, f', rfl, hn, h.step hrc hf⟩
theorem Me.ints (h : Me X W w B pf pb b r d T f bad) (t most : Int) :
    Calls Try.prog 94 #[rdv r pb, .int .i64 t, .int .i64 most] w fun e w' => ∃ (ws : List Int) (b1 : Bool) (f' : RF) (A : Option Addr) (n c : Nat) (g : Option Nat), e = .returned (.slice A n c) ∧ Hid ((itS d f t most).2.2 = f' ∧ IntsR (itVals d (itS d f t most)) bad ws b1) ∧
      n ≤ 1048576 ∧ Hid (Ow w' 3 1 A n c (ws.map iv) g ∧ ∀ x, g = some x → w.heap.size ≤ x) ∧ Me X W w' B pf pb b r d (T ++ [(f, t)]) f' b1 := by
  refine (rints_any w h.rc t most).mono ?_
  rintro e w' ⟨ws, b1, f', A, n, c, g, rfl, hn, hle, hO, hg, hrc, hf⟩
  rw [it_takes, itVals_takes] at hn
  rw [← takes_snoc] at hrc
  exact ⟨ws, b1, f', A, n, c, g, rfl, hn, hle, ⟨hO, hg⟩, h.step hrc hf⟩
theorem Me.done (h : Me X W w B pf pb b r d T f bad) :
    Calls Try.prog 98 #[rdv r pb] w fun e w' => ∃ (f' : RF), e = .returned (.tuple #[]) ∧ Hid (endS (takes d T) f = f') ∧ Me X W w' B pf pb b r d T f' (bad || decide (f'.e ≠ 0)) ∧ Fr (rturn pf pb r) w w' := by
  refine (rdone_any w h.rc).mono ?_
  rintro e w' ⟨f', rfl, hn, hrc, hf⟩
  exact ⟨f', rfl, hn, h.step hrc hf, hf⟩
end
theorem run_storeAt_at {P : Program} (ty : TypeId) (g off : Nat) (t : TypeId) (old new cells : Array Value) (hi : (P.info? ty).map (·.size) = some cells.size) (n k : Nat) (hn : old.size = n) (hk : cells.size = k) (hnk : off + k ≤ n) (h1 : cells.toList.all (·.oneCell') = true) (hnew : old.toList.take off ++ (cells.toList ++ old.toList.drop (off + cells.size)) = new.toList)
    {w : World} (hb : Bl w g t old) : (Instr.storeAt ty (.pointer (some ⟨g, off, none⟩)) (.agg cells)).run P w = .ok () (w.setRow g new) := by
  have hold : off + cells.size ≤ old.size := by rw [hn, hk]; exact hnk
  have hnew' : putAt old off cells.toList = new := by
    have := putAt_list cells.toList off old (by simpa using hold)
    rw [Array.length_toList, hnew] at this
    exact Array.toList_inj.1 this
  simp only [Instr.storeAt, Instr.sureAddr, Sem.run_bind, Sem.run_pure, Result.andThen_ok, run_storeVar_at w g off t ty old cells hb hi hold h1, hnew']
section
variable {pf pb b : Nat} {r : TRd} {d : RD} {f : RF} {bad : Bool}
def keepB (w : World) (B : Nat) (r : TRd) (pb : Nat) : Prop := Bl w B tRdr #[.pointer (some ⟨r.p, 0, none⟩), .pointer (some ⟨pb, 0, none⟩)]
theorem keepB.load {w : World} {B : Nat} (h : keepB w B r pb) : (Instr.loadAt tRdr (.pointer (some ⟨B, 0, none⟩))).run Try.prog w = .ok (rdv r pb) w :=
  run_loadAt_at tRdr B 0 tRdr _ #[.pointer (some ⟨r.p, 0, none⟩), .pointer (some ⟨pb, 0, none⟩)] _ Try.underlying150 rfl (by kernel_rfl) rfl h
abbrev ent0 : Array Value := #[.int .i64 0, .int .i64 0, .int .u64 0, .int .u64 0, .slice none 0 0]
set_option maxHeartbeats 4000000 in
set_option maxRecDepth 8000 in
attribute [-go_sem] Go.Instr.loadAt Go.Instr.storeAt in
theorem rentry_r (w : World) (h : RC w pf pb b r d f bad) :
    Calls Try.prog 130 #[rdv r pb] w fun e w' => ∃ (q : ER) (f' : RF) (b' : Bool) (g : Option Nat), e = .returned (.agg #[.int .i64 q.acc, .int .i64 q.item, .int .u64 (q.co : Int), .int .u64 (q.pr : Int), .slice q.A q.n q.c]) ∧ Hid (EntR d f bad q f' b') ∧ q.n ≤ 1048576 ∧
      Hid (Ow w' 3 1 q.A q.n q.c (q.ws.map iv) g ∧ (∀ x, g = some x → w.heap.size ≤ x)) ∧ Hid (Flt w' tFau pf f' ∧ Bl w' pb tBool #[.bool b'] ∧ Fr (rturn pf pb r) w w') := by
  obtain ⟨w0, hw0⟩ : ∃ w0, (w.alloc (.cells #[.pointer (some ⟨r.p, 0, none⟩), .pointer (some ⟨pb, 0, none⟩)] tRdr)).alloc (.cells #[.int .i64 0, .int .i64 0, .int .u64 0, .int .u64 0, .slice none 0 0] tEnt) = w0 := ⟨_, rfl⟩
  have hF0 : Fr (fun _ => False) w w0 := by rw [← hw0]; (repeat (first | with_reducible exact Fr.refl _ _ | with_reducible assumption | with_reducible refine Fr.drew ?_ | with_reducible refine Fr.drewN ?_ _ | with_reducible refine Fr.alloc ?_ _ | with_reducible refine Fr.setIn ?_ (by first | exact Or.inl rfl | exact Or.inr (by simp; done) | exact Or.inr (by simp; omega) | exact Or.inr (by omega)) _))
  have M0 : Me [] w0 w0 w.heap.size pf pb b r d [] f bad := ⟨(fun x hx => by cases hx), h.quiet hF0, by rw [← hw0]; (repeat (first | with_reducible assumption | with_reducible refine Bl.drew ?_ | with_reducible refine Bl.drewN ?_ _ | with_reducible refine Bl.far ?_ (by first | (simp; done) | (simp; omega)) _ | with_reducible exact Bl.newAt (by simp) | with_reducible refine Bl.alloc ?_ _)), Fr.refl _ _⟩
  have HR : Hid (Bl w0 (w.heap.size + 1) tEnt #[.int .i64 0, .int .i64 0, .int .u64 0, .int .u64 0, .slice none 0 0]) := by show Bl _ _ _ _; rw [← hw0]; exact Bl.newAt (by simp)
  have HF0 := hide hF0
  have hs0 : w.heap.size + 1 < w0.heap.size := by rw [← hw0]; simp
  have z0 : keepB w0 w.heap.size r pb := M0.bx
  clear h
  go_enter Try.func130, Try.ntmps130
  go_wp2_with fail
  (try rw [hw0])
  clear hw0 hF0
  go_upto_region 1 with fail
  go_cut [1, 2, 3] (fun s1 s2 s3 wx => s1 = .pointer (some ⟨w.heap.size, 0, none⟩) ∧ s2 = .pointer (some ⟨w.heap.size + 1, 0, none⟩) ∧ ∃ (B3 : Nat) (a i co pr n c : Nat) (A : Option Addr) (ws : List Int) (g : Option Nat) (f1 f2 f3 f4 f5 : RF) (b1 : Bool), s3 = .pointer (some ⟨B3, 0, none⟩) ∧ n ≤ 1048576 ∧
    Hid (numberS d f 22 1125899906842624 = (a, f1) ∧ numberS d f1 6 1125899906842624 = (i, f2) ∧ numberS d f2 5 18446744073709551615 = (co, f3) ∧ numberS d f3 10 18446744073709551615 = (pr, f4) ∧ (itS d f4 11 16).2.2 = f5 ∧ IntsR (itVals d (itS d f4 11 16)) bad ws b1) ∧
    Hid (Bl wx B3 tEnt #[.int .i64 (a : Int), .int .i64 (i : Int), .int .u64 (co : Int), .int .u64 (pr : Int), .slice A n c] ∧ Ow wx 3 1 A n c (ws.map iv) g ∧ (∀ x, g = some x → w0.heap.size ≤ x) ∧ w0.heap.size ≤ B3) ∧
    Hid (Me [] w0 wx w.heap.size pf pb b r d [(f, 22), (f1, 6), (f2, 5), (f3, 10), (f4, 11)] f5 b1))
  case first =>
    have hall : ∀ w', keepB w' w.heap.size r pb → (Instr.loadAt tRdr (.pointer (some ⟨w.heap.size, 0, none⟩))).run Try.prog w' = .ok (rdv r pb) w' := fun _ h => h.load
    go_region_held3 (fun w' => keepB w' w.heap.size r pb) (first | assumption | exact Bl.drew (by assumption) | exact Bl.alloc (by assumption) _ | exact Bl.farRow (by assumption) (by omega) _)
      (first
        | (have hk := M4; clear hk; go_at_call 94; refine (Me.ints (by first | exact M4 | exact M4.push tEnt ent0 (by unfold Turns2 Turns; decide)) 11 16).mono ?_; rintro e w5 ⟨ws, b1, f5, A, n, c, g, rfl, H5, hn, hO, M5⟩; have z5 : keepB w5 w.heap.size r pb := M5.bx; have hg5 : ∀ x, g = some x → w0.heap.size ≤ x := fun x e => Nat.le_trans M4.fr.size (Nat.le_trans (n := w4.heap.size) (by first | exact Nat.le_refl _ | simp) (hO.out.2 x e));
            first
              | (have Y5 := M5.hd; have Y6 := M5.hdle; have M6 := M5.drop_; have hO6 := hO.out.1; have hst := run_storeAt_at (P := Try.prog) tEnt _ 0 tEnt _ #[.int .i64 (a : Int), .int .i64 (i : Int), .int .u64 (co : Int), .int .u64 (pr : Int), .slice A n c] #[.int .i64 (a : Int), .int .i64 (i : Int), .int .u64 (co : Int), .int .u64 (pr : Int), .slice A n c] (by kernel_rfl) 5 5 rfl rfl (by decide) rfl rfl Y5)
              | (have Y5 := Bl.new w5 tEnt ent0; have Y6 := M5.fr.size; have M6 := M5.quiet ((Fr.refl _ _).alloc (.cells ent0 tEnt)); have hO6 := hO.out.1.fr ((Fr.refl (fun _ => False) _).alloc (.cells ent0 tEnt)) (fun _ _ => id); have hst := run_storeAt_at (P := Try.prog) tEnt _ 0 tEnt _ #[.int .i64 (a : Int), .int .i64 (i : Int), .int .u64 (co : Int), .int .u64 (pr : Int), .slice A n c] #[.int .i64 (a : Int), .int .i64 (i : Int), .int .u64 (co : Int), .int .u64 (pr : Int), .slice A n c] (by kernel_rfl) 5 5 rfl rfl (by decide) rfl rfl Y5))
        | (have hk := M3; clear hk; go_at_call 93; refine (Me.all (by first | exact M3 | exact M3.push tEnt ent0 (by unfold Turns2 Turns; decide)) 10).mono ?_; rintro e w4 ⟨pr, f4, rfl, H4, M4⟩; have z4 : keepB w4 w.heap.size r pb := M4.bx)
        | (have hk := M2; clear hk; go_at_call 93; refine (Me.all (by first | exact M2 | exact M2.push tEnt ent0 (by unfold Turns2 Turns; decide)) 5).mono ?_; rintro e w3 ⟨co, f3, rfl, H3, M3⟩; have z3 : keepB w3 w.heap.size r pb := M3.bx)
        | (have hk := M1; clear hk; go_at_call 91; refine (Me.int (by first | exact M1 | exact M1.push tEnt ent0 (by unfold Turns2 Turns; decide)) 6).mono ?_; rintro e w2 ⟨i, f2, rfl, H2, M2⟩; have z2 : keepB w2 w.heap.size r pb := M2.bx)
        | (go_at_call 91; refine (Me.int (by first | exact M0.quiet ((Fr.refl _ _).drew) | exact (M0.quiet ((Fr.refl _ _).drew)).pushAt tEnt ent0 (by unfold Turns2 Turns; decide) w0.heap.size rfl) 22).mono ?_; rintro e w1 ⟨a, f1, rfl, H1, M1⟩; have z1 : keepB w1 w.heap.size r pb := M1.bx))
    all_goals (go_wp2_with fail; go_meet; case rel => exact ⟨rfl, rfl, _, _, _, _, _, _, _, _, _, _, _, _, _, _, _, _, rfl, hn, ⟨H1.out, H2.out, H3.out, H4.out, H5.out⟩, ⟨Y5.setRow _, hO6.fr (Fr.row _) (fun x e1 e2 => by subst e2; exact absurd ((hO6.typed _ e1).same Y5.typed) (by decide)), hg5, Y6⟩, M6.set Y5 (by unfold Plain Turns2 Turns Rt; decide) (by decide) Y6 _⟩)
  case rest =>
    obtain ⟨rfl, rfl, B3, a, i, co, pr, n, c, A, ws, g, f1, f2, f3, f4, f5, b1, rfl, hn, HE, HB, HM⟩ := hcut
    obtain ⟨w6, rfl⟩ : ∃ w6, w6 = wc := ⟨_, rfl⟩
    have r1 := keepB.load (w := w6) (B := w.heap.size) (r := r) (pb := pb) HM.out.bx
    clear z0
    go_wp2_with fail
    refine (Me.done HM.out).mono ?_
    rintro e w7 ⟨f6, rfl, H6, M7, hF67⟩
    have hBR : Bl w7 (w.heap.size + 1) tEnt ent0 := HR.out.fr M7.fr (M0.rc.not HR.out.typed (by unfold Turns2 Turns; decide))
    have r2 := run_loadAt_at (P := Try.prog) tEnt B3 0 tEnt _ #[.int .i64 (a : Int), .int .i64 (i : Int), .int .u64 (co : Int), .int .u64 (pr : Int), .slice A n c] _ Try.underlying26 rfl (by kernel_rfl) rfl (HB.out.1.fr hF67 (HM.out.rc.not HB.out.1.typed (by unfold Turns2 Turns; decide)))
    have r3 := run_storeAt_at (P := Try.prog) tEnt (w.heap.size + 1) 0 tEnt _ #[.int .i64 (a : Int), .int .i64 (i : Int), .int .u64 (co : Int), .int .u64 (pr : Int), .slice A n c] #[.int .i64 (a : Int), .int .i64 (i : Int), .int .u64 (co : Int), .int .u64 (pr : Int), .slice A n c] (by kernel_rfl) 5 5 rfl rfl (by decide) rfl rfl hBR
    go_wp2_with fail
    have hB9 := hBR.setRow #[.int .i64 (a : Int), .int .i64 (i : Int), .int .u64 (co : Int), .int .u64 (pr : Int), .slice A n c]
    try simp only [Exit.inBlock, Exit.then]
    refine bodyPost_ret (results_cell_row rfl _ _ (w.heap.size + 1) tEnt #[.int .i64 (a : Int), .int .i64 (i : Int), .int .u64 (co : Int), .int .u64 (pr : Int), .slice A n c] (0, 0) _ rfl hB9 Try.underlying26 rfl (by kernel_rfl)) rfl ?_
    have hO7 := HB.out.2.1.fr hF67 (fun x e => HM.out.rc.not (HB.out.2.1.typed x e) (by unfold Turns2 Turns; decide))
    have hO8 := hO7.fr (Fr.row (w := w7) (g := w.heap.size + 1) #[.int .i64 (a : Int), .int .i64 (i : Int), .int .u64 (co : Int), .int .u64 (pr : Int), .slice A n c]) (fun x e1 e2 => by subst e2; exact absurd ((hO7.typed _ e1).same hBR.typed) (by decide))
    obtain ⟨k1, k2, k3, k4, k5, k6⟩ := HE.out
    have hs := HF0.out.size
    refine ⟨⟨a, i, co, pr, A, n, c, ws⟩, f6, b1 || decide (f6.e ≠ 0), g, rfl, ⟨a, i, f1, f2, f3, f4, b1, rfl, rfl, k1, k2, k3, k4, k6, by rw [k5]; exact H6.out, rfl⟩, hn, ⟨hO8, fun x e => Nat.le_trans hs (HB.out.2.2.1 x e)⟩, ?_⟩
    have hn1 : ¬ rturn pf pb r (w.heap.size + 1) := M7.rc.not hBR.typed (by unfold Turns2 Turns; decide)
    refine ⟨M7.rc.flt.fr (Fr.row _) (fun e => hn1 (.inl e.symm)), M7.rc.bd.fr (Fr.row _) (fun e => hn1 (.inr (.inl e.symm))), ?_⟩
    exact Fr.setRow ((HF0.out.weak _).trans M7.fr) (.inr (by omega)) _
end
end Go.Proofs.Ytlcjhbemgagchaa
end

section
/-
  proto: a record within (in), a reader begun (open).
-/
namespace Go.Proofs.Ytlcjhbemgagchaa
open Go.RowKit
set_option linter.unusedVariables false
set_option linter.unusedSimpArgs false
theorem run_loadAt_cell {P : Program} (ty : TypeId) (d : TypeDesc) (hu : P.underlying ty = some d) (hd : (match d with | .struct _ | .array _ _ => true | _ => false) = false) {w : World} {a : Addr} {v : Value} (h : w.cell? a = some v) :
    (Instr.loadAt ty (.pointer (some a))).run P w = .ok v w := by
  have h1 : (isAgg ty).run P w = .ok false w := by
    unfold isAgg
    rw [Sem.run_bind, run_underlying hu w]
    cases d <;> simp_all
  simp [go_sem, Instr.loadAt, Instr.sureAddr, Sem.run_bind, loadVar, h1, h]
theorem run_storeAt_cell {P : Program} (ty : TypeId) (hi : (P.info? ty).map (·.size) = some 1) {w : World} {g i : Nat} {t : TypeId} {cs : Array Value} (hb : Bl w g t cs) (v : Value) (new : Array Value) (n : Nat) (hn : cs.size = n) (hl0 : i < n) (hnew : cs.setIfInBounds i v = new) (hv : v.oneCell' = true) (hc : v.cells = #[v]) :
    (Instr.storeAt ty (.pointer (some ⟨g, i, none⟩)) v).run P w = .ok () (w.setRow g new) := by
  have hl : i < cs.size := by rw [hn]; exact hl0
  rw [← hnew]
  have hst := run_storeCells_at (P := P) g i t [v] 0 cs w hb (by simp; omega) (fun u hu => by simp at hu; subst hu; exact hv)
  cases hq : P.info? ty with
  | none => simp [hq] at hi
  | some inf =>
    have hs : inf.size = 1 := by simpa [hq] using hi
    simp only [Nat.add_zero, putAt] at hst
    simp [Instr.storeAt, Instr.sureAddr, Sem.run_bind, storeVar, sizeOf, typeInfo, hq, hc, hs, hst]
section
variable {pf pb b : Nat} {r : TRd} {d : RD} {f : RF} {bad : Bool}
abbrev tPtrR : TypeId := 147
abbrev tPtrB : TypeId := 148
theorem keepB.ld0 {w : World} {B : Nat} (h : keepB w B r pb) : (Instr.loadAt tPtrR (.pointer (some ⟨B, 0, none⟩))).run Try.prog w = .ok (.pointer (some ⟨r.p, 0, none⟩)) w :=
  run_loadAt_cell tPtrR _ Try.underlying147 rfl (Bl.cell' h rfl)
theorem keepB.ld1 {w : World} {B : Nat} (h : keepB w B r pb) : (Instr.loadAt tPtrB (.pointer (some ⟨B, 1, none⟩))).run Try.prog w = .ok (.pointer (some ⟨pb, 0, none⟩)) w :=
  run_loadAt_cell tPtrB _ Try.underlying148 rfl (Bl.cell' h rfl)
set_option maxHeartbeats 4000000 in
set_option maxRecDepth 8000 in
attribute [-go_sem] Go.Instr.loadAt Go.Instr.storeAt in
theorem rin_any (w : World) (h : RC w pf pb b r d f bad) (t : Int) :
    Calls Try.prog 96 #[rdv r pb, .int .i64 t] w fun e w' => ∃ (r' : TRd) (d' : RD) (f' : RF), e = .returned (rdv r' pb) ∧ Hid (recordS d f t = (d', f')) ∧ Hid (RC w' pf pb b r (d.took f t) f' bad ∧ TR w' pf b r' d' ∧ (∀ y, r'.foot y → w.heap.size ≤ y) ∧ Fr (rturn pf pb r) w w') := by
  obtain ⟨d', f', hv⟩ : ∃ d' f', recordS d f t = (d', f') := ⟨_, _, rfl⟩
  have HC : Hid (∀ w1, Fr (fun _ => False) w w1 → Calls Try.prog 128 #[.pointer (some ⟨r.p, 0, none⟩), .int .i64 t] w1 fun e w' => ∃ r', e = .returned (.pointer (some ⟨r'.p, 0, none⟩)) ∧ Hid (RC w' pf pb b r (d.took f t) f' bad ∧ TR w' pf b r' d' ∧ (∀ y, r'.foot y → w1.heap.size ≤ y) ∧ Fr (rturn pf pb r) w1 w')) := fun w1 hf => by
    have h1 := h.quiet hf
    have c := trrecord_any w1 pf b r d f t h1.tr h1.flt
    rw [hv] at c
    refine c.mono ?_
    rintro e w' ⟨r', rfl, hP, hT, hnew⟩
    exact ⟨r', rfl, (h1.post hP).1, hT, hnew, (h1.post hP).2⟩
  have Hv := hide hv
  have HN : Hid (∀ w1 x t, Fr (fun _ => False) w w1 → Typed w1 x t → ¬ Turns2 t → ¬ rturn pf pb r x) := fun w1 x t hf ht hn => (h.quiet hf).not ht hn
  clear hv h
  obtain ⟨w0, hw0⟩ : ∃ w0, (w.alloc (.cells #[.pointer (some ⟨r.p, 0, none⟩), .pointer (some ⟨pb, 0, none⟩)] tRdr)).alloc (.cells #[.pointer none, .pointer none] tRdr) = w0 := ⟨_, rfl⟩
  have hF0 : Fr (fun _ => False) w w0 := by rw [← hw0]; (repeat (first | with_reducible exact Fr.refl _ _ | with_reducible assumption | with_reducible refine Fr.drew ?_ | with_reducible refine Fr.drewN ?_ _ | with_reducible refine Fr.alloc ?_ _ | with_reducible refine Fr.setIn ?_ (by first | exact Or.inl rfl | exact Or.inr (by simp; done) | exact Or.inr (by simp; omega) | exact Or.inr (by omega)) _))
  have hs0 : w.heap.size + 1 < w0.heap.size := by rw [← hw0]; simp
  have z0 : keepB w0 w.heap.size r pb := by unfold keepB; rw [← hw0]; (repeat (first | with_reducible assumption | with_reducible refine Bl.drew ?_ | with_reducible refine Bl.drewN ?_ _ | with_reducible refine Bl.far ?_ (by first | (simp; done) | (simp; omega)) _ | with_reducible exact Bl.newAt (by simp) | with_reducible refine Bl.alloc ?_ _))
  have hBR : Bl w0 (w.heap.size + 1) tRdr #[.pointer none, .pointer none] := by rw [← hw0]; exact Bl.newAt (by simp)
  have hn0 := HN.out w0 w.heap.size tRdr hF0 (Bl.typed z0) (by unfold Turns2 Turns; decide)
  have hn1 := HN.out w0 (w.heap.size + 1) tRdr hF0 (Bl.typed hBR) (by unfold Turns2 Turns; decide)
  have HF0 := hide hF0
  have hall0 : ∀ w', keepB w' w.heap.size r pb → (Instr.loadAt tPtrR (.pointer (some ⟨w.heap.size, 0, none⟩))).run Try.prog w' = .ok (.pointer (some ⟨r.p, 0, none⟩)) w' := fun _ h => h.ld0
  have hall1 : ∀ w', keepB w' w.heap.size r pb → (Instr.loadAt tPtrB (.pointer (some ⟨w.heap.size, 1, none⟩))).run Try.prog w' = .ok (.pointer (some ⟨pb, 0, none⟩)) w' := fun _ h => h.ld1
  clear HN
  go_enter Try.func96, Try.ntmps96
  go_wp2_with fail
  (try rw [hw0])
  clear hw0
  go_region_held3 (fun w' => keepB w' w.heap.size r pb) (first | assumption | exact Bl.drew (by assumption) | exact Bl.alloc (by assumption) _ | exact Bl.farRow (by assumption) (by omega) _)
    (first | (go_at_call 128; refine (HC.out _ (HF0.out.drew)).mono ?_; rintro e w1 ⟨r', rfl, hP⟩; have z1 : keepB w1 w.heap.size r pb := Bl.fr (w := w0.drew) z0 hP.out.2.2.2 hn0; have hB1 : Bl w1 (w.heap.size + 1) tRdr #[.pointer none, .pointer none] := Bl.fr (w := w0.drew) hBR hP.out.2.2.2 hn1; have hst := run_storeAt_at (P := Try.prog) tRdr (w.heap.size + 1) 0 tRdr _ #[.pointer (some ⟨r'.p, 0, none⟩), .pointer (some ⟨pb, 0, none⟩)] #[.pointer (some ⟨r'.p, 0, none⟩), .pointer (some ⟨pb, 0, none⟩)] (by kernel_rfl) 2 2 rfl rfl (by decide) rfl rfl hB1))
  go_wp2_with fail
  have hB9 := hB1.setRow #[.pointer (some ⟨r'.p, 0, none⟩), .pointer (some ⟨pb, 0, none⟩)]
  try simp only [Exit.inBlock, Exit.then]
  refine bodyPost_ret (results_cell_row rfl _ _ (w.heap.size + 1) tRdr #[.pointer (some ⟨r'.p, 0, none⟩), .pointer (some ⟨pb, 0, none⟩)] (0, 0) _ rfl hB9 Try.underlying150 rfl (by kernel_rfl)) rfl ?_
  have hs := HF0.out.size
  refine ⟨r', d', f', rfl, Hv, hP.out.1.other hB1.typed (by unfold Plain Turns2 Turns Rt; decide) (Fr.row _), hP.out.2.1.frt (Fr.row _) (fun x t' h1 h2 e => ?_), fun y hy => by have := hP.out.2.2.1 y hy; simp at this; omega, ?_⟩
  · subst e
    have := h1.same hB1.typed
    subst this
    exact absurd h2 (by unfold Rt; decide)
  · exact Fr.setRow ((HF0.out.weak _).trans (Fr.trans ((Fr.refl _ _).drew) hP.out.2.2.2)) (.inr (by omega)) _
end
set_option maxHeartbeats 4000000 in
set_option maxRecDepth 8000 in
attribute [-go_sem] Go.Instr.loadAt Go.Instr.storeAt in
theorem ropen_any (w : World) (bs : List Nat) (A : Option Addr) (n c : Nat) (hn : n ≤ 140737488355000) (h256 : ∀ x ∈ bs, x < 256) (hS : Sl w 1 A n (bs.map bn)) :
    Calls Try.prog 90 #[.slice A n c] w fun e w' => ∃ (r : TRd) (pf pb b : Nat) (d : RD) (f : RF), e = .returned (rdv r pb) ∧ Hid (readS F0 0 bs = (d, f)) ∧ Hid (RC w' pf pb b r d f false ∧ w.heap.size ≤ pf ∧ w.heap.size ≤ pb ∧ (∀ y, r.foot y → w.heap.size ≤ y) ∧ Fr (fun _ => False) w w') := by
  obtain ⟨d, f, hv⟩ : ∃ d f, readS F0 0 bs = (d, f) := ⟨_, _, rfl⟩
  have HC : Hid (∀ w1, Fr (fun _ => False) w w1 → Calls Try.prog 122 #[.slice A n c] w1 fun e w' => ∃ r pf b, e = .returned (.pointer (some ⟨r.p, 0, none⟩)) ∧ Hid (TR w' pf b r d ∧ Flt w' tFau pf f ∧ w1.heap.size ≤ pf ∧ (∀ y, r.foot y → w1.heap.size ≤ y) ∧ Fr (fun _ => False) w1 w')) := fun w1 hf => by
    have c := tnew_any w1 bs A n c hn h256 (hS.quiet hf)
    rw [show readS ⟨0, 0⟩ 0 bs = (d, f) from hv] at c
    refine c.mono ?_
    rintro e w' ⟨r, pf, b, rfl, h1, h2, h3, h4, -, h6⟩
    exact ⟨r, pf, b, rfl, h1, h2, h3, h4, h6⟩
  have Hv := hide hv
  clear hv hS
  obtain ⟨w0, hw0⟩ : ∃ w0, w.alloc (.cells #[.pointer none, .pointer none] tRdr) = w0 := ⟨_, rfl⟩
  have HF0 : Hid (Fr (fun _ => False) w w0) := by show Fr _ _ _; rw [← hw0]; (repeat (first | with_reducible exact Fr.refl _ _ | with_reducible assumption | with_reducible refine Fr.drew ?_ | with_reducible refine Fr.drewN ?_ _ | with_reducible refine Fr.alloc ?_ _ | with_reducible refine Fr.setIn ?_ (by first | exact Or.inl rfl | exact Or.inr (by simp; done) | exact Or.inr (by simp; omega) | exact Or.inr (by omega)) _))
  have hs0 : w.heap.size < w0.heap.size := by rw [← hw0]; simp
  have hBR : Hid (Bl w0 w.heap.size tRdr #[.pointer none, .pointer none]) := by show Bl _ _ _ _; rw [← hw0]; exact Bl.new _ _ _
  go_enter Try.func90, Try.ntmps90
  go_wp2_with fail
  (try rw [hw0])
  clear hw0
  refine (HC.out _ HF0.out).mono ?_
  rintro e w1 ⟨r, pf, b, rfl, hP⟩
  have hB1 : Bl (w1.alloc (.cells #[.bool false] tBool)) w.heap.size tRdr #[.pointer none, .pointer none] := (hBR.out.fr hP.out.2.2.2.2 id).alloc _
  have hst := run_storeAt_at (P := Try.prog) tRdr w.heap.size 0 tRdr _ #[.pointer (some ⟨r.p, 0, none⟩), .pointer (some ⟨w1.heap.size, 0, none⟩)] #[.pointer (some ⟨r.p, 0, none⟩), .pointer (some ⟨w1.heap.size, 0, none⟩)] (by kernel_rfl) 2 2 rfl rfl (by decide) rfl rfl hB1
  go_wp2_with fail
  have hB9 := hB1.setRow #[.pointer (some ⟨r.p, 0, none⟩), .pointer (some ⟨w1.heap.size, 0, none⟩)]
  try simp only [Exit.inBlock, Exit.then]
  refine bodyPost_ret (results_cell_row rfl _ _ w.heap.size tRdr #[.pointer (some ⟨r.p, 0, none⟩), .pointer (some ⟨w1.heap.size, 0, none⟩)] (0, 0) _ rfl hB9 Try.underlying150 rfl (by kernel_rfl)) rfl ?_
  have hs := HF0.out.size
  have hs1 := hP.out.2.2.2.2.size
  have hRC : RC (w1.alloc (.cells #[.bool false] tBool)) pf w1.heap.size b r d f false := ⟨hP.out.1.quiet ((Fr.refl _ _).alloc _), hP.out.2.1.fr ((Fr.refl (fun _ => False) _).alloc _) id, Bl.new _ _ _⟩
  refine ⟨r, pf, w1.heap.size, b, d, f, rfl, Hv, hRC.other hB1.typed (by unfold Plain Turns2 Turns Rt; decide) (Fr.row _), by have := hP.out.2.2.1; omega, by omega, fun y hy => by have := hP.out.2.2.2.1 y hy; omega, ?_⟩
  exact Fr.setRow ((HF0.out.trans hP.out.2.2.2.2).alloc _) (.inr (Nat.le_refl _)) _
end Go.Proofs.Ytlcjhbemgagchaa
end

section
/-
  proto: entries that are read, one behind the other: where they lie.
-/
namespace Go.Proofs.Ytlcjhbemgagchaa
open Go.RowKit
set_option linter.unusedVariables false
set_option linter.unusedSimpArgs false
section
variable {X : List (Nat × TypeId × Array Value)} {W w w' : World} {B pf pb b : Nat} {r : TRd} {d : RD} {T : List (RF × Int)} {f : RF} {bad : Bool}
theorem Me.records (h : Me X W w B pf pb b r d T f bad) (t most : Int) :
    Calls Try.prog 129 #[.pointer (some ⟨r.p, 0, none⟩), .int .i64 t, .int .i64 most] w fun e w' => ∃ (rs : List TRd) (O : Option Addr) (k : Nat) (g : Option Nat) (ds : List RD) (f' : RF), e = .returned (.slice O k k) ∧ k ≤ 1048576 ∧ Hid (recordsS d f t most = (ds, f')) ∧
      Hid (Ow w' 147 1 O k k (rs.map fun r => .pointer (some ⟨r.p, 0, none⟩)) g ∧ Rds w' pf b w.heap.size rs ds) ∧ Me X W w' B pf pb b r d (T ++ [(f, t)]) f' bad := by
  obtain ⟨ds, f', hv⟩ : ∃ ds f', recordsS d f t most = (ds, f') := ⟨_, _, rfl⟩
  have c := trrecords_any w pf b r (takes d T) f t most h.rc.tr h.rc.flt
  rw [records_takes, hv] at c
  refine c.mono ?_
  rintro e w' ⟨rs, O, k, g, rfl, hO, -, hR, hk, hP⟩
  obtain ⟨h1, h2⟩ := h.rc.post hP
  rw [← takes_snoc] at h1
  exact ⟨rs, O, k, g, ds, f', rfl, hk, hv, ⟨hO, hR⟩, h.step h1 h2⟩
/-- Another reader's call. -/
theorem Me.sub (h : Me X W w B pf pb b r d T f bad) {r2 : TRd} {d2 : RD} (h2 : RC w pf pb b r2 d2 f bad) (hdis : ∀ x, r.foot x → ¬ r2.foot x) (hnew : ∀ x, r2.foot x → W.heap.size ≤ x) {f' : RF} {bad' : Bool} (hF : Flt w' tFau pf f') (hb : Bl w' pb tBool #[.bool bad']) (hf : Fr (rturn pf pb r2) w w') : Me X W w' B pf pb b r d T f' bad' := by
  refine ⟨fun x hx => ⟨(h.xs x hx).1.fr hf (h2.not (h.xs x hx).1.typed (h.xs x hx).2.1), (h.xs x hx).2⟩, ⟨h.rc.tr.fr2 hf h2.within fun x hx e => ?_, hF, hb⟩, h.bx.fr hf (h2.not h.bx.typed (by unfold Turns2 Turns; decide)), h.fr.comp hf fun x hx e => ?_⟩
  · rcases e with rfl | rfl | e
    · exact h.rc.flt.notFoot h.rc.tr hx
    · exact h.rc.nb hx
    · exact hdis x hx e
  · rcases e with rfl | rfl | e
    · exact .inl rfl
    · exact .inr (.inl rfl)
    · have := hnew x e; omega
theorem Me.setX {g : Nat} {t : TypeId} {cs : Array Value} (h : Me [(g, t, cs)] W w B pf pb b r d T f bad) (ht : Plain t) (hB : t ≠ tRdr) (new : Array Value) : Me [(g, t, new)] W (w.setRow g new) B pf pb b r d T f bad := by
  have h1 := (Me.drop_ h).set h.hd ht hB h.hdle new
  exact ⟨fun x hx => by
    have : x = (g, t, new) := by simpa using hx
    subst this
    exact ⟨h.hd.setRow new, ht.1, h.hdle⟩, h1.rc, h1.bx, h1.fr⟩
/-- A block that is there is kept in sight. -/
theorem Me.see (h : Me X W w B pf pb b r d T f bad) {g : Nat} {t : TypeId} {cs : Array Value} (hb : Bl w g t cs) (ht : ¬ Turns2 t) (hg : W.heap.size ≤ g) : Me ((g, t, cs) :: X) W w B pf pb b r d T f bad := by
  refine ⟨fun x hx => ?_, h.rc, h.bx, h.fr⟩
  rcases List.mem_cons.1 hx with rfl | hx
  · exact ⟨hb, ht, hg⟩
  · exact h.xs x hx
/-- A block of a type that no reader stands on turns. -/
theorem Me.other (h : Me X W w B pf pb b r d T f bad) {g : Option Nat} {t : TypeId} (hg : ∀ x, g = some x → Typed w x t ∧ W.heap.size ≤ x) (ht : Plain t) (hB : t ≠ tRdr) (hX : ∀ x ∈ X, x.2.1 ≠ t) (hf : Fr (fun x => some x = g) w w') : Me X W w' B pf pb b r d T f bad := by
  have key : ∀ {x : Nat} {t' : TypeId}, Typed w x t' → t' ≠ t → ¬ some x = g := fun h1 hne e => hne (h1.same (hg _ e.symm).1)
  refine ⟨fun x hx => ⟨(h.xs x hx).1.fr hf (key (h.xs x hx).1.typed (hX x hx)), (h.xs x hx).2⟩, ⟨h.rc.tr.frt hf fun x t' h1 h2 => key h1 fun e => ht.2 (e ▸ h2), h.rc.flt.fr hf (key (Bl.typed h.rc.flt) fun e => ht.1 (e ▸ .inl (.inl rfl))), h.rc.bd.fr hf (key (Bl.typed h.rc.bd) fun e => ht.1 (e ▸ .inr rfl))⟩, h.bx.fr hf (key h.bx.typed (Ne.symm hB)), h.fr.comp hf fun x hx e => ?_⟩
  have := (hg x e.symm).2
  omega
theorem Me.other1 {k : Nat} {u : TypeId} {cs : Array Value} (h : Me [(k, u, cs)] W w B pf pb b r d T f bad) {g : Option Nat} {t : TypeId} (hg : ∀ x, g = some x → Typed w x t ∧ W.heap.size ≤ x) (ht : Plain t) (hB : t ≠ tRdr) (hX : u ≠ t) (hf : Fr (fun x => some x = g) w w') : Me [(k, u, cs)] W w' B pf pb b r d T f bad :=
  h.other hg ht hB (fun x hx => by rw [List.mem_singleton.1 hx]; exact hX) hf
end
theorem TR.sub {w w' : World} {pf pb b : Nat} {r r2 : TRd} {d d2 : RD} {f : RF} {bad : Bool} (h : TR w pf b r d) (h2 : RC w pf pb b r2 d2 f bad) (hdis : ∀ x, r.foot x → ¬ r2.foot x) (hf : Fr (rturn pf pb r2) w w') : TR w' pf b r d := by
  have hr : RC w pf pb b r d f bad := ⟨h, h2.flt, h2.bd⟩
  refine h.fr2 hf h2.within fun x hx e => ?_
  rcases e with rfl | rfl | e
  · exact h2.flt.notFoot h hx
  · exact hr.nb hx
  · exact hdis x hx e
theorem TR.oth {w w' : World} {pf b : Nat} {r : TRd} {d : RD} (h : TR w pf b r d) {g : Option Nat} {t : TypeId} (hg : ∀ x, g = some x → Typed w x t) (ht : ¬ Rt t) (hf : Fr (fun x => some x = g) w w') : TR w' pf b r d :=
  h.frt hf fun x t' h1 h2 e => ht (h1.same (hg _ e.symm) ▸ h2)
/-- Entries in memory of their own, each one's wishes too. -/
structure Ents (W w : World) (es : List ER) (L : Option Addr) (N cl : Nat) (g : Option Nat) : Prop where
  len : N = es.length
  ow : Ow w tEnt 5 L N cl (es.flatMap ER.cells) g
  new : ∀ b, g = some b → W.heap.size ≤ b
  own : ∀ q ∈ es, q.n ≤ 1048576 ∧ ∃ gi, Ow w 3 1 q.A q.n q.c (q.ws.map iv) gi ∧ ∀ x, gi = some x → W.heap.size ≤ x
  ap : es.Pairwise fun p q => ∀ x o y o', p.A = some ⟨x, o, none⟩ → q.A = some ⟨y, o', none⟩ → x < y
section
variable {W w w' : World} {es : List ER} {L : Option Addr} {N cl : Nat} {g : Option Nat}
theorem Ents.nil_ (W w : World) : Ents W w [] none 0 0 none := ⟨rfl, Ow.nil_ _ _ _, (fun b e => by cases e), (fun q h => by cases h), List.Pairwise.nil⟩
theorem Ents.frt (h : Ents W w es L N cl g) {S : Nat → Prop} (hf : Fr S w w') (h1 : ∀ x, Typed w x tEnt → ¬ S x) (h2 : ∀ x, Typed w x 3 → ¬ S x) : Ents W w' es L N cl g :=
  ⟨h.len, h.ow.fr hf fun x e => h1 x (h.ow.typed x e), h.new, fun q hq => by
    obtain ⟨k1, gi, k2, k3⟩ := h.own q hq
    exact ⟨k1, gi, k2.fr hf fun x e => h2 x (k2.typed x e), k3⟩, h.ap⟩
theorem Ents.quiet (h : Ents W w es L N cl g) (hf : Fr (fun _ => False) w w') : Ents W w' es L N cl g := h.frt hf (fun _ _ => id) (fun _ _ => id)
theorem Ents.rturn (h : Ents W w es L N cl g) {pf pb b : Nat} {r : TRd} {d : RD} {f : RF} {bad : Bool} (hR : RC w pf pb b r d f bad) (hf : Fr (rturn pf pb r) w w') : Ents W w' es L N cl g :=
  h.frt hf (fun x hx => hR.not hx (by unfold Turns2 Turns; decide)) (fun x hx => hR.not hx (by unfold Turns2 Turns; decide))
theorem Ents.row (h : Ents W w es L N cl g) {k : Nat} {t : TypeId} (hk : Typed w k t) (h1 : t ≠ tEnt) (h2 : t ≠ 3) (new : Array Value) : Ents W (w.setRow k new) es L N cl g :=
  h.frt (Fr.row new) (fun x hx e => by subst e; exact h1 (hk.same hx)) (fun x hx e => by subst e; exact h2 (hk.same hx))
theorem Ow.sblk {w : World} {e : TypeId} {size n c : Nat} {A : Option Addr} {xs : List Value} {g : Option Nat} (h : Ow w e size A n c xs g) {x o : Nat} (hA : A = some ⟨x, o, none⟩) : g = some x := by
  rcases h.2 with ⟨h1, -⟩ | ⟨b, o', cur, h1, h2, -⟩
  · rw [h1] at hA; cases hA
  · rw [h1] at hA; cases hA; exact h2
theorem Ents.base (h : Ents W w es L N cl g) {W' : World} (hs : W'.heap.size ≤ W.heap.size) : Ents W' w es L N cl g :=
  ⟨h.len, h.ow, fun b e => Nat.le_trans hs (h.new b e), fun q hq => by
    obtain ⟨k1, gi, k2, k3⟩ := h.own q hq
    exact ⟨k1, gi, k2, fun x e => Nat.le_trans hs (k3 x e)⟩, h.ap⟩
/-- One more. -/
theorem Ents.app {w1 w3 : World} (h1 : Ents W w1 es L N cl g) (h : Ents W w es L N cl g) {q : ER} (hn : q.n ≤ 1048576) {gi : Option Nat} (hO : Ow w 3 1 q.A q.n q.c (q.ws.map iv) gi) (hgi : ∀ x, gi = some x → w1.heap.size ≤ x) (hs : W.heap.size ≤ w1.heap.size) {L3 : Option Addr} {cl3 : Nat} {g3 : Option Nat}
    (hO3 : Ow w3 tEnt 5 L3 (N + 1) cl3 (es.flatMap ER.cells ++ q.cells) g3) (hf : Fr (fun x => some x = g) w w3) (hg3 : g3 = g ∨ ∃ b, g3 = some b ∧ w.heap.size ≤ b) (hsw : w1.heap.size ≤ w.heap.size) : Ents W w3 (es ++ [q]) L3 (N + 1) cl3 g3 := by
  have key : ∀ x, Typed w x 3 → ¬ some x = g := fun x hx e => absurd (hx.same (h.ow.typed x e.symm)) (by decide)
  refine ⟨by rw [h.len]; simp, ?_, fun b e => ?_, fun p hp => ?_, ?_⟩
  · rw [List.flatMap_append]
    have e : [q].flatMap ER.cells = q.cells := by simp
    rw [e]; exact hO3
  · rcases hg3 with e3 | ⟨x, e3, hx⟩
    · exact h.new b (by rw [← e3]; exact e)
    · rw [e3] at e; cases e; omega
  · rcases List.mem_append.1 hp with hp | hp
    · obtain ⟨k1, gp, k2, k3⟩ := h.own p hp
      exact ⟨k1, gp, k2.fr hf fun x e => key x (k2.typed x e), k3⟩
    · have : p = q := by simpa using hp
      subst this
      exact ⟨hn, gi, hO.fr hf fun x e => key x (hO.typed x e), fun x e => Nat.le_trans hs (hgi x e)⟩
  · rw [List.pairwise_append]
    refine ⟨h.ap, List.pairwise_singleton _ _, fun p hp p' hp' => ?_⟩
    have : p' = q := by simpa using hp'
    subst this
    intro x o y o' ex ey
    obtain ⟨k1, gp, k2, k3⟩ := h1.own p hp
    have a1 := k2.lt x (k2.sblk ex)
    have a2 := hgi y (hO.sblk ey)
    omega
theorem Ents.at_ (h : Ents W w es L N cl g) : ∀ q ∈ es, q.at_ w := fun q hq => by
  obtain ⟨k1, gp, k2, k3⟩ := h.own q hq
  have := k2.cap
  unfold maxLen at this
  exact ⟨k2.sl, by omega, this.1, this.2⟩
end
end Go.Proofs.Ytlcjhbemgagchaa
end
