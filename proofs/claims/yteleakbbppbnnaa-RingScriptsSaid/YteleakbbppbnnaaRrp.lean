/-
  RingScripts: the walk.
-/
import Derived.Test.YteleakbbppbnnaaRro
namespace Go.Proofs.Yteleakbbppbnnaa
open Go.RowKit
set_option linter.unusedVariables false
attribute [local go_sem ↓] Go.wp_at_zero Go.wp_at_succ
/-- What is held between two steps. -/
def Held (s : Nat) (w0 w : World) (L : List (Option RE)) (m : Nat) : Prop :=
  WW s s L w ∧ L.length = m ∧ Fr (fun k => s ≤ k) w0 w
theorem Held.does {s : Nat} {w0 w w' : World} {L : List (Option RE)} {m : Nat} (h : Held s w0 w L m) (hd : DoesOut s s L w w') (k : Nat) (hk : L[k]? = some none) : ∃ L', Held s w0 w' L' m ∧ L'[k]? = some none := by
  obtain ⟨h1, h2, h3⟩ := h
  obtain ⟨L', k1, k2, k3, k4⟩ := hd
  exact ⟨L', ⟨k1, k2.trans h2, h3.trans k4⟩, k3 k hk⟩
theorem run_ld {w : World} {a : Addr} {v : Value} (ty : TypeId) (d : TypeDesc) (hu : Try.prog.underlying ty = some d) (hd : (match d with | .struct _ | .array _ _ => true | _ => false) = false) (h : w.cell? a = some v) :
    (Instr.loadAt ty (.pointer (some a))).run Try.prog w = .ok v w := by
  have h1 : (isAgg ty).run Try.prog w = .ok false w := by
    unfold isAgg
    rw [Sem.run_bind, run_underlying hu w]
    cases d <;> simp_all
  simp [go_sem, Sem.run_bind, loadVar, h1, h]
set_option maxHeartbeats 8000000 in
set_option maxRecDepth 4000 in
theorem scripts_walk (w : World) (AR : Option Addr) (ns cs : Nat) (rooms : List Int) (hS : SlB w w.heap.size AR ns (rooms.map iv))
    (A : Option Addr) (n c : Nat) (hn : n ≤ 140737488355328) (f : Nat → Nat → Value) (kd wh tt nn xx : Nat → Int) (AL : Nat → Option Addr) (nl cl : Nat → Nat) (ll : Nat → List Int) (hs : Cells w w.heap.size A n 6 f)
    (h0 : ∀ i, i < n → f i 0 = .int .i64 (kd i)) (h1 : ∀ i, i < n → f i 1 = .int .i64 (wh i)) (h2 : ∀ i, i < n → f i 2 = .int .i64 (tt i)) (h3 : ∀ i, i < n → f i 3 = .int .i64 (nn i)) (h4 : ∀ i, i < n → f i 4 = .int .i64 (xx i)) (h5 : ∀ i, i < n → f i 5 = .slice (AL i) (nl i) (cl i))
    (h6 : ∀ i, i < n → nl i * 8 ≤ 140737488351232 ∧ SlB w w.heap.size (AL i) (nl i) ((ll i).map iv)) :
    Calls Try.prog 5 #[.slice AR ns cs, .slice A n c] w fun e w' => e = .returned (.bool true) ∧ Below w.heap.size w w' := by
  obtain ⟨j0, hj, hj0, hj1, hj2⟩ := info_parts infoPB
  obtain ⟨q0, hq, hq0, hq1, hq2⟩ := info_parts infoPM
  have hrl : rooms.length = ns := by have := hS.1; simpa using this
  by_cases hbig : 16 < ns
  · go_enter Try.func5, Try.ntmps5
    go_wp2_with fail
    go_ret
    exact ⟨rfl, (Fr.refl (fun _ => False) w).toBelow (Nat.le_refl _) (fun _ _ => id)⟩
  have hb16 : decide (16 < (ns : Int)) = false := decide_eq_false (by omega)
  have Hrl := hide hrl
  obtain ⟨s, hws⟩ : ∃ s, w.heap.size = s := ⟨_, rfl⟩
  have Hws := hide hws
  rw [hws] at hS hs h6
  clear hrl
  go_enter Try.func5, Try.ntmps5
  go_wp2_with fail
  try rw [hws]
  clear hws
  go_loopw [6] (fun i wr => ∃ k : Nat, i = .int .i64 (k : Int) ∧ k ≤ ns ∧ ∃ L, Held s w wr L k) (fun i _ => ns - (intOf i).toNat)
  case atStart =>
    refine ⟨0, rfl, Nat.zero_le _, [], ⟨none, 0, none, none, 0, none, ⟨?_, Ow.nil_ _ _ _, Ow.nil_ _ _ _, Nat.le_refl _, (fun b h => by cases h), (fun b h => by cases h)⟩, ⟨fun x hx => by simp at hx, fun i j x y hx => by simp at hx, fun x hx => by simp at hx⟩, fun x hx => by simp at hx⟩, rfl, (Fr.refl _ _).alloc _⟩
    rw [← Hws.out]
    exact Bl.new _ _ _
  case round =>
    obtain ⟨k, rfl, hk, L, ⟨A1, c1, g1, A2, c2, g2, hW, hI, hE⟩, hm, hfr⟩ := hrel
    have Hm := hide hm
    have hQ := hide (hW.toQ Hm.out)
    have HE := hide hE
    have hsr : s ≤ wr.heap.size := by have := hfr.size; have := Hws.out; omega
    have w0 : wr.cell? ⟨s, 0, none⟩ = some (.slice A1 k c1) := hQ.out.bl.cell' rfl
    have w1 : wr.cell? ⟨s, 1, none⟩ = some (.slice A2 k c2) := hQ.out.bl.cell' rfl
    have hwb := hQ.out.bl.lt
    clear hm hE
    by_cases hlt : k < ns
    · have hSr := hS.fr hfr (by rw [Hws.out]; exact Nat.le_refl _) (fun x hx => hx)
      obtain ⟨b, o, rfl, hbB, hcs⟩ := hSr.2 (by omega)
      obtain ⟨rm, hrm⟩ : ∃ rm, rooms.getD k 0 = rm := ⟨_, rfl⟩
      have d0 : wr.cell? ⟨b, o + k, none⟩ = some (.int .i64 rm) := by rw [← hrm]; exact hcs k _ (iv_get (by rw [Hrl.out]; exact hlt))
      have i1 : (0 : Int) ≤ (k : Int) := by omega
      clear hS hSr hcs hrm
      by_cases hbad : rm < 1 ∨ 65536 < rm
      · have Hbad := hide hbad
        clear hbad
        go_wp2_with fail
        refine (new_bad _ rm Hbad.out).mono ?_
        rintro r w' ⟨rfl, rfl⟩
        go_wp2_with fail
        refine (rnew_bad _ rm Hbad.out).mono ?_
        rintro r w' ⟨rfl, rfl⟩
        have hfx : Fr (fun _ => False) wr wr := Fr.refl _ _
        clear w0 w1
        have Q1 := hQ.out.fr0 hfx
        have w0x : wr.cell? ⟨s, 0, none⟩ = some (.slice A1 k c1) := Q1.bl.cell' rfl
        go_wp2_with (first | (at_builtin; go_loud (refine wpList_append_ow _ rfl _ _ 45 rfl 24 j0 (.pointer none) 1 8 Try.underlying45 hj hj0 hj1 hj2 rfl (by decide) _ _ _ _ _ rfl (Q1.o1.fr (S := fun _ => False) ((Fr.refl _ _).alloc _) (fun _ _ => id)) _ _ _ [.pointer none] rfl (Sl.oneAt (by simp)) (by intro u hu; simp at hu; subst hu; rfl) (by unfold maxLen; omega) (by omega) ?_)) | go_in)
        intro A3 c3 w3 g3 hA3 hf3 hg3
        obtain ⟨Q2, hf2, hbl3⟩ := Q1.more1 (by have := (hfx).size; omega) ((Fr.refl _ _).alloc _) hA3 hf3 (hg3.imp_right fun ⟨b, e, h⟩ => ⟨b, e, by first | omega | (simp at h; omega) | simpa using h⟩)
        have z0 := hbl3.free 0
        have d0 : w3.cell? ⟨s, 0, none⟩ = some (.slice A1 k c1) := hbl3.cell' rfl
        have d1 : w3.cell? ⟨s, 1, none⟩ = some (.slice A2 k c2) := hbl3.cell' rfl
        have e1 : (w3.setCell ⟨s, 0, none⟩ (.slice A3 (k + 1) c3)).cell? ⟨s, 1, none⟩ = some (.slice A2 k c2) := Q2.bl.cell' rfl
        have HA3 := hide hA3
        clear hA3
        have Q3 := Q2
        go_wp2_with (first | (at_builtin; go_loud (refine wpList_append_ow _ rfl _ _ 46 rfl 49 q0 (.pointer none) 1 8 Try.underlying46 hq hq0 hq1 hq2 rfl (by decide) _ _ _ _ _ rfl (Q3.o2.fr (S := fun _ => False) ((Fr.refl _ _).alloc _) (fun _ _ => id)) _ _ _ [.pointer none] rfl (Sl.oneAt (by simp)) (by intro u hu; simp at hu; subst hu; rfl) (by unfold maxLen; omega) (by omega) ?_)) | go_in)
        intro A6 c6 w6 g6 hA6 hf6 hg6
        obtain ⟨Q4, hf4, hbl6⟩ := Q3.more2 (by have := (hfx).size; have := hf2.size; omega) ((Fr.refl _ _).alloc _) hA6 hf6 (hg6.imp_right fun ⟨b, e, h⟩ => ⟨b, e, by first | omega | (simp at h; omega) | simpa using h⟩)
        have z6 := hbl6.free 1
        have y0 : w6.cell? ⟨s, 0, none⟩ = some (.slice A3 (k + 1) c3) := hbl6.cell' rfl
        have y1 : w6.cell? ⟨s, 1, none⟩ = some (.slice A2 k c2) := hbl6.cell' rfl
        have hP : PW s s (L ++ [none]) A3 c3 g3 A6 c6 g6 (w6.setCell ⟨s, 1, none⟩ (.slice A6 (k + 1) c6)) := WQ.toP (m := k + 1) (by rw [List.map_append, List.map_append]; exact Q4) (by rw [List.length_append, Hm.out]; rfl)
        have hI6 : RW s (w6.setCell ⟨s, 1, none⟩ (.slice A6 (k + 1) c6)) (L ++ [none]) := ((hI.quiet hfx).frB hf2 Q1.big1 |>.frB hf4 Q3.big2).moreN
        have hF := ((hfr.trans ((hfx).weak _)).comp hf2 (fun i _ e => Q1.old1 i e)).comp hf4 (fun i _ e => Q3.old2 i e)
        have hH : Held s w (w6.setCell ⟨s, 1, none⟩ (.slice A6 (k + 1) c6)) (L ++ [none]) (k + 1) := ⟨⟨A3, c3, g3, A6, c6, g6, hP, hI6, HE.out.moreN⟩, by rw [List.length_append, Hm.out]; rfl, hF⟩
        clear hA6 hf6 hg6 hI6 hP hF Q4 Q3 Q2 Q1 hf3 hg3 hf2 hf4
        go_wp2_with fail
        exact ⟨⟨k + 1, by go_num, hlt, _, hH⟩, by simp [intOf]; omega⟩
      · obtain ⟨room, rfl⟩ : ∃ room : Nat, rm = (room : Int) := ⟨rm.toNat, by omega⟩
        have r1 : 1 ≤ room := by omega
        have r2 : room ≤ 65536 := by omega
        clear hbad
        go_wp2_with fail
        refine (new_ok wr room r1 r2).mono ?_
        rintro r wB ⟨rfl, hbB', hfB, hsB⟩
        obtain ⟨p', hp'⟩ : ∃ p', wr.heap.size = p' := ⟨_, rfl⟩
        have Hp' := hide hp'
        rw [hp'] at hbB' hsB ⊢
        have d0B : wB.cell? ⟨b, o + k, none⟩ = some (.int .i64 (room : Int)) := (hfB.cell (World.block_lt_of_cell? wr _ d0) id).trans d0
        have HbB := hide hbB'
        clear hp' hbB' w0 w1 d0
        go_wp2_with fail
        refine (rnew_ok wB room r1 r2).mono ?_
        rintro r wC ⟨rfl, hrC, hfC, hsC⟩
        obtain ⟨q', hq'⟩ : ∃ q', wB.heap.size = q' := ⟨_, rfl⟩
        have Hq' := hide hq'
        rw [hq'] at hrC hsC ⊢
        have hpn : p' ≠ q' := by omega
        have hmx : MixE wC ⟨p', q', none, none, room, [], []⟩ := mix_new (HbB.out.fr hfC id (fun _ _ => id)) hrC hpn
        have hfx : Fr (fun _ => False) wr wC := hfB.trans hfC
        have Hnew : Hid (∀ cc : RE, some cc ∈ L → ∀ b, RE.foot ⟨p', q', none, none, room, [], []⟩ b → ¬ cc.foot b) := fun cc hcc b hb hfo => by
          have h1 := hI.lt hcc hfo
          have h2 := Hp'.out
          rcases foot_fresh hb with rfl | rfl <;> omega
        have Hlo : Hid (∀ b, RE.foot ⟨p', q', none, none, room, [], []⟩ b → s ≤ b) := fun b hb => by
          have h2 := Hp'.out
          rcases foot_fresh hb with rfl | rfl <;> omega
        have Hmx := hide hmx
        clear hq' hrC d0B hmx hpn hfB hfC
        have Q1 := hQ.out.fr0 hfx
        have w0x : wC.cell? ⟨s, 0, none⟩ = some (.slice A1 k c1) := Q1.bl.cell' rfl
        go_wp2_with (first | (at_builtin; go_loud (refine wpList_append_ow _ rfl _ _ 45 rfl 24 j0 (.pointer none) 1 8 Try.underlying45 hj hj0 hj1 hj2 rfl (by decide) _ _ _ _ _ rfl (Q1.o1.fr (S := fun _ => False) ((Fr.refl _ _).alloc _) (fun _ _ => id)) _ _ _ [.pointer (some ⟨p', 0, none⟩)] rfl (Sl.oneAt (by simp)) (by intro u hu; simp at hu; subst hu; rfl) (by unfold maxLen; omega) (by omega) ?_)) | go_in)
        intro A3 c3 w3 g3 hA3 hf3 hg3
        obtain ⟨Q2, hf2, hbl3⟩ := Q1.more1 (by have := (hfx).size; omega) ((Fr.refl _ _).alloc _) hA3 hf3 (hg3.imp_right fun ⟨b, e, h⟩ => ⟨b, e, by first | omega | (simp at h; omega) | simpa using h⟩)
        have z0 := hbl3.free 0
        have d0 : w3.cell? ⟨s, 0, none⟩ = some (.slice A1 k c1) := hbl3.cell' rfl
        have d1 : w3.cell? ⟨s, 1, none⟩ = some (.slice A2 k c2) := hbl3.cell' rfl
        have e1 : (w3.setCell ⟨s, 0, none⟩ (.slice A3 (k + 1) c3)).cell? ⟨s, 1, none⟩ = some (.slice A2 k c2) := Q2.bl.cell' rfl
        have HA3 := hide hA3
        clear hA3
        have Q3 := Q2
        go_wp2_with (first | (at_builtin; go_loud (refine wpList_append_ow _ rfl _ _ 46 rfl 49 q0 (.pointer none) 1 8 Try.underlying46 hq hq0 hq1 hq2 rfl (by decide) _ _ _ _ _ rfl (Q3.o2.fr (S := fun _ => False) ((Fr.refl _ _).alloc _) (fun _ _ => id)) _ _ _ [.pointer (some ⟨q', 0, none⟩)] rfl (Sl.oneAt (by simp)) (by intro u hu; simp at hu; subst hu; rfl) (by unfold maxLen; omega) (by omega) ?_)) | go_in)
        intro A6 c6 w6 g6 hA6 hf6 hg6
        obtain ⟨Q4, hf4, hbl6⟩ := Q3.more2 (by have := (hfx).size; have := hf2.size; omega) ((Fr.refl _ _).alloc _) hA6 hf6 (hg6.imp_right fun ⟨b, e, h⟩ => ⟨b, e, by first | omega | (simp at h; omega) | simpa using h⟩)
        have z6 := hbl6.free 1
        have y0 : w6.cell? ⟨s, 0, none⟩ = some (.slice A3 (k + 1) c3) := hbl6.cell' rfl
        have y1 : w6.cell? ⟨s, 1, none⟩ = some (.slice A2 k c2) := hbl6.cell' rfl
        have hP : PW s s (L ++ [some ⟨p', q', none, none, room, [], []⟩]) A3 c3 g3 A6 c6 g6 (w6.setCell ⟨s, 1, none⟩ (.slice A6 (k + 1) c6)) := WQ.toP (m := k + 1) (by rw [List.map_append, List.map_append]; exact Q4) (by rw [List.length_append, Hm.out]; rfl)
        have hI6 : RW s (w6.setCell ⟨s, 1, none⟩ (.slice A6 (k + 1) c6)) (L ++ [some ⟨p', q', none, none, room, [], []⟩]) := ((hI.quiet hfx).frB hf2 Q1.big1 |>.frB hf4 Q3.big2).more ((Hmx.out.frB hf2 Q1.big1).frB hf4 Q3.big2) Hnew.out Hlo.out
        have hF := ((hfr.trans ((hfx).weak _)).comp hf2 (fun i _ e => Q1.old1 i e)).comp hf4 (fun i _ e => Q3.old2 i e)
        have hH : Held s w (w6.setCell ⟨s, 1, none⟩ (.slice A6 (k + 1) c6)) (L ++ [some ⟨p', q', none, none, room, [], []⟩]) (k + 1) := ⟨⟨A3, c3, g3, A6, c6, g6, hP, hI6, HE.out.more rfl⟩, by rw [List.length_append, Hm.out]; rfl, hF⟩
        clear hA6 hf6 hg6 hI6 hP hF Q4 Q3 Q2 Q1 hf3 hg3 hf2 hf4
        go_wp2_with fail
        exact ⟨⟨k + 1, by go_num, hlt, _, hH⟩, by simp [intOf]; omega⟩
    · obtain rfl : k = ns := by omega
      clear hS
      have hfx : Fr (fun _ => False) wr wr := Fr.refl _ _
      clear w0 w1
      have Q1 := hQ.out.fr0 hfx
      have w0x : wr.cell? ⟨s, 0, none⟩ = some (.slice A1 k c1) := Q1.bl.cell' rfl
      go_wp2_with (first | (at_builtin; go_loud (refine wpList_append_ow _ rfl _ _ 45 rfl 24 j0 (.pointer none) 1 8 Try.underlying45 hj hj0 hj1 hj2 rfl (by decide) _ _ _ _ _ rfl (Q1.o1.fr (S := fun _ => False) ((Fr.refl _ _).alloc _) (fun _ _ => id)) _ _ _ [.pointer none] rfl (Sl.oneAt (by simp)) (by intro u hu; simp at hu; subst hu; rfl) (by unfold maxLen; omega) (by omega) ?_)) | go_in)
      intro A3 c3 w3 g3 hA3 hf3 hg3
      obtain ⟨Q2, hf2, hbl3⟩ := Q1.more1 (by have := (hfx).size; omega) ((Fr.refl _ _).alloc _) hA3 hf3 (hg3.imp_right fun ⟨b, e, h⟩ => ⟨b, e, by first | omega | (simp at h; omega) | simpa using h⟩)
      have z0 := hbl3.free 0
      have d0 : w3.cell? ⟨s, 0, none⟩ = some (.slice A1 k c1) := hbl3.cell' rfl
      have d1 : w3.cell? ⟨s, 1, none⟩ = some (.slice A2 k c2) := hbl3.cell' rfl
      have e1 : (w3.setCell ⟨s, 0, none⟩ (.slice A3 (k + 1) c3)).cell? ⟨s, 1, none⟩ = some (.slice A2 k c2) := Q2.bl.cell' rfl
      have HA3 := hide hA3
      clear hA3
      have Q3 := Q2
      go_wp2_with (first | (at_builtin; go_loud (refine wpList_append_ow _ rfl _ _ 46 rfl 49 q0 (.pointer none) 1 8 Try.underlying46 hq hq0 hq1 hq2 rfl (by decide) _ _ _ _ _ rfl (Q3.o2.fr (S := fun _ => False) ((Fr.refl _ _).alloc _) (fun _ _ => id)) _ _ _ [.pointer none] rfl (Sl.oneAt (by simp)) (by intro u hu; simp at hu; subst hu; rfl) (by unfold maxLen; omega) (by omega) ?_)) | go_in)
      intro A6 c6 w6 g6 hA6 hf6 hg6
      obtain ⟨Q4, hf4, hbl6⟩ := Q3.more2 (by have := (hfx).size; have := hf2.size; omega) ((Fr.refl _ _).alloc _) hA6 hf6 (hg6.imp_right fun ⟨b, e, h⟩ => ⟨b, e, by first | omega | (simp at h; omega) | simpa using h⟩)
      have z6 := hbl6.free 1
      have y0 : w6.cell? ⟨s, 0, none⟩ = some (.slice A3 (k + 1) c3) := hbl6.cell' rfl
      have y1 : w6.cell? ⟨s, 1, none⟩ = some (.slice A2 k c2) := hbl6.cell' rfl
      have hP : PW s s (L ++ [none]) A3 c3 g3 A6 c6 g6 (w6.setCell ⟨s, 1, none⟩ (.slice A6 (k + 1) c6)) := WQ.toP (m := k + 1) (by rw [List.map_append, List.map_append]; exact Q4) (by rw [List.length_append, Hm.out]; rfl)
      have hI6 : RW s (w6.setCell ⟨s, 1, none⟩ (.slice A6 (k + 1) c6)) (L ++ [none]) := ((hI.quiet hfx).frB hf2 Q1.big1 |>.frB hf4 Q3.big2).moreN
      have hF := ((hfr.trans ((hfx).weak _)).comp hf2 (fun i _ e => Q1.old1 i e)).comp hf4 (fun i _ e => Q3.old2 i e)
      have hH : Held s w (w6.setCell ⟨s, 1, none⟩ (.slice A6 (k + 1) c6)) (L ++ [none]) (k + 1) := ⟨⟨A3, c3, g3, A6, c6, g6, hP, hI6, HE.out.moreN⟩, by rw [List.length_append, Hm.out]; rfl, hF⟩
      clear hA6 hf6 hg6 hI6 hP hF Q4 Q3 Q2 Q1 hf3 hg3 hf2 hf4
      have hlast : (L ++ [none])[k]? = some none := by rw [List.getElem?_append_right (by rw [Hm.out]; exact Nat.le_refl _), Hm.out, Nat.sub_self]; rfl
      obtain ⟨L0, hL0⟩ : ∃ L0, L ++ [none] = L0 := ⟨_, rfl⟩
      rw [hL0] at hH hlast
      clear hL0
      go_wp2_with fail
      generalize w6.setCell ⟨s, 1, none⟩ (.slice A6 (k + 1) c6) = w7 at hH ⊢
      clear z0 d0 d1 e1 hbl3 z6 y0 y1 hbl6 HA3 hfx hfr hwb hQ HE hI hW hsr
      go_loopw [11] (fun i wr => ∃ j : Nat, i = .int .i64 (j : Int) ∧ j ≤ n ∧ ∃ L, Held s w wr L (k + 1) ∧ L[k]? = some none) (fun i _ => n - (intOf i).toNat)
      case atStart => exact ⟨0, rfl, Nat.zero_le _, L0, hH, hlast⟩
      case round =>
        clear hH hlast
        obtain ⟨j, rfl, hjn, L, hH, hlast⟩ := hrel
        by_cases hlt2 : j < n
        · obtain ⟨b, o, rfl, hbB, hcs⟩ := hs (by omega)
          have hc : ∀ i, i < 6 → wr.cell? ⟨b, o + j * 6 + i, none⟩ = some (f j i) := fun i hi =>
            (hH.2.2.cell (p := ⟨b, o + j * 6 + i, none⟩) (by rw [Hws.out]; exact hbB) (by simp; omega)).trans (hcs j i hlt2 hi)
          have d0 : wr.cell? ⟨b, o + j * 6, none⟩ = some (.int .i64 (kd j)) := by rw [← h0 j hlt2]; exact hc 0 (by omega)
          have d1 : wr.cell? ⟨b, o + j * 6 + 1, none⟩ = some (.int .i64 (wh j)) := by rw [← h1 j hlt2]; exact hc 1 (by omega)
          have d2 : wr.cell? ⟨b, o + j * 6 + 2, none⟩ = some (.int .i64 (tt j)) := by rw [← h2 j hlt2]; exact hc 2 (by omega)
          have d3 : wr.cell? ⟨b, o + j * 6 + 3, none⟩ = some (.int .i64 (nn j)) := by rw [← h3 j hlt2]; exact hc 3 (by omega)
          have d4 : wr.cell? ⟨b, o + j * 6 + 4, none⟩ = some (.int .i64 (xx j)) := by rw [← h4 j hlt2]; exact hc 4 (by omega)
          have d5 : wr.cell? ⟨b, o + j * 6 + 5, none⟩ = some (.slice (AL j) (nl j) (cl j)) := by rw [← h5 j hlt2]; exact hc 5 (by omega)
          have hAL := (h6 j hlt2).2.fr hH.2.2 (by rw [Hws.out]; exact Nat.le_refl _) (fun x hx => hx)
          have hz : s ≤ wr.heap.size := by have := hH.2.2.size; have := Hws.out; omega
          have hcall := does_any hH.1 (by rw [hH.2.1]; omega) (by rw [hH.2.1]; omega) hz (kd j) (wh j) (tt j) (nn j) (xx j) (AL j) (nl j) (cl j) (h6 j hlt2).1 (ll j) hAL
          have HH := hide hH
          have Hlast := hide hlast
          clear hs hcs hc h0 h1 h2 h3 h4 h5 h6 hAL hH hlast hz
          go_wp2_with fail
          refine hcall.mono ?_
          rintro r w2 ⟨rfl, hd⟩
          obtain ⟨L', hH', hl'⟩ := HH.out.does hd k Hlast.out
          clear hcall hd
          go_wp2_with fail
          exact ⟨⟨j + 1, by go_num, hlt2, L', hH', hl'⟩, by simp [intOf]; omega⟩
        · obtain rfl : j = n := by omega
          clear hs h0 h1 h2 h3 h4 h5 h6
          have hH2 := hH
          have hl2 := hlast
          clear hH hlast
          go_wp2_with fail
          go_loopw [13] (fun i w' => ∃ q : Nat, i = .int .i64 (q : Int) ∧ q ≤ k + 1 ∧ ∃ L, Held s w w' L (k + 1) ∧ L[k]? = some none) (fun i _ => k + 1 - (intOf i).toNat)
          case atStart => exact ⟨0, rfl, Nat.zero_le _, L, hH2, hl2⟩
          case round =>
            rename_i w8 _
            clear hH2 hl2
            obtain ⟨q, rfl, hqk, L, hH, hlast⟩ := hrel
            have HH := hide hH
            have Hlast := hide hlast
            obtain ⟨⟨A1, c1, g1, A2, c2, g2, hW, hI, hE⟩, hm, hfr⟩ := hH
            have hbl := hW.bl
            rw [hm] at hbl
            have w0 : wr.cell? ⟨s, 0, none⟩ = some (.slice A1 (k + 1) c1) := hbl.cell' rfl
            by_cases hlt3 : q < k + 1
            · have hz : s ≤ wr.heap.size := by have := hfr.size; have := Hws.out; omega
              have hcall := does_any HH.out.1 (by rw [HH.out.2.1]; omega) (by rw [HH.out.2.1]; omega) hz 6 (q : Int) 0 0 0 none 0 0 (by omega) [] ⟨rfl, fun h => absurd h (by omega)⟩
              clear hW hI hE hm hfr hbl hlast hz
              go_wp2_with fail
              refine hcall.mono ?_
              rintro r w2 ⟨rfl, hd⟩
              obtain ⟨L', hH', hl'⟩ := HH.out.does hd k Hlast.out
              clear hcall hd
              go_wp2_with fail
              exact ⟨⟨q + 1, by go_num, hlt3, L', hH', hl'⟩, by simp [intOf]; omega⟩
            · obtain rfl : q = k + 1 := by omega
              obtain ⟨b1, o1, rfl, hg1, cP, -⟩ := hW.o1.look (j := k) (u := .pointer none) (by rw [List.getElem?_map, hlast]; rfl)
              have hl1 := hW.o1.lt b1 hg1
              have hls := hW.bl.lt
              obtain ⟨z, hz⟩ : ∃ z, wr.heap.size = z := ⟨_, rfl⟩
              have Hz := hide hz
              rw [hz] at hl1 hls
              clear hW hI hE hm hbl hlast hg1 hz
              obtain ⟨M, hM⟩ : ∃ M, k + 1 = M := ⟨_, rfl⟩
              go_wp2_with fail
              rw [hM] at w0
              have bz := Bl.new wr 55 #[.slice none 0 0, .int .i64 0, .int .i64 0, .int .i64 0]
              have fz := (Fr.refl (fun _ => False) wr).alloc (.cells #[.slice none 0 0, .int .i64 0, .int .i64 0, .int .i64 0] 55)
              rw [Hz.out] at bz ⊢
              generalize hwz : wr.alloc (.cells #[.slice none 0 0, .int .i64 0, .int .i64 0, .int .i64 0] 55) = wz at bz fz ⊢
              clear hwz
              have hcz : Hid (∀ W, Fr (fun _ => False) wz W → W.cell? ⟨z, 0, none⟩ = some (.slice none 0 0) ∧ W.cell? ⟨z, 1, none⟩ = some (.int .i64 0) ∧ W.cell? ⟨z, 3, none⟩ = some (.int .i64 0)) := fun W hW => ⟨(bz.fr hW id).cell' rfl, (bz.fr hW id).cell' rfl, (bz.fr hW id).cell' rfl⟩
              have hcs0 : ∀ W, Fr (fun _ => False) wz W → W.cell? ⟨s, 0, none⟩ = some (.slice (some ⟨b1, o1, none⟩) M c1) := fun W hW => ((fz.trans hW).cell (by rw [Hz.out]; exact hls) id).trans w0
              have hcp0 : ∀ W, Fr (fun _ => False) wz W → W.cell? ⟨b1, o1 + k, none⟩ = some (.pointer none) := fun W hW => ((fz.trans hW).cell (by rw [Hz.out]; exact hl1) id).trans cP
              have i1 : IntKind.i64.wrap ((M : Int) - 1) = (k : Int) := by rw [show (M : Int) - 1 = (k : Int) by omega]; exact IntWalk.i64_in _ (by omega)
              have i2 : (0 : Int) ≤ (k : Int) := by omega
              have i3 : (k : Int) < (M : Int) := by omega
              clear hM
              have Hfz := hide (hfr.trans (fz.weak (fun x => s ≤ x)))
              have hfz0 : Fr (fun _ => False) wz wz.drew := (Fr.refl _ _).drew
              clear hfr fz bz w0 cP hl1 hls
              refine (spop_z wz (hcz.out wz (Fr.refl _ _)).1 (hcz.out wz (Fr.refl _ _)).2.1 (hcz.out wz (Fr.refl _ _)).2.2).mono ?_
              rintro r w9 ⟨rfl, rfl⟩
              go_wp2_with fail
              have w0 := hcs0 wz (Fr.refl _ _)
              have cP := hcp0 wz (Fr.refl _ _)
              clear hcs0 hcp0
              refine region_tail 12 (by kernel_rfl) (by kernel_rfl) ?_
              intro wd Hwd hcwd hzwd hswd
              simp only [List.take_succ_cons, List.take_zero, List.drop_succ_cons, List.drop_zero]
              repeat still_step
              refine wpStill_nil ?_
              have hf1 : Fr (fun _ => False) wz wd := by rw [Hwd.out]; exact (Fr.refl _ _).drew
              go_wp2_with fail
              refine (push_nil _ none 0 0).mono ?_
              rintro r w2 ⟨rfl, rfl⟩
              go_wp2_with fail
              have hf2 : Fr (fun _ => False) wz (wd.alloc (.cells #[.string { data := #[97] }] 9)) := hf1.alloc _
              refine (spush_full (z := z) _ (hcz.out _ hf2).1 (hcz.out _ hf2).2.1 (hcz.out _ hf2).2.2 _ _).mono ?_
              rintro r w3 ⟨rfl, hf3⟩
              have hs3 := hf2.trans hf3
              clear hf2 hf3
              go_wp2_with fail
              refine (spush_none (z := z) _ (hcz.out _ hs3).1 (hcz.out _ hs3).2.1 (hcz.out _ hs3).2.2).mono ?_
              rintro r w4 ⟨rfl, hf4⟩
              have hs4 := hs3.trans hf4
              clear hs3 hf4
              go_wp2_with fail
              refine (sroom_z (z := z) _ (hcz.out _ hs4).1 (hcz.out _ hs4).2.1 (hcz.out _ hs4).2.2).mono ?_
              rintro r w5 ⟨rfl, rfl⟩
              go_wp2_with fail
              go_ret
              exact ⟨rfl, (Hfz.out.trans (hs4.weak (fun x => s ≤ x))).toBelow (Nat.le_refl _) (fun x hx => by have := Hws.out; omega)⟩
end Go.Proofs.Yteleakbbppbnnaa
