/-
  Texts merged into one, to keep the claim small: Su8, St1.
-/
import Derived.Test.YtlcjhbemgagchaaMs44
import Derived.Test.YtlcjhbemgagchaaMc2
section
/-
  stream: the reference's Stream: New, Feed, Waiting, Deaf.
-/
namespace Go.Proofs.Ytlcjhbemgagchaa
open Go.RowKit
set_option linter.unusedVariables false
abbrev tRs : TypeId := 100
theorem Ow.tailS {w : World} {e : TypeId} {s n c b o : Nat} {xs : List Value} {g : Option Nat} (h : Ow w e s (some ⟨b, o, none⟩) n c xs g) {k : Nat} (hk : k ≤ n) : Ow w e s (some ⟨b, o + k * s, none⟩) (n - k) (c - k) (xs.drop (k * s)) g := by
  have hl := h.1
  rcases h.2 with ⟨h0, _⟩ | ⟨b', o', cur, hA, hg, hh, h1, h2, h3, h4⟩
  · cases h0
  · cases hA
    have e1 := Nat.sub_mul n k s
    have e2 := Nat.sub_mul c k s
    have e3 := Nat.mul_le_mul_right s hk
    have e4 := Nat.mul_le_mul_right s h2
    refine ⟨by rw [List.length_drop]; omega, .inr ⟨b, o + k * s, cur, rfl, hg, hh, by omega, by omega, by omega, fun j hj => ?_⟩⟩
    rw [List.getElem?_drop, Nat.add_assoc]
    exact h4 (k * s + j) (by omega)
theorem Ow.zeroS {w : World} {e : TypeId} {s n c b o : Nat} {xs : List Value} {g : Option Nat} (h : Ow w e s (some ⟨b, o, none⟩) n c xs g) : Ow w e s (some ⟨b, o, none⟩) 0 0 [] g := by
  rcases h.2 with ⟨h0, _⟩ | ⟨b', o', cur, hA, hg, hh, h1, h2, h3, h4⟩
  · cases h0
  · cases hA
    exact ⟨by simp, .inr ⟨b, o, cur, rfl, hg, hh, by omega, Nat.le_refl _, by unfold maxLen; omega, fun j hj => by omega⟩⟩
theorem flat_drop (l : List PC) : ∀ k, (l.flatMap pcells).drop (k * 25) = (l.drop k).flatMap pcells := by
  induction l with
  | nil => intro k; simp
  | cons a l ih =>
    intro k
    rcases k with _ | k
    · simp
    · rw [List.flatMap_cons, List.drop_append, pcells_len, List.drop_of_length_le (by rw [pcells_len]; omega), show (k + 1) * 25 - 25 = k * 25 by omega, ih k]; simp
theorem Pcr.tail {W w : World} {l : List PC} {t : TypeId} {b o n c : Nat} {g : Option Nat} (h : Pcr W w l t (some ⟨b, o, none⟩) n c g) {k : Nat} (hk : k ≤ n) : Pcr W w (l.drop k) t (some ⟨b, o + k * 25, none⟩) (n - k) (c - k) g :=
  ⟨by rw [List.length_drop, h.len], by rw [← flat_drop]; exact h.ow.tailS hk, h.new, fun p hp => h.rt p (List.mem_of_mem_drop hp)⟩
theorem Pcr.zero {W w : World} {l : List PC} {t : TypeId} {b o n c : Nat} {g : Option Nat} (h : Pcr W w l t (some ⟨b, o, none⟩) n c g) {k : Nat} (hk : l.length ≤ k) : Pcr W w (l.drop k) t (some ⟨b, o, none⟩) 0 0 g := by
  rw [List.drop_of_length_le hk]
  exact ⟨rfl, h.ow.zeroS, h.new, fun p hp => by cases hp⟩
theorem Pcr.base {W w W' : World} {l : List PC} {t : TypeId} {A : Option Addr} {n c : Nat} {g : Option Nat} (h : Pcr W w l t A n c g) (hs : W'.heap.size ≤ W.heap.size) : Pcr W' w l t A n c g := ⟨h.len, h.ow, fun b e => Nat.le_trans hs (h.new b e), h.rt⟩
theorem Pcr.app1 {W w w' : World} {l : List PC} {A : Option Addr} {n c : Nat} {g : Option Nat} {r : Nat} (h : Pcr W w l tRp A n c g) (hr : Typed w r tRs) (hf : Fr (fun x => x = r) w w') : Pcr W w' l tRp A n c g := by
  have no : ∀ t x, Typed w x t → t ≠ tRs → ¬ x = r := fun t x hx ht e => by subst e; exact ht (hx.same hr)
  exact ⟨h.len, h.ow.fr hf fun b e => no tRp b (h.ow.typed b e) (by decide), h.new, fun q hq => (h.rt q hq).frt hf (fun x hx => no _ x hx (by decide)) (fun x hx => no _ x hx (by decide))⟩
/-- What was told, and what is told now: what is told of all. -/
theorem FedP.all {T ds : List Nat} {u : Nat} {d : Bool} {L l : List PC} {u2 : Nat} {d2 : Bool} (h : Pcs T 0 L u d) (hf : FedP (T ++ ds) u d l u2 d2) : Pcs (T ++ ds) 0 (L ++ l) u2 d2 := by
  rcases hf with ⟨rfl, h1⟩ | ⟨rfl, rfl, rfl, rfl⟩
  · exact h.more ds rfl h1
  · rw [List.append_nil]; exact h.deaf ds rfl
theorem Pcs.len_le {bs ds : List Nat} {k : Nat} {l : List PC} {u : Nat} {d : Bool} (h : Pcs bs k l u d) : ∀ {M : List PC} {u' : Nat} {d' : Bool}, Pcs (bs ++ ds) k M u' d' → l.length ≤ M.length := by
  have hal : (bs ++ ds).length = bs.length + ds.length := List.length_append
  induction h with
  | short _ => intros; simp
  | half _ _ _ => intros; simp
  | @long k h1 h2 =>
    intro M u' d' h'
    have e := longS_app (bs := bs) (ds := ds) (k := k) h1
    cases h' with
    | short h => omega
    | long => simp
    | half h h3 => omega
    | bad h => omega
    | one h => omega
  | @bad k c er _ _ _ h1 h2 h3 h4 _ ih =>
    intro M u' d' h'
    have e := longS_app (bs := bs) (ds := ds) (k := k) (by omega)
    cases h' with
    | short h => omega
    | long h h5 => omega
    | half h h5 h6 => omega
    | bad _ _ _ _ h => rw [e] at h; have := ih h; simp only [List.length_cons]; omega
    | one _ _ _ h => rw [e] at h; have := ih h; simp only [List.length_cons]; omega
  | @one k c _ _ _ h1 h2 h3 _ ih =>
    intro M u' d' h'
    have e := longS_app (bs := bs) (ds := ds) (k := k) (by omega)
    cases h' with
    | short h => omega
    | long h h5 => omega
    | half h h5 h6 => omega
    | bad _ _ _ _ h => rw [e] at h; have := ih h; simp only [List.length_cons]; omega
    | one _ _ _ h => rw [e] at h; have := ih h; simp only [List.length_cons]; omega
theorem LikeP.tail {l L M : List PC} (h : LikeP (L ++ l) M) : LikeP l (M.drop L.length) := by
  have := h.drop L.length
  rwa [List.drop_left] at this
/-- The reference's stream. -/
structure RSF (w : World) (r : Nat) (T : List Nat) (u : Nat) (d : Bool) (lg : Option Nat) (LA : Option Addr) (lc : Nat) (L : List PC) : Prop where
  bl : Bl w r tRs #[.slice LA T.length lc, .int .i64 (L.length : Int)]
  ow : Ow w 5 1 LA T.length lc (T.map bn) lg
  ps : Pcs T 0 L u d
def RSM (w : World) (r : Nat) (T : List Nat) (u : Nat) (d : Bool) (lg : Option Nat) : Prop := ∃ LA lc L, RSF w r T u d lg LA lc L
theorem RSM.fr {w w' : World} {r : Nat} {T : List Nat} {u : Nat} {d : Bool} {lg : Option Nat} {S : Nat → Prop} (h : RSM w r T u d lg) (hf : Fr S w w') (h1 : ¬ S r) (h2 : ∀ x, lg = some x → ¬ S x) : RSM w' r T u d lg := by
  obtain ⟨LA, lc, L, h⟩ := h
  exact ⟨LA, lc, L, h.bl.fr hf h1, h.ow.fr hf h2, h.ps⟩
theorem RSM.typed {w : World} {r : Nat} {T : List Nat} {u : Nat} {d : Bool} {lg : Option Nat} (h : RSM w r T u d lg) : Typed w r tRs ∧ ∀ x, lg = some x → Typed w x 5 := by
  obtain ⟨LA, lc, L, h⟩ := h
  exact ⟨Bl.typed h.bl, fun x e => h.ow.typed x e⟩
theorem rnewS_any (w : World) : Calls Try.prog 25 #[] w fun e w' => e = .returned (.pointer (some ⟨w.heap.size, 0, none⟩)) ∧ RSM w' w.heap.size [] 0 false none ∧ Fr (fun _ => False) w w' := by
  go_enter Try.func25, Try.ntmps25
  go_wp2_with fail
  go_ret
  exact ⟨rfl, ⟨none, 0, [], Bl.new _ _ _, Ow.nil_ _ _ _, .short (by decide)⟩, (Fr.refl _ _).alloc _⟩
theorem rwaiting_any (w : World) (r : Nat) (T : List Nat) (u : Nat) (d : Bool) (lg : Option Nat) (h : RSM w r T u d lg) (hT : T.length ≤ 1048576) (h256 : ∀ x ∈ T, x < 256) :
    Calls Try.prog 31 #[.pointer (some ⟨r, 0, none⟩)] w fun e w' => e = .returned (.int .i64 (waitN T u d : Int)) ∧ Fr (fun _ => False) w w' := by
  obtain ⟨LA, lc, L, h⟩ := h
  have hpc := rpieces_any w T LA T.length lc rfl hT h.ow.cap.1 h.ow.cap.2 h256 h.ow.sl
  obtain ⟨n0, hn0⟩ : ∃ n0, T.length = n0 := ⟨_, rfl⟩
  have c0 : w.cell? ⟨r, 0, none⟩ = some (.slice LA T.length lc) := Bl.cell' (i := 0) h.bl rfl
  have H := hide h.ps
  rw [hn0] at c0 hpc
  clear h hn0 hT h256
  go_enter Try.func31, Try.ntmps31
  go_wp2_with fail
  refine hpc.mono ?_
  rintro e w' ⟨l, u', dd, B, m, md, g, rfl, hP, hR, hF⟩
  obtain ⟨rfl, rfl, -⟩ := H.out.same hP
  have HF := hide hF
  clear hpc hP hR hF H
  go_wp2_with fail
  go_ret
  exact ⟨rfl, HF.out⟩
theorem rdeaf_any (w : World) (r : Nat) (T : List Nat) (u : Nat) (d : Bool) (lg : Option Nat) (h : RSM w r T u d lg) (hT : T.length ≤ 1048576) (h256 : ∀ x ∈ T, x < 256) :
    Calls Try.prog 33 #[.pointer (some ⟨r, 0, none⟩)] w fun e w' => e = .returned (.bool d) ∧ Fr (fun _ => False) w w' := by
  obtain ⟨LA, lc, L, h⟩ := h
  have hpc := rpieces_any w T LA T.length lc rfl hT h.ow.cap.1 h.ow.cap.2 h256 h.ow.sl
  obtain ⟨n0, hn0⟩ : ∃ n0, T.length = n0 := ⟨_, rfl⟩
  have c0 : w.cell? ⟨r, 0, none⟩ = some (.slice LA T.length lc) := Bl.cell' (i := 0) h.bl rfl
  have H := hide h.ps
  rw [hn0] at c0 hpc
  clear h hn0 hT h256
  go_enter Try.func33, Try.ntmps33
  go_wp2_with fail
  refine hpc.mono ?_
  rintro e w' ⟨l, u', dd, B, m, md, g, rfl, hP, hR, hF⟩
  obtain ⟨rfl, rfl, -⟩ := H.out.same hP
  have HF := hide hF
  clear hpc hP hR hF H
  go_wp2_with fail
  go_ret
  exact ⟨rfl, HF.out⟩
theorem rwaiting_nil (w : World) : Calls Try.prog 31 #[.pointer none] w fun e w' => e = .returned (.int .i64 0) ∧ w = w' := by
  go_enter Try.func31, Try.ntmps31
  go_wp2_with fail
  go_ret
  exact ⟨rfl, rfl⟩
theorem rdeaf_nil (w : World) : Calls Try.prog 33 #[.pointer none] w fun e w' => e = .returned (.bool false) ∧ w = w' := by
  go_enter Try.func33, Try.ntmps33
  go_wp2_with fail
  go_ret
  exact ⟨rfl, rfl⟩
theorem rfeed_nil (w : World) (D : Value) : Calls Try.prog 26 #[.pointer none, D] w fun e w' => e = .returned (.slice none 0 0) ∧ w = w' := by
  go_enter Try.func26, Try.ntmps26
  go_wp2_with fail
  go_ret
  exact ⟨rfl, rfl⟩
def RFeedPost (w : World) (r : Nat) (T : List Nat) (u : Nat) (d : Bool) (lg : Option Nat) (ds : List Nat) (e : Ending) (w' : World) : Prop :=
  ∃ (L M : List PC) (u' : Nat) (d' : Bool) (B : Option Addr) (m c : Nat) (g lg' : Option Nat), e = .returned (.slice B m c) ∧ Pcs T 0 L u d ∧ Pcs (T ++ ds) 0 M u' d' ∧ Pcr w w' (M.drop L.length) tRp B m c g ∧ RSM w' r (T ++ ds) u' d' lg' ∧ (∀ x, lg' = some x → some x = lg ∨ w.heap.size ≤ x) ∧ Fr (fun x => x = r ∨ some x = lg) w w'
set_option maxHeartbeats 1000000 in
set_option maxRecDepth 8000 in
theorem rfeed_any (w : World) (r : Nat) (T : List Nat) (u : Nat) (d : Bool) (lg : Option Nat) (h : RSM w r T u d lg) (ds : List Nat) (D : Option Addr) (nd cd : Nat) (hnd : nd = ds.length) (hlen : (T ++ ds).length ≤ 1048576) (h256 : ∀ x ∈ T ++ ds, x < 256) (hD : Sl w 1 D nd (ds.map bn)) :
    Calls Try.prog 26 #[.pointer (some ⟨r, 0, none⟩), .slice D nd cd] w (RFeedPost w r T u d lg ds) := by
  obtain ⟨i0, hi, hz0, hz1, hz2⟩ := info_parts info5
  obtain ⟨LA, lc, L, h⟩ := h
  have hpl := Bl.lt h.bl
  have hty : ∀ x, lg = some x → x ≠ r := fun x e e' => absurd ((h.ow.typed x e).same (e' ▸ Bl.typed h.bl)) (by decide)
  obtain ⟨n0, hn0⟩ : ∃ n0, T.length = n0 := ⟨_, rfl⟩
  have c0 : w.cell? ⟨r, 0, none⟩ = some (.slice LA T.length lc) := Bl.cell' (i := 0) h.bl rfl
  have hO0 := h.ow
  rw [hn0] at c0 hO0
  have hlen2 : n0 + nd ≤ 1048576 := by rw [List.length_append] at hlen; omega
  have H := hide h
  have HD : Hid (n0 + nd = (T ++ ds).length) := by show _ = _; rw [List.length_append, hn0, hnd]
  have H256 := hide h256
  have Hty := hide hty
  clear h hn0 hnd h256 hty hlen
  go_enter Try.func26, Try.ntmps26
  go_wp2_with (at_builtin; go_loud (refine wpList_append_ow _ rfl _ _ 22 rfl 5 i0 (.int .u8 0) 1 1 Try.underlying22 hi hz0 hz1 hz2 rfl (by decide) _ _ _ _ _ rfl hO0 _ _ _ _ rfl hD (bn_one _) (by unfold maxLen; omega) (by omega) ?_))
  intro A1 c1 w1 g1 hO1 hf1 hg1
  obtain ⟨N, hN⟩ : ∃ N, n0 + nd = N := ⟨_, rfl⟩
  rw [hN] at hO1 HD hlen2
  simp only [hN]
  clear hN
  have hb1 : Bl w1 r tRs #[.slice LA T.length lc, .int .i64 (L.length : Int)] := H.out.bl.fr hf1 (fun e => Hty.out r e.symm rfl)
  have hg1' : ∀ x, g1 = some x → some x = lg ∨ w.heap.size ≤ x := fun x e => by
    rcases hg1 with e1 | ⟨b, e1, hb⟩
    · exact .inl (by rw [← e, e1])
    · rw [e1] at e; cases e; exact .inr hb
  have hrg : ∀ x, g1 = some x → x ≠ r := fun x e => by
    rcases hg1' x e with h | h
    · exact Hty.out x h.symm
    · omega
  have hO1' : Ow w1 5 1 A1 N c1 ((T ++ ds).map bn) g1 := by rw [List.map_append]; exact hO1
  obtain ⟨w2, hw2⟩ : ∃ w2, w1.setCell ⟨r, 0, none⟩ (.slice A1 N c1) = w2 := ⟨_, rfl⟩
  have hb2 : Bl w2 r tRs #[.slice A1 N c1, .int .i64 (L.length : Int)] := by rw [← hw2]; exact Bl.set hb1 0 _
  have hF2 : Fr (fun x => x = r) w1 w2 := by rw [← hw2]; exact Fr.setAt (Fr.refl _ _) _
  have hO2 := hO1'.fr hF2 (fun x e => hrg x e)
  have hFF : Fr (fun x => x = r ∨ some x = lg) w w2 := (hf1.mono fun x _ e => .inr e).trans (hF2.mono fun x _ e => .inl e)
  have hpc := rpieces_any w2 (T ++ ds) A1 N c1 HD.out hlen2 hO2.cap.1 hO2.cap.2 H256.out hO2.sl
  have c01 : w1.cell? ⟨r, 0, none⟩ = some (.slice LA T.length lc) := Bl.cell' (i := 0) hb1 rfl
  have z01 := Bl.free hb1 0
  have c02 : w2.cell? ⟨r, 0, none⟩ = some (.slice A1 N c1) := Bl.cell' (i := 0) hb2 rfl
  have H2 := hide (And.intro hb2 (And.intro hO2 (And.intro hFF (And.intro hg1' hrg))))
  clear hb1 hg1' hrg hO1' hO1 hf1 hg1 hb2 hF2 hO2 hFF c0 hO0 hD
  go_wp2_with fail
  (try simp only [hw2])
  refine hpc.mono ?_
  rintro e w3 ⟨M, u', dd, B, m, md, g, rfl, hP, hR, hF⟩
  obtain ⟨hb2, hO2, hFF, hg1, hrg⟩ := H2.out
  have hb3 := hb2.fr hF id
  have hO3 := hO2.fr hF (fun _ _ => id)
  have hF3 := hFF.trans (hF.weak _)
  have hr3 : r < w3.heap.size := Bl.lt hb3
  have hcap := hR.ow.cap
  have hmc := hcap.1
  have hmd : md ≤ 9223372036854775807 := by have := hcap.2; unfold maxLen at this; omega
  clear hcap
  have c11 : w3.cell? ⟨r, 1, none⟩ = some (.int .i64 (L.length : Int)) := Bl.cell' (i := 1) hb3 rfl
  have z11 := Bl.free hb3 1
  have hLM : L.length ≤ m := by rw [hR.len]; exact H.out.ps.len_le hP
  obtain ⟨t0, ht0⟩ : ∃ t0, L.length = t0 := ⟨_, rfl⟩
  rw [ht0] at c11 hLM
  have hb4 : Bl (w3.setCell ⟨r, 1, none⟩ (.int .i64 (m : Int))) r tRs #[.slice A1 N c1, .int .i64 (m : Int)] := Bl.set hb3 1 _
  have hF4 : Fr (fun x => x = r) w3 (w3.setCell ⟨r, 1, none⟩ (.int .i64 (m : Int))) := Fr.setAt (Fr.refl _ _) _
  have hO4 := hO3.fr hF4 (fun x e => hrg x e)
  have hR4 : Pcr w (w3.setCell ⟨r, 1, none⟩ (.int .i64 (m : Int))) M tRp B m md g := (hR.base hFF.size).app1 (Bl.typed hb3) hF4
  have hF5 : Fr (fun x => x = r ∨ some x = lg) w (w3.setCell ⟨r, 1, none⟩ (.int .i64 (m : Int))) := hF3.trans (hF4.mono fun x _ e => .inl e)
  have hRS : RSM (w3.setCell ⟨r, 1, none⟩ (.int .i64 (m : Int))) r (T ++ ds) u' dd g1 := ⟨A1, c1, M, by rw [← HD.out, ← hR.len]; exact hb4, by rw [← HD.out]; exact hO4, hP⟩
  have HX := hide (And.intro hR4 (And.intro hF5 (And.intro hRS (And.intro hg1 (And.intro hP ht0)))))
  clear hb2 hO2 hFF hb3 hO3 hF3 hg1 hrg hP hR hF ht0 hpc hb4 hF4 hO4 hR4 hF5 hRS
  by_cases hz : md = t0
  · obtain rfl := hz
    obtain rfl : m = md := by omega
    go_wp2_with fail
    go_ret
    obtain ⟨x1, x2, x3, x4, x5, x6⟩ := HX.out
    subst x6
    refine ⟨L, M, u', dd, B, 0, 0, g, g1, by simp, H.out.ps, x5, ?_, x3, x4, x2⟩
    cases B with
    | none =>
      rw [List.drop_of_length_le (by have := x1.len; omega)]
      have hO : Ow (w3.setCell ⟨r, 1, none⟩ (.int .i64 (L.length : Int))) tRp 25 none 0 0 [] g := by
        rcases x1.ow.2 with ⟨_, _, _, hg⟩ | ⟨b, o, cur, e, _⟩
        · rw [hg]; exact Ow.nil_ _ _ _
        · cases e
      exact ⟨rfl, hO, x1.new, fun p hp => by cases hp⟩
    | some a =>
      obtain ⟨b, o, e⟩ : ∃ b o, a = ⟨b, o, none⟩ := by
        rcases x1.ow.2 with ⟨e, _⟩ | ⟨b, o, cur, e, _⟩
        · cases e
        · cases e; exact ⟨b, o, rfl⟩
      subst e
      exact x1.zero (by have := x1.len; omega)
  · have hz2 : ¬ (md : Int) = (t0 : Int) := by omega
    go_wp2_with fail
    go_ret
    obtain ⟨x1, x2, x3, x4, x5, x6⟩ := HX.out
    subst x6
    obtain ⟨b, o, rfl⟩ : ∃ b o, B = some ⟨b, o, none⟩ := by
      rcases x1.ow.2 with ⟨_, e1, e2, _⟩ | ⟨b, o, cur, e, _⟩
      · omega
      · exact ⟨b, o, e⟩
    exact ⟨L, M, u', dd, some ⟨b, o + L.length * 25, none⟩, m - L.length, md - L.length, g, g1, by simp [Addr.add], H.out.ps, x5, x1.tail hLM, x3, x4, x2⟩
end Go.Proofs.Ytlcjhbemgagchaa
end

section
/-
  stream: Frame, the program's and the reference's.
-/
namespace Go.Proofs.Ytlcjhbemgagchaa
open Go.RowKit
set_option linter.unusedVariables false

end Go.Proofs.Ytlcjhbemgagchaa
end
