/-
  forms, round; the eight writers of a script.
-/
import Derived.Test.YtbglloafbmamoaaTlvW3
import Derived.Test.YtbglloafbmamoaaTlvQuiet
namespace Go.Proofs.Ytbglloafbmamoaa
open Go.RowKit
set_option linter.unusedVariables false

set_option maxHeartbeats 4000000 in
set_option maxRecDepth 4000 in
theorem forms_any (w : World) (o o' : Option WO) (s : WS) (hT : TAt w 51 o s) (hR : TAt w 55 o' s) :
    Calls Try.prog 27 #[wptr o, wptr o'] w fun e w' => e = .returned (.bool true) ∧ Fr (fun _ => False) w w' := by
  have hfl : Hid (s.form.length ≤ 1048576) := by
    show _ ≤ _
    unfold WS.form
    split
    · cases o with
      | none => have : s = WS.none_ := hT; rw [this]; simp [WS.none_]
      | some r => exact (WAt.ok hT).2
    · simp
  go_enter Try.func27, Try.ntmps27
  go_wp2_with fail
  refine (rform_any' _ o' s hR).mono ?_
  rintro e w1 ⟨P, n, c, g, rfl, hP, hg, hf1⟩
  obtain ⟨er, her⟩ : ∃ er, s.e = er := ⟨_, rfl⟩
  have Her := hide her
  rw [her]
  clear her
  have Hn : Hid (n = s.form.length) := hP.len
  have hnb : n ≤ 1048576 := by rw [Hn.out]; exact hfl.out
  go_wp2_with fail
  refine (tform_any' _ o s (hT.quiet hf1)).mono ?_
  rintro e w2 ⟨P2, n2, c2, g2, rfl, hP2, hg2, hf2⟩
  rw [Her.out]
  obtain rfl : n2 = n := by rw [hP2.len, Hn.out]
  go_wp2_with fail
  refine (tform_any' _ o s ((hT.quiet hf1).quiet hf2)).mono ?_
  rintro e w3 ⟨P3, n3, c3, g3, rfl, hP3, hg3, hf3⟩
  rw [Her.out]
  obtain rfl : n3 = n2 := by rw [hP3.len, Hn.out]
  have hP13 := (hP.fr hf2 (fun _ _ => id)).fr hf3 (fun _ _ => id)
  have hP23 := hP2.fr hf3 (fun _ _ => id)
  go_wp2_with fail
  refine (num_any _ _).mono ?_
  rintro e w' ⟨rfl, rfl⟩
  go_wp2_with fail
  refine (num_any _ _).mono ?_
  rintro e w' ⟨rfl, rfl⟩
  go_wp2_with fail
  refine (same_q _ s.form P2 P c2 c n3 Hn.out (by omega) hP23.sl hP13.sl).mono ?_
  rintro e w4 ⟨rfl, hd4⟩
  have hf4 := fr_of_drewN hd4
  clear hd4
  go_wp2_with fail
  refine (same_q _ s.form P3 P c3 c n3 Hn.out (by omega) (hP3.fr hf4 (fun _ _ => id)).sl (hP13.fr hf4 (fun _ _ => id)).sl).mono ?_
  rintro e w5 ⟨rfl, hd5⟩
  have hf5 := fr_of_drewN hd5
  clear hd5
  have hf35 := hf4.trans hf5
  go_wp2_with fail
  refine (over_any _ s.form P2 n3 c2 g2 (hP23.fr hf35 (fun _ _ => id)) (by omega)).mono ?_
  rintro e w6 ⟨rfl, hf6⟩
  have s1 := hf1.size
  have s2 := hf2.size
  have hPl := hP.lt
  have hP2l := hP2.lt
  have hf36 : Fr (fun x => some x = g2) w3 w6 := (hf35.weak _).trans hf6
  have hP36 := hP3.fr hf36 (fun b e e' => by have := hg3 b e; have := hP2l b e'.symm; omega)
  have hP16 := hP13.fr hf36 (fun b e e' => by have := hPl b e; have := hg2 b e'.symm; omega)
  go_wp2_with fail
  refine (same_q _ s.form P3 P c3 c n3 Hn.out (by omega) hP36.sl hP16.sl).mono ?_
  rintro e w7 ⟨rfl, hd7⟩
  go_wp2_with fail
  go_ret
  exact ⟨rfl, ((((hf1.trans hf2).trans hf3).comp hf36 fun x hx e => by have := hg2 x e.symm; omega)).trans (fr_of_drewN hd7)⟩

/-- One of a script's writers. -/
structure Ob where
  ty : TypeId
  o : Option WO
  s : WS
structure Obs (w : World) (B : Nat) (l : List Ob) : Prop where
  at_ : ∀ x ∈ l, TAt w x.ty x.o x.s
  new : ∀ x ∈ l, ∀ b, foot x.o b → B ≤ b
  ap : l.Pairwise fun x y => ∀ b, foot x.o b → ¬ foot y.o b
theorem Obs.fr {w w' : World} {B : Nat} {l : List Ob} {S : Nat → Prop} (h : Obs w B l) (hf : Fr S w w') (hS : ∀ x ∈ l, ∀ b, foot x.o b → ¬ S b) : Obs w' B l :=
  ⟨fun x hx => (h.at_ x hx).fr hf (hS x hx), h.new, h.ap⟩
theorem Obs.apart {w : World} {B : Nat} {l : List Ob} (h : Obs w B l) {i j : Nat} {x y : Ob} (hi : l[i]? = some x) (hj : l[j]? = some y) (hij : i ≠ j) : ∀ b, foot x.o b → ¬ foot y.o b := by
  have hp := List.pairwise_iff_getElem.1 h.ap
  obtain ⟨hi1, rfl⟩ := List.getElem?_eq_some_iff.1 hi
  obtain ⟨hj1, rfl⟩ := List.getElem?_eq_some_iff.1 hj
  intro b h1 h2
  rcases Nat.lt_or_gt_of_ne hij with h3 | h3
  · exact hp i j hi1 hj1 h3 b h1 h2
  · exact hp j i hj1 hi1 h3 b h2 h1
theorem Obs.step {w w' : World} {B : Nat} {l : List Ob} (h : Obs w B l) {i : Nat} {x : Ob} (hi : l[i]? = some x) {s' : WS} (ho : OOut x.ty x.o s' w w') (hB : B ≤ w.heap.size) :
    ∃ o', wptr o' = wptr x.o ∧ Obs w' B (l.set i ⟨x.ty, o', s'⟩) ∧ Fr (foot x.o) w w' ∧ (∀ b, foot o' b → foot x.o b ∨ w.heap.size ≤ b) := by
  obtain ⟨o', h1, h2, h3, h4⟩ := ho
  have hx : x ∈ l := List.mem_of_getElem? hi
  have hlen : i < l.length := (List.getElem?_eq_some_iff.1 hi).1
  refine ⟨o', h1, ⟨fun y hy => ?_, fun y hy b hb => ?_, ?_⟩, h4, h3⟩
  · obtain ⟨j, hj⟩ := List.mem_iff_getElem?.1 hy
    by_cases hij : i = j
    · subst hij
      rw [List.getElem?_set_self hlen] at hj
      cases hj; exact h2
    · rw [List.getElem?_set_ne hij] at hj
      exact (h.at_ y (List.mem_of_getElem? hj)).fr h4 fun b hb hb' => h.apart hi hj hij b hb' hb
  · obtain ⟨j, hj⟩ := List.mem_iff_getElem?.1 hy
    by_cases hij : i = j
    · subst hij
      rw [List.getElem?_set_self hlen] at hj
      cases hj
      rcases h3 b hb with hb | hb
      · exact h.new x hx b hb
      · omega
    · rw [List.getElem?_set_ne hij] at hj
      exact h.new y (List.mem_of_getElem? hj) b hb
  · rw [List.pairwise_iff_getElem]
    intro a c ha hc hac b hb1 hb2
    rw [List.length_set] at ha hc
    have key : ∀ (k : Nat) (hk : k < l.length), k ≠ i → ∀ b, foot o' b → ¬ foot l[k].o b := fun k hk hki b hb hb' => by
      rcases h3 b hb with hb | hb
      · exact h.apart hi (List.getElem?_eq_getElem hk) (Ne.symm hki) b hb hb'
      · have := (h.at_ _ (List.getElem_mem hk)).lt b hb'
        omega
    rw [List.getElem_set] at hb1 hb2
    by_cases hia : i = a
    · rw [if_pos hia] at hb1
      rw [if_neg (by omega)] at hb2
      exact key c hc (by omega) b hb1 hb2
    · rw [if_neg hia] at hb1
      by_cases hic : i = c
      · rw [if_pos hic] at hb2
        exact key a ha (by omega) b hb2 hb1
      · rw [if_neg hic] at hb2
        exact List.pairwise_iff_getElem.1 h.ap a c ha hc hac b hb1 hb2
theorem TAt.notBl {w : World} {ty t : TypeId} {o : Option WO} {s : WS} (h : TAt w ty o s) {b : Nat} {cs : Array Value} (hb : Bl w b t cs) (h1 : ty ≠ t) (h2 : 5 ≠ t) : ¬ foot o b := by
  rintro ⟨r, rfl, rfl | e⟩
  · exact (WAt.bl h).apart hb h1 rfl
  · have := WAt.ow h
    rw [← e] at this
    exact this.neBl hb h2 rfl

/-- The law's writers: those of the program (0 to 3), those of the reference (4 to 7). -/
structure WI (w0 w : World) (bw br : Nat) (cw cr : Array Value) (l : List Ob) : Prop where
  obs : Obs w w0.heap.size l
  ty : ∀ x ∈ l, x.ty = 51 ∨ x.ty = 55
  ws : Bl w bw 49 cw
  rs : Bl w br 53 cr
  row : ∀ i, i < 4 → ∃ o o' s, l[i]? = some ⟨51, o, s⟩ ∧ l[i + 4]? = some ⟨55, o', s⟩ ∧ cw[i]? = some (wptr o) ∧ cr[i]? = some (wptr o')
  fr : Fr (fun _ => False) w0 w
theorem WI.notW {w0 w : World} {bw br : Nat} {cw cr : Array Value} {l : List Ob} (h : WI w0 w bw br cw cr l) : ∀ x ∈ l, ¬ foot x.o bw ∧ ¬ foot x.o br := fun x hx => by
  have h1 := h.obs.at_ x hx
  rcases h.ty x hx with e | e <;> rw [e] at h1 <;> exact ⟨h1.notBl h.ws (by decide) (by decide), h1.notBl h.rs (by decide) (by decide)⟩
theorem WI.moved {w0 w w' : World} {bw br : Nat} {cw cr : Array Value} {l : List Ob} {S : Nat → Prop} (h : WI w0 w bw br cw cr l) (hf : Fr S w w') (hS : ∀ x ∈ l, ∀ b, foot x.o b → ¬ S b) (hw : ¬ S bw) (hr : ¬ S br) (h0 : ∀ b, b < w0.heap.size → ¬ S b) : WI w0 w' bw br cw cr l :=
  ⟨h.obs.fr hf hS, h.ty, h.ws.fr hf hw, h.rs.fr hf hr, h.row, h.fr.comp hf fun i hi hs => h0 i hi hs⟩
theorem WI.quiet {w0 w w' : World} {bw br : Nat} {cw cr : Array Value} {l : List Ob} (h : WI w0 w bw br cw cr l) (hf : Fr (fun _ => False) w w') : WI w0 w' bw br cw cr l := h.moved hf (fun _ _ _ _ => id) id id fun _ _ => id
/-- Writer k of both is turned, alike. -/
theorem WI.step {w0 w w1 w2 : World} {bw br : Nat} {cw cr : Array Value} {l : List Ob} (h : WI w0 w bw br cw cr l) {k : Nat} (hk : k < 4) {o o' : Option WO} {s s' : WS} (h1 : l[k]? = some ⟨51, o, s⟩) (h2 : l[k + 4]? = some ⟨55, o', s⟩)
    (hT : OOut 51 o s' w w1) (hR : OOut 55 o' s' w1 w2) :
    ∃ l', WI w0 w2 bw br cw cr l' ∧ ∀ x ∈ l', ∀ b, foot x.o b → (∃ y ∈ l, foot y.o b) ∨ w.heap.size ≤ b := by
  have hs0 := h.fr.size
  obtain ⟨o1, e1, O1, F1, N1⟩ := h.obs.step h1 hT hs0
  have h2' : (l.set k ⟨51, o1, s'⟩)[k + 4]? = some ⟨55, o', s⟩ := by rw [List.getElem?_set_ne (by omega)]; exact h2
  obtain ⟨o2, e2, O2, F2, N2⟩ := O1.step h2' hR (Nat.le_trans hs0 F1.size)
  have hkl : k < l.length := (List.getElem?_eq_some_iff.1 h1).1
  have hkl4 : k + 4 < (l.set k ⟨51, o1, s'⟩).length := (List.getElem?_eq_some_iff.1 h2').1
  have n1 := h.notW _ (List.mem_of_getElem? h1)
  have n2 := h.notW _ (List.mem_of_getElem? h2)
  have hF12 : Fr (fun b => foot o b ∨ foot o' b) w w2 := (F1.mono fun _ _ e => .inl e).trans (F2.mono fun _ _ e => .inr e)
  refine ⟨_, ⟨O2, ?_, h.ws.fr hF12 (fun e => e.elim n1.1 n2.1), h.rs.fr hF12 (fun e => e.elim n1.2 n2.2), ?_, ?_⟩, ?_⟩
  · intro x hx
    rcases List.mem_or_eq_of_mem_set hx with hx | rfl
    · rcases List.mem_or_eq_of_mem_set hx with hx | rfl
      · exact h.ty x hx
      · exact .inl rfl
    · exact .inr rfl
  · intro i hi
    obtain ⟨p, p', t, a1, a2, a3, a4⟩ := h.row i hi
    by_cases hik : k = i
    · subst hik
      rw [h1] at a1; cases a1
      rw [h2] at a2; cases a2
      refine ⟨o1, o2, s', ?_, ?_, ?_, ?_⟩
      · rw [List.getElem?_set_ne (by omega), List.getElem?_set_self hkl]
      · rw [List.getElem?_set_self hkl4]
      · rw [a3, e1]
      · rw [a4, e2]
    · refine ⟨p, p', t, ?_, ?_, a3, a4⟩
      · rw [List.getElem?_set_ne (by omega), List.getElem?_set_ne hik]; exact a1
      · rw [List.getElem?_set_ne (by omega), List.getElem?_set_ne (by omega)]; exact a2
  · refine h.fr.comp hF12 fun i hi e => ?_
    rcases e with e | e
    · have := h.obs.new _ (List.mem_of_getElem? h1) i e; omega
    · have := h.obs.new _ (List.mem_of_getElem? h2) i e; omega
  · intro x hx b hb
    rcases List.mem_or_eq_of_mem_set hx with hx | rfl
    · rcases List.mem_or_eq_of_mem_set hx with hx | rfl
      · exact .inl ⟨x, hx, hb⟩
      · rcases N1 b hb with hb | hb
        · exact .inl ⟨_, List.mem_of_getElem? h1, hb⟩
        · exact .inr hb
    · rcases N2 b hb with hb | hb
      · exact .inl ⟨_, List.mem_of_getElem? h2, hb⟩
      · exact .inr (Nat.le_trans F1.size hb)
end Go.Proofs.Ytbglloafbmamoaa
