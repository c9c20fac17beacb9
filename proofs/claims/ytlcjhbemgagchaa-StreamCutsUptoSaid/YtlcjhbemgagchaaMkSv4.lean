/-
  Texts merged into one, to keep the claim small: Sv4.
-/
import Derived.Test.YtlcjhbemgagchaaMkSv3
import Derived.Deep.CutBlock
/-
  StreamCuts: the walk.
-/
namespace Go.Proofs.Ytlcjhbemgagchaa
open Go.RowKit
set_option linter.unusedVariables false
theorem StAt.stm0 {w : World} {p : Nat} (h : StAt w p [] 3 0 (fnL p) false none 0 none) : StM w p [] 0 false none :=
  ⟨[], 3, 0, fnL p, none, 0, h.bl, h.ow, .inr (.inl ⟨rfl, by decide, Nat.le_refl _, rfl, rfl, rfl, rfl⟩)⟩
theorem Sl.cut1 {w : World} {A : Option Addr} {n : Nat} {xs : List Value} (h : Sl w 1 A n xs) {k : Nat} (hk : k ≤ n) : Sl w 1 A k (xs.take k) := by
  have hl := h.1
  refine ⟨by rw [List.length_take]; omega, fun h0 => ?_⟩
  obtain ⟨b, o, e, hc⟩ := h.2 (by omega)
  refine ⟨b, o, e, fun j u hu => hc j u ?_⟩
  rw [List.getElem?_take] at hu
  split at hu
  · exact hu
  · cases hu
/-- A part of a slice of bytes, wherever it begins. -/
theorem Sl.mid {w : World} {b o n : Nat} {xs : List Nat} (h : Sl w 1 (some ⟨b, o, none⟩) n (xs.map bn)) {i k : Nat} (hk : i + k ≤ n) : Sl w 1 (some ⟨b, o + i, none⟩) k (((xs.drop i).take k).map bn) := by
  have h1 := (h.rest8 (k := i) (by omega)).cut1 (k := k) (by omega)
  rwa [← List.map_take] at h1
theorem take_drop_add (T : List Nat) (i k : Nat) : T.take i ++ (T.drop i).take k = T.take (i + k) := by
  rw [List.take_add]
theorem Typed.lt4 {w : World} {b : Nat} {t : TypeId} (h : Typed w b t) : b < w.heap.size := by
  obtain ⟨cs, h⟩ := h
  exact (Array.getElem?_eq_some_iff.1 h).1
/-- A stream that was fed T from a fresh start, and the rows that it told. -/
structure Gath (W w : World) (p : Nat) (T : List Nat) (s : Option Nat) (A : Option Addr) (n c : Nat) (g : Option Nat) (l : List PC) (u : Nat) (d : Bool) : Prop where
  st : StM w p T u d s
  ps : Pcs T 0 l u d
  rw_ : Pcr W w l tPc A n c g
  sn : ∀ x, s = some x → W.heap.size ≤ x
  fr : Fr (fun x => x = p) W w
theorem Gath.fed {W w w' w2 : World} {p : Nat} {T ds : List Nat} {s s' : Option Nat} {A B A3 : Option Addr} {n c m c3 : Nat} {g g' g3 : Option Nat} {l l' : List PC} {u u' : Nat} {d d' : Bool} (h : Gath W w p T s A n c g l u d)
    (h1 : FedP (T ++ ds) u d l' u' d') (h2 : Pcm w w' l' B m m g') (h3 : StM w' p (T ++ ds) u' d' s') (h4 : ∀ x, s' = some x → w.heap.size ≤ x) (h5 : Fr (fun x => x = p ∨ some x = s) w w')
    (hO : Ow w2 tPc 25 A3 (n + m) c3 (l.flatMap pcells ++ l'.flatMap pcells) g3) (hf : Fr (fun x => some x = g) w' w2) (hg : g3 = g ∨ ∃ b, g3 = some b ∧ w'.heap.size ≤ b) : Gath W w2 p (T ++ ds) s' A3 (n + m) c3 g3 (l ++ l') u' d' := by
  have z1 := h.fr.size
  have z2 := h5.size
  have hsT := h.st.typed
  have hrT := h3.typed
  have hr' : Pcr W w' l tPc A n c g := h.rw_.keepS h5 (fun x e => by
    rcases e with rfl | e
    · exact .inl hsT.1
    · exact .inr (hsT.2 x e.symm))
  have hgt : ∀ x, some x = g → Typed w' x tPc := fun x e => hr'.ow.typed x e.symm
  have no : ∀ {x : Nat} {t t' : TypeId}, Typed w' x t → Typed w' x t' → t ≠ t' → False := fun h h' hne => hne (h.same h')
  refine ⟨h3.fr hf (fun e => no hrT.1 (hgt p e) (by decide)) (fun x hx e => no (hrT.2 x hx) (hgt x e) (by decide)), h1.all h.ps, ?_, fun x hx => Nat.le_trans z1 (h4 x hx), ?_⟩
  · exact hr'.appL h2.len (fun q hq => (h2.own q hq).kt) hO hf (hg.imp id fun ⟨b, e, hb⟩ => ⟨b, e, by omega⟩) (by decide) (by decide)
  · refine ((h.fr.comp h5 fun x hx e => ?_)).comp hf fun x hx e => ?_
    · rcases e with e | e
      · exact e
      · have := h.sn x e.symm; omega
    · have := h.rw_.new x e.symm; omega
theorem Gath.start {W : World} {p : Nat} (h : StM W p [] 0 false none) : Gath W W p [] none none 0 0 none [] 0 false :=
  ⟨h, .short (by decide), Pcr.nil_ _ _ _, (fun x e => by cases e), Fr.refl _ _⟩
theorem FedP.all_is {T : List Nat} {l : List PC} {u : Nat} {d : Bool} (h : FedP ([] ++ T) 0 false l u d) : Pcs T 0 l u d := by
  rcases h with ⟨_, h⟩ | ⟨e, _⟩
  · exact h
  · cases e
set_option maxHeartbeats 2000000 in
set_option maxRecDepth 8000 in
theorem cuts_walk (w : World) (ls fs : List Nat) (zs : List Int) (A Z F : Option Addr) (n c nz cz nf cf : Nat) (hn : n = ls.length) (hnf : nf = fs.length) (hnz : nz = zs.length) (hb : n + nf ≤ 1048576) (hbz : nz ≤ 1048576) (hc : n ≤ c) (hc2 : c ≤ maxLen) (h256 : ∀ x ∈ ls, x < 256) (hf256 : ∀ x ∈ fs, x < 256)
    (hA : Sl w 1 A n (ls.map bn)) (hZ : Sl w 1 Z nz (zs.map iv)) (hF : Sl w 1 F nf (fs.map bn)) :
    Calls Try.prog 6 #[.slice A n c, .slice Z nz cz, .slice F nf cf] w fun e w' => e = .returned (.bool true) ∧ Below w.heap.size w w' := by
  unfold maxLen at hc2
  have HA := hide (And.intro hA (And.intro hZ hF))
  have HN := hide (And.intro hn (And.intro hnf (And.intro hnz (And.intro h256 hf256))))
  clear hA hZ hF hn hnf hnz h256 hf256
  go_enter Try.func6, Try.ntmps6
  go_wp2_with fail
  refine (awake29_any w).mono ?_
  rintro e w0 ⟨rfl, hf0⟩
  have HF0 := hide hf0
  clear hf0
  go_upto_if 25 with fail
  go_cut [0] from 26 to 27 (fun v wx => ∃ n' : Nat, v = .slice A n' c ∧ n' ≤ n ∧ n' ≤ 8192 ∧ wx = w0)
  case first =>
    by_cases hl : 8192 < n
    · have b1 : (8192 : Int) < (n : Int) := by omega
      have b2 : (8192 : Int) ≤ (c : Int) := by omega
      have H0 := hide hl
      go_wp2_with fail
      go_meet
      case rel => exact ⟨8192, rfl, by have := H0.out; omega, by omega, rfl⟩
    · have b1 : ¬ (8192 : Int) < (n : Int) := by omega
      have H0 := hide hl
      go_wp2_with fail
      go_meet
      case rel => exact ⟨n, rfl, by omega, by have := H0.out; omega, rfl⟩
  case rest =>
  obtain ⟨n', rfl, hn1, hn2, hwc⟩ := hcut
  obtain rfl := hwc
  obtain ⟨hn, hnf, hnz, h256, hf256⟩ := HN.out
  obtain ⟨T, hT⟩ : ∃ T, ls.take n' = T := ⟨_, rfl⟩
  have hTl : T.length = n' := by rw [← hT, List.length_take]; omega
  have hT6 : ∀ x ∈ T, x < 256 := fun x hx => h256 x (List.mem_of_mem_take (hT ▸ hx))
  have hTA : Sl w 1 A n' (T.map bn) := by
    have := HA.out.1.cut1 hn1
    rwa [← List.map_take, hT] at this
  have HT := hide (And.intro hTl (And.intro hT6 hTA))
  have hcn : n' ≤ c := by omega
  have hnn : n' + nf ≤ 1048576 := by omega
  clear hn hnf hnz h256 hf256 hT hTl hT6 hTA hn1 hc hb
  obtain ⟨wa, hwa⟩ : ∃ wa, wc = wa := ⟨_, rfl⟩
  subst hwa
  go_wp2_with fail
  refine (newS_any _).mono ?_
  rintro e w1 ⟨rfl, hp1, f1⟩
  obtain ⟨p1, hp1e⟩ : ∃ p1, wc.heap.size = p1 := ⟨_, rfl⟩
  simp only [hp1e] at hp1 ⊢
  go_wp2_with fail
  refine (newS_any _).mono ?_
  rintro e w2 ⟨rfl, hp2, f2⟩
  obtain ⟨p2, hp2e⟩ : ∃ p2, w1.heap.size = p2 := ⟨_, rfl⟩
  simp only [hp2e] at hp2 ⊢
  go_wp2_with fail
  refine (newS_any _).mono ?_
  rintro e w3 ⟨rfl, hp3, f3⟩
  obtain ⟨p3, hp3e⟩ : ∃ p3, w2.heap.size = p3 := ⟨_, rfl⟩
  simp only [hp3e] at hp3 ⊢
  have hfw := HF0.out.trans (f1.trans (f2.trans f3))
  have hfe := feed_any w3 p3 [] 0 false none hp3.stm0 T A n' c (by rw [HT.out.1]) (by rw [List.nil_append, HT.out.1]; omega) (fun x hx => HT.out.2.1 x hx) (HT.out.2.2.below hfw (fun _ _ => id))
  have HP := hide (And.intro (hp1.stm0.fr (f2.trans f3) id (fun x e => by cases e)) (And.intro (hp2.stm0.fr f3 id (fun x e => by cases e)) hfw))
  have HS := hide (And.intro f1.size (And.intro f2.size (And.intro f3.size (And.intro (Bl.lt hp1.bl) (And.intro (Bl.lt hp2.bl) (Bl.lt hp3.bl))))))
  clear hp1 hp2 hp3 f1 f2 f3 hfw
  go_wp2_with fail
  refine hfe.mono ?_
  rintro e w4 ⟨lw, u3, d3, BW, mw, gw, s3, rfl, k1, k2, k3, k4, k5⟩
  obtain ⟨y1, y2, y3, y4, y5, y6⟩ := HS.out
  obtain ⟨hq1, hq2, hfw⟩ := HP.out
  have kall : Pcs T 0 lw u3 d3 := k1.all_is
  have k5' : Fr (fun x => x = p3) w3 w4 := k5.mono fun x _ e => e.elim id (fun e => by cases e)
  have hq14 : StM w4 p1 [] 0 false none := hq1.fr k5' (by omega) (fun x e => by cases e)
  have hq24 : StM w4 p2 [] 0 false none := hq2.fr k5' (by omega) (fun x e => by cases e)
  have hfw4 : Fr (fun x => w.heap.size ≤ x) w w4 := (hfw.weak _).trans (k5'.mono fun x _ e => by have := HF0.out.size; omega)
  have hw4 : p1 < p2 ∧ p2 < p3 ∧ p3 < w4.heap.size ∧ w.heap.size ≤ p1 ∧ p3 < w3.heap.size := ⟨by omega, by omega, by have := k5.size; omega, by have := HF0.out.size; omega, by omega⟩
  have k4' : ∀ x, s3 = some x → w3.heap.size ≤ x := k4
  have hWant : Pcr w3 w4 lw tPc BW mw mw gw := k2.pr
  have HG0 := hide (Gath.start hq14)
  have HB := hide (And.intro kall (And.intro k3 (And.intro hq24 (And.intro hfw4 (And.intro hw4 (And.intro k4' (And.intro hWant hq14)))))))
  clear y1 y2 y3 y4 y5 y6 hq1 hq2 hfw kall k5' hq14 hq24 hfw4 hw4 k4' hWant k1 k2 k3 k4 k5 hfe hp1e hp2e hp3e
  obtain ⟨j0, hj, hj0, hj1, hj2⟩ := info_parts infoPc3
  go_wp2_with fail
  go_loopw [11, 13] (fun v11 v13 wr => ∃ (i na ca : Nat) (A1 : Option Addr) (s1 g1 : Option Nat) (la : List PC) (u : Nat) (d : Bool), v11 = .slice A1 na ca ∧ v13 = .int .i64 (i : Int) ∧ i ≤ n' ∧ Hid (Gath w4 wr p1 (T.take i) s1 A1 na ca g1 la u d)) (fun _ v _ => n' - (intOf v).toNat)
  case atStart => exact ⟨0, 0, 0, none, none, none, [], 0, false, rfl, rfl, Nat.zero_le _, HG0.out⟩
  case round =>
    obtain ⟨i, na, ca, A1, s1, g1, la, u, d, rfl, rfl, hi, hG⟩ := hrel
    clear HG0
    have hTl := HT.out.1
    have hfwr : Fr (fun x => w.heap.size ≤ x) w wr := HB.out.2.2.2.1.trans (hG.out.fr.mono fun x _ e => by have := HB.out.2.2.2.2.1; omega)
    by_cases hlt : i < n'
    · obtain ⟨b, o, rfl⟩ : ∃ b o, A = some ⟨b, o, none⟩ := by
        obtain ⟨b, o, e, -⟩ := HT.out.2.2.2 (by omega)
        exact ⟨b, o, e⟩
      have hd1 : ((T.drop i).take 1).length = 1 := by rw [List.length_take, List.length_drop]; omega
      have hTw : Sl wr 1 (some ⟨b, o, none⟩) n' (T.map bn) := HT.out.2.2.fr (B := 0) hfwr (fun y _ h1 h2 => by omega)
      have e1 := take_drop_add T i 1
      have hfe := feed_any wr p1 (T.take i) u d s1 hG.out.st ((T.drop i).take 1) (some ⟨b, o + i, none⟩) 1 (c - i) hd1.symm (by rw [e1, List.length_take]; omega) (by rw [e1]; exact fun x hx => HT.out.2.1 x (List.mem_of_mem_take hx)) (hTw.mid (by omega))
      have k0 : (0 : Int) ≤ (i : Int) := by omega
      have k1 : (i : Int) ≤ (i : Int) + 1 := by omega
      have k2 : (i : Int) + 1 ≤ (c : Int) := by omega
      have iw : IntKind.i64.wrap ((i : Int) + 1) = (i : Int) + 1 := IntWalk.i64_in _ (by omega)
      have hz : ¬ (c : Int) = (i : Int) := by omega
      have hz3 : ¬ c = i := by omega
      have HD := hide (And.intro hd1 e1)
      have HI := hide hlt
      have hO0 := hG.out.rw_.ow
      have hna : na ≤ 1048576 := by
        have h1 := hG.out.ps.bound
        have h2 := hG.out.rw_.len
        have h3 : (T.take i).length ≤ 8192 := by rw [List.length_take]; omega
        omega
      clear hTl hd1 hTw e1 hlt
      go_wp2_with fail
      refine hfe.mono ?_
      rintro e wf ⟨l1, u1, d1, B1, m1, g2, s', rfl, t1, t2, t3, t4, t5⟩
      have hone : l1.length ≤ 1 := by
        obtain ⟨x, hx⟩ := List.length_eq_one_iff.1 HD.out.1
        rw [hx] at t1
        exact FedP.one hG.out.ps t1
      have hm1 : m1 ≤ 1 := by rw [t2.len]; exact hone
      have hsT := hG.out.st.typed
      have hO1 := (hG.out.rw_.keepS t5 (fun x e => by
        rcases e with rfl | e
        · exact .inl hsT.1
        · exact .inr (hsT.2 x e.symm))).ow
      have hS1 := t2.ow.sl
      have H1 := hide (And.intro t1 (And.intro t2 (And.intro t3 (And.intro t4 t5))))
      clear t1 t2 t3 t4 t5 hone hsT hfe hO0
      go_wp2_with (at_builtin; go_loud (refine wpList_append_ow _ rfl _ _ 67 rfl tPc j0 (.agg #[.int .i64 0, .int .i64 0, .string ⟨#[]⟩, .int .i64 0, .int .u64 0, .int .i64 0, .int .i64 0, .int .i64 0, .int .i64 0, .int .i64 0, .int .u64 0, .int .u64 0, .slice none 0 0, .int .i64 0, .int .i64 0, .int .i64 0, .int .i64 0, .int .i64 0, .int .i64 0, .int .u64 0, .int .u64 0, .int .u64 0, .int .i64 0, .slice none 0 0, .int .i64 0]) 25 240 Try.underlying67 hj hj0 hj1 hj2 rfl (by decide) _ _ _ _ _ rfl hO1 _ _ _ _ rfl hS1 (pflat_one l1) (by unfold maxLen; omega) (by omega) ?_))
      intro A4 c4 w5 g4 hO5 hf5 hg5
      obtain ⟨t1, t2, t3, t4, t5⟩ := H1.out
      have hG5 := hG.out.fed t1 t2 t3 t4 t5 hO5 hf5 hg5
      rw [HD.out.2] at hG5
      have hwl := hG5.ps.wait
      have hwa1 := fun w' (hf : Fr (fun _ => False) w5 w') => waiting_any w' p1 (T.take (i + 1)) u1 d1 s' (hG5.st.fr hf id (fun _ _ => id)) (by rw [List.length_take]; omega)
      obtain ⟨wn, hwn⟩ : ∃ wn, waitN (T.take (i + 1)) u1 d1 = wn := ⟨_, rfl⟩
      rw [hwn] at hwl hwa1
      have HWA := hide hwa1
      have HG5 := hide hG5
      have v1 : ¬ (514 : Int) < (wn : Int) := by omega
      have v2 : ¬ (wn : Int) < 0 := by omega
      have v3 : ¬ (1 : Int) < (m1 : Int) := by omega
      clear t1 t2 t3 t4 t5 hO5 hf5 hg5 hG5 hwa1 hwn hO1 hS1
      go_wp2_with fail
      refine (HWA.out _ (Fr.refl _ _)).mono ?_
      rintro e w6 ⟨rfl, hf6⟩
      go_wp2_with fail
      refine (HWA.out _ hf6).mono ?_
      rintro e w7 ⟨rfl, hf7⟩
      have hf57 := hf6.trans hf7
      have HG7 : Hid (Gath w4 w7 p1 (T.take (i + 1)) s' A4 (na + m1) c4 g4 (la ++ l1) u1 d1) := ⟨HG5.out.st.fr hf57 id (fun _ _ => id), HG5.out.ps, HG5.out.rw_.quiet hf57, HG5.out.sn, HG5.out.fr.trans (hf57.weak _)⟩
      clear hf6 hf7 hf57
      go_wp2_with fail
      exact ⟨⟨i + 1, na + m1, c4, A4, s', g4, la ++ l1, u1, d1, rfl, by go_num, by have := HI.out; omega, HG7⟩, by have := HI.out; simp [intOf]; omega⟩
    · obtain rfl : n' = i := by omega
      obtain ⟨wb, rfl⟩ : ∃ z, z = wr := ⟨_, rfl⟩
      have hTT : T.take n' = T := List.take_of_length_le (by omega)
      have hG1 := hG.out
      rw [hTT] at hG1
      have h2r : StM wb p2 [] 0 false none := HB.out.2.2.1.fr hG1.fr (by have := HB.out.2.2.2.2.1; omega) (fun x e => by cases e)
      have HG1 := hide hG1
      have HG2 := hide (Gath.start h2r)
      have Hfw := hide hfwr
      clear hG hG1 h2r hTT hTl hfwr
      go_wp2_with fail
      go_loopw [12, 15, 16] (fun v12 v15 v16 wr => ∃ (at_ i nb cb : Nat) (A2 : Option Addr) (s2 g2 : Option Nat) (lb : List PC) (u2 : Nat) (d2 : Bool), v12 = .slice A2 nb cb ∧ v15 = .int .i64 (at_ : Int) ∧ v16 = .int .i64 (i : Int) ∧ i ≤ nz ∧ at_ ≤ n' ∧ Hid (Gath wb wr p2 (T.take at_) s2 A2 nb cb g2 lb u2 d2)) (fun _ _ v _ => nz - (intOf v).toNat)
      case atStart => exact ⟨0, 0, 0, 0, none, none, none, [], 0, false, rfl, rfl, rfl, Nat.zero_le _, Nat.zero_le _, HG2.out⟩
      case round =>
        obtain ⟨at_, i, nb, cb, A2, s2, g2, lb, u2, d2, rfl, rfl, rfl, hi2, hat, hG2⟩ := hrel
        clear HG2
        have hfwq : Fr (fun x => w.heap.size ≤ x) w wr := Hfw.out.trans (hG2.out.fr.mono fun x _ e => by have := HB.out.2.2.2.2.1; omega)
        by_cases hlt : i < nz
        · have hZw : Sl wr 1 Z nz (zs.map iv) := HA.out.2.1.fr (B := 0) hfwq (fun y _ h1 h2 => by omega)
          obtain ⟨bz, oz, rfl, hcz⟩ := hZw.2 (by omega)
          obtain ⟨z, hz⟩ : ∃ z, zs[i]? = some z := ⟨_, List.getElem?_eq_getElem (by have := HN.out.2.2.1; omega)⟩
          have c0 : wr.cell? ⟨bz, oz + i, none⟩ = some (.int .i64 z) := hcz i _ (by rw [List.getElem?_map, hz]; rfl)
          have Hz := hide hz
          have HZ := hide hZw
          have k0 : (0 : Int) ≤ (i : Int) := by omega
          have k1 : (i : Int) < (nz : Int) := by omega
          clear hcz hz hZw
          go_upto_if 75 with fail
          have hq2 : -600 < z.tmod 600 ∧ z.tmod 600 < 600 := by
            have h1 := Int.tmod_lt_of_pos z (show (0 : Int) < 600 by decide)
            have h2 := Int.lt_tmod_of_pos z (show (0 : Int) < 600 by decide)
            omega
          obtain ⟨q, hq⟩ : ∃ q, z.tmod 600 = q := ⟨_, rfl⟩
          simp only [hq]
          rw [hq] at hq2
          have HQ2 := hide hq2
          go_cut [17] (fun v wx => ∃ k : Nat, v = .int .i64 (k : Int) ∧ k < 600 ∧ wx = wr)
          case first =>
            by_cases hneg : q < 0
            · have iw : IntKind.i64.wrap (-q) = -q := IntWalk.i64_in _ (by omega)
              clear hq
              go_wp2_with fail
              go_meet
              case rel => exact ⟨(-q).toNat, by congr 1; omega, by omega, rfl⟩
            · clear hq
              go_wp2_with fail
              go_meet
              case rel => exact ⟨q.toNat, by congr 1; omega, by omega, rfl⟩
          case rest =>
          obtain ⟨k, rfl, hk6, hwc⟩ := hcut
          obtain rfl := hwc
          clear hq hq2 HQ2
          have a0 : (0 : Int) ≤ (at_ : Int) := by omega
          have iw1 : IntKind.i64.wrap ((n' : Int) - (at_ : Int)) = (n' : Int) - (at_ : Int) := IntWalk.i64_in _ (by omega)
          go_upto_if 83 with fail
          go_cut [17] (fun v wx => ∃ k : Nat, v = .int .i64 (k : Int) ∧ at_ + k ≤ n' ∧ wx = wc)
          case first =>
            by_cases hgt : n' - at_ < k
            · have b1 : (n' : Int) - (at_ : Int) < (k : Int) := by omega
              have H0 := hide hgt
              clear hgt
              go_wp2_with fail
              go_meet
              case rel => exact ⟨n' - at_, by congr 1; omega, by omega, rfl⟩
            · have b1 : ¬ (n' : Int) - (at_ : Int) < (k : Int) := by omega
              have H0 := hide hgt
              clear hgt
              go_wp2_with fail
              go_meet
              case rel => exact ⟨k, rfl, by have := H0.out; omega, rfl⟩
          case rest =>
          obtain ⟨k, rfl, hk2, hwc⟩ := hcut
          obtain ⟨wd, rfl⟩ : ∃ z, z = wc := ⟨_, rfl⟩
          obtain rfl := hwc
          have hTl := HT.out.1
          have hd1 : ((T.drop at_).take k).length = k := by rw [List.length_take, List.length_drop]; omega
          have hTw : Sl wd 1 A n' (T.map bn) := HT.out.2.2.fr (B := 0) hfwq (fun y _ h1 h2 => by omega)
          have e1 := take_drop_add T at_ k
          have HD := hide (And.intro hd1 e1)
          have hnb : nb ≤ 1048576 := by
            have h1 := hG2.out.ps.bound
            have h2 := hG2.out.rw_.len
            have h3 : (T.take at_).length ≤ 8192 := by rw [List.length_take]; omega
            omega
          have q1 : (at_ : Int) ≤ (at_ : Int) + (k : Int) := by omega
          have q2 : (at_ : Int) + (k : Int) ≤ (c : Int) := by omega
          have iw2 : IntKind.i64.wrap ((at_ : Int) + (k : Int)) = (at_ : Int) + (k : Int) := IntWalk.i64_in _ (by omega)
          by_cases hz : c = at_
          · obtain rfl : k = 0 := by omega
            have hSm : Sl wd 1 A 0 (((T.drop at_).take 0).map bn) := by rw [List.take_zero]; exact Sl.nil_ _ _ _
            obtain rfl : c = at_ := hz
            have iw3 : IntKind.i64.wrap ((c : Int) + 0) = (c : Int) := IntWalk.i64_in _ (by omega)
            have hfe := feed_any wd p2 (T.take c) u2 d2 s2 hG2.out.st ((T.drop c).take 0) A 0 0 hd1.symm (by rw [e1, List.length_take]; omega) (by rw [e1]; exact fun x hx => HT.out.2.1 x (List.mem_of_mem_take hx)) hSm
            clear hd1 hTw e1 hSm
            go_wp2_with fail
            refine hfe.mono ?_
            rintro e wf ⟨l1, u1, d1, B1, m1, g3, s', rfl, t1, t2, t3, t4, t5⟩
            have hsT := hG2.out.st.typed
            have hm1 : m1 ≤ 8192 := by
              have h1 := (t1.all hG2.out.ps).bound
              have h2 := t2.len
              rw [HD.out.2, List.length_take] at h1
              have := HT.out.1
              rw [List.length_append] at h1
              omega
            have hO1 := (hG2.out.rw_.keepS t5 (fun x e => by
              rcases e with rfl | e
              · exact .inl hsT.1
              · exact .inr (hsT.2 x e.symm))).ow
            have hS1 := t2.ow.sl
            have H1 := hide (And.intro t1 (And.intro t2 (And.intro t3 (And.intro t4 t5))))
            clear t1 t2 t3 t4 t5 hsT hfe
            go_wp2_with (at_builtin; go_loud (refine wpList_append_ow _ rfl _ _ 67 rfl tPc j0 (.agg #[.int .i64 0, .int .i64 0, .string ⟨#[]⟩, .int .i64 0, .int .u64 0, .int .i64 0, .int .i64 0, .int .i64 0, .int .i64 0, .int .i64 0, .int .u64 0, .int .u64 0, .slice none 0 0, .int .i64 0, .int .i64 0, .int .i64 0, .int .i64 0, .int .i64 0, .int .i64 0, .int .u64 0, .int .u64 0, .int .u64 0, .int .i64 0, .slice none 0 0, .int .i64 0]) 25 240 Try.underlying67 hj hj0 hj1 hj2 rfl (by decide) _ _ _ _ _ rfl hO1 _ _ _ _ rfl hS1 (pflat_one l1) (by unfold maxLen; omega) (by omega) ?_))
            intro A4 c4 w5 g4 hO5 hf5 hg5
            obtain ⟨t1, t2, t3, t4, t5⟩ := H1.out
            have hG5 := hG2.out.fed t1 t2 t3 t4 t5 hO5 hf5 hg5
            rw [HD.out.2] at hG5
            have HG5 := hide hG5
            clear t1 t2 t3 t4 t5 hO5 hf5 hg5 hG5 hO1 hS1
            go_wp2_with fail
            exact ⟨⟨c + 0, i + 1, nb + m1, c4, A4, s', g4, lb ++ l1, u1, d1, rfl, by go_num, by go_num, by omega, by omega, HG5⟩, by simp [intOf]; omega⟩
          · have hz2 : ¬ (c : Int) = (at_ : Int) := by omega
            have hSm : Sl wd 1 (A.map (fun x => x.add at_)) k (((T.drop at_).take k).map bn) := by
              rcases Nat.eq_zero_or_pos k with h0 | h0
              · subst h0; rw [List.take_zero]; exact Sl.nil_ _ _ _
              · obtain ⟨b, o, e, -⟩ := hTw.2 (by omega)
                subst e
                have := hTw.mid (i := at_) (k := k) (by omega)
                rw [show (some (⟨b, o, none⟩ : Addr)).map (fun x => x.add at_) = some ⟨b, o + at_, none⟩ by simp [Addr.add]]
                exact this
            have hfe := feed_any wd p2 (T.take at_) u2 d2 s2 hG2.out.st ((T.drop at_).take k) (A.map (fun x => x.add at_)) k (c - at_) hd1.symm (by rw [e1, List.length_take]; omega) (by rw [e1]; exact fun x hx => HT.out.2.1 x (List.mem_of_mem_take hx)) hSm
            clear hd1 hTw e1 hSm
            go_wp2_with fail
            refine hfe.mono ?_
            rintro e wf ⟨l1, u1, d1, B1, m1, g3, s', rfl, t1, t2, t3, t4, t5⟩
            have hsT := hG2.out.st.typed
            have hm1 : m1 ≤ 8192 := by
              have h1 := (t1.all hG2.out.ps).bound
              have h2 := t2.len
              rw [HD.out.2, List.length_take] at h1
              have := HT.out.1
              rw [List.length_append] at h1
              omega
            have hO1 := (hG2.out.rw_.keepS t5 (fun x e => by
              rcases e with rfl | e
              · exact .inl hsT.1
              · exact .inr (hsT.2 x e.symm))).ow
            have hS1 := t2.ow.sl
            have H1 := hide (And.intro t1 (And.intro t2 (And.intro t3 (And.intro t4 t5))))
            clear t1 t2 t3 t4 t5 hsT hfe
            go_wp2_with (at_builtin; go_loud (refine wpList_append_ow _ rfl _ _ 67 rfl tPc j0 (.agg #[.int .i64 0, .int .i64 0, .string ⟨#[]⟩, .int .i64 0, .int .u64 0, .int .i64 0, .int .i64 0, .int .i64 0, .int .i64 0, .int .i64 0, .int .u64 0, .int .u64 0, .slice none 0 0, .int .i64 0, .int .i64 0, .int .i64 0, .int .i64 0, .int .i64 0, .int .i64 0, .int .u64 0, .int .u64 0, .int .u64 0, .int .i64 0, .slice none 0 0, .int .i64 0]) 25 240 Try.underlying67 hj hj0 hj1 hj2 rfl (by decide) _ _ _ _ _ rfl hO1 _ _ _ _ rfl hS1 (pflat_one l1) (by unfold maxLen; omega) (by omega) ?_))
            intro A4 c4 w5 g4 hO5 hf5 hg5
            obtain ⟨t1, t2, t3, t4, t5⟩ := H1.out
            have hG5 := hG2.out.fed t1 t2 t3 t4 t5 hO5 hf5 hg5
            rw [HD.out.2] at hG5
            have HG5 := hide hG5
            clear t1 t2 t3 t4 t5 hO5 hf5 hg5 hG5 hO1 hS1
            go_wp2_with fail
            exact ⟨⟨at_ + k, i + 1, nb + m1, c4, A4, s', g4, lb ++ l1, u1, d1, rfl, by go_num, by go_num, by omega, by omega, HG5⟩, by simp [intOf]; omega⟩
        · obtain rfl : i = nz := by omega
          obtain ⟨wd, rfl⟩ : ∃ z, z = wr := ⟨_, rfl⟩
          go_upto_region 28 with fail
          go_cut [12] (fun v wx => ∃ (nb cb : Nat) (A2 : Option Addr) (s2 g2 : Option Nat) (lb : List PC) (u2 : Nat) (d2 : Bool), v = .slice A2 nb cb ∧ Hid (Gath wb wx p2 T s2 A2 nb cb g2 lb u2 d2))
          case first =>
            have hTl := HT.out.1
            have hd1 : (T.drop at_).length = n' - at_ := by rw [List.length_drop]; omega
            have hTw : Sl wd 1 A n' (T.map bn) := HT.out.2.2.fr (B := 0) hfwq (fun y _ h1 h2 => by omega)
            have hnb : nb ≤ 1048576 := by
              have h1 := hG2.out.ps.bound
              have h2 := hG2.out.rw_.len
              have h3 : (T.take at_).length ≤ 8192 := by rw [List.length_take]; omega
              omega
            have a0 : (0 : Int) ≤ (at_ : Int) := by omega
            have a1 : (at_ : Int) ≤ (n' : Int) := by omega
            by_cases hz : c = at_
            · obtain rfl : c = at_ := hz
              obtain rfl : n' = c := by omega
              have hSm : Sl wd 1 A 0 ((T.drop n').map bn) := by rw [List.drop_of_length_le (by omega)]; exact Sl.nil_ _ _ _
              rw [Nat.sub_self] at hd1
              have hfe := feed_any wd p2 (T.take n') u2 d2 s2 hG2.out.st (T.drop n') (A) 0 (0) hd1.symm (by rw [List.take_append_drop, HT.out.1]; omega) (by rw [List.take_append_drop]; exact HT.out.2.1) hSm
              clear hd1 hTw hSm
              go_wp2_with fail
              refine hfe.mono ?_
              rintro e wf ⟨l1, u1, d1, B1, m1, g3, s', rfl, t1, t2, t3, t4, t5⟩
              have hsT := hG2.out.st.typed
              have hm1 : m1 ≤ 8192 := by
                have h1 := (t1.all hG2.out.ps).bound
                have h2 := t2.len
                rw [List.take_append_drop, HT.out.1] at h1
                rw [List.length_append] at h1
                omega
              have hO1 := (hG2.out.rw_.keepS t5 (fun x e => by
                rcases e with rfl | e
                · exact .inl hsT.1
                · exact .inr (hsT.2 x e.symm))).ow
              have hS1 := t2.ow.sl
              have H1 := hide (And.intro t1 (And.intro t2 (And.intro t3 (And.intro t4 t5))))
              clear t1 t2 t3 t4 t5 hsT hfe
              go_wp2_with (at_builtin; go_loud (refine wpList_append_ow _ rfl _ _ 67 rfl tPc j0 (.agg #[.int .i64 0, .int .i64 0, .string ⟨#[]⟩, .int .i64 0, .int .u64 0, .int .i64 0, .int .i64 0, .int .i64 0, .int .i64 0, .int .i64 0, .int .u64 0, .int .u64 0, .slice none 0 0, .int .i64 0, .int .i64 0, .int .i64 0, .int .i64 0, .int .i64 0, .int .i64 0, .int .u64 0, .int .u64 0, .int .u64 0, .int .i64 0, .slice none 0 0, .int .i64 0]) 25 240 Try.underlying67 hj hj0 hj1 hj2 rfl (by decide) _ _ _ _ _ rfl hO1 _ _ _ _ rfl hS1 (pflat_one l1) (by unfold maxLen; omega) (by omega) ?_))
              intro A4 c4 w5 g4 hO5 hf5 hg5
              obtain ⟨t1, t2, t3, t4, t5⟩ := H1.out
              have hG5 := hG2.out.fed t1 t2 t3 t4 t5 hO5 hf5 hg5
              rw [List.take_append_drop] at hG5
              have HG5 := hide hG5
              clear t1 t2 t3 t4 t5 hO5 hf5 hg5 hG5 hO1 hS1
              go_wp2_with fail
              go_meet
              case rel => exact ⟨_, _, _, _, _, _, _, _, rfl, HG5⟩
            · have hz2 : ¬ (c : Int) = (at_ : Int) := by omega
              have hSm : Sl wd 1 (A.map (fun x => x.add at_)) (n' - at_) ((T.drop at_).map bn) := by
                rcases Nat.eq_zero_or_pos (n' - at_) with h0 | h0
                · rw [h0, List.drop_of_length_le (by omega)]; exact Sl.nil_ _ _ _
                · obtain ⟨b, o, e, -⟩ := hTw.2 (by omega)
                  subst e
                  have := hTw.rest8 (k := at_) (by omega)
                  rw [show (some (⟨b, o, none⟩ : Addr)).map (fun x => x.add at_) = some ⟨b, o + at_, none⟩ by simp [Addr.add]]
                  exact this
              have hfe := feed_any wd p2 (T.take at_) u2 d2 s2 hG2.out.st (T.drop at_) (A.map (fun x => x.add at_)) (n' - at_) (c - at_) hd1.symm (by rw [List.take_append_drop, HT.out.1]; omega) (by rw [List.take_append_drop]; exact HT.out.2.1) hSm
              clear hd1 hTw hSm
              go_wp2_with fail
              refine hfe.mono ?_
              rintro e wf ⟨l1, u1, d1, B1, m1, g3, s', rfl, t1, t2, t3, t4, t5⟩
              have hsT := hG2.out.st.typed
              have hm1 : m1 ≤ 8192 := by
                have h1 := (t1.all hG2.out.ps).bound
                have h2 := t2.len
                rw [List.take_append_drop, HT.out.1] at h1
                rw [List.length_append] at h1
                omega
              have hO1 := (hG2.out.rw_.keepS t5 (fun x e => by
                rcases e with rfl | e
                · exact .inl hsT.1
                · exact .inr (hsT.2 x e.symm))).ow
              have hS1 := t2.ow.sl
              have H1 := hide (And.intro t1 (And.intro t2 (And.intro t3 (And.intro t4 t5))))
              clear t1 t2 t3 t4 t5 hsT hfe
              go_wp2_with (at_builtin; go_loud (refine wpList_append_ow _ rfl _ _ 67 rfl tPc j0 (.agg #[.int .i64 0, .int .i64 0, .string ⟨#[]⟩, .int .i64 0, .int .u64 0, .int .i64 0, .int .i64 0, .int .i64 0, .int .i64 0, .int .i64 0, .int .u64 0, .int .u64 0, .slice none 0 0, .int .i64 0, .int .i64 0, .int .i64 0, .int .i64 0, .int .i64 0, .int .i64 0, .int .u64 0, .int .u64 0, .int .u64 0, .int .i64 0, .slice none 0 0, .int .i64 0]) 25 240 Try.underlying67 hj hj0 hj1 hj2 rfl (by decide) _ _ _ _ _ rfl hO1 _ _ _ _ rfl hS1 (pflat_one l1) (by unfold maxLen; omega) (by omega) ?_))
              intro A4 c4 w5 g4 hO5 hf5 hg5
              obtain ⟨t1, t2, t3, t4, t5⟩ := H1.out
              have hG5 := hG2.out.fed t1 t2 t3 t4 t5 hO5 hf5 hg5
              rw [List.take_append_drop] at hG5
              have HG5 := hide hG5
              clear t1 t2 t3 t4 t5 hO5 hf5 hg5 hG5 hO1 hS1
              go_wp2_with fail
              go_meet
              case rel => exact ⟨_, _, _, _, _, _, _, _, rfl, HG5⟩
          case rest =>
          obtain ⟨nB, cB, A3, sB, gB, lB, uB, dB, rfl, hGB⟩ := hcut
          clear hG2 hfwq hj hj0 hj1 hj2
          obtain ⟨i1, i2, i3⟩ := HG1.out.ps.same HB.out.1
          obtain ⟨k1, k2, k3⟩ := hGB.out.ps.same HB.out.1
          subst i1 i2 k1 k2
          have hwl := HB.out.2.2.2.2.2.2.1
          obtain ⟨rfl, rfl⟩ : na = mw ∧ nB = na := by
            have hl1 := HG1.out.rw_.len
            have hl2 := hGB.out.rw_.len
            have hl3 := hwl.len
            have hl4 := i3.len
            have hl5 := k3.len
            omega
          have hTl := HT.out.1
          have hmb : nB ≤ 1048576 := by
            have h1 := hGB.out.ps.bound
            have h2 := hGB.out.rw_.len
            omega
          obtain ⟨y1, y2, y3, y4, y5⟩ := HB.out.2.2.2.2.1
          have z1 := HG1.out.fr.size
          have z2 := hGB.out.fr.size
          have tp1 : Typed w4 p1 tStm := HB.out.2.2.2.2.2.2.2.typed.1
          have tp2 : Typed wb p2 tStm := (HB.out.2.2.1.fr HG1.out.fr (by omega) (fun x e => by cases e)).typed.1
          have hs1 : ∀ x, s1 = some x → x < wb.heap.size ∧ w4.heap.size ≤ x := fun x e => ⟨(HG1.out.st.typed.2 x e).lt4, HG1.out.sn x e⟩
          have hs2 : ∀ x, sB = some x → wb.heap.size ≤ x := hGB.out.sn
          have hs3 : ∀ x, s3 = some x → x < w4.heap.size ∧ w3.heap.size ≤ x := fun x e => ⟨(HB.out.2.1.typed.2 x e).lt4, HB.out.2.2.2.2.2.1 x e⟩
          have M3 : StM wc p3 T _ _ s3 := (HB.out.2.1.fr HG1.out.fr (by omega) (fun x e h => by have := hs3 x e; omega)).fr hGB.out.fr (by omega) (fun x e h => by have := hs3 x e; omega)
          have M1 : StM wc p1 T _ _ s1 := HG1.out.st.fr hGB.out.fr (by omega) (fun x e h => by have := hs1 x e; omega)
          have M2 := hGB.out.st
          have Ra := HG1.out.rw_.keepS hGB.out.fr (fun x e => .inl (by rw [e]; exact tp2))
          have Rw := (hwl.keepS HG1.out.fr (fun x e => .inl (by rw [e]; exact tp1))).keepS hGB.out.fr (fun x e => .inl (by rw [e]; exact tp2))
          have Rb := hGB.out.rw_
          have hps := hGB.out.ps
          have hfwc : Fr (fun x => w.heap.size ≤ x) w wc := Hfw.out.trans (hGB.out.fr.mono fun x _ e => by omega)
          have HAL1 := hide (fun w' (hf : Fr (fun _ => False) wc w') => alike_any w' _ _ la lw i3 A1 BW nB ca nB g1 gw hmb (Ra.quiet hf) (Rw.quiet hf))
          have HAL2 := hide (fun w' (hf : Fr (fun _ => False) wc w') => alike_any w' _ _ lB lw k3 A3 BW nB cB nB gB gw hmb (Rb.quiet hf) (Rw.quiet hf))
          have HW1 := fun w' (hf : Fr (fun _ => False) wc w') => waiting_any w' p1 T _ _ s1 (M1.fr hf id (fun _ _ => id)) (by omega)
          have HW2 := fun w' (hf : Fr (fun _ => False) wc w') => waiting_any w' p2 T _ _ sB (M2.fr hf id (fun _ _ => id)) (by omega)
          have HW3 := fun w' (hf : Fr (fun _ => False) wc w') => waiting_any w' p3 T _ _ s3 (M3.fr hf id (fun _ _ => id)) (by omega)
          have HD1 := hide fun w' (hf : Fr (fun _ => False) wc w') => deaf_any w' p1 T _ _ s1 (M1.fr hf id (fun _ _ => id))
          have HD2 := hide fun w' (hf : Fr (fun _ => False) wc w') => deaf_any w' p2 T _ _ sB (M2.fr hf id (fun _ _ => id))
          have HD3 := hide fun w' (hf : Fr (fun _ => False) wc w') => deaf_any w' p3 T _ _ s3 (M3.fr hf id (fun _ _ => id))
          obtain ⟨wn, hwn⟩ : ∃ wn, waitN T uB dB = wn := ⟨_, rfl⟩
          rw [hwn] at HW1 HW2 HW3
          replace HW1 := hide HW1
          replace HW2 := hide HW2
          replace HW3 := hide HW3
          have hFl : (T ++ fs).length ≤ 1048576 ∧ (∀ x ∈ T ++ fs, x < 256) ∧ nf = fs.length := by
            obtain ⟨-, h1, -, -, h2⟩ := HN.out
            exact ⟨by rw [List.length_append]; omega, fun x hx => (List.mem_append.1 hx).elim (HT.out.2.1 x) (h2 x), h1⟩
          have HFL := hide hFl
          have HM := hide (And.intro M1 (And.intro M2 (And.intro M3 (And.intro hfwc hps))))
          have HSs := hide (And.intro hs1 (And.intro hs2 hs3))
          clear hwn i3 k3 hwl hTl tp1 tp2 hs1 hs2 hs3 M1 M2 M3 Ra Rw Rb hfwc hps hGB hFl
          go_wp2_with fail
          refine (HAL1.out _ (Fr.refl _ _)).mono ?_
          rintro e v1 ⟨rfl, f1⟩
          go_wp2_with fail
          refine (HAL2.out _ f1).mono ?_
          rintro e v2 ⟨rfl, f2⟩
          replace f2 := f1.trans f2
          clear f1
          go_wp2_with fail
          refine (HW1.out _ f2).mono ?_
          rintro e v3 ⟨rfl, f3⟩
          replace f3 := f2.trans f3
          clear f2
          go_wp2_with fail
          refine (HW3.out _ f3).mono ?_
          rintro e v4 ⟨rfl, f4⟩
          replace f4 := f3.trans f4
          clear f3
          go_wp2_with fail
          refine (HW2.out _ f4).mono ?_
          rintro e v5 ⟨rfl, f5⟩
          replace f5 := f4.trans f5
          clear f4
          go_wp2_with fail
          refine (HW3.out _ f5).mono ?_
          rintro e v6 ⟨rfl, f6⟩
          replace f6 := f5.trans f6
          clear f5
          go_wp2_with fail
          refine (HD1.out _ f6).mono ?_
          rintro e v7 ⟨rfl, rfl⟩
          go_wp2_with fail
          refine (HD3.out _ f6).mono ?_
          rintro e v7 ⟨rfl, rfl⟩
          go_wp2_with fail
          refine (HD2.out _ f6).mono ?_
          rintro e v7 ⟨rfl, rfl⟩
          go_wp2_with fail
          refine (HD3.out _ f6).mono ?_
          rintro e v7 ⟨rfl, rfl⟩
          clear HAL1 HAL2 HW1 HW2 HW3 HD1 HD2 HD3
          obtain ⟨M1, M2, M3, hfwc, hps⟩ := HM.out
          replace M1 := M1.fr f6 id (fun _ _ => id)
          replace M2 := M2.fr f6 id (fun _ _ => id)
          replace M3 := M3.fr f6 id (fun _ _ => id)
          have hw1 := hfwc.trans (f6.weak _)
          have hfe := feed_any v6 p1 T _ _ s1 M1 fs F nf cf HFL.out.2.2 HFL.out.1 HFL.out.2.1 (HA.out.2.2.fr (B := 0) hw1 (fun y _ h1 h2 => by omega))
          have H1 := hide (And.intro M2 (And.intro M3 (And.intro hw1 hps)))
          have z3 := f6.size
          clear M1 M2 M3 hfwc hps hw1 HM f6
          go_wp2_with fail
          refine hfe.mono ?_
          rintro e wx ⟨lx, ux, dx, BX, mx, gx, sx, rfl, x1, x2, x3, x4, x5⟩
          obtain ⟨M2, M3, hw1, hps⟩ := H1.out
          obtain ⟨hs1, hs2, hs3⟩ := HSs.out
          have no1 : ∀ x, wb.heap.size ≤ x → ¬ (x = p1 ∨ some x = s1) := fun x hx e => by
            rcases e with e | e
            · omega
            · have := hs1 x e.symm; omega
          have no2 : ∀ x, w4.heap.size > x → x ≠ p1 → ¬ (x = p1 ∨ some x = s1) := fun x hx hn e => by
            rcases e with e | e
            · exact hn e
            · have := hs1 x e.symm; omega
          have M2x := M2.fr x5 (no2 _ (by omega) (by omega)) (fun x e => no1 x (hs2 x e))
          have M3x := M3.fr x5 (no2 _ (by omega) (by omega)) (fun x e => no2 x (by have := hs3 x e; omega) (by have := hs3 x e; omega))
          have hw2 : Fr (fun x => w.heap.size ≤ x) w wx := hw1.trans (x5.mono fun x _ e => by
            rcases e with e | e
            · omega
            · have := hs1 x e.symm; omega)
          replace hfe := feed_any wx p2 T _ _ sB M2x fs F nf cf HFL.out.2.2 HFL.out.1 HFL.out.2.1 (HA.out.2.2.fr (B := 0) hw2 (fun y _ h1 h2 => by omega))
          have z4 := x5.size
          have H2 := hide (And.intro M2x.typed (And.intro M3x (And.intro hw2 (And.intro x1 (And.intro x2.pr hps)))))
          clear M2 M3 hw1 hps hs1 hs2 hs3 no1 no2 M2x M3x hw2 x1 x2 x3 x4 x5 H1
          go_wp2_with fail
          refine hfe.mono ?_
          rintro e wy ⟨ly, uy, dy, BY, my, gy, sy, rfl, x1, x2, x3, x4, x5⟩
          obtain ⟨hty, M3, hw2, q1, q2, hps⟩ := H2.out
          obtain ⟨hs1, hs2, hs3⟩ := HSs.out
          have M3y := M3.fr x5 (fun e => by
            rcases e with e | e
            · omega
            · have := hs2 _ e.symm; omega) (fun x e h => by
            have := hs3 x e
            rcases h with h | h
            · omega
            · have := hs2 _ h.symm; omega)
          have hw3 : Fr (fun x => w.heap.size ≤ x) w wy := hw2.trans (x5.mono fun x _ e => by
            rcases e with e | e
            · omega
            · have := hs2 x e.symm; omega)
          have q2' := q2.keepS x5 (fun x e => by
            rcases e with rfl | e
            · exact .inl hty.1
            · exact .inr (hty.2 x e.symm))
          replace hfe := feed_any wy p3 T _ _ s3 M3y fs F nf cf HFL.out.2.2 HFL.out.1 HFL.out.2.1 (HA.out.2.2.fr (B := 0) hw3 (fun y _ h1 h2 => by omega))
          have H3 := hide (And.intro M3y.typed (And.intro hw3 (And.intro q1 (And.intro q2' (And.intro x1 (And.intro x2.pr hps))))))
          clear hty M3 hw2 q1 q2 hps hs1 hs2 hs3 M3y hw3 q2' x1 x2 x3 x4 x5 H2
          go_wp2_with fail
          refine hfe.mono ?_
          rintro e wz ⟨lz, uz, dz, BZ, mz, gz, sz, rfl, x1, x2, x3, x4, x5⟩
          obtain ⟨hty, hw3, q1, q2, q3, q4, hps⟩ := H3.out
          obtain ⟨-, -, e1⟩ := q1.same x1
          obtain ⟨-, -, e2⟩ := q3.same x1
          have hk : ∀ x, (x = p3 ∨ some x = s3) → Typed wy x tStm ∨ Typed wy x 5 := fun x e => by
            rcases e with rfl | e
            · exact .inl hty.1
            · exact .inr (hty.2 x e.symm)
          have hw4' : Fr (fun x => w.heap.size ≤ x) w wz := hw3.trans (x5.mono fun x _ e => by
            rcases e with e | e
            · omega
            · have := HSs.out.2.2 x e.symm; omega)
          have r1 := q2.keepS x5 hk
          have r2 := q4.keepS x5 hk
          have r3 := x2.pr
          obtain ⟨rfl, rfl⟩ : mx = mz ∧ my = mx := by
            have h1 := r1.len
            have h2 := r2.len
            have h3 := r3.len
            have h4 := e1.len
            have h5 := e2.len
            omega
          have hmb2 : my ≤ 1048576 := by
            have h1 := (x1.all hps).bound
            have h2 := r3.len
            have h3 := HFL.out.1
            have h4 : (lB ++ lz).length = lB.length + lz.length := List.length_append
            omega
          have HB1 := hide (fun w' (hf : Fr (fun _ => False) wz w') => alike_any w' _ _ lx lz e1 BX BZ my my my gx gz hmb2 (r1.quiet hf) (r3.quiet hf))
          have HB2 := hide (fun w' (hf : Fr (fun _ => False) wz w') => alike_any w' _ _ ly lz e2 BY BZ my my my gy gz hmb2 (r2.quiet hf) (r3.quiet hf))
          have HE := hide hw4'
          clear hty hw3 q1 q2 q3 q4 hps e1 e2 hk hw4' r1 r2 r3 x1 x2 x3 x4 x5 H3
          go_wp2_with fail
          refine (HB1.out _ (Fr.refl _ _)).mono ?_
          rintro e v1 ⟨rfl, f1⟩
          go_wp2_with fail
          refine (HB2.out _ f1).mono ?_
          rintro e v2 ⟨rfl, f2⟩
          replace f2 := f1.trans f2
          clear f1
          go_wp2_with fail
          go_ret
          exact ⟨rfl, (HE.out.trans (f2.weak _)).toBelow (Nat.le_refl _) (fun k hk hS => by omega)⟩
end Go.Proofs.Ytlcjhbemgagchaa
