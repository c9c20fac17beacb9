/-
  One step of a script of writers.
-/
import Derived.Test.YtbglloafbmamoaaTlvW4
import Derived.Test.YtbglloafbmamoaaTlvL6
namespace Go.Proofs.Ytbglloafbmamoaa
open Go.RowKit
set_option linter.unusedVariables false
attribute [local go_sem ↓] Go.wp_at_zero Go.wp_at_succ

set_option maxHeartbeats 400000 in
theorem round_any (w : World) (k n : Int) (n1 : 1 ≤ n) (n2 : n ≤ 4611686018427387904) :
    Calls Try.prog 40 #[.int .i64 k, .int .i64 n] w fun e w' => e = .returned (.int .i64 (k % n)) ∧ w = w' := by
  have h0 := Int.emod_nonneg k (show n ≠ 0 by omega)
  have h1 := Int.emod_lt_of_pos k (show 0 < n by omega)
  have tb : k.tmod n = k % n ∨ (k.tmod n = k % n - n) := by
    rw [Int.tmod_eq_emod]; split
    · exact .inl (by omega)
    · exact .inr (by omega)
  by_cases hk : 0 ≤ k.tmod n
  · have e1 : k.tmod n = k % n := by omega
    clear tb
    go_enter Try.func40, Try.ntmps40
    go_wp2
    go_ret
    exact ⟨rfl, rfl⟩
  · have e2 : -n ≤ k.tmod n := by omega
    have e1 : Hid (k % n = k.tmod n + n) := show k % n = k.tmod n + n by omega
    clear tb
    go_enter Try.func40, Try.ntmps40
    go_wp2
    go_ret
    exact ⟨by rw [e1.out]; rfl, rfl⟩
theorem round4 (w : World) (x : Int) (k : Nat) (hk : x % 4 = (k : Int)) : Calls Try.prog 40 #[.int .i64 x, .int .i64 4] w fun e w' => e = .returned (.int .i64 (k : Int)) ∧ w = w' := by
  have := round_any w x 4 (by omega) (by omega)
  rwa [hk] at this

/-- A writer of the reference stands apart from those of the program. -/
theorem WI.other {w0 w w1 : World} {bw br : Nat} {cw cr : Array Value} {l : List Ob} (h : WI w0 w bw br cw cr l) {k i : Nat} (hk : k < 4) {x y : Ob} (h1 : l[k]? = some x) (h2 : l[i + 4]? = some y) (hf : Fr (foot x.o) w w1) : TAt w1 y.ty y.o y.s :=
  (h.obs.at_ y (List.mem_of_getElem? h2)).fr hf fun b hb hb' => h.obs.apart h1 h2 (by omega) b hb' hb
theorem OOut.fr {ty : TypeId} {o : Option WO} {s' : WS} {w w' : World} (h : OOut ty o s' w w') : Fr (foot o) w w' := h.choose_spec.2.2.2

def boxed (who kind tag inn : Int) (N : Nat) (V : Option Addr) (m d : Nat) (X : Option Addr) (n2 d2 : Nat) : Array Value := #[.int .i64 who, .int .i64 kind, .int .i64 tag, .int .i64 inn, .int .u64 (N : Int), .slice V m d, .slice X n2 d2]

set_option maxHeartbeats 8000000 in
set_option maxRecDepth 100000 in
theorem writes_any (w0 w : World) (bw br : Nat) (cw cr : Array Value) (l : List Ob) (hI : WI w0 w bw br cw cr l) (who kind tag inn : Int) (N : Nat) (hN : N < U64) (V : Option Addr) (m d : Nat) (data : List Nat) (hm : m ≤ 1048576) (h256 : ∀ x ∈ data, x < 256) (hV : Sl w 1 V m (data.map bn)) (hVb : ∀ b o, V = some ⟨b, o, none⟩ → 0 < m → b < w0.heap.size)
    (X : Option Addr) (n2 d2 : Nat) (items : List (List Nat)) (hn2 : n2 ≤ 1048576) (hMi : ∀ x ∈ items, x.length ≤ 1048576) (hLi : (listAll items).length ≤ 100000000000) (hX : LAt w w0.heap.size X n2 items) :
    Calls Try.prog 26 #[.slice (some ⟨bw, 0, none⟩) 4 4, .slice (some ⟨br, 0, none⟩) 4 4, .agg (boxed who kind tag inn N V m d X n2 d2)] w fun e w' => e = .returned (.bool true) ∧ ∃ l', WI w0 w' bw br cw cr l' := by
  obtain ⟨k, hk⟩ : ∃ k : Nat, who % 4 = (k : Int) := ⟨(who % 4).toNat, by omega⟩
  obtain ⟨i, hi⟩ : ∃ i : Nat, inn % 4 = (i : Int) := ⟨(inn % 4).toNat, by omega⟩
  have hk4 : k < 4 := by omega
  have hi4 : i < 4 := by omega
  have Hk := hide hk
  have Hi := hide hi
  have Hm : Hid (m = data.length) := hV.len
  have H256 := hide h256
  have HMi := hide hMi
  have HVb := hide hVb
  clear hk hi h256 hMi hVb
  unfold boxed
  go_enter Try.func26, Try.ntmps26
  go_wp2_with fail
  have hb0 := Bl.new w 60 (boxed who kind tag inn N V m d X n2 d2)
  have hIb := hI.quiet ((Fr.refl _ _).alloc (.cells (boxed who kind tag inn N V m d X n2 d2) 60))
  have hVa := hV.below (S := fun _ => False) ((Fr.refl _ _).alloc (.cells (boxed who kind tag inn N V m d X n2 d2) 60)) (fun _ _ => id)
  have hXa := hX.quiet ((Fr.refl _ _).alloc (.cells (boxed who kind tag inn N V m d X n2 d2) 60))
  have hsz : w.heap.size < (w.alloc (.cells (boxed who kind tag inn N V m d X n2 d2) 60)).heap.size := by simp
  have hs0 := hI.fr.size
  have hfeet : Hid (∀ x ∈ l, ∀ b, foot x.o b → b < w.heap.size) := fun x hx => (hI.obs.at_ x hx).lt
  obtain ⟨bx, hbx⟩ : ∃ bx, w.heap.size = bx := ⟨_, rfl⟩
  rw [hbx] at hb0 hsz hs0 hfeet ⊢
  refine (round4 _ who k Hk.out).mono ?_
  rintro e w1 ⟨rfl, hw1⟩
  rw [show (w.alloc (.cells (boxed who kind tag inn N V m d X n2 d2) 60)) = w1 from hw1] at hb0 hIb hVa hXa hsz
  clear hw1 hI hV hX hbx
  obtain ⟨o, o', s, r1, r2, r3, r4⟩ := hIb.row k hk4
  have c0 : w1.cell? ⟨bx, 0, none⟩ = some (.int .i64 who) := hb0.cell' rfl
  have c1 : w1.cell? ⟨bx, 1, none⟩ = some (.int .i64 kind) := hb0.cell' rfl
  have c2 : w1.cell? ⟨bx, 2, none⟩ = some (.int .i64 tag) := hb0.cell' rfl
  have c4 : w1.cell? ⟨bx, 4, none⟩ = some (.int .u64 (N : Int)) := hb0.cell' rfl
  have cv : w1.cell? ⟨bx, 5, none⟩ = some (.slice V m d) := hb0.cell' rfl
  have cx : w1.cell? ⟨bx, 6, none⟩ = some (.slice X n2 d2) := hb0.cell' rfl
  have cp : w1.cell? ⟨bw, k, none⟩ = some (wptr o) := hIb.ws.cell' r3
  have cq : w1.cell? ⟨br, k, none⟩ = some (wptr o') := hIb.rs.cell' r4
  have hTo : TAt w1 51 o s := hIb.obs.at_ _ (List.mem_of_getElem? r1)
  have hRo : TAt w1 55 o' s := hIb.obs.at_ _ (List.mem_of_getElem? r2)
  have hfo : ∀ b, foot o b → b < bx := hfeet.out _ (List.mem_of_getElem? r1)
  have hfo' : ∀ b, foot o' b → b < bx := hfeet.out _ (List.mem_of_getElem? r2)
  have hno : ∀ b, foot o b → w0.heap.size ≤ b := hIb.obs.new _ (List.mem_of_getElem? r1)
  have hno' : ∀ b, foot o' b → w0.heap.size ≤ b := hIb.obs.new _ (List.mem_of_getElem? r2)
  have i0 : (0 : Int) ≤ (k : Int) := by omega
  have i1 : (k : Int) < 4 := by omega
  go_wp2_with fail
  refine (round4 _ who k Hk.out).mono ?_
  rintro e w2 ⟨rfl, rfl⟩
  by_cases k1 : kind = 1
  · subst k1
    go_wp2_with fail
    refine (tnumber_any _ o s tag N hN hTo).mono ?_
    rintro e w2 ⟨rfl, hO⟩
    have hF := hO.fr
    have hb2 := hb0.fr hF (fun h => by have := hfo _ h; omega)
    have d2' : w2.cell? ⟨bx, 2, none⟩ = some (.int .i64 tag) := hb2.cell' rfl
    have d4 : w2.cell? ⟨bx, 4, none⟩ = some (.int .u64 (N : Int)) := hb2.cell' rfl
    go_wp2_with fail
    refine (rnumber_any _ o' s tag N hN (hIb.other hk4 r1 r2 hF)).mono ?_
    rintro e w3 ⟨rfl, hO'⟩
    go_wp2_with fail
    go_ret
    obtain ⟨l', h', _⟩ := hIb.step hk4 r1 r2 hO hO'
    exact ⟨rfl, l', h'⟩
  by_cases k2 : kind = 2
  · subst k2
    go_wp2_with fail
    refine (lent_any _ data V m d (by omega) hVa).mono ?_
    rintro e w2 ⟨Ai, ci, gi, rfl, hLi2, hgi, hf2⟩
    have hb2 := hb0.fr hf2 id
    have d2' : w2.cell? ⟨bx, 2, none⟩ = some (.int .i64 tag) := hb2.cell' rfl
    have hgil := hLi2.lt gi rfl
    go_wp2_with fail
    refine (traw_any _ o s tag Ai m ci data (by omega) (hTo.quiet hf2) (hLi2.sl Hm.out) (fun r e b off e1 _ e2 => by
      subst e1
      have h1 := hLi2.blk
      have h2 := hfo b ⟨r, e, .inr e2.symm⟩
      cases h1
      omega)).mono ?_
    rintro e w3 ⟨rfl, hO⟩
    have hF := hO.fr
    have hb3 := hb2.fr hF (fun h => by have := hfo _ h; omega)
    have d3 : w3.cell? ⟨bx, 2, none⟩ = some (.int .i64 tag) := hb3.cell' rfl
    have dv3 : w3.cell? ⟨bx, 5, none⟩ = some (.slice V m d) := hb3.cell' rfl
    have hL3 : Lent w3 Ai m ci data gi := Ow.fr hLi2 hF (fun b e h => by cases e; have := hfo _ h; omega)
    have hV3 := Sl.fr' hF (hVa.below hf2 (fun _ _ => id)) (fun b off e h0 h => by have := HVb.out b off e h0; have := hno b h; omega)
    have hIb2 := hIb.quiet hf2
    go_wp2_with fail
    refine (rraw_any _ o' s tag V m d data (by omega) (hIb2.other hk4 r1 r2 hF) hV3).mono ?_
    rintro e w4 ⟨rfl, hO'⟩
    have hF' := hO'.fr
    have hb4 := hb3.fr hF' (fun h => by have := hfo' _ h; omega)
    have dv4 : w4.cell? ⟨bx, 5, none⟩ = some (.slice V m d) := hb4.cell' rfl
    have hL4 : Lent w4 Ai m ci data gi := Ow.fr hL3 hF' (fun b e h => by cases e; have := hfo' _ h; omega)
    have hV4 := Sl.fr' hF' hV3 (fun b off e h0 h => by have := HVb.out b off e h0; have := hno' b h; omega)
    obtain ⟨l', h', hl'⟩ := hIb2.step hk4 r1 r2 hO hO'
    go_wp2_with fail
    refine (kept_q _ data Ai V m ci d gi (by omega) Hm.out hL4 hV4).mono ?_
    rintro e w5 ⟨rfl, hd5⟩
    have hf5 := fr_of_drewN hd5
    clear hd5
    have hL5 : Lent w5 Ai m ci data gi := Ow.fr hL4 hf5 (fun _ _ => id)
    go_wp2_with fail
    refine (over_any _ data Ai m ci (some gi) (Lent.ow hL5 Hm.out) (by omega)).mono ?_
    rintro e w6 ⟨rfl, hf6⟩
    go_wp2_with fail
    go_ret
    have h5 := h'.quiet hf5
    have hsz1 := hf2.size
    refine ⟨rfl, l', h5.moved hf6 (fun x hx b hb e => ?_) (fun e => ?_) (fun e => ?_) (fun b hb e => ?_)⟩
    · cases e
      rcases hl' x hx _ hb with ⟨y, hy, hb⟩ | hb
      · have := hfeet.out y hy _ hb; omega
      · omega
    · cases e
      exact (Ow.neBl hL5 h5.ws (by decide)) rfl
    · cases e
      exact (Ow.neBl hL5 h5.rs (by decide)) rfl
    · cases e; omega
  by_cases k3 : kind = 3
  · subst k3
    have hcv := conv_bs w1 V m d data H256.out hVa
    go_wp2_with fail
    refine (ttext_any _ o s tag data (by rw [← Hm.out]; omega) H256.out hTo).mono ?_
    rintro e w2 ⟨rfl, hO⟩
    have hF := hO.fr
    have hb2 := hb0.fr hF (fun h => by have := hfo _ h; omega)
    have d2' : w2.cell? ⟨bx, 2, none⟩ = some (.int .i64 tag) := hb2.cell' rfl
    have d4 : w2.cell? ⟨bx, 5, none⟩ = some (.slice V m d) := hb2.cell' rfl
    have hV2 := Sl.fr' hF hVa (fun b off e h0 h => by have := HVb.out b off e h0; have := hno b h; omega)
    have hcv2 := conv_bs w2 V m d data H256.out hV2
    go_wp2_with fail
    refine (rtext_any _ o' s tag data (by rw [← Hm.out]; omega) H256.out (hIb.other hk4 r1 r2 hF)).mono ?_
    rintro e w3 ⟨rfl, hO'⟩
    go_wp2_with fail
    go_ret
    obtain ⟨l', h', _⟩ := hIb.step hk4 r1 r2 hO hO'
    exact ⟨rfl, l', h'⟩
  by_cases k4 : kind = 4
  · subst k4
    have hM1 : Hid (∀ x ∈ items, x.length ≤ 140000000000000) := fun x hx => by have := HMi.out x hx; omega
    have hM2 : Hid (∀ x ∈ items, x.length ≤ 140737488355000) := fun x hx => by have := HMi.out x hx; omega
    have Hn2 := hide hXa.1
    go_wp2_with fail
    refine (lentAll_any _ items X n2 d2 _ (by omega) hM2.out hXa).mono ?_
    rintro e w2 ⟨L, cl, rs, gl, rfl, hL2, hf2⟩
    have hb2 := hb0.fr hf2 id
    have d2' : w2.cell? ⟨bx, 2, none⟩ = some (.int .i64 tag) := hb2.cell' rfl
    have hIb2 := hIb.quiet hf2
    have hrange := hL2.range
    have hLat := hL2.lat Hn2.out
    go_wp2_with fail
    refine (twlist_any _ o s tag items L n2 cl _ (by omega) (Nat.le_refl _) hM1.out hLi hLat (hTo.quiet hf2)).mono ?_
    rintro e w3 ⟨rfl, hO⟩
    have hF := hO.fr
    have hb3 := hb2.fr hF (fun h => by have := hfo _ h; omega)
    have d3 : w3.cell? ⟨bx, 2, none⟩ = some (.int .i64 tag) := hb3.cell' rfl
    have dx3 : w3.cell? ⟨bx, 6, none⟩ = some (.slice X n2 d2) := hb3.cell' rfl
    have hL3 : LentAll w1 w3 items L n2 cl rs gl := ⟨hL2.1, hL2.2.1.fr hF (fun b e h => by have := hL2.2.2.1 b e; have := hfo _ h; omega), hL2.2.2.1, hL2.2.2.2.fr hF (fun b h1 h2 h => by have := hfo _ h; omega)⟩
    have hX3 := (hXa.quiet hf2).fr hF (fun b hb h => by have := hno b h; omega)
    have hs3 : w0.heap.size ≤ w3.heap.size := Nat.le_trans (Nat.le_trans (Nat.le_trans hs0 (Nat.le_of_lt hsz)) hf2.size) hF.size
    go_wp2_with fail
    refine (rwlist_any _ o' s tag items X n2 d2 _ (by omega) hs3 hM1.out hLi hX3 (hIb2.other hk4 r1 r2 hF)).mono ?_
    rintro e w4 ⟨rfl, hO'⟩
    have hF' := hO'.fr
    have hb4 := hb3.fr hF' (fun h => by have := hfo' _ h; omega)
    have dx4 : w4.cell? ⟨bx, 6, none⟩ = some (.slice X n2 d2) := hb4.cell' rfl
    have hL4 : LentAll w1 w4 items L n2 cl rs gl := ⟨hL3.1, hL3.2.1.fr hF' (fun b e h => by have := hL3.2.2.1 b e; have := hfo' _ h; omega), hL3.2.2.1, hL3.2.2.2.fr hF' (fun b h1 h2 h => by have := hfo' _ h; omega)⟩
    have hX4 := hX3.fr hF' (fun b hb h => by have := hno' b h; omega)
    obtain ⟨l', h', hl'⟩ := hIb2.step hk4 r1 r2 hO hO'
    go_wp2_with fail
    refine (keptAll_any _ items X L n2 d2 cl _ w1 rs gl (by omega) hM2.out hL4 hX4).mono ?_
    rintro e w5 ⟨rfl, hf5⟩
    have hL5 := hL4.quiet hf5
    have hrow := hL5.rows Hn2.out
    have hr1 : Hid (∀ r ∈ rs.take n2, r.n ≤ 140737488355000) := fun r hr => by
      have h1 := (hrow.2.2.2.ow hr).len
      have h2 : r.xs ∈ items := by rw [← hrow.1]; exact List.mem_map.2 ⟨r, hr, rfl⟩
      have h3 := hM2.out _ h2
      omega
    go_wp2_with fail
    refine (overAll_any _ (rs.take n2) L n2 cl 5 _ gl (by omega) hrow.2.2.1 hrow.2.2.2 hr1.out).mono ?_
    rintro e w6 ⟨rfl, hf6⟩
    go_wp2_with fail
    go_ret
    have h5 := h'.quiet hf5
    refine ⟨rfl, l', h5.moved hf6 (fun x hx b hb e => ?_) (fun e => ?_) (fun e => ?_) (fun b hb e => ?_)⟩
    · have := hrange b e
      rcases hl' x hx _ hb with ⟨y, hy, hb⟩ | hb
      · have := hfeet.out y hy _ hb; omega
      · omega
    · have := hrange _ e
      have := hIb.ws.lt
      omega
    · have := hrange _ e
      have := hIb.rs.lt
      omega
    · have := hrange _ e; omega
  by_cases k5 : kind = 5
  · subst k5
    obtain ⟨p, p', t, q1, q2, q3, q4⟩ := hIb.row i hi4
    have c3 : w1.cell? ⟨bx, 3, none⟩ = some (.int .i64 inn) := hb0.cell' rfl
    have cpi : w1.cell? ⟨bw, i, none⟩ = some (wptr p) := hIb.ws.cell' q3
    have hTi : TAt w1 51 p t := hIb.obs.at_ _ (List.mem_of_getElem? q1)
    have n1 := hIb.notW _ (List.mem_of_getElem? r1)
    have n2' := hIb.notW _ (List.mem_of_getElem? r2)
    have j0 : (0 : Int) ≤ (i : Int) := by omega
    have j1 : (i : Int) < 4 := by omega
    go_wp2_with fail
    go_region_held3 (fun w' => w'.cell? ⟨bx, 2, none⟩ = some (.int .i64 tag) ∧ w'.cell? ⟨bx, 3, none⟩ = some (.int .i64 inn) ∧ w'.cell? ⟨bw, i, none⟩ = some (wptr p)) (go_keep)
      (first
        | (go_at_call 40; refine (round4 _ inn i Hi.out).mono ?_; rintro e w2 ⟨rfl, rfl⟩)
        | (go_at_call 46; refine (trecord_any _ o p s t tag (hTo.quiet (by exact (Fr.refl (fun _ => False) w1).drew)) (hTi.quiet (by exact (Fr.refl (fun _ => False) w1).drew))).mono ?_; rintro e w2 ⟨rfl, hO⟩; have hF := hO.fr; have hb2 := hb0.fr ((Fr.refl (foot o) w1).drew.trans hF) (fun h => by have := hfo _ h; omega); have e2 : w2.cell? ⟨bx, 2, none⟩ = some (.int .i64 tag) := hb2.cell' rfl; have e3 : w2.cell? ⟨bx, 3, none⟩ = some (.int .i64 inn) := hb2.cell' rfl; have e4 : w2.cell? ⟨bw, i, none⟩ = some (wptr p) := (hIb.ws.fr ((Fr.refl (foot o) w1).drew.trans hF) n1.1).cell' q3))
    have hO1 : OOut 51 o (s.record tag t) w1 w2 := OOut.behind ((Fr.refl (fun _ => False) w1).drew) hO
    have hF1 := hO1.fr
    have hRo2 : TAt w2 55 o' s := hIb.other hk4 r1 r2 hF1
    have hRi2 : TAt w2 55 p' t := hIb.other hk4 r1 q2 hF1
    have hrs2 := hIb.rs.fr hF1 n1.2
    have e5 : w2.cell? ⟨br, i, none⟩ = some (wptr p') := hrs2.cell' q4
    have hfo2' : ∀ b, foot o' b → b < bx := hfo'
    go_wp2_with fail
    go_region_held3 (fun w' => w'.cell? ⟨bx, 2, none⟩ = some (.int .i64 tag) ∧ w'.cell? ⟨bx, 3, none⟩ = some (.int .i64 inn) ∧ w'.cell? ⟨br, i, none⟩ = some (wptr p')) (go_keep)
      (first
        | (go_at_call 40; refine (round4 _ inn i Hi.out).mono ?_; rintro e w3 ⟨rfl, rfl⟩)
        | (go_at_call 72; refine (rrecord_any _ o' p' s t tag (hRo2.quiet (by exact (Fr.refl (fun _ => False) w2).drew)) (hRi2.quiet (by exact (Fr.refl (fun _ => False) w2).drew))).mono ?_; rintro e w3 ⟨rfl, hO'⟩; have hF' := hO'.fr; have hb3 := hb2.fr ((Fr.refl (foot o') w2).drew.trans hF') (fun h => by have := hfo' _ h; omega); have e2' : w3.cell? ⟨bx, 2, none⟩ = some (.int .i64 tag) := hb3.cell' rfl; have e3' : w3.cell? ⟨bx, 3, none⟩ = some (.int .i64 inn) := hb3.cell' rfl; have e4' : w3.cell? ⟨br, i, none⟩ = some (wptr p') := (hrs2.fr ((Fr.refl (foot o') w2).drew.trans hF') n2'.2).cell' q4))
    go_wp2_with fail
    go_ret
    obtain ⟨l', h', _⟩ := hIb.step hk4 r1 r2 hO1 (OOut.behind ((Fr.refl (fun _ => False) w2).drew) hO')
    exact ⟨rfl, l', h'⟩
  by_cases k6 : kind = 6
  · subst k6
    go_wp2_with fail
    refine (forms_any _ o o' s hTo hRo).mono ?_
    rintro e w2 ⟨rfl, hf2⟩
    go_wp2_with fail
    go_ret
    exact ⟨rfl, l, hIb.quiet hf2⟩
  go_wp2_with fail
  go_ret
  exact ⟨rfl, l, hIb⟩
end Go.Proofs.Ytbglloafbmamoaa
