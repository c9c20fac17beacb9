/-
  Lists of bytes: read (LAt), owned (BSs); lentAll, keptAll, overAll, alike.
-/
import Derived.Test.YtbglloafbmamoaaTlvGets1
namespace Go.Proofs.Ytbglloafbmamoaa
open Go.RowKit
set_option linter.unusedVariables false
attribute [local go_sem ↓] Go.wp_at_zero Go.wp_at_succ

theorem infoB : (Try.prog.info? 23).map (fun i => (i.zero, i.size, i.bytes)) = some (some (.slice none 0 0), 1, 24) := by kernel_rfl

/-- The slice '.slice A n c' of slices of bytes reads as xss, all of it below block B. -/
def LAt (w : World) (B : Nat) (A : Option Addr) (n : Nat) (xss : List (List Nat)) : Prop :=
  n = xss.length ∧ (0 < n → ∃ b o, A = some ⟨b, o, none⟩ ∧ b < B ∧ ∀ (i : Nat) (hi : i < xss.length), ∃ V m d, w.cell? ⟨b, o + i, none⟩ = some (.slice V m d) ∧ m ≤ d ∧ d ≤ 9223372036854775807 ∧ Sl w 1 V m (xss[i].map bn) ∧ ∀ b' o', V = some ⟨b', o', none⟩ → 0 < m → b' < B)
theorem LAt.fr {w w' : World} {B n : Nat} {A : Option Addr} {xss : List (List Nat)} {S : Nat → Prop} (h : LAt w B A n xss) (hf : Fr S w w') (hS : ∀ k, k < B → ¬ S k) : LAt w' B A n xss := by
  refine ⟨h.1, fun hn => ?_⟩
  obtain ⟨b, o, hA, hb, hc⟩ := h.2 hn
  refine ⟨b, o, hA, hb, fun i hi => ?_⟩
  obtain ⟨V, m, d, c0, h1, h2, hv, hl⟩ := hc i hi
  exact ⟨V, m, d, (hf.cell (World.block_lt_of_cell? w _ c0) (hS _ hb)).trans c0, h1, h2, Sl.fr' hf hv (fun b' o' e h0 => hS _ (hl b' o' e h0)), hl⟩
theorem LAt.quiet {w w' : World} {B n : Nat} {A : Option Addr} {xss : List (List Nat)} (h : LAt w B A n xss) (hf : Fr (fun _ => False) w w') : LAt w' B A n xss := h.fr hf fun _ _ => id

/-- Bytes in memory of their own. -/
structure BS where
  xs : List Nat
  A : Option Addr
  n : Nat
  c : Nat
  g : Option Nat
def BS.cell (r : BS) : Value := .slice r.A r.n r.c
/-- Lists of bytes, each in memory of its own behind block B, with k marks behind it. -/
structure BSs (w : World) (k B : Nat) (rs : List BS) : Prop where
  own : ∀ r ∈ rs, Ow w 5 1 r.A (r.n + k) r.c ((r.xs ++ marks k).map bn) r.g
  new : ∀ r ∈ rs, ∀ b, r.g = some b → B ≤ b
  ord : rs.Pairwise fun a b => ∀ x y, a.g = some x → b.g = some y → x < y
theorem BSs.fr {w w' : World} {k B : Nat} {rs : List BS} {S : Nat → Prop} (h : BSs w k B rs) (hf : Fr S w w') (hS : ∀ x, B ≤ x → x < w.heap.size → ¬ S x) : BSs w' k B rs :=
  ⟨fun r hr => (h.own r hr).fr hf fun b e => hS b (h.new r hr b e) ((h.own r hr).lt b e), h.new, h.ord⟩
theorem BSs.quiet {w w' : World} {k B : Nat} {rs : List BS} (h : BSs w k B rs) (hf : Fr (fun _ => False) w w') : BSs w' k B rs := h.fr hf fun _ _ _ => id
theorem BSs.more {w : World} {k B B' : Nat} {rs : List BS} (h : BSs w k B rs) (hB : B' ≤ B) : BSs w k B' rs := ⟨h.own, fun r hr b e => Nat.le_trans hB (h.new r hr b e), h.ord⟩
theorem BSs.nil_ (w : World) (k B : Nat) : BSs w k B [] := ⟨(fun r h => by cases h), (fun r h => by cases h), List.Pairwise.nil⟩
theorem BSs.sub {w : World} {k B : Nat} {rs qs : List BS} (h : BSs w k B rs) (hq : qs.Sublist rs) : BSs w k B qs := ⟨fun r hr => h.own r (hq.mem hr), fun r hr => h.new r (hq.mem hr), h.ord.sublist hq⟩
/-- One more, in a world where nothing of the others has turned. -/
theorem BSs.add {w w' : World} {k B : Nat} {rs : List BS} {S : Nat → Prop} (h : BSs w k B rs) (hf : Fr S w w') (hS : ∀ r ∈ rs, ∀ x, r.g = some x → ¬ S x) {r : BS} (ho : Ow w' 5 1 r.A (r.n + k) r.c ((r.xs ++ marks k).map bn) r.g) (hn : ∀ b, r.g = some b → w.heap.size ≤ b) (hB : B ≤ w.heap.size) : BSs w' k B (rs ++ [r]) := by
  refine ⟨fun x hx => ?_, fun x hx b e => ?_, ?_⟩
  · rcases List.mem_append.1 hx with hx | hx
    · exact (h.own x hx).fr hf fun b e => hS x hx b e
    · simp at hx; subst hx; exact ho
  · rcases List.mem_append.1 hx with hx | hx
    · exact h.new x hx b e
    · simp at hx; subst hx; exact Nat.le_trans hB (hn b e)
  · rw [List.pairwise_append]
    refine ⟨h.ord, by simp, fun x hx y hy a b ha hb => ?_⟩
    simp at hy; subst hy
    have := (h.own x hx).lt a ha
    have := hn b hb
    omega
/-- The bytes without their marks. -/
theorem BSs.ow {w : World} {k B : Nat} {rs : List BS} (h : BSs w k B rs) {r : BS} (hr : r ∈ rs) : Ow w 5 1 r.A r.n r.c (r.xs.map bn) r.g := by
  have h1 := h.own r hr
  have h2 := h1.len
  rw [List.length_append, marks_len] at h2
  have h3 := h1.take (k := r.n) (by omega)
  rwa [Nat.mul_one, List.map_append, List.take_left' (by simp; omega)] at h3
theorem BSs.apart {w : World} {k B : Nat} {rs : List BS} (h : BSs w k B rs) {A : Option Addr} {e : TypeId} {s n c : Nat} {xs : List Value} {g : Option Nat} (hO : Ow w e s A n c xs g) (hne : e ≠ 5) : ∀ r ∈ rs, ∀ x, r.g = some x → ¬ some x = g := fun r hr x e1 e2 => by
  have := h.own r hr
  rw [e1] at this
  rw [← e2] at hO
  exact Ow.ne hO this hne rfl
theorem cells_get {rs : List BS} {i : Nat} (hi : i < rs.length) (more : List Value) : (rs.map BS.cell ++ more)[i]? = some (.slice rs[i].A rs[i].n rs[i].c) := by
  rw [List.getElem?_append_left (by simpa using hi)]; simp [hi, BS.cell]
/-- A slice of slices with the bytes of each: it reads as the list of these. -/
theorem BSs.lat {w : World} {k B : Nat} {rs : List BS} (h : BSs w k B rs) {A : Option Addr} {N c : Nat} {more : List Value} {g : Option Nat} (hO : Ow w 23 1 A N c (rs.map BS.cell ++ more) g) {n : Nat} (hn : n = rs.length) : LAt w w.heap.size A n (rs.map (·.xs)) := by
  refine ⟨by simpa using hn, fun h0 => ?_⟩
  obtain ⟨b, o, hA, hg, _, _⟩ := hO.look (cells_get (i := 0) (by omega) more)
  refine ⟨b, o, hA, hO.lt b hg, fun i hi => ?_⟩
  have hi' : i < rs.length := by simpa using hi
  obtain ⟨b', o', hA', _, c0, _⟩ := hO.look (cells_get hi' more)
  rw [hA] at hA'; cases hA'
  have ho := h.ow (List.getElem_mem hi')
  have hcap := ho.cap
  refine ⟨_, _, _, c0, hcap.1, by unfold maxLen at hcap; exact hcap.2, by simpa using ho.sl, fun b' o' e h0' => ho.sl.lt b' o' e h0'⟩
theorem BSs.lat' {w : World} {k B : Nat} {rs : List BS} (h : BSs w k B rs) {A : Option Addr} {c : Nat} {g : Option Nat} {n : Nat} (hO : Ow w 23 1 A n c (rs.map BS.cell) g) : LAt w w.heap.size A n (rs.map (·.xs)) := by
  have h1 : n = rs.length := by have := hO.1; simpa using this.symm
  exact h.lat (more := []) (by simpa using hO) h1

set_option maxHeartbeats 2000000 in
set_option maxRecDepth 4000 in
theorem alike_q (w : World) (xss : List (List Nat)) (A D : Option Addr) (n c d B B' : Nat) (hM : ∀ x ∈ xss, x.length ≤ 140737488355000) (h63 : n ≤ 9223372036854775806) (hA : LAt w B A n xss) (hD : LAt w B' D n xss) :
    Calls Try.prog 38 #[.slice A n c, .slice D n d] w fun e w' => e = .returned (.bool true) ∧ ∃ m, w' = w.drewN m := by
  have Hn := hide hA.1
  have HA := hide hA
  have HD := hide hD
  clear hA hD
  go_enter Try.func38, Try.ntmps38
  go_wp2_with fail
  go_loopw [5] (fun i wr => ∃ (k : Nat), k ≤ n ∧ i = .int .i64 k ∧ Hid (∃ m, wr = w.drewN m)) (fun i _ => n - (intOf i).toNat)
  case atStart => exact ⟨0, Nat.zero_le _, rfl, ⟨0, rfl⟩⟩
  case round =>
    obtain ⟨k, hk, rfl, hw⟩ := hrel
    have hfr := fr_of_drewN hw.out
    by_cases hlt : k < n
    · have hkl : k < xss.length := by rw [← Hn.out]; exact hlt
      obtain ⟨b, o, rfl, _, hc⟩ := (HA.out.quiet hfr).2 (by omega)
      obtain ⟨b', o', rfl, _, hc'⟩ := (HD.out.quiet hfr).2 (by omega)
      obtain ⟨V, m, e1, c0, _, _, hV, _⟩ := hc k hkl
      obtain ⟨V', m', e2, c0', _, _, hV', _⟩ := hc' k hkl
      have hm1 := hV.len
      obtain rfl : m = m' := by rw [hV.len, hV'.len]
      have hm : m ≤ 9223372036854775806 := by have := hM _ (List.getElem_mem hkl); omega
      have Hm := hide hm1
      clear hc hc' hfr hm1
      have i0 : (0 : Int) ≤ (k : Int) := by omega
      have i1 : (k : Int) < (n : Int) := by omega
      go_wp2_with fail
      go_quiet ((go_at_call 16; exact quiet_ex (same_q _ xss[k] V V' e1 e2 m Hm.out hm (by exact hV) (by exact hV'))))
      go_wp2_with fail
      exact ⟨⟨k + 1, by omega, by go_num, by obtain ⟨m, hm⟩ := hw.out; exact ⟨m + nq, by rw [hm]; simp⟩⟩, by simp [intOf]; omega⟩
    · go_wp2_with fail
      go_ret
      exact ⟨rfl, hw.out⟩

set_option maxHeartbeats 4000000 in
set_option maxRecDepth 4000 in
/-- overAll writes into the list's own block and into the blocks of its rows. -/
theorem overAll_any (w : World) (rs : List BS) (A : Option Addr) (n c k B : Nat) (g : Option Nat) (hn : n ≤ 1099511627776) (hO : Ow w 23 1 A n c (rs.map BS.cell) g) (hR : BSs w k B rs) (hM : ∀ r ∈ rs, r.n ≤ 140737488355000) :
    Calls Try.prog 35 #[.slice A n c] w fun e w' => e = .returned (.tuple #[]) ∧ Fr (fun x => some x = g ∨ ∃ r ∈ rs, some x = r.g) w w' := by
  obtain ⟨bi, bj, bj0, bj1, bj2⟩ := info_parts infoB
  have Hn : Hid (n = rs.length) := by have := hO.1; simp at this; exact this.symm
  have hap := hR.apart hO (by decide)
  go_enter Try.func35, Try.ntmps35
  go_wp2_with fail
  go_loopw [2] (fun i wr => ∃ (j : Nat), j ≤ n ∧ i = .int .i64 j ∧ Ow wr 23 1 A n c (rs.map BS.cell) g ∧ Hid (∀ r ∈ rs.drop j, Ow wr 5 1 r.A r.n r.c (r.xs.map bn) r.g) ∧ Fr (fun x => some x = g ∨ ∃ r ∈ rs, some x = r.g) w wr) (fun i _ => n - (intOf i).toNat)
  case atStart => exact ⟨0, Nat.zero_le _, rfl, hO, fun r hr => hR.ow (by simpa using hr), Fr.refl _ _⟩
  case round =>
    obtain ⟨j, hj, rfl, hY, hown, hf⟩ := hrel
    by_cases hlt : j < n
    · have hjr : j < rs.length := by rw [← Hn.out]; exact hlt
      have hy := cells_get hjr []
      rw [List.append_nil] at hy
      obtain ⟨b, o, rfl, rfl, c0, -⟩ := hY.look hy
      have hmem : rs[j] ∈ rs := List.getElem_mem hjr
      have hdr : rs.drop j = rs[j] :: rs.drop (j + 1) := List.drop_eq_getElem_cons hjr
      have ho := hown.out rs[j] (by rw [hdr]; exact List.mem_cons_self)
      have hord : ∀ r' ∈ rs.drop (j + 1), ∀ x y, rs[j].g = some x → r'.g = some y → x < y := by
        have h1 : (rs.drop j).Pairwise fun a b => ∀ x y, a.g = some x → b.g = some y → x < y := hR.ord.sublist (List.drop_sublist _ _)
        rw [hdr, List.pairwise_cons] at h1
        exact h1.1
      have hown' : Hid (∀ r ∈ rs.drop (j + 1), Ow wr 5 1 r.A r.n r.c (r.xs.map bn) r.g) := fun r hr => hown.out r (by rw [hdr]; exact List.mem_cons_of_mem _ hr)
      have hrn := hM _ hmem
      have hg' := hap _ hmem
      have hin : Hid (∃ r ∈ rs, rs[j].g = r.g) := ⟨_, hmem, rfl⟩
      obtain ⟨r, hr⟩ : ∃ r, rs[j] = r := ⟨_, rfl⟩
      rw [hr] at c0 ho hord hrn hg' hin
      have Hord := hide hord
      clear hy hmem hdr hr hown hjr hord
      have i0 : (0 : Int) ≤ (j : Int) := by omega
      have i1 : (j : Int) < (n : Int) := by omega
      go_wp2_with fail
      refine (over_any _ r.xs r.A r.n r.c r.g ho (by omega)).mono ?_
      rintro e w9 ⟨rfl, hf9⟩
      go_wp2_with fail
      refine ⟨⟨j + 1, by omega, by go_num, hY.fr hf9 (fun x e e' => hg' x e'.symm e.symm), fun r' hr' => ?_, ?_⟩, by simp [intOf]; omega⟩
      · exact (hown'.out r' hr').fr hf9 fun x e1 e2 => by have := Hord.out r' hr' x x e2.symm e1; omega
      · refine hf.comp hf9 fun x _ e => ?_
        obtain ⟨r2, h2, e2⟩ := hin.out
        exact .inr ⟨r2, h2, by rw [← e2]; exact e⟩
    · obtain rfl : j = n := by omega
      clear hown hlt
      go_wp2_with fail
      go_loopw [3] (fun i wr => ∃ (t : Nat) (ys : List Value), t ≤ j ∧ i = .int .i64 t ∧ Ow wr 23 1 A j c ys g ∧ Fr (fun x => some x = g ∨ ∃ r ∈ rs, some x = r.g) w wr) (fun i _ => j - (intOf i).toNat)
      case atStart => exact ⟨0, _, Nat.zero_le _, rfl, hY, hf⟩
      case round =>
        clear hY hf
        obtain ⟨t, ys, ht, rfl, hY, hf⟩ := hrel
        by_cases hlt : t < j
        · have hyl : t < ys.length := by rw [hY.1]; omega
          obtain ⟨b, o, rfl, rfl, c0, f0⟩ := hY.look (List.getElem?_eq_getElem hyl)
          obtain ⟨u0, hu0⟩ : ∃ u, ys[t] = u := ⟨_, rfl⟩
          rw [hu0] at c0
          have hbw := World.block_lt_of_cell? wr _ c0
          clear hyl hu0
          have i0 : (0 : Int) ≤ (t : Int) := by omega
          have i1 : (t : Int) < (j : Int) := by omega
          go_wp2_with fail
          refine ⟨⟨t + 1, _, by omega, by go_num, (Ow.put hY (j := t) (by omega) (.slice (some ⟨wr.heap.size, 0, none⟩) 1 1)).fr (S := fun _ => False) ((Fr.refl _ _).alloc _) (fun _ _ => id), ?_⟩, by simp [intOf]; omega⟩
          exact (Fr.setIn (S := fun x => some x = some b ∨ ∃ r ∈ rs, some x = r.g) hf (Or.inl (Or.inl rfl)) _).alloc _
        · obtain rfl : t = j := by omega
          clear hlt
          go_wp2_with fail
          go_loopw [0, 4] (fun u i wr => ∃ (s : Nat) (D : Option Addr) (cb : Nat) (zs : List Value) (gb : Option Nat), s ≤ 20 ∧ i = .int .i64 s ∧ u = .slice D (t + s) cb ∧ Ow wr 23 1 D (t + s) cb zs gb ∧ (∀ b, gb = some b → gb = g ∨ w.heap.size ≤ b) ∧ Fr (fun x => some x = g ∨ ∃ r ∈ rs, some x = r.g) w wr) (fun _ i _ => 20 - (intOf i).toNat)
          case atStart => exact ⟨0, A, c, ys, g, by omega, rfl, rfl, hY, (fun b e => .inl rfl), hf⟩
          case round =>
            clear hY hf
            obtain ⟨s, D, cb, zs, gb, hs, rfl, rfl, hD, hgb, hf⟩ := hrel
            by_cases hlt : s < 20
            · go_wp2_with (first | (at_builtin; go_loud (refine wpList_append_ow _ rfl _ _ 58 rfl 23 bi (.slice none 0 0) 1 24 Try.underlying58 bj bj0 bj1 bj2 rfl (by decide) _ _ _ _ _ rfl (hD.fr (((Fr.refl (fun _ => False) _).alloc _).alloc _) (fun _ _ => id)) _ _ _ [.slice (some ⟨wr.heap.size, 0, none⟩) 1 1] rfl (Sl.oneAt (by simp)) (by intro u hu; simp at hu; subst hu; rfl) (by unfold maxLen; omega) (by omega) ?_)) | go_in)
              intro B3 cb3 w9 g9 hB9 hf9 hg9
              go_wp2_with fail
              refine ⟨⟨s + 1, B3, cb3, _, g9, by omega, by go_num, rfl, hB9, ?_, ?_⟩, by simp [intOf]; omega⟩
              · intro b e
                rcases hg9 with h | ⟨b2, h, hb2⟩
                · rw [h] at e ⊢; exact hgb b e
                · rw [h] at e; cases e
                  have := hf.size
                  right; first | omega | (simp at hb2; omega)
              · refine ((hf.alloc _).alloc _).comp hf9 fun x hx e => ?_
                rcases hgb x e.symm with h | h
                · exact .inl (e.trans h)
                · omega
            · obtain rfl : s = 20 := by omega
              clear hlt
              go_wp2_with fail
              go_end0
              exact ⟨rfl, hf⟩
end Go.Proofs.Ytbglloafbmamoaa
