/-
  Texts merged into one, to keep the claim small: Su8, St1.
-/
import Derived.Test.YtlcjhbemgagchaaMn44
import Derived.Test.YtlcjhbemgagchaaMc2
section
/-
  stream: the reference's Stream: New, Feed, Waiting, Deaf.
-/
namespace Go.Proofs.Ytlcjhbemgagchaa
open Go.RowKit
set_option linter.unusedVariables false
abbrev tRs : TypeId := 100
theorem Ow.tailS {w : World} {e : TypeId} {s n c b o : Nat} {xs : List Value} {g : Option Nat} (h : Ow w e s (some ⟨b, o, none⟩) n c xs g) {k : Nat} (hk : k ≤ n) : Ow w e s (some ⟨b, o + k * s, none⟩) (n - k) (c - k) (xs.drop (k * s)) g := by
  have hl := h.1
  rcases h.2 with ⟨h0, _⟩ | ⟨b', o', cur, hA, hg, hh, h1, h2, h3, h4⟩
  · cases h0
  · cases hA
    have e1 := Nat.sub_mul n k s
    have e2 := Nat.sub_mul c k s
    have e3 := Nat.mul_le_mul_right s hk
    have e4 := Nat.mul_le_mul_right s h2
    refine ⟨by rw [List.length_drop]; omega, .inr ⟨b, o + k * s, cur, rfl, hg, hh, by omega, by omega, by omega, fun j hj => ?_⟩⟩
    rw [List.getElem?_drop, Nat.add_assoc]
    exact h4 (k * s + j) (by omega)
theorem Ow.zeroS {w : World} {e : TypeId} {s n c b o : Nat} {xs : List Value} {g : Option Nat} (h : Ow w e s (some ⟨b, o, none⟩) n c xs g) : Ow w e s (some ⟨b, o, none⟩) 0 0 [] g := by
  rcases h.2 with ⟨h0, _⟩ | ⟨b', o', cur, hA, hg, hh, h1, h2, h3, h4⟩
  · cases h0
  · cases hA
    exact ⟨by simp, .inr ⟨b, o, cur, rfl, hg, hh, by omega, Nat.le_refl _, by unfold maxLen; omega, fun j hj => by omega⟩⟩
theorem flat_drop (l : List PC) : ∀ k, (l.flatMap pcells).drop (k * 25) = (l.drop k).flatMap pcells := by
  induction l with
  | nil => intro k; simp
  | cons a l ih =>
    intro k
    rcases k with _ | k
    · simp
    · rw [List.flatMap_cons, List.drop_append, pcells_len, List.drop_of_length_le (by rw [pcells_len]; omega), show (k + 1) * 25 - 25 = k * 25 by omega, ih k]; simp
theorem Pcr.tail {W w : World} {l : List PC} {t : TypeId} {b o n c : Nat} {g : Option Nat} (h : Pcr W w l t (some ⟨b, o, none⟩) n c g) {k : Nat} (hk : k ≤ n) : Pcr W w (l.drop k) t (some ⟨b, o + k * 25, none⟩) (n - k) (c - k) g :=
  ⟨by rw [List.length_drop, h.len], by rw [← flat_drop]; exact h.ow.tailS hk, h.new, fun p hp => h.rt p (List.mem_of_mem_drop hp)⟩
theorem Pcr.zero {W w : World} {l : List PC} {t : TypeId} {b o n c : Nat} {g : Option Nat} (h : Pcr W w l t (some ⟨b, o, none⟩) n c g) {k : Nat} (hk : l.length ≤ k) : Pcr W w (l.drop k) t (some ⟨b, o, none⟩) 0 0 g := by
  rw [List.drop_of_length_le hk]
  exact ⟨rfl, h.ow.zeroS, h.new, fun p hp => by cases hp⟩
theorem Pcr.base {W w W' : World} {l : List PC} {t : TypeId} {A : Option Addr} {n c : Nat} {g : Option Nat} (h : Pcr W w l t A n c g) (hs : W'.heap.size ≤ W.heap.size) : Pcr W' w l t A n c g := ⟨h.len, h.ow, fun b e => Nat.le_trans hs (h.new b e), h.rt⟩
/-- What was told, and what is told now: what is told of all. -/
theorem FedP.all {T ds : List Nat} {u : Nat} {d : Bool} {L l : List PC} {u2 : Nat} {d2 : Bool} (h : Pcs T 0 L u d) (hf : FedP (T ++ ds) u d l u2 d2) : Pcs (T ++ ds) 0 (L ++ l) u2 d2 := by
  rcases hf with ⟨rfl, h1⟩ | ⟨rfl, rfl, rfl, rfl⟩
  · exact h.more ds rfl h1
  · rw [List.append_nil]; exact h.deaf ds rfl
theorem LikeP.tail {l L M : List PC} (h : LikeP (L ++ l) M) : LikeP l (M.drop L.length) := by
  have := h.drop L.length
  rwa [List.drop_left] at this
/-- The reference's stream. -/
structure RSF (w : World) (r : Nat) (T : List Nat) (u : Nat) (d : Bool) (lg : Option Nat) (LA : Option Addr) (lc : Nat) (L : List PC) : Prop where
  bl : Bl w r tRs #[.slice LA T.length lc, .int .i64 (L.length : Int)]
  ow : Ow w 5 1 LA T.length lc (T.map bn) lg
  ps : Pcs T 0 L u d
def RSM (w : World) (r : Nat) (T : List Nat) (u : Nat) (d : Bool) (lg : Option Nat) : Prop := ∃ LA lc L, RSF w r T u d lg LA lc L
theorem RSM.fr {w w' : World} {r : Nat} {T : List Nat} {u : Nat} {d : Bool} {lg : Option Nat} {S : Nat → Prop} (h : RSM w r T u d lg) (hf : Fr S w w') (h1 : ¬ S r) (h2 : ∀ x, lg = some x → ¬ S x) : RSM w' r T u d lg := by
  obtain ⟨LA, lc, L, h⟩ := h
  exact ⟨LA, lc, L, h.bl.fr hf h1, h.ow.fr hf h2, h.ps⟩
theorem RSM.typed {w : World} {r : Nat} {T : List Nat} {u : Nat} {d : Bool} {lg : Option Nat} (h : RSM w r T u d lg) : Typed w r tRs ∧ ∀ x, lg = some x → Typed w x 5 := by
  obtain ⟨LA, lc, L, h⟩ := h
  exact ⟨Bl.typed h.bl, fun x e => h.ow.typed x e⟩
end Go.Proofs.Ytlcjhbemgagchaa
end

section
/-
  stream: Frame, the program's and the reference's.
-/
namespace Go.Proofs.Ytlcjhbemgagchaa
open Go.RowKit
set_option linter.unusedVariables false

def frameB (xs : List Nat) : List Nat := if xs.length ≤ 65536 then [xs.length / 65536 % 256, xs.length / 256 % 256, xs.length % 256] ++ xs else []
def frameE (xs : List Nat) : Nat := if xs.length ≤ 65536 then 0 else 3
theorem clip8_any (w : World) (A : Option Addr) (n c : Nat) (hn : n ≤ c) (hc : c ≤ maxLen) :
    Calls Try.prog 41 #[.slice A n c] w fun e w' => e = .returned (.slice A n n) ∧ w = w' := by
  unfold maxLen at hc
  go_enter Try.func41, Try.ntmps41
  go_wp2
  go_ret
  exact ⟨rfl, rfl⟩
set_option maxHeartbeats 1000000 in
set_option maxRecDepth 4000 in
theorem frame_any (w : World) (xs : List Nat) (A : Option Addr) (n c : Nat) (hn : n = xs.length) (hb : n ≤ 140737488355000) (hA : Sl w 1 A n (xs.map bn)) :
    Calls Try.prog 12 #[.slice A n c] w (PutPost (frameB xs) (frameE xs) w) := by
  obtain ⟨i0, hi, hz0, hz1, hz2⟩ := info_parts info5
  by_cases hl : n ≤ 65536
  · have e1 : frameB xs = [n / 65536 % 256, n / 256 % 256, n % 256] ++ xs := by unfold frameB; rw [← hn, if_pos hl]
    have e2 : frameE xs = 0 := by unfold frameE; rw [← hn, if_pos hl]
    have E1 := hide e1
    have b1 : ¬ (65536 : Int) < (n : Int) := by omega
    rw [e2]
    clear hn e1 e2
    have hv : [Value.int .u8 ((n : Int) / 65536), .int .u8 ((n : Int) / 256 % 256), .int .u8 ((n : Int) % 256)] = [n / 65536 % 256, n / 256 % 256, n % 256].map bn := by
      have e1 : n / 65536 % 256 = n / 65536 := by omega
      simp [bn, e1]
    have hO := Ow.made w 5 1 3 3 #[.int .u8 ((n : Int) / 65536), .int .u8 ((n : Int) / 256 % 256), .int .u8 ((n : Int) % 256)] [.int .u8 ((n : Int) / 65536), .int .u8 ((n : Int) / 256 % 256), .int .u8 ((n : Int) % 256)] rfl (Nat.le_refl _) (by unfold maxLen; omega) rfl
    have hA' := hA.below (w' := w.alloc (.cells #[.int .u8 ((n : Int) / 65536), .int .u8 ((n : Int) / 256 % 256), .int .u8 ((n : Int) % 256)] 5)) ((Fr.refl (fun _ => False) _).alloc _) (fun _ _ => id)
    have Hv := hide hv
    clear hv
    go_enter Try.func12, Try.ntmps12
    go_wp2_with (at_builtin; refine wpList_append_ow _ rfl _ _ 22 rfl 5 i0 (.int .u8 0) 1 1 Try.underlying22 hi hz0 hz1 hz2 rfl (by decide) _ _ _ _ _ rfl hO _ _ _ _ rfl hA' (bn_one _) (by unfold maxLen; omega) (by omega) ?_)
    intro A1 c1 w1 g1 hO1 hf1 hg1
    have hcap := hO1.cap
    have hcl := clip8_any w1 A1 (3 + n) c1 hcap.1 hcap.2
    have hnew : ∀ b, g1 = some b → w.heap.size ≤ b := fun b hb => by
      rcases hg1 with rfl | ⟨b', rfl, h⟩
      · cases hb; exact Nat.le_refl _
      · cases hb; omega
    have hF : Fr (fun _ => False) w w1 := ((Fr.refl (fun _ => False) w).alloc _).comp hf1 fun i hi e => by cases e; omega
    have hO1' : Ow w1 5 1 A1 (3 + n) c1 ((frameB xs).map bn) g1 := by rw [E1.out, List.map_append, ← Hv.out]; exact hO1
    have HO := hide hO1'
    clear hO1 hO1' hf1 hg1 hcap hO hA' hA
    go_wp2_with fail
    refine hcl.mono ?_
    rintro e w2 ⟨rfl, rfl⟩
    go_wp2_with fail
    go_ret2
    exact ⟨A1, 3 + n, 3 + n, g1, rfl, HO.out.clip, hnew, hF⟩
  · have e1 : frameB xs = [] := by unfold frameB; rw [← hn, if_neg hl]
    have e2 : frameE xs = 3 := by unfold frameE; rw [← hn, if_neg hl]
    have b1 : (65536 : Int) < (n : Int) := by omega
    rw [e1, e2]
    clear e1 e2 hA hn hl
    go_enter Try.func12, Try.ntmps12
    go_wp2_with fail
    go_ret2
    exact ⟨none, 0, 0, none, rfl, Ow.nil_ _ _ _, (fun b h => by cases h), Fr.refl _ _⟩
/-- A frame of what was encoded. -/
def fB (bs : List Nat) (er : Nat) : List Nat := if er = 0 then frameB bs else []
def fE (bs : List Nat) (er : Nat) : Nat := if er = 0 then frameE bs else er
theorem framed_any (w : World) (bs : List Nat) (er : Nat) (A : Option Addr) (n c : Nat) (hn : n = bs.length) (hb : n ≤ 140737488355000) (hA : Sl w 1 A n (bs.map bn)) :
    Calls Try.prog 43 #[.slice A n c, .int .i64 (er : Int)] w (PutPost (fB bs er) (fE bs er) w) := by
  by_cases h0 : er = 0
  · subst h0
    have hf := frame_any w bs A n c hn hb hA
    show Calls _ _ _ _ (PutPost (frameB bs) (frameE bs) w)
    clear hA hn
    go_enter Try.func43, Try.ntmps43
    go_wp2_with fail
    refine hf.mono ?_
    rintro e w1 ⟨B, m, d, g, rfl, hO, hg, hF⟩
    have H := hide (And.intro hO (And.intro hg hF))
    clear hO hg hF hf
    go_wp2_with fail
    go_ret2
    exact ⟨B, m, d, g, rfl, H.out⟩
  · have e1 : fB bs er = [] := if_neg h0
    have e2 : fE bs er = er := if_neg h0
    rw [e1, e2]
    have h1 : ¬ (er : Int) = 0 := by omega
    clear e1 e2 hA hn h0
    go_enter Try.func43, Try.ntmps43
    go_wp2_with fail
    go_ret2
    exact ⟨none, 0, 0, none, rfl, Ow.nil_ _ _ _, (fun b h => by cases h), Fr.refl _ _⟩
end Go.Proofs.Ytlcjhbemgagchaa
end
