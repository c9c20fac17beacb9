/-
  Texts merged into one, to keep the claim small: TlvW1, TlvW2, TlvW3.
-/
import Derived.Test.YtlcjhbemgagchaaMc5
import Derived.Laws.IdiomStrings
section
/-
  Writers: what they are, put, Form (tlv).
-/
namespace Go.Proofs.Ytlcjhbemgagchaa
open Go.RowKit
set_option linter.unusedVariables false

/-- A writer's bytes, last tag, fault. -/
structure WS where
  B : List Nat
  last : Nat
  e : Int
def WS.ok (s : WS) : Prop := s.last ≤ 255 ∧ s.B.length ≤ 1048576
/-- The writer that is nil behaves so. -/
def WS.none_ : WS := ⟨[], 0, 1⟩
def WS.put (s : WS) (t : Int) (v : List Nat) : WS :=
  if s.e ≠ 0 ∨ v = [] then s
  else if t ≤ s.last ∨ 255 < t then { s with e := 21 }
  else if 1048576 < s.B.length + (formF t.toNat v).length then { s with e := 3 }
  else ⟨s.B ++ formF t.toNat v, t.toNat, 0⟩
theorem WS.put_ok {s : WS} (h : s.ok) (t : Int) (v : List Nat) : (s.put t v).ok := by
  unfold WS.put
  split
  · exact h
  · split
    · exact h
    · split
      · exact h
      · rename_i h1 h2 h3
        refine ⟨by show t.toNat ≤ 255; omega, ?_⟩
        show (s.B ++ formF t.toNat v).length ≤ 1048576
        rw [List.length_append]; omega
theorem WS.put_e {s : WS} {t : Int} {v : List Nat} (h : s.e ≠ 0) : s.put t v = s := if_pos (.inl h)
theorem WS.put_nil {s : WS} {t : Int} : s.put t [] = s := if_pos (.inr rfl)
def WS.form (s : WS) : List Nat := if s.e = 0 then s.B else []
def WS.record (s : WS) (t : Int) (i : WS) : WS := if s.e ≠ 0 then s else if i.e ≠ 0 then { s with e := i.e } else s.put t i.B
theorem WS.record_ok {s i : WS} (h : s.ok) (t : Int) : (s.record t i).ok := by
  unfold WS.record
  split
  · exact h
  · split
    · exact h
    · exact WS.put_ok h t _

/-- A writer in memory: where it lies, its bytes' slice. -/
structure WO where
  p : Nat
  A : Option Addr
  n : Nat
  c : Nat
  g : Option Nat
def wptr (o : Option WO) : Value := .pointer (o.map fun r => ⟨r.p, 0, none⟩)
structure WAt (w : World) (ty : TypeId) (r : WO) (s : WS) : Prop where
  bl : Bl w r.p ty #[.slice r.A r.n r.c, .int .i64 (s.last : Int), .int .i64 s.e]
  ow : Ow w 5 1 r.A r.n r.c (s.B.map bn) r.g
  ok : s.ok
def TAt (w : World) (ty : TypeId) (o : Option WO) (s : WS) : Prop := match o with | none => s = WS.none_ | some r => WAt w ty r s
def foot (o : Option WO) (b : Nat) : Prop := ∃ r, o = some r ∧ (b = r.p ∨ some b = r.g)
theorem TAt.lt {w : World} {ty : TypeId} {o : Option WO} {s : WS} (h : TAt w ty o s) : ∀ b, foot o b → b < w.heap.size := by
  rintro b ⟨r, rfl, rfl | e⟩
  · exact WAt.bl h |>.lt
  · exact (WAt.ow h).lt b e.symm
theorem TAt.fr {w w' : World} {ty : TypeId} {o : Option WO} {s : WS} {S : Nat → Prop} (h : TAt w ty o s) (hf : Fr S w w') (hS : ∀ b, foot o b → ¬ S b) : TAt w' ty o s := by
  cases o with
  | none => exact h
  | some r => exact ⟨h.bl.fr hf (hS _ ⟨r, rfl, .inl rfl⟩), h.ow.fr hf (fun b e => hS b ⟨r, rfl, .inr e.symm⟩), h.ok⟩
theorem TAt.quiet {w w' : World} {ty : TypeId} {o : Option WO} {s : WS} (h : TAt w ty o s) (hf : Fr (fun _ => False) w w') : TAt w' ty o s := h.fr hf fun _ _ => id
/-- Behind a call that turned one writer. -/
def OOut (ty : TypeId) (o : Option WO) (s' : WS) (w w' : World) : Prop := ∃ o', wptr o' = wptr o ∧ TAt w' ty o' s' ∧ (∀ b, foot o' b → foot o b ∨ w.heap.size ≤ b) ∧ Fr (foot o) w w'
theorem OOut.refl {ty : TypeId} {o : Option WO} {s s' : WS} {w w' : World} (h : TAt w ty o s) (hs : s' = s) (hf : Fr (fun _ => False) w w') : OOut ty o s' w w' := by
  subst hs; exact ⟨o, rfl, h.quiet hf, fun b hb => .inl hb, hf.weak _⟩
/-- First a step that turns nothing. -/
theorem OOut.behind {ty : TypeId} {o : Option WO} {s' : WS} {w w1 w' : World} (hf : Fr (fun _ => False) w w1) (h : OOut ty o s' w1 w') : OOut ty o s' w w' := by
  obtain ⟨o', h1, h2, h3, h4⟩ := h
  refine ⟨o', h1, h2, fun b hb => ?_, (hf.weak _).trans h4⟩
  rcases h3 b hb with h | h
  · exact .inl h
  · exact .inr (Nat.le_trans hf.size h)
theorem OOut.some_ {ty : TypeId} {r r' : WO} {s' : WS} {w w' : World} (hp : r'.p = r.p) (h : WAt w' ty r' s') (hg : r'.g = r.g ∨ ∃ b, r'.g = some b ∧ w.heap.size ≤ b) (hf : Fr (fun x => x = r.p ∨ some x = r.g) w w') : OOut ty (some r) s' w w' := by
  refine ⟨some r', by simp [wptr, hp], h, ?_, hf.mono fun x _ e => ⟨r, rfl, e⟩⟩
  rintro b ⟨r2, e, h2⟩
  cases e
  rcases h2 with h2 | h2
  · exact .inl ⟨r, rfl, .inl (h2.trans hp)⟩
  · rcases hg with hg | ⟨b', hg, hb⟩
    · exact .inl ⟨r, rfl, .inr (h2.trans hg)⟩
    · rw [hg] at h2; cases h2; exact .inr hb
/-- The fault alone is written. -/
theorem OOut.fault {ty : TypeId} {r : WO} {s : WS} {w w' : World} {x : Int} (h : WAt w' ty r s) (hf : Fr (fun _ => False) w w') (hne : ty ≠ 5) : OOut ty (some r) { s with e := x } w (w'.setCell ⟨r.p, 2, none⟩ (.int .i64 x)) := by
  refine OOut.some_ (r' := r) rfl ⟨?_, ?_, h.ok⟩ (.inl rfl) (Fr.setIn (S := fun x => x = r.p ∨ some x = r.g) (hf.weak _) (.inl (.inl rfl)) _)
  · simpa using h.bl.set 2 (.int .i64 x)
  · refine h.ow.fr (Fr.setIn (S := fun x => x = r.p) (Fr.refl _ _) (.inl rfl) _) fun b e1 e2 => ?_
    subst e2
    have := h.ow
    rw [e1] at this
    exact this.neBl h.bl (fun e => hne e.symm) rfl

set_option maxHeartbeats 4000000 in
set_option maxRecDepth 4000 in
theorem tput_any (w : World) (o : Option WO) (s : WS) (t : Int) (V : Option Addr) (m d : Nat) (v : List Nat) (hm : m ≤ 100000000000) (hT : TAt w 110 o s) (hV : Sl w 1 V m (v.map bn)) (hap : ∀ r, o = some r → ∀ b off, V = some ⟨b, off, none⟩ → 0 < m → r.g ≠ some b) :
    Calls Try.prog 108 #[wptr o, .int .i64 t, .slice V m d] w fun e w' => e = .returned (.tuple #[]) ∧ OOut 110 o (s.put t v) w w' := by
  have Hm : Hid (m = v.length) := hV.len
  cases o with
  | none =>
    have hs : s = WS.none_ := hT
    have HT := hide hT
    clear hT
    show Calls _ _ #[.pointer none, _, _] _ _
    go_enter Try.func108, Try.ntmps108
    go_wp2_with fail
    ((try simp only [Exit.inBlock, Exit.then]); first | refine bodyPost_end (results_none rfl _ _ _) rfl ?_ | refine bodyPost_ret (results_none rfl _ _ _) rfl ?_)
    exact ⟨rfl, OOut.refl HT.out (WS.put_e (by rw [hs]; decide)) (Fr.refl _ _)⟩
  | some r =>
    obtain ⟨p, A, n, c, g⟩ := r
    have h : WAt w 110 ⟨p, A, n, c, g⟩ s := hT
    have c0 : w.cell? ⟨p, 0, none⟩ = some (.slice A n c) := h.bl.cell' rfl
    have c1 : w.cell? ⟨p, 1, none⟩ = some (.int .i64 (s.last : Int)) := h.bl.cell' rfl
    have c2 : w.cell? ⟨p, 2, none⟩ = some (.int .i64 s.e) := h.bl.cell' rfl
    have f0 : w.frozen? ⟨p, 0, none⟩ = false := h.bl.free 0
    have f1 : w.frozen? ⟨p, 1, none⟩ = false := h.bl.free 1
    have f2 : w.frozen? ⟨p, 2, none⟩ = false := h.bl.free 2
    have Hn : Hid (n = s.B.length) := h.ow.len
    have hn0 : n ≤ 1048576 := by rw [Hn.out]; exact h.ok.2
    have HT := hide h
    obtain ⟨la, hla⟩ : ∃ la, s.last = la := ⟨_, rfl⟩
    obtain ⟨er, her⟩ : ∃ er, s.e = er := ⟨_, rfl⟩
    rw [hla] at c1
    rw [her] at c2
    have Hla := hide hla
    have Her := hide her
    have hmU : m < U64 := by unfold U64; omega
    have hsl := short_le hmU
    clear hT hla her h
    show Calls _ _ #[.pointer (some ⟨p, 0, none⟩), _, _] _ _
    by_cases he : ¬ er = 0
    · go_enter Try.func108, Try.ntmps108
      go_wp2_with fail
      ((try simp only [Exit.inBlock, Exit.then]); first | refine bodyPost_end (results_none rfl _ _ _) rfl ?_ | refine bodyPost_ret (results_none rfl _ _ _) rfl ?_)
      exact ⟨rfl, OOut.refl (o := some _) HT.out (WS.put_e (by rw [Her.out]; exact he)) (Fr.refl _ _)⟩
    obtain rfl : er = 0 := by omega
    by_cases hm0 : m = 0
    · have hv : Hid (v = []) := List.eq_nil_of_length_eq_zero (by rw [← Hm.out]; exact hm0)
      subst hm0
      go_enter Try.func108, Try.ntmps108
      go_wp2_with fail
      ((try simp only [Exit.inBlock, Exit.then]); first | refine bodyPost_end (results_none rfl _ _ _) rfl ?_ | refine bodyPost_ret (results_none rfl _ _ _) rfl ?_)
      exact ⟨rfl, OOut.refl (o := some _) HT.out (by rw [hv.out]; exact WS.put_nil) (Fr.refl _ _)⟩
    have hvn : Hid (¬ (s.e ≠ 0 ∨ v = [])) := by
      show ¬ _
      rintro (h | h)
      · exact h Her.out
      · rw [h] at Hm; exact hm0 (by simpa using Hm.out)
    by_cases ht : t ≤ (la : Int) ∨ 255 < t
    · have hs : Hid (s.put t v = { s with e := 21 }) := by
        show _ = _; rw [WS.put, if_neg hvn.out, if_pos (by rw [Hla.out]; exact ht)]
      go_enter Try.func108, Try.ntmps108
      rcases ht with ht | ht
      all_goals
        go_wp2_with fail
        all_goals
          ((try simp only [Exit.inBlock, Exit.then]); first | refine bodyPost_end (results_none rfl _ _ _) rfl ?_ | refine bodyPost_ret (results_none rfl _ _ _) rfl ?_)
          rw [hs.out]
          exact ⟨rfl, OOut.fault (r := ⟨p, A, n, c, g⟩) HT.out (Fr.refl _ _) (by decide)⟩
    have ht1 : ¬ t ≤ (la : Int) := fun h => ht (.inl h)
    have ht2 : ¬ 255 < t := fun h => ht (.inr h)
    obtain ⟨tn, rfl⟩ : ∃ tn : Nat, t = (tn : Int) := ⟨t.toNat, by omega⟩
    have hfl : Hid ((formF tn v).length = 1 + (short m).length + m) := by show _ = _; rw [formF_len, ← Hm.out]
    have w1 : IntKind.i64.wrap ((n : Int) + 1) = (n : Int) + 1 := IntWalk.i64_in _ (by omega)
    have w2 : IntKind.i64.wrap ((n : Int) + 1 + ((short m).length : Int)) = (n : Int) + 1 + ((short m).length : Int) := IntWalk.i64_in _ (by omega)
    have w3 : IntKind.i64.wrap ((n : Int) + 1 + ((short m).length : Int) + m) = (n : Int) + 1 + ((short m).length : Int) + m := IntWalk.i64_in _ (by omega)
    have w4 : IntKind.u64.wrap (m : Int) = (m : Int) := IntWalk.u64_in _ (by omega)
    go_enter Try.func108, Try.ntmps108
    go_wp2_with fail
    go_region_held3 (fun w' => w'.cell? ⟨p, 0, none⟩ = some (.slice A n c)) (go_keep)
      ((go_at_call 109; refine (short_any _ m hmU).mono ?_; rintro e w2 ⟨A2, c2', g2, rfl, hL2, hg2, hf2⟩; have kc0 := (hf2.cell (World.block_lt_of_cell? w _ c0) id).trans c0))
    have hf02 : Fr (fun _ => False) w w2 := (Fr.refl _ w).drew.trans hf2
    have hW2 : WAt w2 110 ⟨p, A, n, c, g⟩ s := (show TAt w2 110 (some ⟨p, A, n, c, g⟩) s from TAt.quiet (o := some _) HT.out hf02)
    have k0 : w2.cell? ⟨p, 0, none⟩ = some (.slice A n c) := hW2.bl.cell' rfl
    have k1 : w2.cell? ⟨p, 1, none⟩ = some (.int .i64 (la : Int)) := by rw [← Hla.out]; exact hW2.bl.cell' rfl
    have k2 : w2.cell? ⟨p, 2, none⟩ = some (.int .i64 0) := by rw [← Her.out]; exact hW2.bl.cell' rfl
    have kf0 : w2.frozen? ⟨p, 0, none⟩ = false := hW2.bl.free 0
    have kf1 : w2.frozen? ⟨p, 1, none⟩ = false := hW2.bl.free 1
    have kf2 : w2.frozen? ⟨p, 2, none⟩ = false := hW2.bl.free 2
    have HW2 := hide hW2
    clear hW2
    by_cases hbig : 1048576 < n + 1 + (short m).length + m
    · have hb' : (1048576 : Int) < (n : Int) + 1 + ((short m).length : Int) + m := by omega
      have hs : Hid (s.put (tn : Int) v = { s with e := 3 }) := by
        show _ = _
        rw [WS.put, if_neg hvn.out, if_neg (by rw [Hla.out]; omega), if_pos (by rw [Int.toNat_natCast, hfl.out, ← Hn.out]; omega)]
      clear hbig
      go_wp2_with fail
      ((try simp only [Exit.inBlock, Exit.then]); first | refine bodyPost_end (results_none rfl _ _ _) rfl ?_ | refine bodyPost_ret (results_none rfl _ _ _) rfl ?_)
      rw [hs.out]
      exact ⟨rfl, OOut.fault (r := ⟨p, A, n, c, g⟩) HW2.out hf02 (by decide)⟩
    · have hb' : ¬ (1048576 : Int) < (n : Int) + 1 + ((short m).length : Int) + m := by omega
      have hs : Hid (s.put (tn : Int) v = ⟨s.B ++ formF tn v, tn, 0⟩) := by
        show _ = _
        rw [WS.put, if_neg hvn.out, if_neg (by rw [Hla.out]; omega), if_neg (by rw [Int.toNat_natCast, hfl.out, ← Hn.out]; omega), Int.toNat_natCast]
      clear hbig
      go_wp2_with fail
      refine (field_any _ s.B v A V n c m d g tn (by omega) (by omega) (by omega) HW2.out.ow (hV.below hf02 (fun _ _ => id)) (hap _ rfl)).mono ?_
      rintro e w3 ⟨A3, c3, g3, rfl, hO3, hG3⟩
      have hpg : ¬ some p = g := fun e => by
        have := HW2.out.ow
        rw [show (WO.mk p A n c g).g = some p from e.symm] at this
        exact this.neBl HW2.out.bl (by decide) rfl
      have hB3 := HW2.out.bl.fr hG3.fr hpg
      have m0 : w3.cell? ⟨p, 0, none⟩ = some (.slice A n c) := hB3.cell' rfl
      have m1 : w3.cell? ⟨p, 1, none⟩ = some (.int .i64 (la : Int)) := by rw [← Hla.out]; exact hB3.cell' rfl
      have mf0 : w3.frozen? ⟨p, 0, none⟩ = false := hB3.free 0
      have mf1 : w3.frozen? ⟨p, 1, none⟩ = false := hB3.free 1
      have HB3 := hide hB3
      clear hB3
      go_wp2_with fail
      ((try simp only [Exit.inBlock, Exit.then]); first | refine bodyPost_end (results_none rfl _ _ _) rfl ?_ | refine bodyPost_ret (results_none rfl _ _ _) rfl ?_)
      rw [hs.out]
      have hBB := (HB3.out.set 0 (.slice A3 (n + 1 + (short m).length + m) c3)).set 1 (.int .i64 (tn : Int))
      have hpg3 : ∀ b, g3 = some b → b ≠ p := fun b e e2 => by
        subst e2; rw [e] at hO3
        exact hO3.neBl HB3.out (by decide) rfl
      refine ⟨rfl, OOut.some_ (r := ⟨p, A, n, c, g⟩) (r' := ⟨p, A3, n + 1 + (short m).length + m, c3, g3⟩) rfl ⟨?_, ?_, ?_⟩ ?_ ?_⟩
      · simpa [Her.out] using hBB
      · exact hO3.fr (Fr.setIn (S := fun x => x = p) (Fr.setIn (S := fun x => x = p) (Fr.refl _ _) (.inl rfl) _) (.inl rfl) _) fun b e1 e2 => hpg3 b e1 e2
      · rw [← hs.out]; exact WS.put_ok HT.out.ok _ _
      · rcases hG3.at_ with h | ⟨b, h, hb⟩
        · exact .inl h
        · exact .inr ⟨b, h, Nat.le_trans hf02.size hb⟩
      · exact Fr.setIn (S := fun x => x = p ∨ some x = g) (Fr.setIn (S := fun x => x = p ∨ some x = g) ((hf02.weak _).comp hG3.fr fun x _ e => .inr e) (.inl (.inl rfl)) _) (.inl (.inl rfl)) _
end Go.Proofs.Ytlcjhbemgagchaa
end

section
/-
  Writers of the reference: put.
-/
namespace Go.Proofs.Ytlcjhbemgagchaa
open Go.RowKit
set_option linter.unusedVariables false

end Go.Proofs.Ytlcjhbemgagchaa
end

section
/-
  Bytes and strings; the writers' methods.
-/
namespace Go.Proofs.Ytlcjhbemgagchaa
open Go.RowKit
set_option linter.unusedVariables false

/-- The string of some bytes. -/
def strOf (xs : List Nat) : ByteArray := ⟨(xs.map UInt8.ofNat).toArray⟩
theorem strOf_size (xs : List Nat) : (strOf xs).size = xs.length := by simp [strOf, ByteArray.size]
theorem u8_back {y : Nat} (h : y < 256) : ((UInt8.ofNat y).toNat : Int) = (y : Int) := by
  simp; omega
theorem conv_bs (w : World) (A : Option Addr) (n c : Nat) (xs : List Nat) (h256 : ∀ x ∈ xs, x < 256) (hS : Sl w 1 A n (xs.map bn)) : (convert 22 9 (.slice A n c)).run Try.prog w = .ok (.string (strOf xs)) w := by
  have hn := hS.len
  cases A with
  | none =>
    have h0 : n = 0 := by
      rcases Nat.eq_zero_or_pos n with h | h
      · exact h
      · obtain ⟨b, o, e, _⟩ := hS.2 h; cases e
    subst h0
    obtain rfl : xs = [] := List.eq_nil_of_length_eq_zero hn.symm
    rw [run_convert_bytes_string w _ _ _ none 0 c Try.underlying22 Try.underlying5 Try.underlying9]
    simp [Conv.bytesToString, strOf, Sem.run_pure]
    rfl
  | some a =>
    have h := run_convert_bytes_back (P := Try.prog) w 22 9 5 a c (xs.map UInt8.ofNat) Try.underlying22 Try.underlying5 Try.underlying9 (fun j hj => by
      have hj' : j < xs.length := by simpa using hj
      obtain ⟨b, o, e, hc⟩ := hS.2 (by omega)
      cases e
      rw [Addr.add_lit]
      rw [hc j (bn xs[j]) (by simp [hj'])]
      have := h256 _ (List.getElem_mem hj')
      simp [bn]; omega)
    rw [List.length_map, ← hn] at h
    exact h
theorem conv_sb (w : World) (xs : List Nat) (h256 : ∀ x ∈ xs, x < 256) : ∃ c' w', (convert 9 22 (.string (strOf xs))).run Try.prog w = .ok (.slice (some ⟨w.heap.size, 0, none⟩) xs.length c') w' ∧ Sl w' 1 (some ⟨w.heap.size, 0, none⟩) xs.length (xs.map bn) ∧ Fr (fun _ => False) w w' := by
  refine ⟨_, _, by rw [run_bytes_of_string (P := Try.prog) w 9 22 5 (strOf xs) Try.underlying9 Try.underlying22 Try.underlying5, strOf_size], ⟨by simp, fun _ => ⟨_, 0, rfl, fun j u hu => ?_⟩⟩, ((Fr.refl _ _).drew).alloc _⟩
  have hj : j < xs.length := by simpa using (List.getElem?_eq_some_iff.1 hu).1
  have h2 := h256 _ (List.getElem_mem hj)
  have hnew : ∀ (o : Obj), (w.drew.alloc o).heap[w.heap.size]? = some o := fun o => heap_alloc_new w.drew o
  rw [Nat.zero_add]
  unfold World.cell?
  simp only [hnew]
  have hb : (bytesRow (strOf xs) (grownCap w xs.length 0 5))[j]? = some (bn xs[j]) := by
    unfold bytesRow
    rw [Array.getElem?_append_left (by simp [strOf, hj])]
    simp [strOf, hj, bn]; omega
  simp [hj] at hu
  rw [hb, hu]; rfl

def WS.number (s : WS) (t : Int) (N : Nat) : WS := if N = 0 then s else s.put t (short N)
theorem Ow.blk {w : World} {e : TypeId} {sz n c b o : Nat} {xs : List Value} {g : Option Nat} (h : Ow w e sz (some ⟨b, o, none⟩) n c xs g) : g = some b := by
  rcases h.2 with ⟨h1, _⟩ | ⟨b', o', cur, hA, hg, _⟩
  · cases h1
  · cases hA; exact hg
theorem hap_new {w w2 : World} {ty e : TypeId} {o : Option WO} {s : WS} {sz n c : Nat} {A : Option Addr} {xs : List Value} {g : Option Nat} (hT : TAt w ty o s) (hO : Ow w2 e sz A n c xs g) (hg : ∀ b, g = some b → w.heap.size ≤ b) :
    ∀ r, o = some r → ∀ b off, A = some ⟨b, off, none⟩ → 0 < n → r.g ≠ some b := fun r e b off e1 _ e2 => by
  subst e1
  have h1 := hg b hO.blk
  have h2 := hT.lt b ⟨r, e, .inr e2.symm⟩
  omega
def FormPost (s : WS) (w : World) (e : Ending) (w' : World) : Prop :=
  ∃ A n c g, e = .returned (.tuple #[.slice A n c, .int .i64 s.e]) ∧ Ow w' 5 1 A n c (s.form.map bn) g ∧ (∀ b, g = some b → w.heap.size ≤ b) ∧ Fr (fun _ => False) w w'

set_option maxHeartbeats 2000000 in
set_option maxRecDepth 4000 in
theorem tnumber_any (w : World) (o : Option WO) (s : WS) (t : Int) (N : Nat) (hN : N < U64) (hT : TAt w 110 o s) :
    Calls Try.prog 57 #[wptr o, .int .i64 t, .int .u64 (N : Int)] w fun e w' => e = .returned (.tuple #[]) ∧ OOut 110 o (s.number t N) w w' := by
  by_cases h0 : N = 0
  · subst h0
    go_enter Try.func57, Try.ntmps57
    go_wp2_with fail
    ((try simp only [Exit.inBlock, Exit.then]); first | refine bodyPost_end (results_none rfl _ _ _) rfl ?_ | refine bodyPost_ret (results_none rfl _ _ _) rfl ?_)
    exact ⟨rfl, OOut.refl hT (by simp [WS.number]) (Fr.refl _ _)⟩
  · have hs : Hid (s.number t N = s.put t (short N)) := if_neg h0
    have hsl := short_le hN
    have h1 : (0 : Int) < (N : Int) := by omega
    have h2 : ¬ (N : Int) = 0 := by omega
    go_enter Try.func57, Try.ntmps57
    go_wp2_with fail
    refine (short_any _ N hN).mono ?_
    rintro e w2 ⟨A2, c2, g2, rfl, hO2, hg2, hf2⟩
    go_wp2_with fail
    refine (tput_any _ o s t A2 _ c2 (short N) (by omega) (hT.quiet hf2) hO2.sl (hap_new hT hO2 hg2)).mono ?_
    rintro e w3 ⟨rfl, hO⟩
    go_wp2_with fail
    ((try simp only [Exit.inBlock, Exit.then]); first | refine bodyPost_end (results_none rfl _ _ _) rfl ?_ | refine bodyPost_ret (results_none rfl _ _ _) rfl ?_)
    rw [hs.out]
    exact ⟨rfl, hO.behind hf2⟩

set_option maxHeartbeats 2000000 in
set_option maxRecDepth 4000 in
theorem ttext_any (w : World) (o : Option WO) (s : WS) (t : Int) (v : List Nat) (hm : v.length ≤ 100000000000) (h256 : ∀ x ∈ v, x < 256) (hT : TAt w 110 o s) :
    Calls Try.prog 58 #[wptr o, .int .i64 t, .string (strOf v)] w fun e w' => e = .returned (.tuple #[]) ∧ OOut 110 o (s.put t v) w w' := by
  obtain ⟨c', w2, hcv, hS, hf2⟩ := conv_sb w v h256
  have hb : ∀ r, o = some r → ∀ b off, (some ⟨w.heap.size, 0, none⟩ : Option Addr) = some ⟨b, off, none⟩ → 0 < v.length → r.g ≠ some b := fun r e b off e1 _ e2 => by
    cases e1
    have := hT.lt w.heap.size ⟨r, e, .inr e2.symm⟩
    omega
  go_enter Try.func58, Try.ntmps58
  go_wp2_with fail
  refine (tput_any _ o s t _ _ c' v hm (hT.quiet hf2) hS hb).mono ?_
  rintro e w3 ⟨rfl, hO⟩
  go_wp2_with fail
  ((try simp only [Exit.inBlock, Exit.then]); first | refine bodyPost_end (results_none rfl _ _ _) rfl ?_ | refine bodyPost_ret (results_none rfl _ _ _) rfl ?_)
  exact ⟨rfl, hO.behind hf2⟩

set_option maxHeartbeats 2000000 in
set_option maxRecDepth 4000 in
theorem twlist_any (w : World) (o : Option WO) (s : WS) (t : Int) (xss : List (List Nat)) (A : Option Addr) (n c B : Nat) (hn : n ≤ 1099511627776) (hB : B ≤ w.heap.size) (hM : ∀ x ∈ xss, x.length ≤ 140000000000000) (hL : (listAll xss).length ≤ 100000000000) (hA : LAt w B A n xss) (hT : TAt w 110 o s) :
    Calls Try.prog 83 #[wptr o, .int .i64 t, .slice A n c] w fun e w' => e = .returned (.tuple #[]) ∧ OOut 110 o (s.put t (listAll xss)) w w' := by
  go_enter Try.func83, Try.ntmps83
  go_wp2_with fail
  refine (tlist_any _ xss A n c B hn hB hM (by omega) hA).mono ?_
  rintro e w2 ⟨A2, c2, g2, rfl, hO2, hg2, hf2⟩
  go_wp2_with fail
  refine (tput_any _ o s t A2 _ c2 (listAll xss) hL (hT.quiet hf2) hO2.sl (hap_new hT hO2 hg2)).mono ?_
  rintro e w3 ⟨rfl, hO⟩
  go_wp2_with fail
  ((try simp only [Exit.inBlock, Exit.then]); first | refine bodyPost_end (results_none rfl _ _ _) rfl ?_ | refine bodyPost_ret (results_none rfl _ _ _) rfl ?_)
  exact ⟨rfl, hO.behind hf2⟩

set_option maxHeartbeats 2000000 in
set_option maxRecDepth 4000 in
theorem tform_any' (w : World) (o : Option WO) (s : WS) (hT : TAt w 110 o s) :
    Calls Try.prog 62 #[wptr o] w fun e w' => FormPost s w e w' := by
  cases o with
  | none =>
    have hs : s = WS.none_ := hT
    subst hs
    show Calls _ _ #[.pointer none] _ _
    go_enter Try.func62, Try.ntmps62
    go_wp2_with fail
    go_ret2
    exact ⟨none, 0, 0, none, rfl, Ow.nil_ _ _ _, (fun b h => by cases h), Fr.refl _ _⟩
  | some r =>
    obtain ⟨p, A, n, c, g⟩ := r
    have h : WAt w 110 ⟨p, A, n, c, g⟩ s := hT
    have c0 : w.cell? ⟨p, 0, none⟩ = some (.slice A n c) := h.bl.cell' rfl
    have c2 : w.cell? ⟨p, 2, none⟩ = some (.int .i64 s.e) := h.bl.cell' rfl
    have Hn : Hid (n = s.B.length) := h.ow.len
    have hn0 : n ≤ 1048576 := by rw [Hn.out]; exact h.ok.2
    have HO := hide h.ow
    obtain ⟨er, her⟩ : ∃ er, s.e = er := ⟨_, rfl⟩
    rw [her] at c2
    have Her := hide her
    clear her hT h
    show Calls _ _ #[.pointer (some ⟨p, 0, none⟩)] _ _
    by_cases he : ¬ er = 0
    · have hf : Hid (s.form = []) := if_neg (by rw [Her.out]; exact he)
      go_enter Try.func62, Try.ntmps62
      go_wp2_with fail
      go_quiet (fail)
      go_wp2_with fail
      go_ret2
      exact ⟨none, 0, 0, none, by rw [Her.out]; rfl, by rw [hf.out]; exact Ow.nil_ _ _ _, (fun b h => by cases h), (Fr.refl _ _).drewN _⟩
    · obtain rfl : er = 0 := by omega
      have hf : Hid (s.form = s.B) := if_pos Her.out
      go_enter Try.func62, Try.ntmps62
      go_wp2_with fail
      refine (own_any _ s.B A n c (by omega) HO.out.sl).mono ?_
      rintro e w2 ⟨A2, c2', g2, rfl, hO2, hg2, hf2⟩
      go_wp2_with fail
      go_ret2
      exact ⟨A2, n, c2', g2, by rw [Her.out]; rfl, by rw [hf.out]; exact hO2, hg2, hf2⟩

set_option maxHeartbeats 4000000 in
set_option maxRecDepth 4000 in
theorem trecord_any (w : World) (o i : Option WO) (s si : WS) (t : Int) (hT : TAt w 110 o s) (hI : TAt w 110 i si) :
    Calls Try.prog 59 #[wptr o, .int .i64 t, wptr i] w fun e w' => e = .returned (.tuple #[]) ∧ OOut 110 o (s.record t si) w w' := by
  cases o with
  | none =>
    have hs : s = WS.none_ := hT
    have HT := hide hT
    clear hT
    show Calls _ _ #[.pointer none, _, _] _ _
    go_enter Try.func59, Try.ntmps59
    go_wp2_with fail
    ((try simp only [Exit.inBlock, Exit.then]); first | refine bodyPost_end (results_none rfl _ _ _) rfl ?_ | refine bodyPost_ret (results_none rfl _ _ _) rfl ?_)
    exact ⟨rfl, OOut.refl HT.out (if_pos (by rw [hs]; decide)) (Fr.refl _ _)⟩
  | some r =>
    obtain ⟨p, A, n, c, g⟩ := r
    have h : WAt w 110 ⟨p, A, n, c, g⟩ s := hT
    have c2 : w.cell? ⟨p, 2, none⟩ = some (.int .i64 s.e) := h.bl.cell' rfl
    have HT := hide h
    obtain ⟨er, her⟩ : ∃ er, s.e = er := ⟨_, rfl⟩
    rw [her] at c2
    have Her := hide her
    clear her hT h
    by_cases he : ¬ er = 0
    · show Calls _ _ #[.pointer (some ⟨p, 0, none⟩), _, _] _ _
      go_enter Try.func59, Try.ntmps59
      go_wp2_with fail
      ((try simp only [Exit.inBlock, Exit.then]); first | refine bodyPost_end (results_none rfl _ _ _) rfl ?_ | refine bodyPost_ret (results_none rfl _ _ _) rfl ?_)
      exact ⟨rfl, OOut.refl (o := some _) HT.out (if_pos (by rw [Her.out]; exact he)) (Fr.refl _ _)⟩
    obtain rfl : er = 0 := by omega
    obtain ⟨ei, hei⟩ : ∃ ei, si.e = ei := ⟨_, rfl⟩
    have Hei := hide hei
    clear hei
    show Calls _ _ #[.pointer (some ⟨p, 0, none⟩), _, _] _ _
    go_enter Try.func59, Try.ntmps59
    go_wp2_with fail
    refine (tform_any' _ i si hI).mono ?_
    rintro e w2 ⟨A2, n2, c2', g2, rfl, hO2, hg2, hf2⟩
    rw [Hei.out]
    have hT2 : TAt w2 110 (some ⟨p, A, n, c, g⟩) s := TAt.quiet (o := some _) HT.out hf2
    have f2 : w2.frozen? ⟨p, 2, none⟩ = false := (WAt.bl hT2).free 2
    have k2 : w2.cell? ⟨p, 2, none⟩ = some (.int .i64 0) := by rw [← Her.out]; exact (WAt.bl hT2).cell' rfl
    have HT2 := hide hT2
    clear hT2
    by_cases hi : ¬ ei = 0
    · have hs : Hid (s.record t si = { s with e := ei }) := by
        show _ = _
        rw [WS.record, if_neg (fun h => h Her.out), if_pos (by rw [Hei.out]; exact hi), Hei.out]
      go_wp2_with fail
      ((try simp only [Exit.inBlock, Exit.then]); first | refine bodyPost_end (results_none rfl _ _ _) rfl ?_ | refine bodyPost_ret (results_none rfl _ _ _) rfl ?_)
      rw [hs.out]
      exact ⟨rfl, OOut.fault (r := ⟨p, A, n, c, g⟩) HT2.out hf2 (by decide)⟩
    · obtain rfl : ei = 0 := by omega
      have hs : Hid (s.record t si = s.put t si.form) := by
        show _ = _
        rw [WS.record, if_neg (fun h => h Her.out), if_neg (fun h => h Hei.out), WS.form, if_pos Hei.out]
      have hb : Hid (n2 ≤ 1048576) := by
        show n2 ≤ _
        rw [hO2.len, WS.form, if_pos Hei.out]
        cases i with
        | none => have : si = WS.none_ := hI; rw [this]; simp [WS.none_]
        | some r => exact (WAt.ok hI).2
      go_wp2_with fail
      refine (tput_any _ (some ⟨p, A, n, c, g⟩) s t A2 n2 c2' si.form (Nat.le_trans hb.out (by omega)) HT2.out hO2.sl (hap_new (w := w) (o := some ⟨p, A, n, c, g⟩) (s := s) HT.out hO2 hg2)).mono ?_
      rintro e w3 ⟨rfl, hO⟩
      go_wp2_with fail
      ((try simp only [Exit.inBlock, Exit.then]); first | refine bodyPost_end (results_none rfl _ _ _) rfl ?_ | refine bodyPost_ret (results_none rfl _ _ _) rfl ?_)
      rw [hs.out]
      exact ⟨rfl, hO.behind hf2⟩

end Go.Proofs.Ytlcjhbemgagchaa
end
