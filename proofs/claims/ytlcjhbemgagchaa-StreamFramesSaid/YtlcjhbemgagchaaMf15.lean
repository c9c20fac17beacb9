/-
  Texts merged into one, to keep the claim small: TlvW2, TlvW3.
-/
import Derived.Test.YtlcjhbemgagchaaMf14
import Derived.Laws.IdiomStrings
section
/-
  Writers of the reference: put.
-/
namespace Go.Proofs.Ytlcjhbemgagchaa
open Go.RowKit
set_option linter.unusedVariables false

end Go.Proofs.Ytlcjhbemgagchaa
end

section
/-
  Bytes and strings; the writers' methods.
-/
namespace Go.Proofs.Ytlcjhbemgagchaa
open Go.RowKit
set_option linter.unusedVariables false

/-- The string of some bytes. -/
def strOf (xs : List Nat) : ByteArray := ⟨(xs.map UInt8.ofNat).toArray⟩
theorem strOf_size (xs : List Nat) : (strOf xs).size = xs.length := by simp [strOf, ByteArray.size]
theorem u8_back {y : Nat} (h : y < 256) : ((UInt8.ofNat y).toNat : Int) = (y : Int) := by
  simp; omega
theorem conv_bs (w : World) (A : Option Addr) (n c : Nat) (xs : List Nat) (h256 : ∀ x ∈ xs, x < 256) (hS : Sl w 1 A n (xs.map bn)) : (convert 22 9 (.slice A n c)).run Try.prog w = .ok (.string (strOf xs)) w := by
  have hn := hS.len
  cases A with
  | none =>
    have h0 : n = 0 := by
      rcases Nat.eq_zero_or_pos n with h | h
      · exact h
      · obtain ⟨b, o, e, _⟩ := hS.2 h; cases e
    subst h0
    obtain rfl : xs = [] := List.eq_nil_of_length_eq_zero hn.symm
    rw [run_convert_bytes_string w _ _ _ none 0 c Try.underlying22 Try.underlying5 Try.underlying9]
    simp [Conv.bytesToString, strOf, Sem.run_pure]
    rfl
  | some a =>
    have h := run_convert_bytes_back (P := Try.prog) w 22 9 5 a c (xs.map UInt8.ofNat) Try.underlying22 Try.underlying5 Try.underlying9 (fun j hj => by
      have hj' : j < xs.length := by simpa using hj
      obtain ⟨b, o, e, hc⟩ := hS.2 (by omega)
      cases e
      rw [Addr.add_lit]
      rw [hc j (bn xs[j]) (by simp [hj'])]
      have := h256 _ (List.getElem_mem hj')
      simp [bn]; omega)
    rw [List.length_map, ← hn] at h
    exact h
theorem conv_sb (w : World) (xs : List Nat) (h256 : ∀ x ∈ xs, x < 256) : ∃ c' w', (convert 9 22 (.string (strOf xs))).run Try.prog w = .ok (.slice (some ⟨w.heap.size, 0, none⟩) xs.length c') w' ∧ Sl w' 1 (some ⟨w.heap.size, 0, none⟩) xs.length (xs.map bn) ∧ Fr (fun _ => False) w w' := by
  refine ⟨_, _, by rw [run_bytes_of_string (P := Try.prog) w 9 22 5 (strOf xs) Try.underlying9 Try.underlying22 Try.underlying5, strOf_size], ⟨by simp, fun _ => ⟨_, 0, rfl, fun j u hu => ?_⟩⟩, ((Fr.refl _ _).drew).alloc _⟩
  have hj : j < xs.length := by simpa using (List.getElem?_eq_some_iff.1 hu).1
  have h2 := h256 _ (List.getElem_mem hj)
  have hnew : ∀ (o : Obj), (w.drew.alloc o).heap[w.heap.size]? = some o := fun o => heap_alloc_new w.drew o
  rw [Nat.zero_add]
  unfold World.cell?
  simp only [hnew]
  have hb : (bytesRow (strOf xs) (grownCap w xs.length 0 5))[j]? = some (bn xs[j]) := by
    unfold bytesRow
    rw [Array.getElem?_append_left (by simp [strOf, hj])]
    simp [strOf, hj, bn]; omega
  simp [hj] at hu
  rw [hb, hu]; rfl

def WS.number (s : WS) (t : Int) (N : Nat) : WS := if N = 0 then s else s.put t (short N)
theorem Ow.blk {w : World} {e : TypeId} {sz n c b o : Nat} {xs : List Value} {g : Option Nat} (h : Ow w e sz (some ⟨b, o, none⟩) n c xs g) : g = some b := by
  rcases h.2 with ⟨h1, _⟩ | ⟨b', o', cur, hA, hg, _⟩
  · cases h1
  · cases hA; exact hg
theorem hap_new {w w2 : World} {ty e : TypeId} {o : Option WO} {s : WS} {sz n c : Nat} {A : Option Addr} {xs : List Value} {g : Option Nat} (hT : TAt w ty o s) (hO : Ow w2 e sz A n c xs g) (hg : ∀ b, g = some b → w.heap.size ≤ b) :
    ∀ r, o = some r → ∀ b off, A = some ⟨b, off, none⟩ → 0 < n → r.g ≠ some b := fun r e b off e1 _ e2 => by
  subst e1
  have h1 := hg b hO.blk
  have h2 := hT.lt b ⟨r, e, .inr e2.symm⟩
  omega
def FormPost (s : WS) (w : World) (e : Ending) (w' : World) : Prop :=
  ∃ A n c g, e = .returned (.tuple #[.slice A n c, .int .i64 s.e]) ∧ Ow w' 5 1 A n c (s.form.map bn) g ∧ (∀ b, g = some b → w.heap.size ≤ b) ∧ Fr (fun _ => False) w w'

set_option maxHeartbeats 2000000 in
set_option maxRecDepth 4000 in
theorem tnumber_any (w : World) (o : Option WO) (s : WS) (t : Int) (N : Nat) (hN : N < U64) (hT : TAt w 110 o s) :
    Calls Try.prog 57 #[wptr o, .int .i64 t, .int .u64 (N : Int)] w fun e w' => e = .returned (.tuple #[]) ∧ OOut 110 o (s.number t N) w w' := by
  by_cases h0 : N = 0
  · subst h0
    go_enter Try.func57, Try.ntmps57
    go_wp2_with fail
    ((try simp only [Exit.inBlock, Exit.then]); first | refine bodyPost_end (results_none rfl _ _ _) rfl ?_ | refine bodyPost_ret (results_none rfl _ _ _) rfl ?_)
    exact ⟨rfl, OOut.refl hT (by simp [WS.number]) (Fr.refl _ _)⟩
  · have hs : Hid (s.number t N = s.put t (short N)) := if_neg h0
    have hsl := short_le hN
    have h1 : (0 : Int) < (N : Int) := by omega
    have h2 : ¬ (N : Int) = 0 := by omega
    go_enter Try.func57, Try.ntmps57
    go_wp2_with fail
    refine (short_any _ N hN).mono ?_
    rintro e w2 ⟨A2, c2, g2, rfl, hO2, hg2, hf2⟩
    go_wp2_with fail
    refine (tput_any _ o s t A2 _ c2 (short N) (by omega) (hT.quiet hf2) hO2.sl (hap_new hT hO2 hg2)).mono ?_
    rintro e w3 ⟨rfl, hO⟩
    go_wp2_with fail
    ((try simp only [Exit.inBlock, Exit.then]); first | refine bodyPost_end (results_none rfl _ _ _) rfl ?_ | refine bodyPost_ret (results_none rfl _ _ _) rfl ?_)
    rw [hs.out]
    exact ⟨rfl, hO.behind hf2⟩

set_option maxHeartbeats 2000000 in
set_option maxRecDepth 4000 in
theorem ttext_any (w : World) (o : Option WO) (s : WS) (t : Int) (v : List Nat) (hm : v.length ≤ 100000000000) (h256 : ∀ x ∈ v, x < 256) (hT : TAt w 110 o s) :
    Calls Try.prog 58 #[wptr o, .int .i64 t, .string (strOf v)] w fun e w' => e = .returned (.tuple #[]) ∧ OOut 110 o (s.put t v) w w' := by
  obtain ⟨c', w2, hcv, hS, hf2⟩ := conv_sb w v h256
  have hb : ∀ r, o = some r → ∀ b off, (some ⟨w.heap.size, 0, none⟩ : Option Addr) = some ⟨b, off, none⟩ → 0 < v.length → r.g ≠ some b := fun r e b off e1 _ e2 => by
    cases e1
    have := hT.lt w.heap.size ⟨r, e, .inr e2.symm⟩
    omega
  go_enter Try.func58, Try.ntmps58
  go_wp2_with fail
  refine (tput_any _ o s t _ _ c' v hm (hT.quiet hf2) hS hb).mono ?_
  rintro e w3 ⟨rfl, hO⟩
  go_wp2_with fail
  ((try simp only [Exit.inBlock, Exit.then]); first | refine bodyPost_end (results_none rfl _ _ _) rfl ?_ | refine bodyPost_ret (results_none rfl _ _ _) rfl ?_)
  exact ⟨rfl, hO.behind hf2⟩

set_option maxHeartbeats 2000000 in
set_option maxRecDepth 4000 in
theorem twlist_any (w : World) (o : Option WO) (s : WS) (t : Int) (xss : List (List Nat)) (A : Option Addr) (n c B : Nat) (hn : n ≤ 1099511627776) (hB : B ≤ w.heap.size) (hM : ∀ x ∈ xss, x.length ≤ 140000000000000) (hL : (listAll xss).length ≤ 100000000000) (hA : LAt w B A n xss) (hT : TAt w 110 o s) :
    Calls Try.prog 83 #[wptr o, .int .i64 t, .slice A n c] w fun e w' => e = .returned (.tuple #[]) ∧ OOut 110 o (s.put t (listAll xss)) w w' := by
  go_enter Try.func83, Try.ntmps83
  go_wp2_with fail
  refine (tlist_any _ xss A n c B hn hB hM (by omega) hA).mono ?_
  rintro e w2 ⟨A2, c2, g2, rfl, hO2, hg2, hf2⟩
  go_wp2_with fail
  refine (tput_any _ o s t A2 _ c2 (listAll xss) hL (hT.quiet hf2) hO2.sl (hap_new hT hO2 hg2)).mono ?_
  rintro e w3 ⟨rfl, hO⟩
  go_wp2_with fail
  ((try simp only [Exit.inBlock, Exit.then]); first | refine bodyPost_end (results_none rfl _ _ _) rfl ?_ | refine bodyPost_ret (results_none rfl _ _ _) rfl ?_)
  exact ⟨rfl, hO.behind hf2⟩

set_option maxHeartbeats 2000000 in
set_option maxRecDepth 4000 in
theorem tform_any' (w : World) (o : Option WO) (s : WS) (hT : TAt w 110 o s) :
    Calls Try.prog 62 #[wptr o] w fun e w' => FormPost s w e w' := by
  cases o with
  | none =>
    have hs : s = WS.none_ := hT
    subst hs
    show Calls _ _ #[.pointer none] _ _
    go_enter Try.func62, Try.ntmps62
    go_wp2_with fail
    go_ret2
    exact ⟨none, 0, 0, none, rfl, Ow.nil_ _ _ _, (fun b h => by cases h), Fr.refl _ _⟩
  | some r =>
    obtain ⟨p, A, n, c, g⟩ := r
    have h : WAt w 110 ⟨p, A, n, c, g⟩ s := hT
    have c0 : w.cell? ⟨p, 0, none⟩ = some (.slice A n c) := h.bl.cell' rfl
    have c2 : w.cell? ⟨p, 2, none⟩ = some (.int .i64 s.e) := h.bl.cell' rfl
    have Hn : Hid (n = s.B.length) := h.ow.len
    have hn0 : n ≤ 1048576 := by rw [Hn.out]; exact h.ok.2
    have HO := hide h.ow
    obtain ⟨er, her⟩ : ∃ er, s.e = er := ⟨_, rfl⟩
    rw [her] at c2
    have Her := hide her
    clear her hT h
    show Calls _ _ #[.pointer (some ⟨p, 0, none⟩)] _ _
    by_cases he : ¬ er = 0
    · have hf : Hid (s.form = []) := if_neg (by rw [Her.out]; exact he)
      go_enter Try.func62, Try.ntmps62
      go_wp2_with fail
      go_quiet (fail)
      go_wp2_with fail
      go_ret2
      exact ⟨none, 0, 0, none, by rw [Her.out]; rfl, by rw [hf.out]; exact Ow.nil_ _ _ _, (fun b h => by cases h), (Fr.refl _ _).drewN _⟩
    · obtain rfl : er = 0 := by omega
      have hf : Hid (s.form = s.B) := if_pos Her.out
      go_enter Try.func62, Try.ntmps62
      go_wp2_with fail
      refine (own_any _ s.B A n c (by omega) HO.out.sl).mono ?_
      rintro e w2 ⟨A2, c2', g2, rfl, hO2, hg2, hf2⟩
      go_wp2_with fail
      go_ret2
      exact ⟨A2, n, c2', g2, by rw [Her.out]; rfl, by rw [hf.out]; exact hO2, hg2, hf2⟩

set_option maxHeartbeats 4000000 in
set_option maxRecDepth 4000 in
theorem trecord_any (w : World) (o i : Option WO) (s si : WS) (t : Int) (hT : TAt w 110 o s) (hI : TAt w 110 i si) :
    Calls Try.prog 59 #[wptr o, .int .i64 t, wptr i] w fun e w' => e = .returned (.tuple #[]) ∧ OOut 110 o (s.record t si) w w' := by
  cases o with
  | none =>
    have hs : s = WS.none_ := hT
    have HT := hide hT
    clear hT
    show Calls _ _ #[.pointer none, _, _] _ _
    go_enter Try.func59, Try.ntmps59
    go_wp2_with fail
    ((try simp only [Exit.inBlock, Exit.then]); first | refine bodyPost_end (results_none rfl _ _ _) rfl ?_ | refine bodyPost_ret (results_none rfl _ _ _) rfl ?_)
    exact ⟨rfl, OOut.refl HT.out (if_pos (by rw [hs]; decide)) (Fr.refl _ _)⟩
  | some r =>
    obtain ⟨p, A, n, c, g⟩ := r
    have h : WAt w 110 ⟨p, A, n, c, g⟩ s := hT
    have c2 : w.cell? ⟨p, 2, none⟩ = some (.int .i64 s.e) := h.bl.cell' rfl
    have HT := hide h
    obtain ⟨er, her⟩ : ∃ er, s.e = er := ⟨_, rfl⟩
    rw [her] at c2
    have Her := hide her
    clear her hT h
    by_cases he : ¬ er = 0
    · show Calls _ _ #[.pointer (some ⟨p, 0, none⟩), _, _] _ _
      go_enter Try.func59, Try.ntmps59
      go_wp2_with fail
      ((try simp only [Exit.inBlock, Exit.then]); first | refine bodyPost_end (results_none rfl _ _ _) rfl ?_ | refine bodyPost_ret (results_none rfl _ _ _) rfl ?_)
      exact ⟨rfl, OOut.refl (o := some _) HT.out (if_pos (by rw [Her.out]; exact he)) (Fr.refl _ _)⟩
    obtain rfl : er = 0 := by omega
    obtain ⟨ei, hei⟩ : ∃ ei, si.e = ei := ⟨_, rfl⟩
    have Hei := hide hei
    clear hei
    show Calls _ _ #[.pointer (some ⟨p, 0, none⟩), _, _] _ _
    go_enter Try.func59, Try.ntmps59
    go_wp2_with fail
    refine (tform_any' _ i si hI).mono ?_
    rintro e w2 ⟨A2, n2, c2', g2, rfl, hO2, hg2, hf2⟩
    rw [Hei.out]
    have hT2 : TAt w2 110 (some ⟨p, A, n, c, g⟩) s := TAt.quiet (o := some _) HT.out hf2
    have f2 : w2.frozen? ⟨p, 2, none⟩ = false := (WAt.bl hT2).free 2
    have k2 : w2.cell? ⟨p, 2, none⟩ = some (.int .i64 0) := by rw [← Her.out]; exact (WAt.bl hT2).cell' rfl
    have HT2 := hide hT2
    clear hT2
    by_cases hi : ¬ ei = 0
    · have hs : Hid (s.record t si = { s with e := ei }) := by
        show _ = _
        rw [WS.record, if_neg (fun h => h Her.out), if_pos (by rw [Hei.out]; exact hi), Hei.out]
      go_wp2_with fail
      ((try simp only [Exit.inBlock, Exit.then]); first | refine bodyPost_end (results_none rfl _ _ _) rfl ?_ | refine bodyPost_ret (results_none rfl _ _ _) rfl ?_)
      rw [hs.out]
      exact ⟨rfl, OOut.fault (r := ⟨p, A, n, c, g⟩) HT2.out hf2 (by decide)⟩
    · obtain rfl : ei = 0 := by omega
      have hs : Hid (s.record t si = s.put t si.form) := by
        show _ = _
        rw [WS.record, if_neg (fun h => h Her.out), if_neg (fun h => h Hei.out), WS.form, if_pos Hei.out]
      have hb : Hid (n2 ≤ 1048576) := by
        show n2 ≤ _
        rw [hO2.len, WS.form, if_pos Hei.out]
        cases i with
        | none => have : si = WS.none_ := hI; rw [this]; simp [WS.none_]
        | some r => exact (WAt.ok hI).2
      go_wp2_with fail
      refine (tput_any _ (some ⟨p, A, n, c, g⟩) s t A2 n2 c2' si.form (Nat.le_trans hb.out (by omega)) HT2.out hO2.sl (hap_new (w := w) (o := some ⟨p, A, n, c, g⟩) (s := s) HT.out hO2 hg2)).mono ?_
      rintro e w3 ⟨rfl, hO⟩
      go_wp2_with fail
      ((try simp only [Exit.inBlock, Exit.then]); first | refine bodyPost_end (results_none rfl _ _ _) rfl ?_ | refine bodyPost_ret (results_none rfl _ _ _) rfl ?_)
      rw [hs.out]
      exact ⟨rfl, hO.behind hf2⟩

end Go.Proofs.Ytlcjhbemgagchaa
end
