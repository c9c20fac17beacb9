/-
  The head of a picture's place.
-/
import Derived.Test.YtchajbiloaiekaaSl2
import Derived.Test.YtchajbiloaiekaaDkB
namespace Go.Proofs.Ytchajbiloaiekaa
open Go.RowKit
set_option linter.unusedVariables false
abbrev tSk : TypeId := 61
def head55 (t : Nat) (p : List Nat) : List Nat := [83] ++ beP 8 t ++ beP 4 p.length ++ beP 8 (sumN p) ++ zeros 34
def headN (t : Nat) (p : List Nat) : List Nat := head55 t p ++ beP 8 (sumN (head55 t p)) ++ [76]
theorem head55_len (t : Nat) (p : List Nat) : (head55 t p).length = 55 := by simp [head55, beP_len, zeros]
theorem headN_len (t : Nat) (p : List Nat) : (headN t p).length = 64 := by simp [headN, head55_len, beP_len]
theorem head55_lt (t : Nat) (p : List Nat) : ∀ x ∈ head55 t p, x < 256 := by
  intro x hx
  simp only [head55, List.mem_append, List.mem_singleton] at hx
  rcases hx with (((hx | hx) | hx) | hx) | hx
  · omega
  · exact beP_lt x hx
  · exact beP_lt x hx
  · exact beP_lt x hx
  · simp [zeros] at hx; omega
theorem headN_lt (t : Nat) (p : List Nat) : ∀ x ∈ headN t p, x < 256 := by
  intro x hx
  simp only [headN, List.mem_append, List.mem_singleton] at hx
  rcases hx with (hx | hx) | hx
  · exact head55_lt t p x hx
  · exact beP_lt x hx
  · omega
/-- A head under making: what is laid down, nothing, the last byte. -/
def hB (a : List Nat) : List Nat := a ++ (zeros (63 - a.length) ++ [76])
theorem zeros_add (a b : Nat) : zeros (a + b) = zeros a ++ zeros b := by simp [zeros, List.replicate_append_replicate]
theorem put_step (w : World) (g : Nat) (t : TypeId) (a : List Nat) (m c o v : Nat) (hv : v < B64) (ho : a.length = o) (hm : o + m ≤ 63) (h8 : m ≤ 8) (hB_ : Bl w g t ((hB a).map bn).toArray) :
    Calls Try.prog 39 #[.slice (some ⟨g, o, none⟩) m c, .int .u64 (v : Int)] w fun e w' => e = .returned (.tuple #[]) ∧ Bl w' g t ((hB (a ++ beP m v)).map bn).toArray ∧ Fr (fun x => x = g) w w' := by
  have e1 : (hB a).map bn = a.map bn ++ ((zeros m).map bn ++ (zeros (63 - o - m) ++ [76]).map bn) := by
    unfold hB
    rw [ho, show 63 - o = m + (63 - o - m) by omega, zeros_add]
    simp only [List.map_append, List.append_assoc, show m + (63 - o - m) - m = 63 - o - m by omega]
  rw [e1] at hB_
  refine (put_any w g t (a.map bn) ((zeros m).map bn) ((zeros (63 - o - m) ++ [76]).map bn) o m c v hv (by simpa using ho) (by simp [zeros]) h8 hB_ (by omega)).mono ?_
  rintro e w' ⟨rfl, h2, hf⟩
  refine ⟨rfl, ?_, hf⟩
  unfold hB
  rw [List.length_append, beP_len, ho, show 63 - (o + m) = 63 - o - m by omega]
  simpa using h2
theorem secZk : (Try.prog.info? tSk).bind (fun i => i.zero) = some (.agg (List.replicate 64 (.int .u8 0)).toArray) := by kernel_rfl
set_option maxHeartbeats 4000000 in
theorem head_any (w : World) (t : Nat) (ht : t < 9223372036854775807) (A : Option Addr) (n c : Nat) (p : List Nat) (hx : ∀ x ∈ p, x < 256) (hn : p.length = n) (hm : n ≤ 4611686018427387904) (hA : Sl w 1 A n (p.map bn)) :
    Calls Try.prog 33 #[.int .i64 (t : Int), .slice A n c] w fun e w' => e = .returned (.agg ((headN t p).map bn).toArray) ∧ Fr (fun _ => False) w w' := by
  have Hn := hide hn
  clear hn
  obtain ⟨hN, hhN⟩ : ∃ hN, (headN t p).map bn = hN := ⟨_, rfl⟩
  rw [hhN]
  have HhN := hide hhN
  clear hhN
  obtain ⟨s, hs⟩ : ∃ s, w.heap.size = s := ⟨_, rfl⟩
  have hz : Hid ((#[.int .u8 83, .int .u8 0, .int .u8 0, .int .u8 0, .int .u8 0, .int .u8 0, .int .u8 0, .int .u8 0, .int .u8 0, .int .u8 0, .int .u8 0, .int .u8 0, .int .u8 0, .int .u8 0, .int .u8 0, .int .u8 0, .int .u8 0, .int .u8 0, .int .u8 0, .int .u8 0, .int .u8 0, .int .u8 0, .int .u8 0, .int .u8 0, .int .u8 0, .int .u8 0, .int .u8 0, .int .u8 0, .int .u8 0, .int .u8 0, .int .u8 0, .int .u8 0, .int .u8 0, .int .u8 0, .int .u8 0, .int .u8 0, .int .u8 0, .int .u8 0, .int .u8 0, .int .u8 0, .int .u8 0, .int .u8 0, .int .u8 0, .int .u8 0, .int .u8 0, .int .u8 0, .int .u8 0, .int .u8 0, .int .u8 0, .int .u8 0, .int .u8 0, .int .u8 0, .int .u8 0, .int .u8 0, .int .u8 0, .int .u8 0, .int .u8 0, .int .u8 0, .int .u8 0, .int .u8 0, .int .u8 0, .int .u8 0, .int .u8 0, .int .u8 76] : Array Value) = ((hB [83]).map bn).toArray) := rfl
  have hB1 : Bl (w.alloc (.cells #[.int .u8 83, .int .u8 0, .int .u8 0, .int .u8 0, .int .u8 0, .int .u8 0, .int .u8 0, .int .u8 0, .int .u8 0, .int .u8 0, .int .u8 0, .int .u8 0, .int .u8 0, .int .u8 0, .int .u8 0, .int .u8 0, .int .u8 0, .int .u8 0, .int .u8 0, .int .u8 0, .int .u8 0, .int .u8 0, .int .u8 0, .int .u8 0, .int .u8 0, .int .u8 0, .int .u8 0, .int .u8 0, .int .u8 0, .int .u8 0, .int .u8 0, .int .u8 0, .int .u8 0, .int .u8 0, .int .u8 0, .int .u8 0, .int .u8 0, .int .u8 0, .int .u8 0, .int .u8 0, .int .u8 0, .int .u8 0, .int .u8 0, .int .u8 0, .int .u8 0, .int .u8 0, .int .u8 0, .int .u8 0, .int .u8 0, .int .u8 0, .int .u8 0, .int .u8 0, .int .u8 0, .int .u8 0, .int .u8 0, .int .u8 0, .int .u8 0, .int .u8 0, .int .u8 0, .int .u8 0, .int .u8 0, .int .u8 0, .int .u8 0, .int .u8 76] 61)) s tSk ((hB [83]).map bn).toArray := by rw [← hz.out]; exact Bl.newAt hs.symm
  have hF1 : Fr (fun x => s ≤ x) w (w.alloc (.cells #[.int .u8 83, .int .u8 0, .int .u8 0, .int .u8 0, .int .u8 0, .int .u8 0, .int .u8 0, .int .u8 0, .int .u8 0, .int .u8 0, .int .u8 0, .int .u8 0, .int .u8 0, .int .u8 0, .int .u8 0, .int .u8 0, .int .u8 0, .int .u8 0, .int .u8 0, .int .u8 0, .int .u8 0, .int .u8 0, .int .u8 0, .int .u8 0, .int .u8 0, .int .u8 0, .int .u8 0, .int .u8 0, .int .u8 0, .int .u8 0, .int .u8 0, .int .u8 0, .int .u8 0, .int .u8 0, .int .u8 0, .int .u8 0, .int .u8 0, .int .u8 0, .int .u8 0, .int .u8 0, .int .u8 0, .int .u8 0, .int .u8 0, .int .u8 0, .int .u8 0, .int .u8 0, .int .u8 0, .int .u8 0, .int .u8 0, .int .u8 0, .int .u8 0, .int .u8 0, .int .u8 0, .int .u8 0, .int .u8 0, .int .u8 0, .int .u8 0, .int .u8 0, .int .u8 0, .int .u8 0, .int .u8 0, .int .u8 0, .int .u8 0, .int .u8 76] 61)) := (Fr.refl _ _).alloc _
  have it : IntKind.u64.wrap (t : Int) = (t : Int) := IntWalk.u64_in _ ⟨by omega, by omega⟩
  have il : IntKind.u64.wrap (n : Int) = (n : Int) := IntWalk.u64_in _ ⟨by omega, by omega⟩
  have Hs := hide hs
  go_enter Try.func33, Try.ntmps33
  go_wp2_with fail
  generalize hw1 : w.alloc (.cells #[.int .u8 83, .int .u8 0, .int .u8 0, .int .u8 0, .int .u8 0, .int .u8 0, .int .u8 0, .int .u8 0, .int .u8 0, .int .u8 0, .int .u8 0, .int .u8 0, .int .u8 0, .int .u8 0, .int .u8 0, .int .u8 0, .int .u8 0, .int .u8 0, .int .u8 0, .int .u8 0, .int .u8 0, .int .u8 0, .int .u8 0, .int .u8 0, .int .u8 0, .int .u8 0, .int .u8 0, .int .u8 0, .int .u8 0, .int .u8 0, .int .u8 0, .int .u8 0, .int .u8 0, .int .u8 0, .int .u8 0, .int .u8 0, .int .u8 0, .int .u8 0, .int .u8 0, .int .u8 0, .int .u8 0, .int .u8 0, .int .u8 0, .int .u8 0, .int .u8 0, .int .u8 0, .int .u8 0, .int .u8 0, .int .u8 0, .int .u8 0, .int .u8 0, .int .u8 0, .int .u8 0, .int .u8 0, .int .u8 0, .int .u8 0, .int .u8 0, .int .u8 0, .int .u8 0, .int .u8 0, .int .u8 0, .int .u8 0, .int .u8 0, .int .u8 76] 61) = w1 at hB1 hF1 ⊢
  clear hw1
  refine (put_step w1 s tSk [83] 8 63 1 t (by unfold B64; omega) rfl (by omega) (by omega) hB1).mono ?_
  rintro e w2 ⟨rfl, hB2, hf2⟩
  have hF2 := hF1.comp hf2 (fun x _ e => by omega)
  clear hB1 hF1 hf2
  go_wp2_with fail
  refine (put_step w2 s tSk ([83] ++ beP 8 t) 4 55 9 n (by unfold B64; omega) (by simp [beP_len]) (by omega) (by omega) hB2).mono ?_
  rintro e w3 ⟨rfl, hB3, hf3⟩
  have hF3 := hF2.comp hf3 (fun x _ e => by omega)
  clear hB2 hF2 hf3
  go_wp2_with fail
  have e55 : Hid ([83] ++ beP 8 t ++ beP 4 n ++ beP 8 (sumN p) ++ zeros 34 = head55 t p) := by show _ = _; unfold head55; rw [Hn.out]
  have eh : Hid (hB ([83] ++ beP 8 t ++ beP 4 n ++ beP 8 (sumN p)) = hB (head55 t p)) := by
    show _ = _
    rw [← e55.out]
    unfold hB
    rw [List.append_assoc _ (zeros 34)]
    have e1 : ([83] ++ beP 8 t ++ beP 4 n ++ beP 8 (sumN p)).length = 21 := by simp [beP_len]
    have e2 : ([83] ++ beP 8 t ++ beP 4 n ++ beP 8 (sumN p) ++ zeros 34).length = 55 := by rw [List.length_append, e1]; simp [zeros]
    rw [e1, e2, ← List.append_assoc (zeros 34), ← zeros_add]
  have hSum : Hid (∀ W, Fr (fun _ => False) w3 W → Calls Try.prog 40 #[.slice A n c] W fun e w' => e = .returned (.int .u64 (sumN p : Int)) ∧ Fr (fun _ => False) W w') := fun W hW =>
    sum_any W A n c p hx Hn.out hm (hA.below (hF3.trans (hW.weak _)) (fun k hk e => by omega))
  have hPut : Hid (∀ W, Fr (fun _ => False) w3 W → Calls Try.prog 39 #[.slice (some ⟨s, 13, none⟩) 8 51, .int .u64 (sumN p : Int)] W fun e w' => e = .returned (.tuple #[]) ∧ Bl w' s tSk ((hB (head55 t p)).map bn).toArray ∧ Fr (fun x => x = s) W w') := fun W hW => by
    have := put_step W s tSk ([83] ++ beP 8 t ++ beP 4 n) 8 51 13 (sumN p) (sumN_lt hx) (by simp [beP_len]) (by omega) (by omega) (hB3.fr hW id)
    rw [eh.out] at this
    exact this
  have HF3 := hide hF3
  have hS0 : Fr (fun x => x = s) w3 w3 := Fr.refl _ _
  have hQ0 : Fr (fun _ => False) w3 w3 := Fr.refl _ _
  clear hB3 hF3
  go_wp2_with fail
  go_region_held3 (fun w' => Fr (fun x => x = s) w3 w') (first | assumption | exact Fr.drew (by assumption))
    (first
      | (go_at_call 40; refine (hSum.out _ (by first | assumption | exact Fr.drew (by assumption))).mono ?_; rintro e w5 ⟨rfl, hf5⟩; have hq5 : Fr (fun _ => False) w3 w5 := Fr.trans (by first | assumption | exact Fr.drew (by assumption)) hf5; have hS5 : Fr (fun x => x = s) w3 w5 := hq5.weak _)
      | (go_at_call 39; refine (hPut.out _ (by first | assumption | exact Fr.drew (by assumption))).mono ?_; rintro e w6 ⟨rfl, hB6, hf6⟩; have hS6 : Fr (fun x => x = s) w3 w6 := Fr.trans (Fr.weak (by first | assumption | exact Fr.drew (by assumption)) _) hf6))
  have hF6 : Fr (fun x => s ≤ x) w w6 := HF3.out.comp hS6 (fun x _ e => by omega)
  clear hS0 hQ0 hf5 hq5 hS5 hf6 hS6 HF3 hSum hPut
  have hSum : Hid (∀ W, Fr (fun _ => False) w6 W → Calls Try.prog 40 #[.slice (some ⟨s, 0, none⟩) 55 64] W fun e w' => e = .returned (.int .u64 (sumN (head55 t p) : Int)) ∧ Fr (fun _ => False) W w') := fun W hW =>
    sum_any W (some ⟨s, 0, none⟩) 55 64 (head55 t p) (head55_lt t p) (head55_len t p) (by omega) ⟨by simp [head55_len], fun _ => ⟨s, 0, rfl, fun j u hu => by
      have hj : j < 55 := by have := (List.getElem?_eq_some_iff.1 hu).1; simpa [head55_len] using this
      rw [Nat.zero_add]
      refine (hB6.fr hW id).cell' ?_
      unfold hB
      rw [List.getElem?_toArray, List.map_append, List.getElem?_append_left (by simpa [head55_len] using hj)]
      exact hu⟩⟩
  have hPut : Hid (∀ W, Fr (fun _ => False) w6 W → Calls Try.prog 39 #[.slice (some ⟨s, 55, none⟩) 8 9, .int .u64 (sumN (head55 t p) : Int)] W fun e w' => e = .returned (.tuple #[]) ∧ Bl w' s tSk ((headN t p).map bn).toArray ∧ Fr (fun x => x = s) W w') := fun W hW => by
    have := put_step W s tSk (head55 t p) 8 9 55 (sumN (head55 t p)) (sumN_lt (head55_lt t p)) (head55_len t p) (by omega) (by omega) (hB6.fr hW id)
    have e : hB (head55 t p ++ beP 8 (sumN (head55 t p))) = headN t p := by
      unfold hB headN
      rw [List.length_append, head55_len, beP_len]
      simp [zeros]
    rw [e] at this
    exact this
  have HF6 := hide hF6
  have hS0 : Fr (fun x => x = s) w6 w6 := Fr.refl _ _
  have hQ0 : Fr (fun _ => False) w6 w6 := Fr.refl _ _
  clear hB6 hF6
  obtain ⟨sm, hsm⟩ : ∃ sm, sumN (head55 t p) = sm := ⟨_, rfl⟩
  rw [hsm] at hSum hPut
  clear hsm
  go_wp2_with fail
  go_region_held3 (fun w' => Fr (fun x => x = s) w6 w') (first | assumption | exact Fr.drew (by assumption))
    (first
      | (go_at_call 40; refine (hSum.out _ (by first | assumption | exact Fr.drew (by assumption))).mono ?_; rintro e w8 ⟨rfl, hf8⟩; have hq8 : Fr (fun _ => False) w6 w8 := Fr.trans (by first | assumption | exact Fr.drew (by assumption)) hf8; have hS8 : Fr (fun x => x = s) w6 w8 := hq8.weak _)
      | (go_at_call 39; refine (hPut.out _ (by first | assumption | exact Fr.drew (by assumption))).mono ?_; rintro e w9 ⟨rfl, hB9, hf9⟩; have hS9 : Fr (fun x => x = s) w6 w9 := Fr.trans (Fr.weak (by first | assumption | exact Fr.drew (by assumption)) _) hf9))
  have hF9 : Fr (fun x => s ≤ x) w w9 := HF6.out.comp hS9 (fun x _ e => by omega)
  have HF9 := hide hF9
  have Hl : Hid (hN.length = 64) := by show _ = 64; rw [← HhN.out, List.length_map]; exact headN_len t p
  have Ho : Hid (hN.all (·.oneCell') = true) := by show _ = true; rw [← HhN.out]; simp [bn, Value.oneCell']
  rw [HhN.out] at hB9
  clear hS0 hQ0 hf8 hq8 hS8 hf9 hS9 HF6 hSum hPut hF9
  have Hi : Hid ((Try.prog.info? tSk).map (·.size) = some hN.toArray.size) := by show _ = _; rw [List.size_toArray, Hl.out]; kernel_rfl
  go_wp2_with (first
    | (refine wpList_load_row rfl tSk _ rfl s rfl tSk _ (0, 0) _ hB9 Try.underlying61 rfl Hi.out ?_)
    | (refine wpList_store_at rfl tSk _ _ rfl s 0 hN.toArray rfl rfl tSk hN.toArray hN.toArray hB9 Hi.out 64 64 (by simpa using Hl.out) (by simpa using Hl.out) (by decide) Ho.out (by simp) ?_))
  refine bodyPost_ret (results_cell_row rfl _ _ s tSk hN.toArray (0, 0) _ rfl (hB9.setRow _) Try.underlying61 rfl Hi.out) rfl ?_
  exact ⟨rfl, (HF9.out.setRow (.inl (Nat.le_refl _)) _).mono fun x hx e => by have := Hs.out; omega⟩
end Go.Proofs.Ytchajbiloaiekaa
