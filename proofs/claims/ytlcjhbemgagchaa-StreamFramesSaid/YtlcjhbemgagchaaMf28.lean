/-
  Texts merged into one, to keep the claim small: St3.
-/
import Derived.Test.YtlcjhbemgagchaaMf27
/-
  StreamFrames: the walk, over Ask and Tell that are told. (printed by pr_frames.py)
-/
namespace Go.Proofs.Ytlcjhbemgagchaa
open Go.RowKit
set_option linter.unusedVariables false
theorem num29_any (w : World) (x : Int) : Calls Try.prog 13 #[.int .i64 x] w fun e w' => e = .returned (.int .i64 x) ∧ w = w' := by
  go_enter Try.func13, Try.ntmps13
  go_wp2
  go_ret
  exact ⟨rfl, rfl⟩
/-- What is answered, by the length of the bytes. -/
theorem PutPost.at_len {bs : List Nat} {er : Nat} {w : World} {e : Ending} {w' : World} (h : PutPost bs er w e w') {L : Nat} (hL : bs.length = L) :
    ∃ A c g, e = .returned (.tuple #[.slice A L c, .int .i64 (er : Int)]) ∧ Ow w' 5 1 A L c (bs.map bn) g ∧ (∀ b, g = some b → w.heap.size ≤ b) ∧ Fr (fun _ => False) w w' := by
  obtain ⟨A, n, c, g, he, hO, hg, hF⟩ := h
  have h1 := hO.1
  simp at h1
  obtain rfl : n = L := by omega
  exact ⟨A, c, g, he, hO, hg, hF⟩
theorem frameB_len (xs : List Nat) : (frameB xs).length ≤ 65539 := by
  unfold frameB
  split
  · simp; omega
  · simp
set_option maxHeartbeats 2000000 in
set_option maxRecDepth 100000 in
theorem frames_walk (w : World) (xs : List Nat) (A : Option Addr) (n c : Nat) (hn : n = xs.length) (hb : n ≤ 140737488351232) (hA : Sl w 1 A n (xs.map bn)) (q : KC) (r : RR) (X Y : List Nat) (ex ey : Nat) (hX : X.length ≤ 140737488350000) (hY : Y.length ≤ 140737488350000)
    (h1 : ∀ w1, Fr (fun _ => False) w w1 → Calls Try.prog 17 #[.agg #[.int .i64 q.id, .int .i64 q.kind, .string (strOf q.name), .int .i64 q.to_, .int .u64 (q.co : Int), .int .i64 q.item, .int .i64 q.num, .int .i64 q.of_, .int .i64 q.e.acc, .int .i64 q.e.item, .int .u64 (q.e.co : Int), .int .u64 (q.e.pr : Int), .slice q.e.A q.e.n q.e.c, .int .i64 q.k.num, .int .i64 q.k.kind, .int .i64 q.k.by_, .int .i64 q.k.dl, .int .i64 q.k.to_, .int .i64 q.k.want, .int .u64 (q.k.pr : Int), .int .u64 (q.k.rs : Int), .int .u64 (q.k.st : Int), .int .i64 q.k.of_, .slice q.k.A q.k.n q.k.c]] w1 (PutPost X ex w1))
    (h2 : ∀ w1, Fr (fun _ => False) w w1 → Calls Try.prog 18 #[.agg #[.int .i64 q.id, .int .i64 q.kind, .string (strOf q.name), .int .i64 q.to_, .int .u64 (q.co : Int), .int .i64 q.item, .int .i64 q.num, .int .i64 q.of_, .int .i64 q.e.acc, .int .i64 q.e.item, .int .u64 (q.e.co : Int), .int .u64 (q.e.pr : Int), .slice q.e.A q.e.n q.e.c, .int .i64 q.k.num, .int .i64 q.k.kind, .int .i64 q.k.by_, .int .i64 q.k.dl, .int .i64 q.k.to_, .int .i64 q.k.want, .int .u64 (q.k.pr : Int), .int .u64 (q.k.rs : Int), .int .u64 (q.k.st : Int), .int .i64 q.k.of_, .slice q.k.A q.k.n q.k.c]] w1 (PutPost X ex w1))
    (h3 : ∀ w1, Fr (fun _ => False) w w1 → Calls Try.prog 19 #[.agg #[.int .i64 r.id, .int .i64 r.err, .int .i64 r.num, .int .u64 (r.co : Int), .slice r.A r.n r.c, .string (strOf r.txt), .int .u32 (r.bits : Int), .int .i64 r.k.num, .int .i64 r.k.kind, .int .i64 r.k.by_, .int .i64 r.k.dl, .int .i64 r.k.to_, .int .i64 r.k.want, .int .u64 (r.k.pr : Int), .int .u64 (r.k.rs : Int), .int .u64 (r.k.st : Int), .int .i64 r.k.of_, .slice r.k.A r.k.n r.k.c]] w1 (PutPost Y ey w1))
    (h4 : ∀ w1, Fr (fun _ => False) w w1 → Calls Try.prog 20 #[.agg #[.int .i64 r.id, .int .i64 r.err, .int .i64 r.num, .int .u64 (r.co : Int), .slice r.A r.n r.c, .string (strOf r.txt), .int .u32 (r.bits : Int), .int .i64 r.k.num, .int .i64 r.k.kind, .int .i64 r.k.by_, .int .i64 r.k.dl, .int .i64 r.k.to_, .int .i64 r.k.want, .int .u64 (r.k.pr : Int), .int .u64 (r.k.rs : Int), .int .u64 (r.k.st : Int), .int .i64 r.k.of_, .slice r.k.A r.k.n r.k.c]] w1 (PutPost Y ey w1)) :
    Calls Try.prog 3 #[.slice A n c, .agg #[.int .i64 q.id, .int .i64 q.kind, .string (strOf q.name), .int .i64 q.to_, .int .u64 (q.co : Int), .int .i64 q.item, .int .i64 q.num, .int .i64 q.of_, .int .i64 q.e.acc, .int .i64 q.e.item, .int .u64 (q.e.co : Int), .int .u64 (q.e.pr : Int), .slice q.e.A q.e.n q.e.c, .int .i64 q.k.num, .int .i64 q.k.kind, .int .i64 q.k.by_, .int .i64 q.k.dl, .int .i64 q.k.to_, .int .i64 q.k.want, .int .u64 (q.k.pr : Int), .int .u64 (q.k.rs : Int), .int .u64 (q.k.st : Int), .int .i64 q.k.of_, .slice q.k.A q.k.n q.k.c], .agg #[.int .i64 r.id, .int .i64 r.err, .int .i64 r.num, .int .u64 (r.co : Int), .slice r.A r.n r.c, .string (strOf r.txt), .int .u32 (r.bits : Int), .int .i64 r.k.num, .int .i64 r.k.kind, .int .i64 r.k.by_, .int .i64 r.k.dl, .int .i64 r.k.to_, .int .i64 r.k.want, .int .u64 (r.k.pr : Int), .int .u64 (r.k.rs : Int), .int .u64 (r.k.st : Int), .int .i64 r.k.of_, .slice r.k.A r.k.n r.k.c]] w fun e w' => e = .returned (.bool true) ∧ Below w.heap.size w w' := by
  obtain ⟨rid, kind, name, to_, co, item, num, of_, e, k⟩ := q
  obtain ⟨rid2, err2, num2, co2, SA, sn, sc, items2, txt2, bits2, kr⟩ := r
  simp only at h1 h2 h3 h4 ⊢
  obtain ⟨str, hstr⟩ : ∃ str, strOf name = str := ⟨_, rfl⟩
  obtain ⟨str2, hstr2⟩ : ∃ str2, strOf txt2 = str2 := ⟨_, rfl⟩
  rw [hstr] at h1 h2 ⊢
  rw [hstr2] at h3 h4 ⊢
  clear hstr hstr2
  have H1 := hide h1
  have H2 := hide h2
  have H3 := hide h3
  have H4 := hide h4
  obtain ⟨w0, hw0⟩ : ∃ w0, (w.alloc (.cells #[.int .i64 rid, .int .i64 kind, .string str, .int .i64 to_, .int .u64 (co : Int), .int .i64 item, .int .i64 num, .int .i64 of_, .int .i64 e.acc, .int .i64 e.item, .int .u64 (e.co : Int), .int .u64 (e.pr : Int), .slice e.A e.n e.c, .int .i64 k.num, .int .i64 k.kind, .int .i64 k.by_, .int .i64 k.dl, .int .i64 k.to_, .int .i64 k.want, .int .u64 (k.pr : Int), .int .u64 (k.rs : Int), .int .u64 (k.st : Int), .int .i64 k.of_, .slice k.A k.n k.c] 31)).alloc (.cells #[.int .i64 rid2, .int .i64 err2, .int .i64 num2, .int .u64 (co2 : Int), .slice SA sn sc, .string str2, .int .u32 (bits2 : Int), .int .i64 kr.num, .int .i64 kr.kind, .int .i64 kr.by_, .int .i64 kr.dl, .int .i64 kr.to_, .int .i64 kr.want, .int .u64 (kr.pr : Int), .int .u64 (kr.rs : Int), .int .u64 (kr.st : Int), .int .i64 kr.of_, .slice kr.A kr.n kr.c] 35) = w0 := ⟨_, rfl⟩
  have hF0 : Fr (fun _ => False) w w0 := by rw [← hw0]; exact ((Fr.refl _ _).alloc _).alloc _
  have hC : Bl w0 w.heap.size 31 #[.int .i64 rid, .int .i64 kind, .string str, .int .i64 to_, .int .u64 (co : Int), .int .i64 item, .int .i64 num, .int .i64 of_, .int .i64 e.acc, .int .i64 e.item, .int .u64 (e.co : Int), .int .u64 (e.pr : Int), .slice e.A e.n e.c, .int .i64 k.num, .int .i64 k.kind, .int .i64 k.by_, .int .i64 k.dl, .int .i64 k.to_, .int .i64 k.want, .int .u64 (k.pr : Int), .int .u64 (k.rs : Int), .int .u64 (k.st : Int), .int .i64 k.of_, .slice k.A k.n k.c] := by rw [← hw0]; exact (Bl.new _ _ _).alloc _
  have hR : Bl w0 (w.heap.size + 1) 35 #[.int .i64 rid2, .int .i64 err2, .int .i64 num2, .int .u64 (co2 : Int), .slice SA sn sc, .string str2, .int .u32 (bits2 : Int), .int .i64 kr.num, .int .i64 kr.kind, .int .i64 kr.by_, .int .i64 kr.dl, .int .i64 kr.to_, .int .i64 kr.want, .int .u64 (kr.pr : Int), .int .u64 (kr.rs : Int), .int .u64 (kr.st : Int), .int .i64 kr.of_, .slice kr.A kr.n kr.c] := by rw [← hw0]; exact Bl.newAt (by simp)
  have hs0 : w0.heap.size = w.heap.size + 2 := by rw [← hw0]; simp
  have HC : Hid (∀ w', Fr (fun x => w0.heap.size ≤ x) w0 w' → w'.heap[w.heap.size]? = some (.cells #[.int .i64 rid, .int .i64 kind, .string str, .int .i64 to_, .int .u64 (co : Int), .int .i64 item, .int .i64 num, .int .i64 of_, .int .i64 e.acc, .int .i64 e.item, .int .u64 (e.co : Int), .int .u64 (e.pr : Int), .slice e.A e.n e.c, .int .i64 k.num, .int .i64 k.kind, .int .i64 k.by_, .int .i64 k.dl, .int .i64 k.to_, .int .i64 k.want, .int .u64 (k.pr : Int), .int .u64 (k.rs : Int), .int .u64 (k.st : Int), .int .i64 k.of_, .slice k.A k.n k.c] 31 (0, 0))) := fun w' hf => hC.fr hf (by omega)
  have HR : Hid (∀ w', Fr (fun x => w0.heap.size ≤ x) w0 w' → w'.heap[w.heap.size + 1]? = some (.cells #[.int .i64 rid2, .int .i64 err2, .int .i64 num2, .int .u64 (co2 : Int), .slice SA sn sc, .string str2, .int .u32 (bits2 : Int), .int .i64 kr.num, .int .i64 kr.kind, .int .i64 kr.by_, .int .i64 kr.dl, .int .i64 kr.to_, .int .i64 kr.want, .int .u64 (kr.pr : Int), .int .u64 (kr.rs : Int), .int .u64 (kr.st : Int), .int .i64 kr.of_, .slice kr.A kr.n kr.c] 35 (0, 0))) := fun w' hf => hR.fr hf (by omega)
  have HF0 := hide hF0
  have HA := hide (hA.below hF0 (fun _ _ => id))
  obtain ⟨L, hL⟩ : ∃ L, (frameB xs).length = L := ⟨_, rfl⟩
  obtain ⟨LX, hLX⟩ : ∃ L, X.length = L := ⟨_, rfl⟩
  obtain ⟨LY, hLY⟩ : ∃ L, Y.length = L := ⟨_, rfl⟩
  have hL9 := frameB_len xs
  rw [hL] at hL9
  rw [hLX] at hX
  rw [hLY] at hY
  have HL := hide hL
  have HLX := hide hLX
  have HLY := hide hLY
  have Hn := hide hn
  obtain ⟨er, her⟩ : ∃ er, frameE xs = er := ⟨_, rfl⟩
  have Her := hide her
  clear hA hF0 hC hR h1 h2 h3 h4 hL hLX hLY hn her
  go_enter Try.func3, Try.ntmps3
  go_wp2_with fail
  (try rw [hw0])
  clear hw0
  refine (lent29_any w0 xs A n c (by omega) HA.out).mono ?_
  rintro v w1 ⟨A1, c1, g1, rfl, hO1, hg1, hf1⟩
  have hA1 : Sl w1 1 A n (xs.map bn) := HA.out.below hf1 (fun _ _ => id)
  have hS1 : ∀ w', Fr (fun _ => False) w1 w' → Sl w' 1 A1 n (xs.map bn) := fun w' hf => by
    have := ((Ow.fr hO1 hf (fun _ _ => id)).take (k := n) (by omega)).sl
    rwa [Nat.mul_one, List.map_append, List.take_left' (by simp [Hn.out])] at this
  have HS1 := hide hS1
  have H_1 := hide (And.intro hO1 hf1)
  clear hO1 hf1 hS1
  go_wp2_with fail
  have kr1 := rframe_any w1 xs A n c Hn.out (by omega) hA1
  clear hA1
  refine kr1.mono ?_
  intro v w2 hp
  obtain ⟨A2, c2, g2, rfl, hO2, hg2, hf2⟩ := hp.at_len HL.out
  rw [Her.out]
  have H_2 := hide (And.intro hO2 hf2)
  clear hO2 hp kr1
  go_wp2_with fail
  refine (frame_any w2 xs A1 n c1 Hn.out (by omega) (HS1.out w2 hf2)).mono ?_
  intro v w3 hp
  obtain ⟨A3, c3, g3, rfl, hO3, hg3, hf3⟩ := hp.at_len HL.out
  rw [Her.out]
  have H_3 := hide (And.intro hO3 hf3)
  clear hO3 hp
  go_wp2_with fail
  refine (frame_any w3 xs A1 n c1 Hn.out (by omega) (HS1.out w3 (hf2.trans hf3))).mono ?_
  intro v w4 hp
  obtain ⟨A4, c4, g4, rfl, hO4, hg4, hf4⟩ := hp.at_len HL.out
  rw [Her.out]
  have hO3 := H_3.out.1.fr hf4 (fun _ _ => id)
  have hO2 := (H_2.out.1.fr hf3 (fun _ _ => id)).fr hf4 (fun _ _ => id)
  have hf14 := (hf2.trans hf3).trans hf4
  have hO1 : Lent29 w4 A1 n c1 xs g1 := Ow.fr H_1.out.1 hf14 (fun _ _ => id)
  have hf04 := H_1.out.2.trans hf14
  have hA4 := HA.out.below hf04 (fun _ _ => id)
  have k1 := fun w' => num29_any w' (er : Int)
  have B1 := hide (fun w' (hf : Fr (fun _ => False) w4 w') => bytes29_true w' (frameB xs) A3 A2 c3 c2 L HL.out.symm (by omega) (hO3.sl.below hf (fun _ _ => id)) (hO2.sl.below hf (fun _ _ => id)))
  have B2 := hide (fun w' (hf : Fr (fun _ => False) w4 w') => bytes29_true w' (frameB xs) A4 A2 c4 c2 L HL.out.symm (by omega) (hO4.sl.below hf (fun _ _ => id)) (hO2.sl.below hf (fun _ _ => id)))
  have B3 := hide (fun w' (hf : Fr (fun _ => False) w4 w') => kept29_true w' xs A1 A n c1 c g1 (by omega) Hn.out (Ow.fr hO1 hf (fun _ _ => id)) (hA4.below hf (fun _ _ => id)))
  have hz4 := hf04.size
  have hg34 : ∀ b b', g3 = some b → g4 = some b' → b ≠ b' := fun b b' e1 e2 e => by have := H_3.out.1.lt b e1; have := hg4 b' e2; omega
  have hg32 : ∀ b b', g3 = some b → g2 = some b' → b ≠ b' := fun b b' e1 e2 e => by have := H_2.out.1.lt b' e2; have := hg3 b e1; omega
  have hg30 : ∀ b, g3 = some b → w0.heap.size ≤ b := fun b e1 => by have := hg3 b e1; have := (H_1.out.2.trans hf2).size; omega
  have HX := hide (And.intro hO2 (And.intro hO3 (And.intro hO4 (And.intro hf04 (And.intro hg34 (And.intro hg32 hg30))))))
  clear hO1 hO2 hO3 hO4 hf04 hA4 hz4 hg34 hg32 hg30 H_1 H_2 H_3 hf2 hf3 hf4 hf14 HS1 hg1 hg2 hg3 hg4 hp
  go_wp2_with fail
  refine (k1 _).mono ?_
  rintro v w' ⟨rfl, rfl⟩
  go_wp2_with fail
  refine (k1 _).mono ?_
  rintro v w' ⟨rfl, rfl⟩
  go_wp2_with fail
  refine (B1.out _ (Fr.refl _ _)).mono ?_
  rintro v w5 ⟨rfl, hf5⟩
  go_wp2_with fail
  refine (B2.out _ hf5).mono ?_
  rintro v w6 ⟨rfl, hf6⟩
  go_wp2_with fail
  refine (B3.out _ (hf5.trans hf6)).mono ?_
  rintro v w7 ⟨rfl, hf7⟩
  obtain ⟨hO2, hO3, hO4, hf04, hg34, hg32, hg30⟩ := HX.out
  have hf47 := (hf5.trans hf6).trans hf7
  have ko := over29_any w7 (frameB xs) A3 L c3 g3 (hO3.fr hf47 (fun _ _ => id)) (by omega)
  have HX2 := hide (And.intro (hO2.fr hf47 (fun _ _ => id)) (And.intro (hO4.fr hf47 (fun _ _ => id)) (hf04.trans hf47)))
  clear hO2 hO3 hO4 hf04 hf47 hf5 hf6 hf7 B1 B2 B3 HX
  go_wp2_with fail
  refine ko.mono ?_
  rintro v w8 ⟨rfl, hf8⟩
  obtain ⟨hO2, hO4, hf07⟩ := HX2.out
  have hO2 := hO2.fr hf8 (fun b e1 e2 => hg32 b b e2.symm e1 rfl)
  have hO4 := hO4.fr hf8 (fun b e1 e2 => hg34 b b e2.symm e1 rfl)
  have hf08 : Fr (fun x => w0.heap.size ≤ x) w0 w8 := (hf07.weak _).trans (hf8.mono fun x _ e => hg30 x e.symm)
  have HB := hide (And.intro hO2 hO4)
  have hfw : ∀ w', Fr (fun x => w0.heap.size ≤ x) w0 w' → Fr (fun _ => False) w w' := fun w' h => HF0.out.trans (h.mono fun x hx e => by omega)
  have HFW := hide hfw
  have HF8 := hide hf08
  clear hO2 hO4 hf07 hf8 ko HX2 hg34 hg32 hg30 hfw
  have b8 := HC.out w8 HF8.out
  go_wp2_with (refine wpList_load_at rfl 31 _ rfl w.heap.size 0 rfl 31 _ #[.int .i64 rid, .int .i64 kind, .string str, .int .i64 to_, .int .u64 (co : Int), .int .i64 item, .int .i64 num, .int .i64 of_, .int .i64 e.acc, .int .i64 e.item, .int .u64 (e.co : Int), .int .u64 (e.pr : Int), .slice e.A e.n e.c, .int .i64 k.num, .int .i64 k.kind, .int .i64 k.by_, .int .i64 k.dl, .int .i64 k.to_, .int .i64 k.want, .int .u64 (k.pr : Int), .int .u64 (k.rs : Int), .int .u64 (k.st : Int), .int .i64 k.of_, .slice k.A k.n k.c] (0, 0) _ b8 Try.underlying31 rfl (by kernel_rfl) rfl ?_)
  clear b8
  refine (H1.out w8 (HFW.out _ HF8.out)).mono ?_
  intro v w9 hp
  obtain ⟨A5, c5, g5, rfl, hO5, -, hf9⟩ := hp.at_len HLX.out
  have HF9 := hide (HF8.out.trans (hf9.weak _))
  have H_5 := hide (And.intro hO5 hf9)
  have b9 := HC.out w9 HF9.out
  clear hp hO5 hf9 HF8 hf08
  go_wp2_with (refine wpList_load_at rfl 31 _ rfl w.heap.size 0 rfl 31 _ #[.int .i64 rid, .int .i64 kind, .string str, .int .i64 to_, .int .u64 (co : Int), .int .i64 item, .int .i64 num, .int .i64 of_, .int .i64 e.acc, .int .i64 e.item, .int .u64 (e.co : Int), .int .u64 (e.pr : Int), .slice e.A e.n e.c, .int .i64 k.num, .int .i64 k.kind, .int .i64 k.by_, .int .i64 k.dl, .int .i64 k.to_, .int .i64 k.want, .int .u64 (k.pr : Int), .int .u64 (k.rs : Int), .int .u64 (k.st : Int), .int .i64 k.of_, .slice k.A k.n k.c] (0, 0) _ b9 Try.underlying31 rfl (by kernel_rfl) rfl ?_)
  clear b9
  refine (H2.out w9 (HFW.out _ HF9.out)).mono ?_
  intro v w10 hp
  obtain ⟨A6, c6, g6, rfl, hO6, -, hf10⟩ := hp.at_len HLX.out
  have HF10 := hide (HF9.out.trans (hf10.weak _))
  have H_6 := hide (And.intro hO6 hf10)
  have b10 := HR.out w10 HF10.out
  clear hp hO6 hf10 HF9
  go_wp2_with (refine wpList_load_at rfl 35 _ rfl (w.heap.size + 1) 0 rfl 35 _ #[.int .i64 rid2, .int .i64 err2, .int .i64 num2, .int .u64 (co2 : Int), .slice SA sn sc, .string str2, .int .u32 (bits2 : Int), .int .i64 kr.num, .int .i64 kr.kind, .int .i64 kr.by_, .int .i64 kr.dl, .int .i64 kr.to_, .int .i64 kr.want, .int .u64 (kr.pr : Int), .int .u64 (kr.rs : Int), .int .u64 (kr.st : Int), .int .i64 kr.of_, .slice kr.A kr.n kr.c] (0, 0) _ b10 Try.underlying35 rfl (by kernel_rfl) rfl ?_)
  clear b10
  refine (H3.out w10 (HFW.out _ HF10.out)).mono ?_
  intro v w11 hp
  obtain ⟨A7, c7, g7, rfl, hO7, -, hf11⟩ := hp.at_len HLY.out
  have HF11 := hide (HF10.out.trans (hf11.weak _))
  have H_7 := hide (And.intro hO7 hf11)
  have b11 := HR.out w11 HF11.out
  clear hp hO7 hf11 HF10
  go_wp2_with (refine wpList_load_at rfl 35 _ rfl (w.heap.size + 1) 0 rfl 35 _ #[.int .i64 rid2, .int .i64 err2, .int .i64 num2, .int .u64 (co2 : Int), .slice SA sn sc, .string str2, .int .u32 (bits2 : Int), .int .i64 kr.num, .int .i64 kr.kind, .int .i64 kr.by_, .int .i64 kr.dl, .int .i64 kr.to_, .int .i64 kr.want, .int .u64 (kr.pr : Int), .int .u64 (kr.rs : Int), .int .u64 (kr.st : Int), .int .i64 kr.of_, .slice kr.A kr.n kr.c] (0, 0) _ b11 Try.underlying35 rfl (by kernel_rfl) rfl ?_)
  clear b11
  refine (H4.out w11 (HFW.out _ HF11.out)).mono ?_
  intro v w12 hp
  obtain ⟨A8, c8, g8, rfl, hO8, -, hf12⟩ := hp.at_len HLY.out
  have HF12 := hide (HF11.out.trans (hf12.weak _))
  have hf1112 := H_7.out.2
  have f812 := ((H_5.out.2.trans H_6.out.2).trans H_7.out.2).trans hf12
  have f912 := (H_6.out.2.trans H_7.out.2).trans hf12
  have f1012 := H_7.out.2.trans hf12
  have B1 := hide (bytes29_true w12 (frameB xs) A4 A2 c4 c2 L HL.out.symm (by omega) (HB.out.2.sl.below f812 (fun _ _ => id)) (HB.out.1.sl.below f812 (fun _ _ => id)))
  have B2 := hide (fun w' (hf : Fr (fun _ => False) w12 w') => bytes29_true w' X A6 A5 c6 c5 LX HLX.out.symm (by omega) (H_6.out.1.sl.below (f1012.trans hf) (fun _ _ => id)) (H_5.out.1.sl.below (f912.trans hf) (fun _ _ => id)))
  have B3 := hide (fun w' (hf : Fr (fun _ => False) w12 w') => bytes29_true w' Y A8 A7 c8 c7 LY HLY.out.symm (by omega) (hO8.sl.below hf (fun _ _ => id)) (H_7.out.1.sl.below (hf12.trans hf) (fun _ _ => id)))
  have k2 := fun w' => num29_any w' (ex : Int)
  have k3 := fun w' => num29_any w' (ey : Int)
  clear hp hO8 hf12 HF11 H_5 H_6 H_7 f812 f912 f1012 hf1112 HB
  go_wp2_with fail
  refine B1.out.mono ?_
  rintro v w13 ⟨rfl, hf13⟩
  go_wp2_with fail
  refine (B2.out _ hf13).mono ?_
  rintro v w14 ⟨rfl, hf14⟩
  go_wp2_with fail
  refine (k2 _).mono ?_
  rintro v w' ⟨rfl, rfl⟩
  go_wp2_with fail
  refine (B3.out _ (hf13.trans hf14)).mono ?_
  rintro v w15 ⟨rfl, hf15⟩
  go_wp2_with fail
  refine (k3 _).mono ?_
  rintro v w' ⟨rfl, rfl⟩
  go_wp2_with fail
  go_ret
  exact ⟨rfl, (HF0.out.trans (((HF12.out.trans (((hf13.trans hf14).trans hf15).weak _)).mono fun x hx e => by omega : Fr (fun _ => False) w0 _))).toBelow (Nat.le_refl _) (fun _ _ => id)⟩
end Go.Proofs.Ytlcjhbemgagchaa
