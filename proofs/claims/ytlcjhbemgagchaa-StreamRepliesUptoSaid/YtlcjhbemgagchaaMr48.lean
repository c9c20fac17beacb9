/-
  Texts merged into one, to keep the claim small: St3, Stc.
-/
import Derived.Test.YtlcjhbemgagchaaMr47
import Derived.Test.YtlcjhbemgagchaaMr46
section
/-
  StreamFrames: the walk, over Ask and Tell that are told. (printed by pr_frames.py)
-/
namespace Go.Proofs.Ytlcjhbemgagchaa
open Go.RowKit
set_option linter.unusedVariables false
theorem num29_any (w : World) (x : Int) : Calls Try.prog 13 #[.int .i64 x] w fun e w' => e = .returned (.int .i64 x) ∧ w = w' := by
  go_enter Try.func13, Try.ntmps13
  go_wp2
  go_ret
  exact ⟨rfl, rfl⟩
/-- What is answered, by the length of the bytes. -/
theorem PutPost.at_len {bs : List Nat} {er : Nat} {w : World} {e : Ending} {w' : World} (h : PutPost bs er w e w') {L : Nat} (hL : bs.length = L) :
    ∃ A c g, e = .returned (.tuple #[.slice A L c, .int .i64 (er : Int)]) ∧ Ow w' 5 1 A L c (bs.map bn) g ∧ (∀ b, g = some b → w.heap.size ≤ b) ∧ Fr (fun _ => False) w w' := by
  obtain ⟨A, n, c, g, he, hO, hg, hF⟩ := h
  have h1 := hO.1
  simp at h1
  obtain rfl : n = L := by omega
  exact ⟨A, c, g, he, hO, hg, hF⟩
theorem frameB_len (xs : List Nat) : (frameB xs).length ≤ 65539 := by
  unfold frameB
  split
  · simp; omega
  · simp
set_option maxHeartbeats 2000000 in
set_option maxRecDepth 100000 in
theorem frames_walk (w : World) (xs : List Nat) (A : Option Addr) (n c : Nat) (hn : n = xs.length) (hb : n ≤ 140737488351232) (hA : Sl w 1 A n (xs.map bn)) (q : KC) (r : RR) (X Y : List Nat) (ex ey : Nat) (hX : X.length ≤ 140737488350000) (hY : Y.length ≤ 140737488350000)
    (h1 : ∀ w1, Fr (fun _ => False) w w1 → Calls Try.prog 17 #[.agg #[.int .i64 q.id, .int .i64 q.kind, .string (strOf q.name), .int .i64 q.to_, .int .u64 (q.co : Int), .int .i64 q.item, .int .i64 q.num, .int .i64 q.of_, .int .i64 q.e.acc, .int .i64 q.e.item, .int .u64 (q.e.co : Int), .int .u64 (q.e.pr : Int), .slice q.e.A q.e.n q.e.c, .int .i64 q.k.num, .int .i64 q.k.kind, .int .i64 q.k.by_, .int .i64 q.k.dl, .int .i64 q.k.to_, .int .i64 q.k.want, .int .u64 (q.k.pr : Int), .int .u64 (q.k.rs : Int), .int .u64 (q.k.st : Int), .int .i64 q.k.of_, .slice q.k.A q.k.n q.k.c]] w1 (PutPost X ex w1))
    (h2 : ∀ w1, Fr (fun _ => False) w w1 → Calls Try.prog 18 #[.agg #[.int .i64 q.id, .int .i64 q.kind, .string (strOf q.name), .int .i64 q.to_, .int .u64 (q.co : Int), .int .i64 q.item, .int .i64 q.num, .int .i64 q.of_, .int .i64 q.e.acc, .int .i64 q.e.item, .int .u64 (q.e.co : Int), .int .u64 (q.e.pr : Int), .slice q.e.A q.e.n q.e.c, .int .i64 q.k.num, .int .i64 q.k.kind, .int .i64 q.k.by_, .int .i64 q.k.dl, .int .i64 q.k.to_, .int .i64 q.k.want, .int .u64 (q.k.pr : Int), .int .u64 (q.k.rs : Int), .int .u64 (q.k.st : Int), .int .i64 q.k.of_, .slice q.k.A q.k.n q.k.c]] w1 (PutPost X ex w1))
    (h3 : ∀ w1, Fr (fun _ => False) w w1 → Calls Try.prog 19 #[.agg #[.int .i64 r.id, .int .i64 r.err, .int .i64 r.num, .int .u64 (r.co : Int), .slice r.A r.n r.c, .string (strOf r.txt), .int .u32 (r.bits : Int), .int .i64 r.k.num, .int .i64 r.k.kind, .int .i64 r.k.by_, .int .i64 r.k.dl, .int .i64 r.k.to_, .int .i64 r.k.want, .int .u64 (r.k.pr : Int), .int .u64 (r.k.rs : Int), .int .u64 (r.k.st : Int), .int .i64 r.k.of_, .slice r.k.A r.k.n r.k.c]] w1 (PutPost Y ey w1))
    (h4 : ∀ w1, Fr (fun _ => False) w w1 → Calls Try.prog 20 #[.agg #[.int .i64 r.id, .int .i64 r.err, .int .i64 r.num, .int .u64 (r.co : Int), .slice r.A r.n r.c, .string (strOf r.txt), .int .u32 (r.bits : Int), .int .i64 r.k.num, .int .i64 r.k.kind, .int .i64 r.k.by_, .int .i64 r.k.dl, .int .i64 r.k.to_, .int .i64 r.k.want, .int .u64 (r.k.pr : Int), .int .u64 (r.k.rs : Int), .int .u64 (r.k.st : Int), .int .i64 r.k.of_, .slice r.k.A r.k.n r.k.c]] w1 (PutPost Y ey w1)) :
    Calls Try.prog 3 #[.slice A n c, .agg #[.int .i64 q.id, .int .i64 q.kind, .string (strOf q.name), .int .i64 q.to_, .int .u64 (q.co : Int), .int .i64 q.item, .int .i64 q.num, .int .i64 q.of_, .int .i64 q.e.acc, .int .i64 q.e.item, .int .u64 (q.e.co : Int), .int .u64 (q.e.pr : Int), .slice q.e.A q.e.n q.e.c, .int .i64 q.k.num, .int .i64 q.k.kind, .int .i64 q.k.by_, .int .i64 q.k.dl, .int .i64 q.k.to_, .int .i64 q.k.want, .int .u64 (q.k.pr : Int), .int .u64 (q.k.rs : Int), .int .u64 (q.k.st : Int), .int .i64 q.k.of_, .slice q.k.A q.k.n q.k.c], .agg #[.int .i64 r.id, .int .i64 r.err, .int .i64 r.num, .int .u64 (r.co : Int), .slice r.A r.n r.c, .string (strOf r.txt), .int .u32 (r.bits : Int), .int .i64 r.k.num, .int .i64 r.k.kind, .int .i64 r.k.by_, .int .i64 r.k.dl, .int .i64 r.k.to_, .int .i64 r.k.want, .int .u64 (r.k.pr : Int), .int .u64 (r.k.rs : Int), .int .u64 (r.k.st : Int), .int .i64 r.k.of_, .slice r.k.A r.k.n r.k.c]] w fun e w' => e = .returned (.bool true) ∧ Below w.heap.size w w' := by
  obtain ⟨rid, kind, name, to_, co, item, num, of_, e, k⟩ := q
  obtain ⟨rid2, err2, num2, co2, SA, sn, sc, items2, txt2, bits2, kr⟩ := r
  simp only at h1 h2 h3 h4 ⊢
  obtain ⟨str, hstr⟩ : ∃ str, strOf name = str := ⟨_, rfl⟩
  obtain ⟨str2, hstr2⟩ : ∃ str2, strOf txt2 = str2 := ⟨_, rfl⟩
  rw [hstr] at h1 h2 ⊢
  rw [hstr2] at h3 h4 ⊢
  clear hstr hstr2
  have H1 := hide h1
  have H2 := hide h2
  have H3 := hide h3
  have H4 := hide h4
  obtain ⟨w0, hw0⟩ : ∃ w0, (w.alloc (.cells #[.int .i64 rid, .int .i64 kind, .string str, .int .i64 to_, .int .u64 (co : Int), .int .i64 item, .int .i64 num, .int .i64 of_, .int .i64 e.acc, .int .i64 e.item, .int .u64 (e.co : Int), .int .u64 (e.pr : Int), .slice e.A e.n e.c, .int .i64 k.num, .int .i64 k.kind, .int .i64 k.by_, .int .i64 k.dl, .int .i64 k.to_, .int .i64 k.want, .int .u64 (k.pr : Int), .int .u64 (k.rs : Int), .int .u64 (k.st : Int), .int .i64 k.of_, .slice k.A k.n k.c] 31)).alloc (.cells #[.int .i64 rid2, .int .i64 err2, .int .i64 num2, .int .u64 (co2 : Int), .slice SA sn sc, .string str2, .int .u32 (bits2 : Int), .int .i64 kr.num, .int .i64 kr.kind, .int .i64 kr.by_, .int .i64 kr.dl, .int .i64 kr.to_, .int .i64 kr.want, .int .u64 (kr.pr : Int), .int .u64 (kr.rs : Int), .int .u64 (kr.st : Int), .int .i64 kr.of_, .slice kr.A kr.n kr.c] 35) = w0 := ⟨_, rfl⟩
  have hF0 : Fr (fun _ => False) w w0 := by rw [← hw0]; exact ((Fr.refl _ _).alloc _).alloc _
  have hC : Bl w0 w.heap.size 31 #[.int .i64 rid, .int .i64 kind, .string str, .int .i64 to_, .int .u64 (co : Int), .int .i64 item, .int .i64 num, .int .i64 of_, .int .i64 e.acc, .int .i64 e.item, .int .u64 (e.co : Int), .int .u64 (e.pr : Int), .slice e.A e.n e.c, .int .i64 k.num, .int .i64 k.kind, .int .i64 k.by_, .int .i64 k.dl, .int .i64 k.to_, .int .i64 k.want, .int .u64 (k.pr : Int), .int .u64 (k.rs : Int), .int .u64 (k.st : Int), .int .i64 k.of_, .slice k.A k.n k.c] := by rw [← hw0]; exact (Bl.new _ _ _).alloc _
  have hR : Bl w0 (w.heap.size + 1) 35 #[.int .i64 rid2, .int .i64 err2, .int .i64 num2, .int .u64 (co2 : Int), .slice SA sn sc, .string str2, .int .u32 (bits2 : Int), .int .i64 kr.num, .int .i64 kr.kind, .int .i64 kr.by_, .int .i64 kr.dl, .int .i64 kr.to_, .int .i64 kr.want, .int .u64 (kr.pr : Int), .int .u64 (kr.rs : Int), .int .u64 (kr.st : Int), .int .i64 kr.of_, .slice kr.A kr.n kr.c] := by rw [← hw0]; exact Bl.newAt (by simp)
  have hs0 : w0.heap.size = w.heap.size + 2 := by rw [← hw0]; simp
  have HC : Hid (∀ w', Fr (fun x => w0.heap.size ≤ x) w0 w' → w'.heap[w.heap.size]? = some (.cells #[.int .i64 rid, .int .i64 kind, .string str, .int .i64 to_, .int .u64 (co : Int), .int .i64 item, .int .i64 num, .int .i64 of_, .int .i64 e.acc, .int .i64 e.item, .int .u64 (e.co : Int), .int .u64 (e.pr : Int), .slice e.A e.n e.c, .int .i64 k.num, .int .i64 k.kind, .int .i64 k.by_, .int .i64 k.dl, .int .i64 k.to_, .int .i64 k.want, .int .u64 (k.pr : Int), .int .u64 (k.rs : Int), .int .u64 (k.st : Int), .int .i64 k.of_, .slice k.A k.n k.c] 31 (0, 0))) := fun w' hf => hC.fr hf (by omega)
  have HR : Hid (∀ w', Fr (fun x => w0.heap.size ≤ x) w0 w' → w'.heap[w.heap.size + 1]? = some (.cells #[.int .i64 rid2, .int .i64 err2, .int .i64 num2, .int .u64 (co2 : Int), .slice SA sn sc, .string str2, .int .u32 (bits2 : Int), .int .i64 kr.num, .int .i64 kr.kind, .int .i64 kr.by_, .int .i64 kr.dl, .int .i64 kr.to_, .int .i64 kr.want, .int .u64 (kr.pr : Int), .int .u64 (kr.rs : Int), .int .u64 (kr.st : Int), .int .i64 kr.of_, .slice kr.A kr.n kr.c] 35 (0, 0))) := fun w' hf => hR.fr hf (by omega)
  have HF0 := hide hF0
  have HA := hide (hA.below hF0 (fun _ _ => id))
  obtain ⟨L, hL⟩ : ∃ L, (frameB xs).length = L := ⟨_, rfl⟩
  obtain ⟨LX, hLX⟩ : ∃ L, X.length = L := ⟨_, rfl⟩
  obtain ⟨LY, hLY⟩ : ∃ L, Y.length = L := ⟨_, rfl⟩
  have hL9 := frameB_len xs
  rw [hL] at hL9
  rw [hLX] at hX
  rw [hLY] at hY
  have HL := hide hL
  have HLX := hide hLX
  have HLY := hide hLY
  have Hn := hide hn
  obtain ⟨er, her⟩ : ∃ er, frameE xs = er := ⟨_, rfl⟩
  have Her := hide her
  clear hA hF0 hC hR h1 h2 h3 h4 hL hLX hLY hn her
  go_enter Try.func3, Try.ntmps3
  go_wp2_with fail
  (try rw [hw0])
  clear hw0
  refine (lent29_any w0 xs A n c (by omega) HA.out).mono ?_
  rintro v w1 ⟨A1, c1, g1, rfl, hO1, hg1, hf1⟩
  have hA1 : Sl w1 1 A n (xs.map bn) := HA.out.below hf1 (fun _ _ => id)
  have hS1 : ∀ w', Fr (fun _ => False) w1 w' → Sl w' 1 A1 n (xs.map bn) := fun w' hf => by
    have := ((Ow.fr hO1 hf (fun _ _ => id)).take (k := n) (by omega)).sl
    rwa [Nat.mul_one, List.map_append, List.take_left' (by simp [Hn.out])] at this
  have HS1 := hide hS1
  have H_1 := hide (And.intro hO1 hf1)
  clear hO1 hf1 hS1
  go_wp2_with fail
  have kr1 := rframe_any w1 xs A n c Hn.out (by omega) hA1
  clear hA1
  refine kr1.mono ?_
  intro v w2 hp
  obtain ⟨A2, c2, g2, rfl, hO2, hg2, hf2⟩ := hp.at_len HL.out
  rw [Her.out]
  have H_2 := hide (And.intro hO2 hf2)
  clear hO2 hp kr1
  go_wp2_with fail
  refine (frame_any w2 xs A1 n c1 Hn.out (by omega) (HS1.out w2 hf2)).mono ?_
  intro v w3 hp
  obtain ⟨A3, c3, g3, rfl, hO3, hg3, hf3⟩ := hp.at_len HL.out
  rw [Her.out]
  have H_3 := hide (And.intro hO3 hf3)
  clear hO3 hp
  go_wp2_with fail
  refine (frame_any w3 xs A1 n c1 Hn.out (by omega) (HS1.out w3 (hf2.trans hf3))).mono ?_
  intro v w4 hp
  obtain ⟨A4, c4, g4, rfl, hO4, hg4, hf4⟩ := hp.at_len HL.out
  rw [Her.out]
  have hO3 := H_3.out.1.fr hf4 (fun _ _ => id)
  have hO2 := (H_2.out.1.fr hf3 (fun _ _ => id)).fr hf4 (fun _ _ => id)
  have hf14 := (hf2.trans hf3).trans hf4
  have hO1 : Lent29 w4 A1 n c1 xs g1 := Ow.fr H_1.out.1 hf14 (fun _ _ => id)
  have hf04 := H_1.out.2.trans hf14
  have hA4 := HA.out.below hf04 (fun _ _ => id)
  have k1 := fun w' => num29_any w' (er : Int)
  have B1 := hide (fun w' (hf : Fr (fun _ => False) w4 w') => bytes29_true w' (frameB xs) A3 A2 c3 c2 L HL.out.symm (by omega) (hO3.sl.below hf (fun _ _ => id)) (hO2.sl.below hf (fun _ _ => id)))
  have B2 := hide (fun w' (hf : Fr (fun _ => False) w4 w') => bytes29_true w' (frameB xs) A4 A2 c4 c2 L HL.out.symm (by omega) (hO4.sl.below hf (fun _ _ => id)) (hO2.sl.below hf (fun _ _ => id)))
  have B3 := hide (fun w' (hf : Fr (fun _ => False) w4 w') => kept29_true w' xs A1 A n c1 c g1 (by omega) Hn.out (Ow.fr hO1 hf (fun _ _ => id)) (hA4.below hf (fun _ _ => id)))
  have hz4 := hf04.size
  have hg34 : ∀ b b', g3 = some b → g4 = some b' → b ≠ b' := fun b b' e1 e2 e => by have := H_3.out.1.lt b e1; have := hg4 b' e2; omega
  have hg32 : ∀ b b', g3 = some b → g2 = some b' → b ≠ b' := fun b b' e1 e2 e => by have := H_2.out.1.lt b' e2; have := hg3 b e1; omega
  have hg30 : ∀ b, g3 = some b → w0.heap.size ≤ b := fun b e1 => by have := hg3 b e1; have := (H_1.out.2.trans hf2).size; omega
  have HX := hide (And.intro hO2 (And.intro hO3 (And.intro hO4 (And.intro hf04 (And.intro hg34 (And.intro hg32 hg30))))))
  clear hO1 hO2 hO3 hO4 hf04 hA4 hz4 hg34 hg32 hg30 H_1 H_2 H_3 hf2 hf3 hf4 hf14 HS1 hg1 hg2 hg3 hg4 hp
  go_wp2_with fail
  refine (k1 _).mono ?_
  rintro v w' ⟨rfl, rfl⟩
  go_wp2_with fail
  refine (k1 _).mono ?_
  rintro v w' ⟨rfl, rfl⟩
  go_wp2_with fail
  refine (B1.out _ (Fr.refl _ _)).mono ?_
  rintro v w5 ⟨rfl, hf5⟩
  go_wp2_with fail
  refine (B2.out _ hf5).mono ?_
  rintro v w6 ⟨rfl, hf6⟩
  go_wp2_with fail
  refine (B3.out _ (hf5.trans hf6)).mono ?_
  rintro v w7 ⟨rfl, hf7⟩
  obtain ⟨hO2, hO3, hO4, hf04, hg34, hg32, hg30⟩ := HX.out
  have hf47 := (hf5.trans hf6).trans hf7
  have ko := over29_any w7 (frameB xs) A3 L c3 g3 (hO3.fr hf47 (fun _ _ => id)) (by omega)
  have HX2 := hide (And.intro (hO2.fr hf47 (fun _ _ => id)) (And.intro (hO4.fr hf47 (fun _ _ => id)) (hf04.trans hf47)))
  clear hO2 hO3 hO4 hf04 hf47 hf5 hf6 hf7 B1 B2 B3 HX
  go_wp2_with fail
  refine ko.mono ?_
  rintro v w8 ⟨rfl, hf8⟩
  obtain ⟨hO2, hO4, hf07⟩ := HX2.out
  have hO2 := hO2.fr hf8 (fun b e1 e2 => hg32 b b e2.symm e1 rfl)
  have hO4 := hO4.fr hf8 (fun b e1 e2 => hg34 b b e2.symm e1 rfl)
  have hf08 : Fr (fun x => w0.heap.size ≤ x) w0 w8 := (hf07.weak _).trans (hf8.mono fun x _ e => hg30 x e.symm)
  have HB := hide (And.intro hO2 hO4)
  have hfw : ∀ w', Fr (fun x => w0.heap.size ≤ x) w0 w' → Fr (fun _ => False) w w' := fun w' h => HF0.out.trans (h.mono fun x hx e => by omega)
  have HFW := hide hfw
  have HF8 := hide hf08
  clear hO2 hO4 hf07 hf8 ko HX2 hg34 hg32 hg30 hfw
  have b8 := HC.out w8 HF8.out
  go_wp2_with (refine wpList_load_at rfl 31 _ rfl w.heap.size 0 rfl 31 _ #[.int .i64 rid, .int .i64 kind, .string str, .int .i64 to_, .int .u64 (co : Int), .int .i64 item, .int .i64 num, .int .i64 of_, .int .i64 e.acc, .int .i64 e.item, .int .u64 (e.co : Int), .int .u64 (e.pr : Int), .slice e.A e.n e.c, .int .i64 k.num, .int .i64 k.kind, .int .i64 k.by_, .int .i64 k.dl, .int .i64 k.to_, .int .i64 k.want, .int .u64 (k.pr : Int), .int .u64 (k.rs : Int), .int .u64 (k.st : Int), .int .i64 k.of_, .slice k.A k.n k.c] (0, 0) _ b8 Try.underlying31 rfl (by kernel_rfl) rfl ?_)
  clear b8
  refine (H1.out w8 (HFW.out _ HF8.out)).mono ?_
  intro v w9 hp
  obtain ⟨A5, c5, g5, rfl, hO5, -, hf9⟩ := hp.at_len HLX.out
  have HF9 := hide (HF8.out.trans (hf9.weak _))
  have H_5 := hide (And.intro hO5 hf9)
  have b9 := HC.out w9 HF9.out
  clear hp hO5 hf9 HF8 hf08
  go_wp2_with (refine wpList_load_at rfl 31 _ rfl w.heap.size 0 rfl 31 _ #[.int .i64 rid, .int .i64 kind, .string str, .int .i64 to_, .int .u64 (co : Int), .int .i64 item, .int .i64 num, .int .i64 of_, .int .i64 e.acc, .int .i64 e.item, .int .u64 (e.co : Int), .int .u64 (e.pr : Int), .slice e.A e.n e.c, .int .i64 k.num, .int .i64 k.kind, .int .i64 k.by_, .int .i64 k.dl, .int .i64 k.to_, .int .i64 k.want, .int .u64 (k.pr : Int), .int .u64 (k.rs : Int), .int .u64 (k.st : Int), .int .i64 k.of_, .slice k.A k.n k.c] (0, 0) _ b9 Try.underlying31 rfl (by kernel_rfl) rfl ?_)
  clear b9
  refine (H2.out w9 (HFW.out _ HF9.out)).mono ?_
  intro v w10 hp
  obtain ⟨A6, c6, g6, rfl, hO6, -, hf10⟩ := hp.at_len HLX.out
  have HF10 := hide (HF9.out.trans (hf10.weak _))
  have H_6 := hide (And.intro hO6 hf10)
  have b10 := HR.out w10 HF10.out
  clear hp hO6 hf10 HF9
  go_wp2_with (refine wpList_load_at rfl 35 _ rfl (w.heap.size + 1) 0 rfl 35 _ #[.int .i64 rid2, .int .i64 err2, .int .i64 num2, .int .u64 (co2 : Int), .slice SA sn sc, .string str2, .int .u32 (bits2 : Int), .int .i64 kr.num, .int .i64 kr.kind, .int .i64 kr.by_, .int .i64 kr.dl, .int .i64 kr.to_, .int .i64 kr.want, .int .u64 (kr.pr : Int), .int .u64 (kr.rs : Int), .int .u64 (kr.st : Int), .int .i64 kr.of_, .slice kr.A kr.n kr.c] (0, 0) _ b10 Try.underlying35 rfl (by kernel_rfl) rfl ?_)
  clear b10
  refine (H3.out w10 (HFW.out _ HF10.out)).mono ?_
  intro v w11 hp
  obtain ⟨A7, c7, g7, rfl, hO7, -, hf11⟩ := hp.at_len HLY.out
  have HF11 := hide (HF10.out.trans (hf11.weak _))
  have H_7 := hide (And.intro hO7 hf11)
  have b11 := HR.out w11 HF11.out
  clear hp hO7 hf11 HF10
  go_wp2_with (refine wpList_load_at rfl 35 _ rfl (w.heap.size + 1) 0 rfl 35 _ #[.int .i64 rid2, .int .i64 err2, .int .i64 num2, .int .u64 (co2 : Int), .slice SA sn sc, .string str2, .int .u32 (bits2 : Int), .int .i64 kr.num, .int .i64 kr.kind, .int .i64 kr.by_, .int .i64 kr.dl, .int .i64 kr.to_, .int .i64 kr.want, .int .u64 (kr.pr : Int), .int .u64 (kr.rs : Int), .int .u64 (kr.st : Int), .int .i64 kr.of_, .slice kr.A kr.n kr.c] (0, 0) _ b11 Try.underlying35 rfl (by kernel_rfl) rfl ?_)
  clear b11
  refine (H4.out w11 (HFW.out _ HF11.out)).mono ?_
  intro v w12 hp
  obtain ⟨A8, c8, g8, rfl, hO8, -, hf12⟩ := hp.at_len HLY.out
  have HF12 := hide (HF11.out.trans (hf12.weak _))
  have hf1112 := H_7.out.2
  have f812 := ((H_5.out.2.trans H_6.out.2).trans H_7.out.2).trans hf12
  have f912 := (H_6.out.2.trans H_7.out.2).trans hf12
  have f1012 := H_7.out.2.trans hf12
  have B1 := hide (bytes29_true w12 (frameB xs) A4 A2 c4 c2 L HL.out.symm (by omega) (HB.out.2.sl.below f812 (fun _ _ => id)) (HB.out.1.sl.below f812 (fun _ _ => id)))
  have B2 := hide (fun w' (hf : Fr (fun _ => False) w12 w') => bytes29_true w' X A6 A5 c6 c5 LX HLX.out.symm (by omega) (H_6.out.1.sl.below (f1012.trans hf) (fun _ _ => id)) (H_5.out.1.sl.below (f912.trans hf) (fun _ _ => id)))
  have B3 := hide (fun w' (hf : Fr (fun _ => False) w12 w') => bytes29_true w' Y A8 A7 c8 c7 LY HLY.out.symm (by omega) (hO8.sl.below hf (fun _ _ => id)) (H_7.out.1.sl.below (hf12.trans hf) (fun _ _ => id)))
  have k2 := fun w' => num29_any w' (ex : Int)
  have k3 := fun w' => num29_any w' (ey : Int)
  clear hp hO8 hf12 HF11 H_5 H_6 H_7 f812 f912 f1012 hf1112 HB
  go_wp2_with fail
  refine B1.out.mono ?_
  rintro v w13 ⟨rfl, hf13⟩
  go_wp2_with fail
  refine (B2.out _ hf13).mono ?_
  rintro v w14 ⟨rfl, hf14⟩
  go_wp2_with fail
  refine (k2 _).mono ?_
  rintro v w' ⟨rfl, rfl⟩
  go_wp2_with fail
  refine (B3.out _ (hf13.trans hf14)).mono ?_
  rintro v w15 ⟨rfl, hf15⟩
  go_wp2_with fail
  refine (k3 _).mono ?_
  rintro v w' ⟨rfl, rfl⟩
  go_wp2_with fail
  go_ret
  exact ⟨rfl, (HF0.out.trans (((HF12.out.trans (((hf13.trans hf14).trans hf15).weak _)).mono fun x hx e => by omega : Fr (fun _ => False) w0 _))).toBelow (Nat.le_refl _) (fun _ _ => id)⟩
end Go.Proofs.Ytlcjhbemgagchaa
end

section
/-
  StreamReplies: the walk.
-/
namespace Go.Proofs.Ytlcjhbemgagchaa
open Go.RowKit
set_option linter.unusedVariables false
theorem run_storeAt_int {w : World} {a : Addr} {u : Value} {v : Int} (hc : w.cell? a = some u) (hz : w.frozen? a = false) : (Instr.storeAt 3 (.pointer (some a)) (.int .i64 v)).run Try.prog w = .ok () (w.setCell a (.int .i64 v)) := by
  simp [go_sem, hc, hz]
set_option maxHeartbeats 2000000 in
set_option maxRecDepth 100000 in
attribute [-go_sem] Go.Instr.storeAt in
theorem replies_walk (w : World) (xs : List Nat) (A : Option Addr) (n c : Nat) (hn : n = xs.length) (hb : n ≤ 2097152) (hc : n ≤ c) (hc2 : c ≤ maxLen) (h256 : ∀ x ∈ xs, x < 256) (hA : Sl w 1 A n (xs.map bn)) :
    Calls Try.prog 4 #[.slice A n c] w fun e w' => e = .returned (.bool true) ∧ Below w.heap.size w w' := by
  have HA := hide hA
  have Hn := hide hn
  have H256 := hide h256
  clear hA hn h256
  go_enter Try.func4, Try.ntmps4
  go_wp2_with fail
  refine (lent29_any w xs A n c (by omega) HA.out).mono ?_
  rintro v w1 ⟨A1, c1, g1, rfl, hO1, hg1, hf1⟩
  have hcap := hO1.cap
  have hS1 : ∀ w', Fr (fun _ => False) w1 w' → Sl w' 1 A1 n (xs.map bn) := fun w' hf => by
    have := ((Ow.fr hO1 hf (fun _ _ => id)).take (k := n) (by omega)).sl
    rwa [Nat.mul_one, List.map_append, List.take_left' (by simp [Hn.out])] at this
  have hr0 := rreplies_any w1 xs 0 0 A n c Hn.out hb hc hc2 H256.out (HA.out.below hf1 (fun _ _ => id))
  have HS1 := hide hS1
  have HX1 := hide (And.intro hO1 (And.intro hg1 hf1))
  clear hO1 hg1 hf1 hS1
  go_wp2_with fail
  refine hr0.mono ?_
  rintro v w2 ⟨l0, u0, er0, B0, m0, d0, g0, rfl, hR0, hP0, hf2⟩
  have hp1 := replies_any w2 xs 0 0 A1 n c1 Hn.out hb (by omega) hcap.2 H256.out (HS1.out w2 hf2)
  have HX2 := hide (And.intro hR0 (And.intro hP0 hf2))
  clear hR0 hP0 hr0
  go_wp2_with fail
  refine hp1.mono ?_
  rintro v w3 ⟨l1, u1, er1, B1, m1, d1, g2, rfl, hR1, hP1, hf3⟩
  have hp2 := replies_any w3 xs 0 0 A1 n c1 Hn.out hb (by omega) hcap.2 H256.out (HS1.out w3 (hf2.trans hf3))
  have HX3 := hide (And.intro hR1 (And.intro hP1 hf3))
  clear hR1 hP1 hp1 hf2 hf3
  go_wp2_with fail
  refine hp2.mono ?_
  rintro v w4 ⟨l2, u2, er2, B2, m2, d2, g3, rfl, hR2, hP2, hf4⟩
  obtain ⟨hR0, hP0, hf2⟩ := HX2.out
  obtain ⟨hR1, hP1, hf3⟩ := HX3.out
  obtain ⟨e1, e2, hl1⟩ := hR1.same hR0
  obtain ⟨e3, e4, hl2⟩ := hR2.same hR0
  subst e1 e2
  obtain rfl : u1 = u2 := e3.symm
  obtain rfl : er1 = er2 := e4.symm
  have q1 := hl1.len
  have q2 := hl2.len
  have q3 := hP0.len
  have q4 := hP1.len
  have q5 := hP2.len
  obtain rfl : m1 = m0 := by omega
  obtain rfl : m2 = m1 := by omega
  have hml : m2 ≤ 2097152 := by
    have h1 := hR0.bound
    have h2 := Hn.out
    omega
  have n1 := fun w' => num29_any w' (er1 : Int)
  have hO1 := HX1.out.1
  have f24 := hf3.trans hf4
  have f14 := hf2.trans f24
  have Y1 := hide (fun w' (hf : Fr (fun _ => False) w4 w') => repliesLike_any w' w2 w1 l1 l0 hl1 B1 B0 m2 d1 d0 g2 g0 (by omega) ((hP1.quiet hf4).quiet hf).pr ((hP0.quiet f24).quiet hf))
  have Y2 := hide (fun w' (hf : Fr (fun _ => False) w4 w') => repliesLike_any w' w3 w1 l2 l0 hl2 B2 B0 m2 d2 d0 g3 g0 (by omega) (hP2.quiet hf).pr ((hP0.quiet f24).quiet hf))
  have Y3 := hide (fun w' (hf : Fr (fun _ => False) w4 w') => kept29_true w' xs A1 A n c1 c g1 (by omega) Hn.out (Ow.fr hO1 (f14.trans hf) (fun _ _ => id)) (HA.out.below ((HX1.out.2.2.trans f14).trans hf) (fun _ _ => id)))
  have HY := hide (And.intro hP0 (And.intro hP1 (And.intro hP2 (And.intro hf2 (And.intro hf3 hf4)))))
  have HL2 := hide hl2
  clear hR0 hR1 hR2 hl1 hl2 e3 e4 q1 q2 q3 q4 q5 hP0 hP1 hP2 hf2 hf3 hf4 f24 f14 hO1 HX2 HX3 hp2 hcap
  go_wp2_with fail
  refine (n1 _).mono ?_
  rintro v w' ⟨rfl, rfl⟩
  go_wp2_with fail
  refine (n1 _).mono ?_
  rintro v w' ⟨rfl, rfl⟩
  go_wp2_with fail
  refine (Y1.out _ (Fr.refl _ _)).mono ?_
  rintro v w5 ⟨rfl, hf5⟩
  go_wp2_with fail
  refine (Y2.out _ hf5).mono ?_
  rintro v w6 ⟨rfl, hf6⟩
  go_wp2_with fail
  refine (Y3.out _ (hf5.trans hf6)).mono ?_
  rintro v w7 ⟨rfl, hf7⟩
  have f47 := (hf5.trans hf6).trans hf7
  have f17 : Fr (fun _ => False) w1 w7 := ((HY.out.2.2.2.1.trans HY.out.2.2.2.2.1).trans HY.out.2.2.2.2.2).trans f47
  have hO7 : Ow w7 5 1 A1 n c1 (xs.map bn) (some g1) := by
    have := (Ow.fr HX1.out.1 f17 (fun _ _ => id)).take (k := n) (by omega)
    rwa [Nat.mul_one, List.map_append, List.take_left' (by simp [Hn.out])] at this
  have ko := over29_any w7 xs A1 n c1 (some g1) hO7 (by omega)
  have H47 := hide f47
  have HO7 := hide hO7
  clear hf5 hf6 hf7 f47 f17 hO7 Y1 Y2 Y3 n1
  go_wp2_with fail
  refine ko.mono ?_
  rintro v w8 ⟨rfl, hf8⟩
  obtain ⟨hP0, hP1, hP2, hf2, hf3, hf4⟩ := HY.out
  have hg1w : g1 < w2.heap.size := Nat.lt_of_lt_of_le (HX1.out.1.lt g1 rfl) hf2.size
  have hP28 : Rps w3 w8 l2 B2 m2 d2 g3 := (hP2.quiet H47.out).low (hf8.mono fun x _ e => e) (fun x e => by cases e; exact Nat.lt_of_lt_of_le hg1w hf3.size)
  have hP18 : Rps w2 w8 l1 B1 m2 d1 g2 := (hP1.quiet (hf4.trans H47.out)).low hf8 (fun x e => by cases e; exact hg1w)
  have hLS := LS.start hP1 hP18 (Nat.le_trans (Nat.le_trans hf4.size H47.out.size) hf8.size)
  have hty : Typed w2 g1 5 := by
    obtain ⟨cs, hc⟩ := (Ow.fr HX1.out.1 hf2 (fun _ _ => id)).typed g1 rfl
    exact ⟨cs, hc⟩
  have hF28 : Fr (fun x => x = g1) w2 w8 := (((hf3.trans hf4).trans H47.out).weak _).trans (hf8.mono fun x _ e => by cases e; rfl)
  have hF18 : Fr (fun x => x = g1) w w8 := ((HX1.out.2.2.trans hf2).weak _).trans hF28
  have HLS := hide hLS
  have HZ := hide (And.intro hP0 (And.intro hP28 (And.intro hF28 (And.intro hF18 (And.intro hty (And.intro HX1.out.2.1 (And.intro hg1w (HX1.out.2.2.trans hf2).size)))))))
  clear hP0 hP1 hP2 hf2 hf3 hf4 hP28 hP18 hLS hty hF28 hF18 hf8 HX1 HY ko hg1w
  go_wp2_with fail
  go_loopw [13] (fun v wr => ∃ i : Nat, v = .int .i64 (i : Int) ∧ i ≤ m2 ∧ Hid (LS w2 w3 w8 l1 B1 m2 d1 g2 i i wr)) (fun v _ => m2 - (intOf v).toNat)
  case atStart => exact ⟨0, rfl, Nat.zero_le _, HLS.out⟩
  case round =>
    obtain ⟨i, rfl, hi, hS⟩ := hrel
    clear HLS
    by_cases hlt : i < m2
    · obtain ⟨q, hq⟩ : ∃ q, l1[i]? = some q := ⟨_, List.getElem?_eq_getElem (by have := hS.out.len; omega)⟩
      obtain ⟨gq, hOq, hgq⟩ := hS.out.it i q hq (Nat.le_refl _)
      obtain ⟨b, o, rfl⟩ : ∃ b o, B1 = some ⟨b, o, none⟩ := by
        obtain ⟨l', h1, -, h3⟩ := hS.out.ow
        obtain ⟨b, o, hB, -⟩ := h3.sl.2 (by omega)
        exact ⟨b, o, hB⟩
      have hS1 : LS w2 w3 w8 l1 (some ⟨b, o, none⟩) m2 d1 g2 i (i + 1) wr := ⟨hS.out.len, hS.out.nl, hS.out.ow, fun j p hp hj => hS.out.it j p hp (by omega), hS.out.ap, hS.out.gl, hS.out.fr⟩
      have HS1 := hide hS1
      have HQ := hide hOq
      have Hgq := hide hgq
      have Hq := hide hq
      have hqn : q.n ≤ 1048576 := hS.out.nl q (List.mem_of_getElem? hq)
      obtain ⟨wo, rfl⟩ : ∃ z, z = wr := ⟨_, rfl⟩
      have j0 : (0 : Int) ≤ (i : Int) := by omega
      have j1 : (i : Int) < (m2 : Int) := by omega
      clear hS hOq hgq hS1 hq
      go_wp2_with fail
      go_loopw [14] (fun v wr => ∃ (k : Nat) (ys : List Int), v = .int .i64 (k : Int) ∧ k ≤ q.n ∧ Hid (LS w2 w3 w8 l1 (some ⟨b, o, none⟩) m2 d1 g2 i (i + 1) wr) ∧ Hid (Ow wr 3 1 q.A q.n q.c (ys.map iv) gq)) (fun v _ => q.n - (intOf v).toNat)
      case atStart => exact ⟨0, q.items, rfl, Nat.zero_le _, HS1.out, HQ.out⟩
      case round =>
        obtain ⟨k, ys, rfl, hk, hS, hO⟩ := hrel
        clear HS1 HQ
        have hcell := hS.out.items Hq.out
        by_cases hkl : k < q.n
        · obtain ⟨u, hu⟩ : ∃ u, (ys.map iv)[k]? = some u := ⟨_, List.getElem?_eq_getElem (by have := hO.out.1; simp at this; rw [List.length_map]; omega)⟩
          obtain ⟨x, p, hqA, hgx, hcx, hzx⟩ := hO.out.look hu
          have hput := hS.out.put Hq.out hqA (hgx ▸ hO.out) hkl (Hgq.out x hgx) (-5)
          have HP := hide hput
          have Hgx := hide hgx
          rw [hqA] at hcell
          have hsx : (Instr.storeAt 3 (.pointer (some ⟨x, p + k, none⟩)) (.int .i64 (-5))).run Try.prog wr = .ok () (wr.setCell ⟨x, p + k, none⟩ (.int .i64 (-5))) := run_storeAt_int hcx hzx
          have k1 : (0 : Int) ≤ (k : Int) := by omega
          have k2 : (k : Int) < (q.n : Int) := by omega
          clear hS hO hu hput hgx hqA
          go_wp2_with fail
          exact ⟨⟨k + 1, ys.set k (-5), by go_num, by omega, HP.out.1, by show Ow _ _ _ _ _ _ _ gq; rw [Hgx.out]; exact HP.out.2⟩, by simp [intOf]; omega⟩
        · obtain ⟨w9, hst, hS9⟩ := hS.out.over hlt
          have HS9 := hide hS9
          have hst' : (Instr.storeAt tRpl (.pointer (some ⟨b, o + i * 18, none⟩)) (.agg #[.int .i64 (-6), .int .i64 0, .int .i64 0, .int .u64 0, .slice none 0 0, .string ⟨#[]⟩, .int .u32 0, .int .i64 0, .int .i64 0, .int .i64 0, .int .i64 0, .int .i64 0, .int .i64 0, .int .u64 0, .int .u64 0, .int .u64 0, .int .i64 0, .slice none 0 0])).run Try.prog wr = .ok () w9 := hst
          clear hS hO hst hS9
          go_wp2_with fail
          exact ⟨⟨i + 1, by go_num, by omega, HS9⟩, by simp [intOf]; omega⟩
    · obtain rfl : i = m2 := by omega
      obtain ⟨hP0, hP28, hF28, hF18, hty, hg1, hg1w, hs2⟩ := HZ.out
      have hfr := hS.out.fr
      have hP2r : Rps w3 wr l2 B2 i d2 g3 := hP28.low hfr (fun x h => h.2)
      have hP0r : Rpr w1 wr l0 B0 i d0 g0 := hP0.keep (S := fun x => x = g1 ∨ w2.heap.size ≤ x) ((hF28.mono fun x _ e => .inl e).trans (hfr.mono fun x _ e => .inr e.1)) (fun x e => e.imp (fun e => by rw [e]; exact hty) id)
      have hY := repliesLike_any wr w3 w1 l2 l0 HL2.out B2 B0 i d2 d0 g3 g0 (by omega) hP2r.pr hP0r
      have HF : Hid (Fr (fun x => w.heap.size ≤ x) w wr) := (hF18.mono fun x _ e => by omega).trans (hfr.mono fun x _ e => by omega)
      clear hP0 hP28 hF28 hF18 hty hg1 hg1w hs2 hfr hP2r hP0r hS
      go_wp2_with fail
      refine hY.mono ?_
      rintro v w9 ⟨rfl, hf9⟩
      go_wp2_with fail
      go_ret
      exact ⟨rfl, (HF.out.trans (hf9.weak _)).toBelow (Nat.le_refl _) (fun k hk h => by omega)⟩
#print axioms replies_walk
end Go.Proofs.Ytlcjhbemgagchaa
end
