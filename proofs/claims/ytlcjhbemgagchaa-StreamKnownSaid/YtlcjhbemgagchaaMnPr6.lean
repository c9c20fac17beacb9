/-
  Texts merged into one, to keep the claim small: Pr6.
-/
import Derived.Test.YtlcjhbemgagchaaMc21
import Derived.Test.YtlcjhbemgagchaaMc27
/-
  proto: writeEntry, writeContract, EncodeReply. (printed by pr_write.py)
-/
namespace Go.Proofs.Ytlcjhbemgagchaa
open Go.RowKit
set_option linter.unusedVariables false
set_option linter.unusedSimpArgs false
theorem OOut.bl {p : Nat} {s : WS} {w w1 : World} (h : OOut tWr (wat p) s w w1) {b : Nat} {t : TypeId} {cs : Array Value} (hb : Bl w b t cs) (hne : b ≠ p) : Bl w1 b t cs := by
  obtain ⟨_, _, _, _, hf⟩ := h
  exact hb.fr hf fun e => hne (wat_foot e)
theorem OOut.fr0 {p : Nat} {s : WS} {W w w1 : World} (h : OOut tWr (wat p) s w w1) (hf0 : Fr (fun _ => False) W w) (hp : W.heap.size ≤ p) : Fr (fun _ => False) W w1 := by
  obtain ⟨_, _, _, _, hf⟩ := h
  exact hf0.comp hf fun x hx e => by have := wat_foot e; omega
theorem rec_puts {l k : List Fd} {t : Int} (ha : Asc 0 l) (hl : (putAll (live l)).length ≤ 1048576) (hb : Asc 0 k) (hk : (putAll (live k)).length ≤ 1048576) : (WS.fresh.puts l).record t (WS.fresh.puts k) = WS.fresh.puts (l ++ [(t, putAll (live k))]) := by
  have h1 := puts_fresh ha hl
  have h2 := puts_fresh hb hk
  unfold WS.record
  rw [if_neg (by rw [h1.2]; simp), if_neg (by rw [h2.2]; simp), h2.1]
  unfold WS.puts
  rw [List.foldl_append]
  rfl
/-- A writer of the call's own. -/
def NewW (s : WS) (w : World) (e : Ending) (w' : World) : Prop := ∃ o, e = .returned (wptr o) ∧ TAt w' tWr o s ∧ (∀ b, foot o b → w.heap.size ≤ b) ∧ Fr (fun _ => False) w w'
theorem OOut.newW {p : Nat} {s : WS} {W w w1 : World} (h : OOut tWr (wat p) s w w1) (hf0 : Fr (fun _ => False) W w) (hp : W.heap.size ≤ p) : NewW s W (.returned (.pointer (some ⟨p, 0, none⟩))) w1 := by
  have hfr := h.fr0 hf0 hp
  obtain ⟨o, h1, h2, h3, -⟩ := h
  refine ⟨o, by rw [h1]; rfl, h2, fun b hb => ?_, hfr⟩
  rcases h3 b hb with h | h
  · rw [wat_foot h]; exact hp
  · have := hf0.size; omega
set_option maxHeartbeats 4000000 in
set_option maxRecDepth 8000 in
theorem writeEntry_any (w : World) (r : ER) (h : r.at_ w) (hok : r.ok = true) (hwf : r.wf) :
    Calls Try.prog 60 #[.agg #[.int .i64 r.acc, .int .i64 r.item, .int .u64 (r.co : Int), .int .u64 (r.pr : Int), .slice r.A r.n r.c]] w (NewW (WS.fresh.puts r.fl) w) := by
  have HAt := hide h
  have Hlen : Hid (r.n = r.ws.length) := h.sl.ilen
  obtain ⟨k1, k2, k3⟩ := ER.ok_split hok
  have a1 := okL_mem k1 (n := r.acc) (by simp)
  have a2 := okL_mem k1 (n := r.item) (by simp)
  obtain ⟨u1, u2⟩ := hwf
  have K2 := hide k2
  have K3 := hide k3
  clear h hok k1 k2 k3
  obtain ⟨acc, item, co, pr, A, n, c, ws⟩ := r
  simp only at HAt Hlen K2 K3 a1 a2 u1 u2 ⊢
  obtain ⟨acc, rfl⟩ : ∃ t : Nat, acc = (t : Int) := ⟨acc.toNat, by omega⟩
  obtain ⟨item, rfl⟩ : ∃ t : Nat, item = (t : Int) := ⟨item.toNat, by omega⟩
  have q1 : IntKind.u64.wrap (acc : Int) = (acc : Int) := IntWalk.u64_in _ (by omega)
  have q2 : IntKind.u64.wrap (item : Int) = (item : Int) := IntWalk.u64_in _ (by omega)
  have v1 : Hid (acc < U64 ∧ item < U64) := ⟨by unfold U64; omega, by unfold U64; omega⟩
  have U1 := hide u1
  have U2 := hide u2
  clear a1 a2 u1 u2
  have HF0 : Hid (Fr (fun _ => False) w ((w.alloc (.cells #[.int .i64 (acc : Int), .int .i64 (item : Int), .int .u64 (co : Int), .int .u64 (pr : Int), .slice A n c] 26)).alloc (.cells #[.slice none 0 0, .int .i64 0, .int .i64 0] tWr))) := ((Fr.refl _ _).alloc _).alloc _
  have HB : Hid (Bl ((w.alloc (.cells #[.int .i64 (acc : Int), .int .i64 (item : Int), .int .u64 (co : Int), .int .u64 (pr : Int), .slice A n c] 26)).alloc (.cells #[.slice none 0 0, .int .i64 0, .int .i64 0] tWr)) w.heap.size 26 #[.int .i64 (acc : Int), .int .i64 (item : Int), .int .u64 (co : Int), .int .u64 (pr : Int), .slice A n c]) := (Bl.new _ _ _).alloc _
  have HN : Hid (Bl ((w.alloc (.cells #[.int .i64 (acc : Int), .int .i64 (item : Int), .int .u64 (co : Int), .int .u64 (pr : Int), .slice A n c] 26)).alloc (.cells #[.slice none 0 0, .int .i64 0, .int .i64 0] tWr)) (w.heap.size + 1) tWr wcell) := Bl.newAt (by simp)
  go_enter Try.func60, Try.ntmps60
  go_wp2_with fail
  obtain ⟨w1, hw1⟩ : ∃ w1, w1 = (w.alloc (.cells #[.int .i64 (acc : Int), .int .i64 (item : Int), .int .u64 (co : Int), .int .u64 (pr : Int), .slice A n c] 26)).alloc (.cells #[.slice none 0 0, .int .i64 0, .int .i64 0] tWr) := ⟨_, rfl⟩
  obtain ⟨p, hp⟩ : ∃ p, p = w.heap.size + 1 := ⟨_, rfl⟩
  rw [← hw1] at HF0 HB HN ⊢
  rw [← hp] at HN ⊢
  have Hp : Hid (w.heap.size ≤ p ∧ w.heap.size ≠ p) := ⟨by omega, by omega⟩
  have h0 : OOut tWr (wat p) WS.fresh w1 w1 := OOut.refl (wat_at HN.out) rfl (Fr.refl _ _)
  clear hw1 hp HN
  have d0 := OOut.go (args := fun v => #[v, .int .i64 5, .int .u64 (co : Int)]) h0 (fun o1 _ hT1 _ => tnumber_any _ o1 _ 5 co U1.out hT1)
  refine d0.mono ?_
  rintro e w2 ⟨rfl, h1⟩
  clear d0 h0
  have b1 := (h1.bl HB.out Hp.out.2).cell' (i := 1) rfl
  go_wp2_with fail
  have d1 := OOut.go (args := fun v => #[v, .int .i64 6, .int .u64 (item : Int)]) h1 (fun o1 _ hT1 _ => tnumber_any _ o1 _ 6 item v1.out.2 hT1)
  refine d1.mono ?_
  rintro e w3 ⟨rfl, h2⟩
  clear d1 h1 b1
  have b2 := (h2.bl HB.out Hp.out.2).cell' (i := 3) rfl
  go_wp2_with fail
  have d2 := OOut.go (args := fun v => #[v, .int .i64 10, .int .u64 (pr : Int)]) h2 (fun o1 _ hT1 _ => tnumber_any _ o1 _ 10 pr U2.out hT1)
  refine d2.mono ?_
  rintro e w4 ⟨rfl, h3⟩
  clear d2 h2 b2
  have b3 := (h3.bl HB.out Hp.out.2).cell' (i := 4) rfl
  go_wp2_with fail
  refine (tshorts_any _ ws A n c (by have := K2.out; have := (Hlen.out : n = ws.length); omega) K3.out (HAt.out.sl.quiet (h3.fr0 HF0.out Hp.out.1))).mono ?_
  rintro e wl ⟨B, kk, cb, rfl, hL⟩
  have HL := hide hL
  have HM : Hid (kk = ws.length) := by obtain ⟨rs, g, hL⟩ := hL; rw [hL.len]; exact List.length_map _
  have Hq : Hid ((listAll (shs ws)).length ≤ 320) := by have := shsAll_len K3.out; have := K2.out; show _ ≤ _; omega
  clear hL b3
  have h3' := h3.quiet (HL.out.frame)
  have d3 := OOut.go (args := fun v => #[v, .int .i64 11, .slice B kk cb]) h3' (fun o1 _ hT1 _ => twlist_any _ o1 _ 11 (shs ws) B kk cb _ (by have := HM.out; have := K2.out; omega) (Nat.le_refl _) (fun x hx => by have := shs_len K3.out x hx; omega) (by have := Hq.out; omega) HL.out.lat hT1)
  clear h3 h3'
  go_wp2_with fail
  refine d3.mono ?_
  rintro e w5 ⟨rfl, h4⟩
  clear d3
  clear HL HM Hq
  have b4 := (h4.bl HB.out Hp.out.2).cell' (i := 0) rfl
  go_wp2_with fail
  have d4 := OOut.go (args := fun v => #[v, .int .i64 22, .int .u64 (acc : Int)]) h4 (fun o1 _ hT1 _ => tnumber_any _ o1 _ 22 acc v1.out.1 hT1)
  refine d4.mono ?_
  rintro e w6 ⟨rfl, h5⟩
  clear d4 h4 b4
  go_wp2_with fail
  go_ret
  have hs : (((((WS.fresh.number 5 co).number 6 item).number 10 pr).put 11 (listAll (shs ws))).number 22 acc) = WS.fresh.puts (ER.fl ⟨acc, item, co, pr, A, n, c, ws⟩) := by simp only [number_nv]; rfl
  rw [← hs]
  exact h5.newW HF0.out Hp.out.1
set_option maxHeartbeats 8000000 in
set_option maxRecDepth 8000 in
theorem writeContract_any (w : World) (r : CR) (h : r.at_ w) (hok : r.ok = true) (hwf : r.wf) :
    Calls Try.prog 61 #[.agg #[.int .i64 r.num, .int .i64 r.kind, .int .i64 r.by_, .int .i64 r.dl, .int .i64 r.to_, .int .i64 r.want, .int .u64 (r.pr : Int), .int .u64 (r.rs : Int), .int .u64 (r.st : Int), .int .i64 r.of_, .slice r.A r.n r.c]] w (NewW (WS.fresh.puts r.fl) w) := by
  obtain ⟨bi, bj, bj0, bj1, bj2⟩ := info_parts infoB
  have HAt := hide h
  have Hlen : Hid (r.n = r.es.length) := h.len
  have Hfl := hide (CR.forms_len hok hwf)
  obtain ⟨k1, k2, k3⟩ := CR.ok_split hok
  have a1 := okL_mem k3 (n := r.num) (by simp [CR.seven])
  have a2 := okL_mem k3 (n := r.kind) (by simp [CR.seven])
  have a3 := okL_mem k3 (n := r.by_) (by simp [CR.seven])
  have a4 := okL_mem k3 (n := r.dl) (by simp [CR.seven])
  have a5 := okL_mem k3 (n := r.to_) (by simp [CR.seven])
  have a6 := okL_mem k3 (n := r.want) (by simp [CR.seven])
  have a7 := okL_mem k3 (n := r.of_) (by simp [CR.seven])
  have U := hide hwf
  have K1 := hide k1
  have K2 := hide k2
  clear h hok k1 k2 k3 hwf
  obtain ⟨num, kind, by_, dl, to_, want, pr, rs, st, of_, A, n, c, es⟩ := r
  simp only at HAt Hlen K1 K2 Hfl U a1 a2 a3 a4 a5 a6 a7 ⊢
  obtain ⟨num, rfl⟩ : ∃ t : Nat, num = (t : Int) := ⟨num.toNat, by omega⟩
  have q1 : IntKind.u64.wrap (num : Int) = (num : Int) := IntWalk.u64_in _ (by omega)
  have v1 : Hid (num < U64) := by show _ < _; unfold U64; omega
  obtain ⟨kind, rfl⟩ : ∃ t : Nat, kind = (t : Int) := ⟨kind.toNat, by omega⟩
  have q2 : IntKind.u64.wrap (kind : Int) = (kind : Int) := IntWalk.u64_in _ (by omega)
  have v2 : Hid (kind < U64) := by show _ < _; unfold U64; omega
  obtain ⟨by_, rfl⟩ : ∃ t : Nat, by_ = (t : Int) := ⟨by_.toNat, by omega⟩
  have q3 : IntKind.u64.wrap (by_ : Int) = (by_ : Int) := IntWalk.u64_in _ (by omega)
  have v3 : Hid (by_ < U64) := by show _ < _; unfold U64; omega
  obtain ⟨dl, rfl⟩ : ∃ t : Nat, dl = (t : Int) := ⟨dl.toNat, by omega⟩
  have q4 : IntKind.u64.wrap (dl : Int) = (dl : Int) := IntWalk.u64_in _ (by omega)
  have v4 : Hid (dl < U64) := by show _ < _; unfold U64; omega
  obtain ⟨to_, rfl⟩ : ∃ t : Nat, to_ = (t : Int) := ⟨to_.toNat, by omega⟩
  have q5 : IntKind.u64.wrap (to_ : Int) = (to_ : Int) := IntWalk.u64_in _ (by omega)
  have v5 : Hid (to_ < U64) := by show _ < _; unfold U64; omega
  obtain ⟨want, rfl⟩ : ∃ t : Nat, want = (t : Int) := ⟨want.toNat, by omega⟩
  have q6 : IntKind.u64.wrap (want : Int) = (want : Int) := IntWalk.u64_in _ (by omega)
  have v6 : Hid (want < U64) := by show _ < _; unfold U64; omega
  obtain ⟨of_, rfl⟩ : ∃ t : Nat, of_ = (t : Int) := ⟨of_.toNat, by omega⟩
  have q7 : IntKind.u64.wrap (of_ : Int) = (of_ : Int) := IntWalk.u64_in _ (by omega)
  have v7 : Hid (of_ < U64) := by show _ < _; unfold U64; omega
  have Hn : Hid (n ≤ 16) := by have := K1.out; have := (Hlen.out : n = es.length); show _ ≤ _; omega
  have hn17 : n ≤ 2513169434843 := HAt.out.le
  clear a1 a2 a3 a4 a5 a6 a7
  have HF0 : Hid (Fr (fun _ => False) w ((w.alloc (.cells #[.int .i64 (num : Int), .int .i64 (kind : Int), .int .i64 (by_ : Int), .int .i64 (dl : Int), .int .i64 (to_ : Int), .int .i64 (want : Int), .int .u64 (pr : Int), .int .u64 (rs : Int), .int .u64 (st : Int), .int .i64 (of_ : Int), .slice A n c] 29)).alloc (.cells #[.slice none 0 0, .int .i64 0, .int .i64 0] tWr))) := ((Fr.refl _ _).alloc _).alloc _
  have HB : Hid (Bl ((w.alloc (.cells #[.int .i64 (num : Int), .int .i64 (kind : Int), .int .i64 (by_ : Int), .int .i64 (dl : Int), .int .i64 (to_ : Int), .int .i64 (want : Int), .int .u64 (pr : Int), .int .u64 (rs : Int), .int .u64 (st : Int), .int .i64 (of_ : Int), .slice A n c] 29)).alloc (.cells #[.slice none 0 0, .int .i64 0, .int .i64 0] tWr)) w.heap.size 29 #[.int .i64 (num : Int), .int .i64 (kind : Int), .int .i64 (by_ : Int), .int .i64 (dl : Int), .int .i64 (to_ : Int), .int .i64 (want : Int), .int .u64 (pr : Int), .int .u64 (rs : Int), .int .u64 (st : Int), .int .i64 (of_ : Int), .slice A n c]) := (Bl.new _ _ _).alloc _
  have HN : Hid (Bl ((w.alloc (.cells #[.int .i64 (num : Int), .int .i64 (kind : Int), .int .i64 (by_ : Int), .int .i64 (dl : Int), .int .i64 (to_ : Int), .int .i64 (want : Int), .int .u64 (pr : Int), .int .u64 (rs : Int), .int .u64 (st : Int), .int .i64 (of_ : Int), .slice A n c] 29)).alloc (.cells #[.slice none 0 0, .int .i64 0, .int .i64 0] tWr)) (w.heap.size + 1) tWr wcell) := Bl.newAt (by simp)
  go_enter Try.func61, Try.ntmps61
  go_wp2_with fail
  obtain ⟨w1, hw1⟩ : ∃ w1, w1 = (w.alloc (.cells #[.int .i64 (num : Int), .int .i64 (kind : Int), .int .i64 (by_ : Int), .int .i64 (dl : Int), .int .i64 (to_ : Int), .int .i64 (want : Int), .int .u64 (pr : Int), .int .u64 (rs : Int), .int .u64 (st : Int), .int .i64 (of_ : Int), .slice A n c] 29)).alloc (.cells #[.slice none 0 0, .int .i64 0, .int .i64 0] tWr) := ⟨_, rfl⟩
  obtain ⟨p, hp⟩ : ∃ p, p = w.heap.size + 1 := ⟨_, rfl⟩
  rw [← hw1] at HF0 HB HN ⊢
  rw [← hp] at HN ⊢
  have Hp : Hid (w.heap.size ≤ p ∧ w.heap.size ≠ p) := ⟨by omega, by omega⟩
  have h0 : OOut tWr (wat p) WS.fresh w1 w1 := OOut.refl (wat_at HN.out) rfl (Fr.refl _ _)
  clear hw1 hp HN
  have d0 := OOut.go (args := fun v => #[v, .int .i64 2, .int .u64 (kind : Int)]) h0 (fun o1 _ hT1 _ => tnumber_any _ o1 _ 2 kind v2.out hT1)
  refine d0.mono ?_
  rintro e w2 ⟨rfl, h1⟩
  clear d0 h0
  have b1 := (h1.bl HB.out Hp.out.2).cell' (i := 4) rfl
  go_wp2_with fail
  have d1 := OOut.go (args := fun v => #[v, .int .i64 4, .int .u64 (to_ : Int)]) h1 (fun o1 _ hT1 _ => tnumber_any _ o1 _ 4 to_ v5.out hT1)
  refine d1.mono ?_
  rintro e w3 ⟨rfl, h2⟩
  clear d1 h1 b1
  have b2 := (h2.bl HB.out Hp.out.2).cell' (i := 0) rfl
  go_wp2_with fail
  have d2 := OOut.go (args := fun v => #[v, .int .i64 7, .int .u64 (num : Int)]) h2 (fun o1 _ hT1 _ => tnumber_any _ o1 _ 7 num v1.out hT1)
  refine d2.mono ?_
  rintro e w4 ⟨rfl, h3⟩
  clear d2 h2 b2
  have b3 := (h3.bl HB.out Hp.out.2).cell' (i := 9) rfl
  go_wp2_with fail
  have d3 := OOut.go (args := fun v => #[v, .int .i64 8, .int .u64 (of_ : Int)]) h3 (fun o1 _ hT1 _ => tnumber_any _ o1 _ 8 of_ v7.out hT1)
  refine d3.mono ?_
  rintro e w5 ⟨rfl, h4⟩
  clear d3 h3 b3
  have b4 := (h4.bl HB.out Hp.out.2).cell' (i := 6) rfl
  go_wp2_with fail
  have d4 := OOut.go (args := fun v => #[v, .int .i64 10, .int .u64 (pr : Int)]) h4 (fun o1 _ hT1 _ => tnumber_any _ o1 _ 10 pr U.out.pr hT1)
  refine d4.mono ?_
  rintro e w6 ⟨rfl, h5⟩
  clear d4 h4 b4
  have b5 := (h5.bl HB.out Hp.out.2).cell' (i := 3) rfl
  go_wp2_with fail
  have d5 := OOut.go (args := fun v => #[v, .int .i64 13, .int .u64 (dl : Int)]) h5 (fun o1 _ hT1 _ => tnumber_any _ o1 _ 13 dl v4.out hT1)
  refine d5.mono ?_
  rintro e w7 ⟨rfl, h6⟩
  clear d5 h5 b5
  have b6 := (h6.bl HB.out Hp.out.2).cell' (i := 5) rfl
  go_wp2_with fail
  have d6 := OOut.go (args := fun v => #[v, .int .i64 14, .int .u64 (want : Int)]) h6 (fun o1 _ hT1 _ => tnumber_any _ o1 _ 14 want v6.out hT1)
  refine d6.mono ?_
  rintro e w8 ⟨rfl, h7⟩
  clear d6 h6 b6
  have b7 := (h7.bl HB.out Hp.out.2).cell' (i := 7) rfl
  go_wp2_with fail
  have d7 := OOut.go (args := fun v => #[v, .int .i64 15, .int .u64 (rs : Int)]) h7 (fun o1 _ hT1 _ => tnumber_any _ o1 _ 15 rs U.out.rs hT1)
  refine d7.mono ?_
  rintro e w9 ⟨rfl, h8⟩
  clear d7 h7 b7
  have b8 := (h8.bl HB.out Hp.out.2).cell' (i := 8) rfl
  go_wp2_with fail
  have d8 := OOut.go (args := fun v => #[v, .int .i64 16, .int .u64 (st : Int)]) h8 (fun o1 _ hT1 _ => tnumber_any _ o1 _ 16 st U.out.st hT1)
  refine d8.mono ?_
  rintro e w10 ⟨rfl, h9⟩
  clear d8 h8 b8
  have b9 := (h9.bl HB.out Hp.out.2).cell' (i := 2) rfl
  go_wp2_with fail
  have d9 := OOut.go (args := fun v => #[v, .int .i64 20, .int .u64 (by_ : Int)]) h9 (fun o1 _ hT1 _ => tnumber_any _ o1 _ 20 by_ v3.out hT1)
  refine d9.mono ?_
  rintro e w11 ⟨rfl, h10⟩
  clear d9 h9 b9
  have b10 := (h10.bl HB.out Hp.out.2).cell' (i := 10) rfl
  have HF := hide (h10.fr0 HF0.out Hp.out.1)
  have HO := hide h10
  clear q1 q2 q3 q4 q5 q6 q7 h10
  go_wp2_with fail
  clear b10
  go_loopw [4, 61] (fun u i wr => ∃ (j : Nat) (B : Option Addr) (cb : Nat), j ≤ n ∧ i = .int .i64 (j : Int) ∧ u = .slice B j cb ∧ Hid (LL w11 wr ((es.map ER.form).take j) B j cb)) (fun _ i _ => n - (intOf i).toNat)
  case atStart => exact ⟨0, none, 0, Nat.zero_le _, rfl, rfl, LL.begin _ _ (Fr.refl _ _)⟩
  case round =>
    obtain ⟨j, B, cb, hj, rfl, rfl, HL⟩ := hrel
    by_cases hlt : j < n
    · have hjl : j < es.length := by rw [← (Hlen.out : n = es.length)]; exact hlt
      obtain ⟨wo, rfl⟩ : ∃ wo, wo = wr := ⟨_, rfl⟩
      have hfo := HF.out.trans HL.out.frame
      obtain ⟨b, o, hA, hc⟩ := (HAt.out.quiet hfo).row hjl
      simp only at hA
      have HE : Hid ((es[j]).at_ wo ∧ (es[j]).ok = true ∧ (es[j]).wf) := ⟨(HAt.out.quiet hfo).es _ (List.getElem_mem hjl), K2.out _ (List.getElem_mem hjl), U.out.es _ (List.getElem_mem hjl)⟩
      have hdrop : Hid ((es.map ER.form).take (j + 1) = (es.map ER.form).take j ++ [(es[j]).form]) := by
        show _ = _
        rw [List.take_succ_eq_append_getElem (by rw [List.length_map]; exact hjl)]
        congr 1
        simp
      obtain ⟨e, he⟩ : ∃ e, es[j] = e := ⟨_, rfl⟩
      simp only at hc
      rw [he] at hc HE hdrop
      obtain ⟨acc, item, co, pr2, A2, n2, c2, ws⟩ := e
      have d0 := hc 0 _ rfl
      rw [Nat.add_zero] at d0
      have d1 := hc 1 _ rfl
      have d2 := hc 2 _ rfl
      have d3 := hc 3 _ rfl
      have d4 := hc 4 _ rfl
      subst hA
      have i0 : (0 : Int) ≤ (j : Int) := by omega
      have i1 : (j : Int) < (n : Int) := by omega
      have q1 : IntKind.i64.wrap ((j : Int) + 1) = ((j + 1 : Nat) : Int) := by rw [IntWalk.i64_in _ (by omega)]; omega
      have Hlt := hide hlt
      have HC : Hid (∀ w1, Fr (fun _ => False) wo w1 → Calls Try.prog 60 #[.agg #[.int .i64 acc, .int .i64 item, .int .u64 (co : Int), .int .u64 (pr2 : Int), .slice A2 n2 c2]] w1 (NewW (WS.fresh.puts (ER.fl ⟨acc, item, co, pr2, A2, n2, c2, ws⟩)) w1)) := fun w1 hf => writeEntry_any w1 ⟨acc, item, co, pr2, A2, n2, c2, ws⟩ (HE.out.1.quiet hf) HE.out.2.1 HE.out.2.2
      have Hel := hide (ER.len HE.out.2.1 HE.out.2.2)
      have Hpf := hide (puts_fresh (ER.asc ⟨acc, item, co, pr2, A2, n2, c2, ws⟩) (by have := Hel.out.1; unfold ER.form at this; omega))
      obtain ⟨rs', g, hLr⟩ := HL.out
      have HLr := hide hLr
      have hB := hLr.ow
      clear hc he hjl hlt hj HE hfo hLr HL
      go_wp2_with fail
      refine (HC.out _ (by (repeat (first | with_reducible exact Fr.refl _ _ | with_reducible assumption | with_reducible refine Fr.drew ?_ | with_reducible refine Fr.drewN ?_ _ | with_reducible refine Fr.alloc ?_ _ | with_reducible refine Fr.setIn ?_ (by first | exact Or.inl rfl | exact Or.inr (by simp; done) | exact Or.inr (by simp; omega) | exact Or.inr (by omega)) _)))).mono ?_
      rintro e w2 ⟨o2, rfl, hT2, -, hf2⟩
      have hf02 : Fr (fun _ => False) wo w2 := Fr.trans (by (repeat (first | with_reducible exact Fr.refl _ _ | with_reducible assumption | with_reducible refine Fr.drew ?_ | with_reducible refine Fr.drewN ?_ _ | with_reducible refine Fr.alloc ?_ _ | with_reducible refine Fr.setIn ?_ (by first | exact Or.inl rfl | exact Or.inr (by simp; done) | exact Or.inr (by simp; omega) | exact Or.inr (by omega)) _))) hf2
      have c3 := tform_any' w2 o2 _ hT2
      have hform : (WS.fresh.puts (ER.fl ⟨acc, item, co, pr2, A2, n2, c2, ws⟩)).form = ER.form ⟨acc, item, co, pr2, A2, n2, c2, ws⟩ := by unfold WS.form; rw [if_pos Hpf.out.2, Hpf.out.1]; rfl
      unfold FormPost at c3
      rw [hform, Hpf.out.2] at c3
      have Hf02 := hide hf02
      clear hT2 hf2 hform hf02
      obtain ⟨p2, hp2⟩ : ∃ p2, wptr o2 = p2 := ⟨_, rfl⟩
      rw [hp2] at c3 ⊢
      clear hp2 d0 d1 d2 d3 d4
      go_wp2_with fail
      refine c3.mono ?_
      rintro e w3 ⟨X, nx, cx, gx, rfl, hX, hgx, hf3⟩
      have hlx : nx = (ER.form ⟨acc, item, co, pr2, A2, n2, c2, ws⟩).length := hX.len
      have hnx : nx ≤ 1000 := by rw [hlx]; exact Hel.out.1
      have Hf03 := hide (Hf02.out.trans hf3)
      have hB2 := hB.fr Hf03.out (fun _ _ => id)
      have Hgx : Hid (∀ b, gx = some b → wo.heap.size ≤ b) := fun b e => Nat.le_trans Hf02.out.size (hgx b e)
      clear c3 hf3 hB Hf02 hlx hgx
      go_wp2_with (first | (at_builtin; refine wpList_append_ow _ rfl _ _ 82 rfl 22 bi (.slice none 0 0) 1 24 Try.underlying82 bj bj0 bj1 bj2 rfl (by decide) _ _ _ _ _ rfl (hB2.fr ((Fr.refl (fun _ => False) _).alloc _) (fun _ _ => id)) _ _ _ [.slice X nx cx] rfl (Sl.one _ _ _) (by intro u hu; simp at hu; subst hu; rfl) (by unfold maxLen; omega) (by omega) ?_) | go_in)
      intro B3 cb3 w4 g3 hB3 hf4 hg3
      have hf34 : Fr (fun x => some x = g) w3 w4 := ((Fr.refl _ _).alloc _).comp hf4 (fun _ _ e => e)
      have HL3 : Hid (LL w11 w4 ((es.map ER.form).take (j + 1)) B3 (j + 1) cb3) := by
        rw [hdrop.out]
        exact HLr.out.app Hf03.out hX Hgx.out hB3 hf34 (hg3.imp id fun ⟨b, e, h⟩ => ⟨b, e, by first | omega | (simp at h; omega)⟩)
      clear hB3 hf4 hg3 hf34 hX hB2 Hgx Hf03 HLr HC
      go_wp2_with fail
      have := Hlt.out
      exact ⟨⟨j + 1, B3, cb3, by omega, by first | rfl | go_num, rfl, HL3⟩, by simp [intOf]; try omega⟩
    · obtain rfl : j = n := by omega
      have HL2 : Hid (LL w11 wr (es.map ER.form) B j cb) := by
        have := HL.out
        rwa [List.take_of_length_le (by rw [List.length_map, ← (Hlen.out : j = es.length)]; exact Nat.le_refl _)] at this
      clear hlt hj HL
      have h2 := HO.out.quiet HL2.out.frame
      have d2 := OOut.go (args := fun v => #[v, .int .i64 21, .slice B j cb]) h2 (fun o1 _ hT1 _ => twlist_any _ o1 _ 21 (es.map ER.form) B j cb _ (by have := Hn.out; omega) (Nat.le_refl _) (fun x hx => by have := Hfl.out.2 x hx; omega) (by have := Hfl.out.1; omega) HL2.out.lat hT1)
      clear h2
      go_wp2_with fail
      refine d2.mono ?_
      rintro e w2 ⟨rfl, h3⟩
      clear d2
      go_wp2_with fail
      go_ret
      have hs : (((((((((((WS.fresh.number 2 kind).number 4 to_).number 7 num).number 8 of_).number 10 pr).number 13 dl).number 14 want).number 15 rs).number 16 st).number 20 by_).put 21 (listAll (es.map ER.form))) = WS.fresh.puts (CR.fl ⟨num, kind, by_, dl, to_, want, pr, rs, st, of_, A, j, c, es⟩) := by simp only [number_nv]; rfl
      rw [← hs]
      exact h3.newW HF0.out Hp.out.1
end Go.Proofs.Ytlcjhbemgagchaa
