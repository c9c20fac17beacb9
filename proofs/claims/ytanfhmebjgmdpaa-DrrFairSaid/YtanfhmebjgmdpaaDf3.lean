/-
  DrrFair: the walk.
-/
import Derived.Test.YtanfhmebjgmdpaaDf4
namespace Go.Proofs.Ytanfhmebjgmdpaa.Qj
open Go.RowKit Go.Shelf
set_option linter.unusedVariables false
set_option linter.unusedSimpArgs false
attribute [local go_sem] Oper.semAt_some
attribute [local go_sem ↓] Go.wp_at_zero Go.wp_at_succ
set_option maxHeartbeats 40000000 in
set_option maxRecDepth 100000 in
theorem fair_walk (w : World) (a0 b0 c0 pa pb pf : Int) (ha : in64 a0) (hb : in64 b0) (hc : in64 c0) (hpa : in64 pa) (hpb : in64 pb) (hpf : in64 pf) (A : Option Addr) (sn sc : Nat) (hn : sn * 48 ≤ 140737488355328) (f : Nat → Nat → Value) (kd wh qu co x mo : Nat → Int) (hs : Cells w w.heap.size A sn 6 f)
    (h0 : ∀ i, i < sn → f i 0 = .int .i64 (kd i)) (h1 : ∀ i, i < sn → f i 1 = .int .i64 (wh i)) (h2 : ∀ i, i < sn → f i 2 = .int .i64 (qu i)) (h3 : ∀ i, i < sn → f i 3 = .int .i64 (co i)) (h4 : ∀ i, i < sn → f i 4 = .int .i64 (x i)) (h5 : ∀ i, i < sn → f i 5 = .int .i64 (mo i))
    (hqu : ∀ i, i < sn → in64 (qu i)) (hco : ∀ i, i < sn → in64 (co i)) :
    Calls Try.prog 4 #[.agg #[.int .i64 a0, .int .i64 b0, .int .i64 c0, .slice A sn sc, .int .i64 pa, .int .i64 pb, .int .i64 pf]] w fun e w' => e = .returned (.bool true) ∧ Below w.heap.size w w' := by
  obtain ⟨ps, hps⟩ : ∃ ps : Array Value, ps = #[.int .i64 a0, .int .i64 b0, .int .i64 c0, .slice A sn sc, .int .i64 pa, .int .i64 pb, .int .i64 pf] := ⟨_, rfl⟩
  have hmd := made_any ((w.alloc (.cells #[.int .i64 a0, .int .i64 b0, .int .i64 c0, .slice A sn sc, .int .i64 pa, .int .i64 pb, .int .i64 pf] tPair)).alloc (.cells #[.bool false] tBool)) a0 b0 c0 ha hb hc
  clear ha hb hc
  refine (callsIn_wide (n := 5)).1 ?_
  refine callsIn_of_wp_marks Try.func4 rfl trivial ?_ rfl
  simp only [Try.ntmps4, List.size_toArray, List.length_cons, List.length_nil, Nat.reduceAdd, Nat.reduceSub, Array.replicate_succ, Array.replicate_zero, List.push_toArray, List.append_toArray, List.nil_append, List.cons_append]
  refine wpIn_wide.2 ?_
  go_wp2_with fail
  refine hmd.mono ?_
  rintro e w1 ⟨n, room, q, d, L, s, e1, e2, e3, rfl, hm⟩
  have n1 : 1 ≤ n ∧ n ≤ 12 := by have := Int.emod_nonneg a0 (show (12 : Int) ≠ 0 by omega); have := Int.emod_lt_of_pos a0 (show (0 : Int) < 12 by omega); omega
  have r1 : 1 ≤ room ∧ room ≤ 40 := by have := Int.emod_nonneg b0 (show (40 : Int) ≠ 0 by omega); have := Int.emod_lt_of_pos b0 (show (0 : Int) < 40 by omega); omega
  have q1 : 8 ≤ q ∧ q ≤ 1024 := by have := Int.emod_nonneg c0 (show (1017 : Int) ≠ 0 by omega); have := Int.emod_lt_of_pos c0 (show (0 : Int) < 1017 by omega); omega
  clear e1 e2 e3 hmd
  have HM := hide hm
  clear hm
  go_wp2_with fail
  obtain ⟨db, hdb⟩ : ∃ db, w1.heap.size = db := ⟨_, rfl⟩
  obtain ⟨hat, hsq, hsr, hsb, hsl, hse, hsf, hsd⟩ := HM.out
  have hF1 : Fr (fun _ => False) w w1 := (((Fr.refl _ _).alloc _).alloc _).trans hsf
  have hp1 : Bl w1 w.heap.size tPair ps := by rw [hps]; exact ((Bl.new _ _ _).alloc _).fr hsf id
  have hr1 : Bl w1 (w.heap.size + 1) tBool #[.bool false] := (Bl.newAt (by simp)).fr hsf id
  refine (awake_any _).mono ?_
  rintro e w3 ⟨rfl, hf3⟩
  have hF13 : Fr (fun _ => False) w1 w3 := (((Fr.refl _ _).alloc _).alloc _).trans hf3
  have hd3 : Bl w3 db tPD #[.pointer (some ⟨d, 0, none⟩)] := ((Bl.newAt hdb.symm).alloc _).fr hf3 id
  have hy3 : Bl w3 (db + 1) tShape #[.int .i64 (n : Int), .int .i64 (room : Int), .int .i64 (q : Int)] := (Bl.newAt (by simp; omega)).fr hf3 id
  have hp3 := hp1.fr hF13 id
  have hr3 := hr1.fr hF13 id
  have hat3 : DrrAt w3 d L 7 s := (hat 7 (by omega) (by omega)).quiet hF13
  have hF3 := hF1.trans hF13
  have hsd' : ∀ x, drfoot d L s x → w.heap.size ≤ x := fun x hx => by have := hsd x hx; simp at this; omega
  have sz3 : db + 2 ≤ w3.heap.size := hy3.lt
  have szd : w.heap.size + 2 ≤ db := by have := hr1.lt; omega
  have HP := hide (And.intro hat3 (And.intro hsq (And.intro hsr (And.intro hsb (And.intro hsl (And.intro hse (And.intro hsd' (And.intro hF3 (And.intro hp3 (And.intro hr3 (And.intro hd3 hy3)))))))))))
  have y0 : w3.cell? ⟨db + 1, 0, none⟩ = some (.int .i64 (n : Int)) := hy3.cell' (i := 0) rfl
  have c3 : w3.cell? ⟨w.heap.size, 3, none⟩ = some (.slice A sn sc) := by rw [hps] at hp3; exact hp3.cell' (i := 3) rfl
  have c4 : w3.cell? ⟨w.heap.size, 4, none⟩ = some (.int .i64 pa) := by rw [hps] at hp3; exact hp3.cell' (i := 4) rfl
  have c5 : w3.cell? ⟨w.heap.size, 5, none⟩ = some (.int .i64 pb) := by rw [hps] at hp3; exact hp3.cell' (i := 5) rfl
  have c6 : w3.cell? ⟨w.heap.size, 6, none⟩ = some (.int .i64 pf) := by rw [hps] at hp3; exact hp3.cell' (i := 6) rfl
  clear HM hat hsq hsr hsb hsl hse hsf hsd hF1 hF13 hy3 hat3 hF3 hsd' hf3 hp1 hr1 hd3 hp3 hr3
  simp only [hdb]
  have u1 := Int.emod_nonneg pa (show (n : Int) ≠ 0 by omega)
  have u2 := Int.emod_lt_of_pos pa (show (0 : Int) < (n : Int) by omega)
  obtain ⟨ai, hai⟩ : ∃ ai : Nat, pa % (n : Int) = (ai : Int) := ⟨(pa % (n : Int)).toNat, by omega⟩
  have u3 := Int.emod_nonneg pb (show (n : Int) ≠ 0 by omega)
  have u4 := Int.emod_lt_of_pos pb (show (0 : Int) < (n : Int) by omega)
  obtain ⟨bi, hbi⟩ : ∃ bi : Nat, pb % (n : Int) = (bi : Int) := ⟨(pb % (n : Int)).toNat, by omega⟩
  have rA := fun W => round_any W pa n (by omega) (by omega) hpa
  have rB := fun W => round_any W pb n (by omega) (by omega) hpb
  have rF := fun W => round_any W pf (1 + (sn : Int)) (by omega) (by omega) hpf
  have iw : IntKind.i64.wrap (1 + (sn : Int)) = 1 + (sn : Int) := IntWalk.i64_in _ (by omega)
  obtain ⟨fi, hfi⟩ : ∃ fi, pf % (1 + (sn : Int)) = fi := ⟨_, rfl⟩
  simp only [hai] at rA
  simp only [hbi] at rB
  simp only [hfi] at rF
  have hain : ai < n := by omega
  have hbin : bi < n := by omega
  clear u1 u2 u3 u4 hai hbi hfi hpa hpb hpf hdb
  have l10 : w.heap.size < w3.heap.size := by omega
  have l11 : w.heap.size < w3.heap.size + 1 := by omega
  have l12 : w.heap.size < w3.heap.size + 1 + 1 := by omega
  have l13 : w.heap.size < w3.heap.size + 2 := by omega
  have l20 : db + 1 < w3.heap.size := by omega
  have l21 : db + 1 < w3.heap.size + 1 := by omega
  go_wp2_with fail
  refine (rA _).mono ?_
  rintro e w9 ⟨rfl, rfl⟩
  go_wp2_with fail
  refine (rB _).mono ?_
  rintro e w9 ⟨rfl, rfl⟩
  go_wp2_with fail
  refine (rF _).mono ?_
  rintro e w9 ⟨rfl, rfl⟩
  go_wp2_with fail
  obtain ⟨hat3, hsq, hsr, hsb, hsl, hse, hsd', hF3, hp3, hr3, hd3, hy3⟩ := HP.out
  obtain ⟨sp, hsp⟩ : ∃ sp, w.heap.size = sp := ⟨_, rfl⟩
  obtain ⟨rb, hrb⟩ : ∃ rb, sp + 1 = rb := ⟨_, rfl⟩
  obtain ⟨yb, hyb⟩ : ∃ yb, db + 1 = yb := ⟨_, rfl⟩
  obtain ⟨ab, hab⟩ : ∃ ab, w3.heap.size = ab := ⟨_, rfl⟩
  obtain ⟨bb, hbb⟩ : ∃ bb, ab + 1 = bb := ⟨_, rfl⟩
  obtain ⟨ob, hob⟩ : ∃ ob, bb + 1 = ob := ⟨_, rfl⟩
  obtain ⟨tb, htb⟩ : ∃ tb, ob + 1 = tb := ⟨_, rfl⟩
  obtain ⟨vb, hvb⟩ : ∃ vb, tb + 1 = vb := ⟨_, rfl⟩
  have HT0 : Hid (FT w ⟨sp, rb, db, yb, ab, bb, ob, tb, vb⟩ ps d L n room (q : Int) ai bi 0 s [] 0 0 false (((((w3.alloc (.cells #[.int .i64 (ai : Int)] tInt)).alloc (.cells #[.int .i64 (bi : Int)] tInt)).alloc (.cells #[.int .i64 0] tInt)).alloc (.cells #[.int .i64 0] tInt)).alloc (.cells #[.bool false] tBool))) := by
    have hFA : Fr (fun _ => False) w3 (((((w3.alloc (.cells #[.int .i64 (ai : Int)] tInt)).alloc (.cells #[.int .i64 (bi : Int)] tInt)).alloc (.cells #[.int .i64 0] tInt)).alloc (.cells #[.int .i64 0] tInt)).alloc (.cells #[.bool false] tBool)) := (by repeat (first | exact Fr.refl _ _ | refine Fr.alloc ?_ _))
    refine ⟨⟨by rw [← hsp]; exact hp3.fr hFA id, by rw [← hrb, ← hsp]; exact hr3.fr hFA id, hd3.fr hFA id, by rw [← hyb]; exact hy3.fr hFA id, ?_, ?_, ?_, ?_, ?_⟩, hat3.quiet hFA, ⟨hsl, by rw [hsq], fun q l x hl hx => ?_, fun q l hl => ?_, fun q l hl _ => (hse l (List.mem_of_getElem? hl)).2⟩, hsb, hsr, ⟨Int.le_refl _, fun l hl => ?_⟩, ⟨Int.le_refl _, fun l hl => ?_⟩, (fun e => by cases e), hF3.trans hFA, hsd', ⟨?_, ?_, ?_⟩, trivial⟩
    · exact ((((Bl.newAt hab.symm).alloc _).alloc _).alloc _).alloc _
    · exact (((Bl.newAt (by simp; omega)).alloc _).alloc _).alloc _
    · exact ((Bl.newAt (by simp; omega)).alloc _).alloc _
    · exact (Bl.newAt (by simp; omega)).alloc _
    · exact Bl.newAt (by simp; omega)
    · rw [(hse l (List.mem_of_getElem? hl)).1] at hx; cases hx
    · rw [(hse l (List.mem_of_getElem? hl)).2]; omega
    · rw [(hse l (List.mem_of_getElem? hl)).1]; simp
    · rw [(hse l (List.mem_of_getElem? hl)).1]; simp
    · show w.heap.size ≤ ob; omega
    · show w.heap.size ≤ tb; omega
    · show w.heap.size ≤ vb; omega
  have hq : (⟨sp, rb, db, yb, ab, bb, ob, tb, vb⟩ : FQ).Ok := ⟨by show ob ≠ tb; omega, by show ab ≠ ob; omega, by show bb ≠ ob; omega, by show ab ≠ tb; omega, by show bb ≠ tb; omega, by show rb ≠ vb; omega⟩
  simp only [hsp, hrb, hyb, hab, hbb, hob, htb, hvb]
  have hord : sp < rb ∧ rb < db ∧ db < yb ∧ yb < ab ∧ ab < bb ∧ bb < ob ∧ ob < tb ∧ tb < vb := by omega
  clear hat3 hsq hsr hsb hsl hse hsd' hF3 hp3 hr3 hd3 hy3 HP y0 c3 c4 c5 c6 rA rB rF iw l10 l11 l12 l13 l20 l21 sz3 szd
  refine wp_loop (fun a' w' => ∃ u11 u12 u13 u14 u15 u16 u46 u47 u48 u49 u50 u51 u52 u53 u54 u55 u56 u57 u58 u59 u60 u61 u62 u63 u64 u65 u66 u67 u68 u69 u70 u71 u72 u73 u74 u75 u76 u77 u78 u79 u80 u81 u82 u83 u84 u85 u86 u87 u88 u89 u90 u91 u92 u93 u94 u95 u96 u97 u98 u99 u100 u101 u102 u103 u104 u105 u106 u107 u108 u109 u110 u111 u112 u113 u114 u115 u116 u117 u118 u119 u120 u121 u122 u123 u124 u125 u126 u127 u128 u129 u130 u131 u132 u133 u134 u135 u136 u137 u138 u139 u140 u141 u142 u143 u144 u145 u146 u147 u148 u149 u150 u151 u152 u153 u154 u155 u156 : Value, ∃ ds : List Deferred, (∃ (i : Nat) (s1 : DS X) (one two : Int) (lv : Bool), u11 = .int .i64 (i : Int) ∧ i ≤ sn ∧ FT w ⟨sp, rb, db, yb, ab, bb, ob, tb, vb⟩ ps d L n room (q : Int) ai bi i s1 ds one two lv w') ∧ a' = ({ tmps := #[.agg #[.int .i64 a0, .int .i64 b0, .int .i64 c0, .slice A sn sc, .int .i64 pa, .int .i64 pb, .int .i64 pf], .pointer (some ⟨sp, 0, none⟩), .pointer (some ⟨rb, 0, none⟩), .pointer (some ⟨db, 0, none⟩), .pointer (some ⟨yb, 0, none⟩), .pointer (some ⟨ab, 0, none⟩), .pointer (some ⟨bb, 0, none⟩), .int .i64 fi, .pointer (some ⟨ob, 0, none⟩), .pointer (some ⟨tb, 0, none⟩), .pointer (some ⟨vb, 0, none⟩), u11, u12, u13, u14, u15, u16, .tuple #[.pointer (some ⟨d, 0, none⟩), .agg #[.int .i64 (n : Int), .int .i64 (room : Int), .int .i64 (q : Int)]], .pointer (some ⟨sp, 0, none⟩), .agg #[.int .i64 a0, .int .i64 b0, .int .i64 c0], .tuple #[.pointer (some ⟨d, 0, none⟩), .agg #[.int .i64 (n : Int), .int .i64 (room : Int), .int .i64 (q : Int)]], .pointer (some ⟨d, 0, none⟩), .agg #[.int .i64 (n : Int), .int .i64 (room : Int), .int .i64 (q : Int)], .pointer (some ⟨d, 0, none⟩), .bool false, .bool false, .bool true, .bool false, .bool false, .pointer (some ⟨sp, 4, none⟩), .int .i64 pa, .pointer (some ⟨yb, 0, none⟩), .int .i64 (n : Int), .int .i64 (ai : Int), .pointer (some ⟨sp, 5, none⟩), .int .i64 pb, .pointer (some ⟨yb, 0, none⟩), .int .i64 (n : Int), .int .i64 (bi : Int), .pointer (some ⟨sp, 6, none⟩), .int .i64 pf, .pointer (some ⟨sp, 3, none⟩), .slice A sn sc, .int .i64 (sn : Int), .int .i64 (1 + (sn : Int)), .int .i64 fi, u46, u47, u48, u49, u50, u51, u52, u53, u54, u55, u56, u57, u58, u59, u60, u61, u62, u63, u64, u65, u66, u67, u68, u69, u70, u71, u72, u73, u74, u75, u76, u77, u78, u79, u80, u81, u82, u83, u84, u85, u86, u87, u88, u89, u90, u91, u92, u93, u94, u95, u96, u97, u98, u99, u100, u101, u102, u103, u104, u105, u106, u107, u108, u109, u110, u111, u112, u113, u114, u115, u116, u117, u118, u119, u120, u121, u122, u123, u124, u125, u126, u127, u128, u129, u130, u131, u132, u133, u134, u135, u136, u137, u138, u139, u140, u141, u142, u143, u144, u145, u146, u147, u148, u149, u150, u151, u152, u153, u154, u155, u156], defers := ds } : Act)) (fun a' _ => sn - (intOf (a'.tmps.getD 11 undef)).toNat) ?atStart ?round
  case atStart =>
    (repeat apply Exists.intro)
    refine ⟨?_, rfl⟩
    exact ⟨0, s, 0, 0, false, rfl, Nat.zero_le _, HT0.out⟩
  case round =>
    intro _ wr hinv
    obtain ⟨u11, hinv⟩ := hinv
    obtain ⟨u12, hinv⟩ := hinv
    obtain ⟨u13, hinv⟩ := hinv
    obtain ⟨u14, hinv⟩ := hinv
    obtain ⟨u15, hinv⟩ := hinv
    obtain ⟨u16, hinv⟩ := hinv
    obtain ⟨u46, hinv⟩ := hinv
    obtain ⟨u47, hinv⟩ := hinv
    obtain ⟨u48, hinv⟩ := hinv
    obtain ⟨u49, hinv⟩ := hinv
    obtain ⟨u50, hinv⟩ := hinv
    obtain ⟨u51, hinv⟩ := hinv
    obtain ⟨u52, hinv⟩ := hinv
    obtain ⟨u53, hinv⟩ := hinv
    obtain ⟨u54, hinv⟩ := hinv
    obtain ⟨u55, hinv⟩ := hinv
    obtain ⟨u56, hinv⟩ := hinv
    obtain ⟨u57, hinv⟩ := hinv
    obtain ⟨u58, hinv⟩ := hinv
    obtain ⟨u59, hinv⟩ := hinv
    obtain ⟨u60, hinv⟩ := hinv
    obtain ⟨u61, hinv⟩ := hinv
    obtain ⟨u62, hinv⟩ := hinv
    obtain ⟨u63, hinv⟩ := hinv
    obtain ⟨u64, hinv⟩ := hinv
    obtain ⟨u65, hinv⟩ := hinv
    obtain ⟨u66, hinv⟩ := hinv
    obtain ⟨u67, hinv⟩ := hinv
    obtain ⟨u68, hinv⟩ := hinv
    obtain ⟨u69, hinv⟩ := hinv
    obtain ⟨u70, hinv⟩ := hinv
    obtain ⟨u71, hinv⟩ := hinv
    obtain ⟨u72, hinv⟩ := hinv
    obtain ⟨u73, hinv⟩ := hinv
    obtain ⟨u74, hinv⟩ := hinv
    obtain ⟨u75, hinv⟩ := hinv
    obtain ⟨u76, hinv⟩ := hinv
    obtain ⟨u77, hinv⟩ := hinv
    obtain ⟨u78, hinv⟩ := hinv
    obtain ⟨u79, hinv⟩ := hinv
    obtain ⟨u80, hinv⟩ := hinv
    obtain ⟨u81, hinv⟩ := hinv
    obtain ⟨u82, hinv⟩ := hinv
    obtain ⟨u83, hinv⟩ := hinv
    obtain ⟨u84, hinv⟩ := hinv
    obtain ⟨u85, hinv⟩ := hinv
    obtain ⟨u86, hinv⟩ := hinv
    obtain ⟨u87, hinv⟩ := hinv
    obtain ⟨u88, hinv⟩ := hinv
    obtain ⟨u89, hinv⟩ := hinv
    obtain ⟨u90, hinv⟩ := hinv
    obtain ⟨u91, hinv⟩ := hinv
    obtain ⟨u92, hinv⟩ := hinv
    obtain ⟨u93, hinv⟩ := hinv
    obtain ⟨u94, hinv⟩ := hinv
    obtain ⟨u95, hinv⟩ := hinv
    obtain ⟨u96, hinv⟩ := hinv
    obtain ⟨u97, hinv⟩ := hinv
    obtain ⟨u98, hinv⟩ := hinv
    obtain ⟨u99, hinv⟩ := hinv
    obtain ⟨u100, hinv⟩ := hinv
    obtain ⟨u101, hinv⟩ := hinv
    obtain ⟨u102, hinv⟩ := hinv
    obtain ⟨u103, hinv⟩ := hinv
    obtain ⟨u104, hinv⟩ := hinv
    obtain ⟨u105, hinv⟩ := hinv
    obtain ⟨u106, hinv⟩ := hinv
    obtain ⟨u107, hinv⟩ := hinv
    obtain ⟨u108, hinv⟩ := hinv
    obtain ⟨u109, hinv⟩ := hinv
    obtain ⟨u110, hinv⟩ := hinv
    obtain ⟨u111, hinv⟩ := hinv
    obtain ⟨u112, hinv⟩ := hinv
    obtain ⟨u113, hinv⟩ := hinv
    obtain ⟨u114, hinv⟩ := hinv
    obtain ⟨u115, hinv⟩ := hinv
    obtain ⟨u116, hinv⟩ := hinv
    obtain ⟨u117, hinv⟩ := hinv
    obtain ⟨u118, hinv⟩ := hinv
    obtain ⟨u119, hinv⟩ := hinv
    obtain ⟨u120, hinv⟩ := hinv
    obtain ⟨u121, hinv⟩ := hinv
    obtain ⟨u122, hinv⟩ := hinv
    obtain ⟨u123, hinv⟩ := hinv
    obtain ⟨u124, hinv⟩ := hinv
    obtain ⟨u125, hinv⟩ := hinv
    obtain ⟨u126, hinv⟩ := hinv
    obtain ⟨u127, hinv⟩ := hinv
    obtain ⟨u128, hinv⟩ := hinv
    obtain ⟨u129, hinv⟩ := hinv
    obtain ⟨u130, hinv⟩ := hinv
    obtain ⟨u131, hinv⟩ := hinv
    obtain ⟨u132, hinv⟩ := hinv
    obtain ⟨u133, hinv⟩ := hinv
    obtain ⟨u134, hinv⟩ := hinv
    obtain ⟨u135, hinv⟩ := hinv
    obtain ⟨u136, hinv⟩ := hinv
    obtain ⟨u137, hinv⟩ := hinv
    obtain ⟨u138, hinv⟩ := hinv
    obtain ⟨u139, hinv⟩ := hinv
    obtain ⟨u140, hinv⟩ := hinv
    obtain ⟨u141, hinv⟩ := hinv
    obtain ⟨u142, hinv⟩ := hinv
    obtain ⟨u143, hinv⟩ := hinv
    obtain ⟨u144, hinv⟩ := hinv
    obtain ⟨u145, hinv⟩ := hinv
    obtain ⟨u146, hinv⟩ := hinv
    obtain ⟨u147, hinv⟩ := hinv
    obtain ⟨u148, hinv⟩ := hinv
    obtain ⟨u149, hinv⟩ := hinv
    obtain ⟨u150, hinv⟩ := hinv
    obtain ⟨u151, hinv⟩ := hinv
    obtain ⟨u152, hinv⟩ := hinv
    obtain ⟨u153, hinv⟩ := hinv
    obtain ⟨u154, hinv⟩ := hinv
    obtain ⟨u155, hinv⟩ := hinv
    obtain ⟨u156, hinv⟩ := hinv
    obtain ⟨ds, hinv⟩ := hinv
    obtain ⟨hrel, ha⟩ := hinv
    subst ha
    obtain ⟨i, s1, one, two, lv, rfl, hi, hT⟩ := hrel
    obtain ⟨wo, rfl⟩ : ∃ wo, wo = wr := ⟨_, rfl⟩
    clear HT0
    have c3 : wo.cell? ⟨sp, 3, none⟩ = some (.slice A sn sc) := by have := hT.fo.p; rw [hps] at this; exact this.cell' (i := 3) rfl
    by_cases hlt : i < sn
    · obtain ⟨bk, o, rfl, hbB, hcs⟩ := hs (by omega)
      have hc : ∀ j, j < 6 → wo.cell? ⟨bk, o + i * 6 + j, none⟩ = some (f i j) := fun j hj => (hT.fr.cell (p := ⟨bk, o + i * 6 + j, none⟩) hbB id).trans (hcs i j hlt hj)
      have d0 := (hc 0 (by omega)).trans (congrArg some (h0 i hlt))
      rw [Nat.add_zero] at d0
      have d1 := (hc 1 (by omega)).trans (congrArg some (h1 i hlt))
      have d2 := (hc 2 (by omega)).trans (congrArg some (h2 i hlt))
      have d3 := (hc 3 (by omega)).trans (congrArg some (h3 i hlt))
      have d4 := (hc 4 (by omega)).trans (congrArg some (h4 i hlt))
      have d5 := (hc 5 (by omega)).trans (congrArg some (h5 i hlt))
      have hqz := hqu i hlt
      have hcz := hco i hlt
      obtain ⟨kk, hkk⟩ : ∃ z, kd i = z := ⟨_, rfl⟩
      obtain ⟨ww, hww⟩ : ∃ z, wh i = z := ⟨_, rfl⟩
      obtain ⟨qq, hqq⟩ : ∃ z, qu i = z := ⟨_, rfl⟩
      obtain ⟨cc, hcc⟩ : ∃ z, co i = z := ⟨_, rfl⟩
      obtain ⟨xx, hxx⟩ : ∃ z, x i = z := ⟨_, rfl⟩
      obtain ⟨mm, hmm⟩ : ∃ z, mo i = z := ⟨_, rfl⟩
      rw [hkk] at d0
      rw [hww] at d1
      rw [hqq] at d2 hqz
      rw [hcc] at d3 hcz
      rw [hxx] at d4
      rw [hmm] at d5
      clear hc hcs hs h0 h1 h2 h3 h4 h5 hqu hco hkk hww hqq hcc hxx hmm
      have hx0 := Bl.new wo tOp #[.int .i64 kk, .int .i64 ww, .int .i64 qq, .int .i64 cc, .int .i64 xx, .int .i64 mm]
      have hT1 := hT.quiet ((Fr.refl (fun _ => False) wo).alloc (.cells #[.int .i64 kk, .int .i64 ww, .int .i64 qq, .int .i64 cc, .int .i64 xx, .int .i64 mm] tOp))
      obtain ⟨W1, hW1⟩ : ∃ W1, wo.alloc (.cells #[.int .i64 kk, .int .i64 ww, .int .i64 qq, .int .i64 cc, .int .i64 xx, .int .i64 mm] tOp) = W1 := ⟨_, rfl⟩
      obtain ⟨opb, hopb⟩ : ∃ opb, wo.heap.size = opb := ⟨_, rfl⟩
      have hvl : vb < wo.heap.size := hT.fo.v.lt
      rw [hW1] at hx0 hT1
      rw [hopb] at hx0 hvl
      have n_sp_ob : ¬ sp = ob := by omega
      have n_ob_sp : ¬ ob = sp := by omega
      have n_sp_tb : ¬ sp = tb := by omega
      have n_tb_sp : ¬ tb = sp := by omega
      have n_sp_vb : ¬ sp = vb := by omega
      have n_vb_sp : ¬ vb = sp := by omega
      have n_rb_ob : ¬ rb = ob := by omega
      have n_ob_rb : ¬ ob = rb := by omega
      have n_rb_tb : ¬ rb = tb := by omega
      have n_tb_rb : ¬ tb = rb := by omega
      have n_rb_vb : ¬ rb = vb := by omega
      have n_vb_rb : ¬ vb = rb := by omega
      have n_db_ob : ¬ db = ob := by omega
      have n_ob_db : ¬ ob = db := by omega
      have n_db_tb : ¬ db = tb := by omega
      have n_tb_db : ¬ tb = db := by omega
      have n_db_vb : ¬ db = vb := by omega
      have n_vb_db : ¬ vb = db := by omega
      have n_yb_ob : ¬ yb = ob := by omega
      have n_ob_yb : ¬ ob = yb := by omega
      have n_yb_tb : ¬ yb = tb := by omega
      have n_tb_yb : ¬ tb = yb := by omega
      have n_yb_vb : ¬ yb = vb := by omega
      have n_vb_yb : ¬ vb = yb := by omega
      have n_ab_ob : ¬ ab = ob := by omega
      have n_ob_ab : ¬ ob = ab := by omega
      have n_ab_tb : ¬ ab = tb := by omega
      have n_tb_ab : ¬ tb = ab := by omega
      have n_ab_vb : ¬ ab = vb := by omega
      have n_vb_ab : ¬ vb = ab := by omega
      have n_bb_ob : ¬ bb = ob := by omega
      have n_ob_bb : ¬ ob = bb := by omega
      have n_bb_tb : ¬ bb = tb := by omega
      have n_tb_bb : ¬ tb = bb := by omega
      have n_bb_vb : ¬ bb = vb := by omega
      have n_vb_bb : ¬ vb = bb := by omega
      have n_ob_tb : ¬ ob = tb := by omega
      have n_ob_vb : ¬ ob = vb := by omega
      have n_tb_ob : ¬ tb = ob := by omega
      have n_tb_vb : ¬ tb = vb := by omega
      have n_vb_ob : ¬ vb = ob := by omega
      have n_vb_tb : ¬ vb = tb := by omega
      have n_opb_ob : ¬ opb = ob := by omega
      have n_ob_opb : ¬ ob = opb := by omega
      have n_opb_tb : ¬ opb = tb := by omega
      have n_tb_opb : ¬ tb = opb := by omega
      have n_opb_vb : ¬ opb = vb := by omega
      have n_vb_opb : ¬ vb = opb := by omega
      have i1 : (i : Int) < (sn : Int) := by omega
      have i2 : (0 : Int) ≤ (i : Int) := by omega
      have HT := hide hT1
      have HO := hide hx0
      obtain ⟨la, hla⟩ := get_of HT.out.fb.ll hain
      obtain ⟨lb, hlb⟩ := get_of HT.out.fb.ll hbin
      obtain ⟨za, hza⟩ : ∃ z : Int, (la.things.length : Int) = z := ⟨_, rfl⟩
      obtain ⟨zb, hzb⟩ : ∃ z : Int, (lb.things.length : Int) = z := ⟨_, rfl⟩
      have hdrf : ∀ W2, Fr (fun x => x = ob ∨ x = tb) W1 W2 → DrrAt W2 d L 7 s1 := fun W2 hf => HT.out.dr.fr hf fun x hx e => by
        rcases e with rfl | rfl
        · exact dr_ne2 HT.out.dr HT.out.fo.o (by simp) hx
        · exact dr_ne2 HT.out.dr HT.out.fo.t (by simp) hx
      have hLa := fun W2 (hf : Fr (fun x => x = ob ∨ x = tb) W1 W2) => Len_in W2 (hdrf W2 hf) ai la hla
      have hLb := fun W2 (hf : Fr (fun x => x = ob ∨ x = tb) W1 W2) => Len_in W2 (hdrf W2 hf) bi lb hlb
      simp only [hza] at hLa
      simp only [hzb] at hLb
      have a0' : W1.cell? ⟨ab, 0, none⟩ = some (.int .i64 (ai : Int)) := hT1.fo.a.cell' (i := 0) rfl
      have b0' : W1.cell? ⟨bb, 0, none⟩ = some (.int .i64 (bi : Int)) := hT1.fo.b.cell' (i := 0) rfl
      have p0 : W1.cell? ⟨db, 0, none⟩ = some (.pointer (some ⟨d, 0, none⟩)) := hT1.fo.d.cell' (i := 0) rfl
      have t0 : W1.cell? ⟨ob, 0, none⟩ = some (.int .i64 one) := hT1.fo.o.cell' (i := 0) rfl
      have t1 : W1.cell? ⟨tb, 0, none⟩ = some (.int .i64 two) := hT1.fo.t.cell' (i := 0) rfl
      have t2 : W1.cell? ⟨vb, 0, none⟩ = some (.bool lv) := hT1.fo.v.cell' (i := 0) rfl
      have z0 : W1.frozen? ⟨ob, 0, none⟩ = false := hT1.fo.o.free 0
      have z1 : W1.frozen? ⟨tb, 0, none⟩ = false := hT1.fo.t.free 0
      have z2 : W1.frozen? ⟨vb, 0, none⟩ = false := hT1.fo.v.free 0
      have hfrom : ∀ lv' : Bool, (lv' = true → 0 < za ∧ 0 < zb) → FT w ⟨sp, rb, db, yb, ab, bb, ob, tb, vb⟩ ps d L n room (q : Int) ai bi i s1 ds 0 0 lv' (((W1.setCell ⟨ob, 0, none⟩ (.int .i64 0)).setCell ⟨tb, 0, none⟩ (.int .i64 0)).setCell ⟨vb, 0, none⟩ (.bool lv')) ∧ Bl (((W1.setCell ⟨ob, 0, none⟩ (.int .i64 0)).setCell ⟨tb, 0, none⟩ (.int .i64 0)).setCell ⟨vb, 0, none⟩ (.bool lv')) opb tOp #[.int .i64 kk, .int .i64 ww, .int .i64 qq, .int .i64 cc, .int .i64 xx, .int .i64 mm] := fun lv' hl => by
        have ho := ((HT.out.fo.o.set 0 (.int .i64 0)).far (p := ⟨tb, 0, none⟩) (by show ob ≠ tb; omega) (.int .i64 0)).far (p := ⟨vb, 0, none⟩) (by show ob ≠ vb; omega) (.bool lv')
        have ht := ((HT.out.fo.t.far (p := ⟨ob, 0, none⟩) (by show tb ≠ ob; omega) (.int .i64 0)).set 0 (.int .i64 0)).far (p := ⟨vb, 0, none⟩) (by show tb ≠ vb; omega) (.bool lv')
        have hv := ((HT.out.fo.v.far (p := ⟨ob, 0, none⟩) (by show vb ≠ ob; omega) (.int .i64 0)).far (p := ⟨tb, 0, none⟩) (by show vb ≠ tb; omega) (.int .i64 0)).set 0 (.bool lv')
        refine ⟨HT.out.from hq hain hbin (fun e => ?_) (Fr.setIn (Fr.setIn (Fr.setIn (Fr.refl _ _) (.inl (.inl rfl)) _) (.inl (.inr (.inl rfl))) _) (.inl (.inr (.inr rfl))) _) ho ht hv, ((HO.out.far (p := ⟨ob, 0, none⟩) (by show opb ≠ ob; omega) _).far (p := ⟨tb, 0, none⟩) (by show opb ≠ tb; omega) _).far (p := ⟨vb, 0, none⟩) (by show opb ≠ vb; omega) _⟩
        obtain ⟨g1, g2⟩ := hl e
        exact ⟨⟨la, hla, fun e => by rw [e] at hza; simp at hza; omega⟩, ⟨lb, hlb, fun e => by rw [e] at hzb; simp at hzb; omega⟩⟩
      have HF := hide hfrom
      have hz0a : 0 ≤ za := by omega
      have hz0b : 0 ≤ zb := by omega
      clear hT hT1 hx0 hfrom hdrf hla hlb hza hzb
      go_upto_if 60 with fail
      (try rw [hW1])
      (try simp only [hopb])
      go_cut [12] from 46 to 156 (fun s12 wx => s12 = .pointer (some ⟨opb, 0, none⟩) ∧ ∃ one two lv, FT w ⟨sp, rb, db, yb, ab, bb, ob, tb, vb⟩ ps d L n room (q : Int) ai bi i s1 ds one two lv wx ∧ Bl wx opb tOp #[.int .i64 kk, .int .i64 ww, .int .i64 qq, .int .i64 cc, .int .i64 xx, .int .i64 mm])
      case first =>
        clear hW1 hopb d0 d1 d2 d3 d4 d5
        by_cases hfi : (i : Int) = fi
        · have hfi' : ((i : Int) == fi) = true := by simpa using hfi
          clear hfi
          by_cases hA0 : 0 < za
          · have hA0' : decide (0 < za) = true := by simpa using hA0
            by_cases hB0 : 0 < zb
            · have hB0' : decide (0 < zb) = true := by simpa using hB0
              go_wp2_with fail
              (refine (hLa _ (Fr.setIn (Fr.setIn (Fr.refl _ _) (.inl (.inl rfl)) _) (.inl (.inr rfl)) _)).mono ?_); (rintro e w9 ⟨rfl, rfl⟩); (go_wp2_with fail)
              (refine (hLb _ (Fr.setIn (Fr.setIn (Fr.refl _ _) (.inl (.inl rfl)) _) (.inl (.inr rfl)) _)).mono ?_); (rintro e w9 ⟨rfl, rfl⟩); (go_wp2_with fail)
              go_meet
              case rel => exact ⟨rfl, _, _, _, (HF.out true (fun _ => ⟨hA0, hB0⟩)).1, (HF.out true (fun _ => ⟨hA0, hB0⟩)).2⟩
            · have hB0' : decide (0 < zb) = false := by simpa using hB0
              go_wp2_with fail
              (refine (hLa _ (Fr.setIn (Fr.setIn (Fr.refl _ _) (.inl (.inl rfl)) _) (.inl (.inr rfl)) _)).mono ?_); (rintro e w9 ⟨rfl, rfl⟩); (go_wp2_with fail)
              (refine (hLb _ (Fr.setIn (Fr.setIn (Fr.refl _ _) (.inl (.inl rfl)) _) (.inl (.inr rfl)) _)).mono ?_); (rintro e w9 ⟨rfl, rfl⟩); (go_wp2_with fail)
              go_meet
              case rel => exact ⟨rfl, _, _, _, (HF.out false (fun e => by cases e)).1, (HF.out false (fun e => by cases e)).2⟩
          · have hA0' : decide (0 < za) = false := by simpa using hA0
            go_wp2_with fail
            (refine (hLa _ (Fr.setIn (Fr.setIn (Fr.refl _ _) (.inl (.inl rfl)) _) (.inl (.inr rfl)) _)).mono ?_); (rintro e w9 ⟨rfl, rfl⟩); (go_wp2_with fail)
            go_meet
            case rel => exact ⟨rfl, _, _, _, (HF.out false (fun e => by cases e)).1, (HF.out false (fun e => by cases e)).2⟩
        · have hfi' : ((i : Int) == fi) = false := by simpa using hfi
          go_wp2_with fail
          go_meet
          case rel => exact ⟨rfl, _, _, _, HT.out, HO.out⟩
      case rest =>
      obtain ⟨rfl, one2, two2, lv2, hT2, hx2⟩ := hcut
      clear HT HO HF hLa hLb a0' b0' p0 t0 t1 t2 z0 z1 z2 hz0a hz0b hvl hW1 hopb d0 d1 d2 d3 d4 d5
      have o0 : wc.cell? ⟨opb, 0, none⟩ = some (.int .i64 kk) := hx2.cell' (i := 0) rfl
      have o2 : wc.cell? ⟨opb, 2, none⟩ = some (.int .i64 qq) := hx2.cell' (i := 2) rfl
      have o3 : wc.cell? ⟨opb, 3, none⟩ = some (.int .i64 cc) := hx2.cell' (i := 3) rfl
      have p0 : wc.cell? ⟨db, 0, none⟩ = some (.pointer (some ⟨d, 0, none⟩)) := hT2.fo.d.cell' (i := 0) rfl
      have y0 : wc.cell? ⟨yb, 0, none⟩ = some (.int .i64 (n : Int)) := hT2.fo.y.cell' (i := 0) rfl
      have HT := hide hT2
      have HO := hide hx2
      clear hT2 hx2
      by_cases k1 : kk = 1
      · subst k1
        have e1 := Int.emod_nonneg qq (show (n : Int) ≠ 0 by omega)
        have e2 := Int.emod_lt_of_pos qq (show (0 : Int) < (n : Int) by omega)
        obtain ⟨qi, hqi⟩ : ∃ qi : Nat, qq % (n : Int) = (qi : Int) := ⟨(qq % (n : Int)).toNat, by omega⟩
        have hrd := fun W => round_any W qq n (by omega) (by omega) hqz
        simp only [hqi] at hrd
        have e3 := Int.emod_nonneg cc (show (8 : Int) ≠ 0 by omega)
        have e4 := Int.emod_lt_of_pos cc (show (0 : Int) < 8 by omega)
        have hrc := fun W => round_any W cc 8 (by omega) (by omega) hcz
        obtain ⟨z8, hz8⟩ : ∃ z, cc % 8 = z := ⟨_, rfl⟩
        simp only [hz8] at hrc
        rw [hz8] at e3 e4
        have hqk : qi < n := by rw [hqi] at e2; omega
        obtain ⟨c1, hc1⟩ : ∃ c1, 1 + z8 = c1 := ⟨_, rfl⟩
        have iw : IntKind.i64.wrap (1 + z8) = c1 := by rw [← hc1]; exact IntWalk.i64_in _ (by omega)
        have hcb : 1 ≤ c1 ∧ c1 ≤ 8 := by omega
        have hadd : ∀ W2, Fr (fun _ => False) wc W2 → Calls Try.prog 11 #[.pointer (some ⟨d, 0, none⟩), .int .i64 (qi : Int), .int .i64 c1, .agg #[.int .i64 0, .int .i64 c1]] W2 fun e W' => (∃ v, e = .returned v) ∧ AddRes wc d L s1 qi c1 W' := fun W2 hf =>
          (Add_res (HT.out.dr.quiet hf) (by rw [HT.out.fb.ll]; exact hqk) HT.out.nb hcb).mono fun e W' ⟨h1, h2⟩ => ⟨h1, AddRes.later hf (fun x hx => HT.out.dr.lt hx) h2⟩
        clear hqz hcz hz8 hqi e1 e2 hc1 e3 e4
        go_wp2_with fail
        refine (hrc _).mono ?_
        rintro e w9 ⟨rfl, rfl⟩
        go_upto_region 20 with fail
        go_cut [13] from 78 to 87 (fun s13 wx => s13 = .int .i64 c1 ∧ AddRes wc d L s1 qi c1 wx)
        case first =>
          have hS0 : Fr (fun _ => False) wc wc := Fr.refl _ _
          have haddD := hadd wc.drew (hS0.drew)
          clear hadd
          have HK : Hid (∀ w4, AddRes wc d L s1 qi c1 w4 → w4.cell? ⟨db, 0, none⟩ = some (.pointer (some ⟨d, 0, none⟩)) ∧ w4.cell? ⟨yb, 0, none⟩ = some (.int .i64 (n : Int)) ∧ w4.cell? ⟨opb, 2, none⟩ = some (.int .i64 qq)) := fun w4 hr =>
            ⟨(hr.op HT.out.dr (.inr (.inl rfl)) HT.out.fo.d).cell' (i := 0) rfl, (hr.op HT.out.dr (.inr (.inr rfl)) HT.out.fo.y).cell' (i := 0) rfl, (hr.op HT.out.dr (.inl rfl) HO.out).cell' (i := 2) rfl⟩
          go_region_held3 (fun w' => w'.cell? ⟨db, 0, none⟩ = some (.pointer (some ⟨d, 0, none⟩)) ∧ w'.cell? ⟨yb, 0, none⟩ = some (.int .i64 (n : Int)) ∧ w'.cell? ⟨opb, 2, none⟩ = some (.int .i64 qq)) (go_keep)
            (first
              | (go_at_call 9; ((with_reducible refine (hrd _).mono ?_); rintro e w4 ⟨rfl, rfl⟩))
              | (go_at_call 11; ((with_reducible refine haddD.mono ?_); rintro e w4 ⟨⟨v4, rfl⟩, hres⟩; have k0 := (HK.out _ hres).1; have k1 := (HK.out _ hres).2.1; have k2 := (HK.out _ hres).2.2)))
          all_goals (go_wp2_with fail; go_meet)
          all_goals (case rel => exact ⟨rfl, by assumption⟩)
        case rest =>
        obtain ⟨rfl, hres⟩ := hcut
        obtain ⟨s', hT3⟩ := HT.out.add hres
        have o00 := (hres.op HT.out.dr (.inl rfl) HO.out).cell' (i := 0) rfl
        have HT3 := hide hT3
        clear hres hT3 hadd o0 o2 o3 p0 y0 hrd hrc
        go_wp2_with fail
        refine ⟨?_, ?_⟩
        · (repeat apply Exists.intro)
          refine ⟨?_, rfl⟩
          exact ⟨i + 1, _, _, _, _, (by push_cast; rfl), hlt, HT3.out⟩
        · simp [intOf]; omega
      · by_cases k4 : kk = 4
        · subst k4
          clear hqz hcz o2 o3
          go_wp2_with fail
          refine (Round_any _ _ ⟨_, rfl⟩).mono ?_
          rintro e w5 ⟨rfl, hw5⟩
          have hfn := func_nil
          go_wp2_with fail
          clear hfn
          have hF5 : Fr (fun _ => False) wc w5 := by rw [← hw5]; (repeat (first | with_reducible exact Fr.refl _ _ | with_reducible assumption | with_reducible refine Fr.drew ?_ | with_reducible refine Fr.drewN ?_ _ | with_reducible refine Fr.alloc ?_ _ | with_reducible refine Fr.setIn ?_ (by first | exact Or.inl rfl | exact Or.inr (by simp; done) | exact Or.inr (by simp; omega) | exact Or.inr (by omega)) _))
          have hbx : Bl w5 wc.heap.size tPD #[.pointer (some ⟨d, 0, none⟩)] := by rw [← hw5]; exact Bl.newAt (by simp)
          obtain ⟨bx, hbxe⟩ : ∃ bx, wc.heap.size = bx := ⟨_, rfl⟩
          rw [hbxe] at hbx
          simp only [hbxe]
          have HT5 := hide (HT.out.quiet hF5)
          have HJ0 := hide (HT5.out.begin (by omega) hbx)
          have hs5 : w.heap.size ≤ w5.heap.size := HT5.out.fr.size
          have hord5 : vb < w5.heap.size := HT5.out.fo.v.lt
          have o05 := (HO.out.fr hF5 id).cell' (i := 0) rfl
          clear hF5 hbx hw5 hbxe o0 p0 y0
          refine (wpIn_wide (n := 5)).1 ?_
          refine wpIn_rangeFunc_K (fun a x a' W => ∃ B, a' = { tmps := (((a.tmps.setIfInBounds 96 (.int .i64 (x.1 : Int))).setIfInBounds 97 (tv x.2)).setIfInBounds 15 (.int .i64 (x.1 : Int))).setIfInBounds 16 (.pointer (some ⟨B, 0, none⟩)), defers := [] } ∧ Bl W B 39 #[.int .i64 x.2.1.1, .int .i64 x.2.1.2])
            rfl (by omega) (gf := 32) (lb := #[.pointer (some ⟨bx, 0, none⟩)]) rfl trivial (enters_of Try.func32 (by kernel_rfl) rfl)
            (round_seq (bx := bx) (d := d) (L := L) (D := 7) 4 s1 HT.out.nb (by omega)) (fun x => rfl) (fun h k b cs hb => k b cs (h b cs hb)) (fun W l o o' hl ho b cs hb => hb.own (grownBy_putObj' W l o') (fun r e => by cases e; exact ⟨o, hl, ho⟩))
            (FJs w ⟨sp, rb, db, yb, ab, bb, ob, tb, vb⟩ ps bx d L n room (q : Int) ai bi i s1 ds w5.heap.size) (fun _ _ _ => False) (fun _ _ ⟨_, _, _, _, h⟩ => h.rh) (fun _ _ _ h => h.elim) ?turn (fun _ _ _ _ _ h => h.elim) ?own (fun _ _ _ _ _ h => h.elim) HJ0.out
            (fun x a' _ W W' row ⟨B, e, hb⟩ hg hr => ⟨B, e, hb.own hg (fun r e => (hr r e).2)⟩) ?assign ?body ?done (fun _ _ _ _ _ _ h => h.elim)
          case turn => exact fun s W s' W' hj ht => ⟨(FJs.turn (by omega) hj ht).1, (FJs.turn (by omega) hj ht).2 _⟩
          case own => exact FJs.own hs5
          case assign =>
            intro l s x W K hJ hR hK
            simp only [encY, tv]
            gi_wp2
            obtain ⟨B, hB⟩ : ∃ B, W.heap.size = B := ⟨_, rfl⟩
            simp only [hB]
            refine hK _ _ ((KeepsOthers.alloc W _).from _) (fun b cs hb => hb.alloc _) ?_ ⟨B, rfl, by rw [← hB]; exact Bl.new _ _ _⟩
            exact (FJs.own hs5).alloc _ hJ
          case body =>
            rintro l r ⟨qk, y⟩ a' W' hl - ⟨hBm, one3, two3, lv3, hJ⟩ ⟨B, rfl, hB⟩ hR
            obtain ⟨hp, hv, hfin⟩ := hR
            obtain ⟨-, -, -, hy1, hy2, hy3⟩ := hJ.fi.pend qk y hp
            obtain ⟨la, hla⟩ := get_of hJ.fi.ll hain
            obtain ⟨lb, hlb⟩ := get_of hJ.fi.ll hbin
            obtain ⟨za, hza⟩ : ∃ z : Int, (la.things.length : Int) = z := ⟨_, rfl⟩
            obtain ⟨zb, hzb⟩ : ∃ z : Int, (lb.things.length : Int) = z := ⟨_, rfl⟩
            have hJ1 := hJ.b1.1
            have hJ2 := hJ.b2.1
            have hJ3 : one3 ≤ 8 * i := by
              have h1 := hJ.b1.2 la hla
              have h2 : 0 ≤ pc r ai := by
                by_cases e : qk = ai
                · rw [((pn_some hp ai).1 e).2]; omega
                · rw [((pn_some hp ai).2 e).2]; omega
              omega
            have hJ4 : two3 ≤ 8 * i := by
              have h1 := hJ.b2.2 lb hlb
              have h2 : 0 ≤ pc r bi := by
                by_cases e : qk = bi
                · rw [((pn_some hp bi).1 e).2]; omega
                · rw [((pn_some hp bi).2 e).2]; omega
              omega
            have hy4 : 1 ≤ y.1.2 ∧ y.1.2 ≤ 8 := by omega
            have hdrf : ∀ W2, Fr (fun x => x = ob ∨ x = tb) W' W2 → DrrAt W2 d L (7 + 1024) r.s := fun W2 hf => hJ.rh.at_.fr hf fun x hx e => by
              rcases e with rfl | rfl
              · exact dr_ne2 hJ.rh.at_ hJ.fo.o (by simp) hx
              · exact dr_ne2 hJ.rh.at_ hJ.fo.t (by simp) hx
            have hA1 := fun W2 (hf : Fr (fun x => x = ob ∨ x = tb) W' W2) => Len_in W2 (hdrf W2 hf) ai la hla
            have hB1 := fun W2 (hf : Fr (fun x => x = ob ∨ x = tb) W' W2) => Len_in W2 (hdrf W2 hf) bi lb hlb
            simp only [hza] at hA1
            simp only [hzb] at hB1
            have p0 : W'.cell? ⟨db, 0, none⟩ = some (.pointer (some ⟨d, 0, none⟩)) := hJ.fo.d.cell' (i := 0) rfl
            have a0' : W'.cell? ⟨ab, 0, none⟩ = some (.int .i64 (ai : Int)) := hJ.fo.a.cell' (i := 0) rfl
            have b0' : W'.cell? ⟨bb, 0, none⟩ = some (.int .i64 (bi : Int)) := hJ.fo.b.cell' (i := 0) rfl
            have y2 : W'.cell? ⟨yb, 2, none⟩ = some (.int .i64 (q : Int)) := hJ.fo.y.cell' (i := 2) rfl
            have t0 : W'.cell? ⟨ob, 0, none⟩ = some (.int .i64 one3) := hJ.fo.o.cell' (i := 0) rfl
            have t1 : W'.cell? ⟨tb, 0, none⟩ = some (.int .i64 two3) := hJ.fo.t.cell' (i := 0) rfl
            have t2 : W'.cell? ⟨vb, 0, none⟩ = some (.bool lv3) := hJ.fo.v.cell' (i := 0) rfl
            have z0 : W'.frozen? ⟨ob, 0, none⟩ = false := hJ.fo.o.free 0
            have z1 : W'.frozen? ⟨tb, 0, none⟩ = false := hJ.fo.t.free 0
            have z2 : W'.frozen? ⟨vb, 0, none⟩ = false := hJ.fo.v.free 0
            have d1 : W'.cell? ⟨B, 1, none⟩ = some (.int .i64 y.1.2) := hB.cell' (i := 1) rfl
            have nB1 : ¬ B = ob := hB.apart hJ.fo.o (by decide)
            have nB2 : ¬ B = tb := hB.apart hJ.fo.t (by decide)
            have nB3 : ¬ B = vb := hB.apart hJ.fo.v (by decide)
            obtain ⟨o', ho'⟩ : ∃ o', (one3 + if qk = ai then y.1.2 else 0) = o' := ⟨_, rfl⟩
            obtain ⟨t', ht'⟩ : ∃ t', (two3 + if qk = bi then y.1.2 else 0) = t' := ⟨_, rfl⟩
            have wd1 : IntKind.i64.wrap (o' - t') = o' - t' := IntWalk.i64_in _ (by rw [← ho', ← ht']; split <;> split <;> omega)
            have wd2 : IntKind.i64.wrap (t' - o') = t' - o' := IntWalk.i64_in _ (by rw [← ho', ← ht']; split <;> split <;> omega)
            have wq : IntKind.i64.wrap ((q : Int) + 16) = (q : Int) + 16 := IntWalk.i64_in _ (by omega)
            have hNE : 0 < za → 0 < zb → NE r.s ai ∧ NE r.s bi := fun h1 h2 => ⟨⟨la, hla, fun e => by rw [e] at hza; simp at hza; omega⟩, ⟨lb, hlb, fun e => by rw [e] at hzb; simp at hzb; omega⟩⟩
            have HG : Hid (lv3 = true → 0 < za → 0 < zb → o' - t' ≤ (q : Int) + 16 ∧ t' - o' ≤ (q : Int) + 16) := fun e h1 h2 => by
              have := hJ.gap (by omega) hp e (hNE h1 h2).1 (hNE h1 h2).2
              rw [ho', ht'] at this
              exact this
            have HFin : Hid (∀ W2, Fr (fun x => x = ob ∨ x = tb) W' W2 → Bl W2 ob tInt #[.int .i64 o'] → Bl W2 tb tInt #[.int .i64 t'] → Bl W2 vb tBool #[.bool lv3] → ∀ lv' : Bool, (lv' = true → lv3 = true ∧ 0 < za ∧ 0 < zb) → KeepsFrom w5.heap.size W' (W2.setCell ⟨vb, 0, none⟩ (.bool lv')) ∧ KpY W' (W2.setCell ⟨vb, 0, none⟩ (.bool lv')) ∧ ∃ s', AfY r (qk, y) s' ∧ FJs w ⟨sp, rb, db, yb, ab, bb, ob, tb, vb⟩ ps bx d L n room (q : Int) ai bi i s1 ds w5.heap.size s' (W2.setCell ⟨vb, 0, none⟩ (.bool lv'))) := fun W2 hf h1 h2 h3 lv' hl' => by
              obtain ⟨f1, f2, f3⟩ := hJ.book hq hBm (lv' := lv') hp (fun e => ⟨(hl' e).1, hNE (hl' e).2.1 (hl' e).2.2⟩) ((hf.mono fun x _ e => e.elim .inl (fun e => .inr (.inl e))).setIn (.inl (.inr (.inr rfl))) (.bool lv')) (by rw [ho']; exact h1.far (p := ⟨vb, 0, none⟩) (by show ob ≠ vb; omega) _) (by rw [ht']; exact h2.far (p := ⟨vb, 0, none⟩) (by show tb ≠ vb; omega) _) (h3.set 0 (.bool lv'))
              exact ⟨f3 _, f2, _, rfl, f1⟩
            have HJ := hide hJ
            clear hJ hB hBm hp hv hfin hy1 hy2 hy3 hla hlb hza hzb hdrf hNE
            simp only [tv, List.setIfInBounds_toArray, List.set_cons_succ, List.set_cons_zero]
            by_cases qa : qk = ai
            · by_cases qb : qk = bi
              · skip
                have hqa : ((qk : Int) == (ai : Int)) = true := by simp; omega
                have w1' : IntKind.i64.wrap (one3 + y.1.2) = o' := by rw [← ho', if_pos qa]; exact IntWalk.i64_in _ (by omega)
                have hqb : ((qk : Int) == (bi : Int)) = true := by simp; omega
                have w2' : IntKind.i64.wrap (two3 + y.1.2) = t' := by rw [← ht', if_pos qb]; exact IntWalk.i64_in _ (by omega)
                have HFW := hide (HFin.out _ (Fr.setIn (Fr.setIn (Fr.refl _ _) (.inl (.inl rfl)) _) (.inl (.inr rfl)) _) (Bl.far (Bl.set HJ.out.fo.o 0 (.int .i64 o')) (p := ⟨tb, 0, none⟩) (by show ob ≠ tb; omega) (.int .i64 t')) (Bl.set (Bl.far HJ.out.fo.t (p := ⟨ob, 0, none⟩) (by show tb ≠ ob; omega) (.int .i64 o')) 0 (.int .i64 t')) (Bl.far (Bl.far HJ.out.fo.v (p := ⟨ob, 0, none⟩) (by show vb ≠ ob; omega) (.int .i64 o')) (p := ⟨tb, 0, none⟩) (by show vb ≠ tb; omega) (.int .i64 t')))
                clear qa qb hJ1 hJ2 hJ3 hJ4 ho' ht'
                cases lv3 with
                | false =>
                  clear hA1 hB1
                  gi_wp2
                  refine ⟨trivial, ?_⟩
                  gi_wp2
                  refine ⟨trivial, ?_⟩
                  gi_wp2
                  exact HFW.out false (fun e => by cases e)
                | true =>
                  by_cases hA0 : 0 < za
                  · have hA0' : decide (0 < za) = true := by simpa using hA0
                    by_cases hB0 : 0 < zb
                    · have hB0' : decide (0 < zb) = true := by simpa using hB0
                      obtain ⟨gg1, gg2⟩ := HG.out rfl hA0 hB0
                      have k1' : decide ((q : Int) + 16 < o' - t') = false := by simp; omega
                      have k2' : decide ((q : Int) + 16 < t' - o') = false := by simp; omega
                      clear gg1 gg2
                      gi_wp2
                      refine ⟨trivial, ((callsIn_wide.2 (hA1 _ (Fr.setIn (Fr.setIn (Fr.refl _ _) (.inl (.inl rfl)) _) (.inl (.inr rfl)) _))).inRound l).mono ?_⟩
                      rintro e w9 ⟨rfl, rfl⟩
                      gi_wp2
                      refine ⟨trivial, ((callsIn_wide.2 (hB1 _ (Fr.setIn (Fr.setIn (Fr.refl _ _) (.inl (.inl rfl)) _) (.inl (.inr rfl)) _))).inRound l).mono ?_⟩
                      rintro e w9 ⟨rfl, rfl⟩
                      gi_wp2
                      exact HFW.out true (fun _ => ⟨by trivial, hA0, hB0⟩)
                    · have hB0' : decide (0 < zb) = false := by simpa using hB0
                      gi_wp2
                      refine ⟨trivial, ((callsIn_wide.2 (hA1 _ (Fr.setIn (Fr.setIn (Fr.refl _ _) (.inl (.inl rfl)) _) (.inl (.inr rfl)) _))).inRound l).mono ?_⟩
                      rintro e w9 ⟨rfl, rfl⟩
                      gi_wp2
                      refine ⟨trivial, ((callsIn_wide.2 (hB1 _ (Fr.setIn (Fr.setIn (Fr.refl _ _) (.inl (.inl rfl)) _) (.inl (.inr rfl)) _))).inRound l).mono ?_⟩
                      rintro e w9 ⟨rfl, rfl⟩
                      gi_wp2
                      exact HFW.out false (fun e => by cases e)
                  · have hA0' : decide (0 < za) = false := by simpa using hA0
                    gi_wp2
                    refine ⟨trivial, ((callsIn_wide.2 (hA1 _ (Fr.setIn (Fr.setIn (Fr.refl _ _) (.inl (.inl rfl)) _) (.inl (.inr rfl)) _))).inRound l).mono ?_⟩
                    rintro e w9 ⟨rfl, rfl⟩
                    gi_wp2
                    refine ⟨trivial, ?_⟩
                    gi_wp2
                    exact HFW.out false (fun e => by cases e)
              · skip
                have hqa : ((qk : Int) == (ai : Int)) = true := by simp; omega
                have w1' : IntKind.i64.wrap (one3 + y.1.2) = o' := by rw [← ho', if_pos qa]; exact IntWalk.i64_in _ (by omega)
                have hqb : ((qk : Int) == (bi : Int)) = false := by simp; omega
                obtain rfl : t' = two3 := by rw [← ht', if_neg qb]; omega
                have HFW := hide (HFin.out _ (Fr.setIn (Fr.refl _ _) (.inl (.inl rfl)) _) (Bl.set HJ.out.fo.o 0 (.int .i64 o')) (Bl.far HJ.out.fo.t (p := ⟨ob, 0, none⟩) (by show tb ≠ ob; omega) (.int .i64 o')) (Bl.far HJ.out.fo.v (p := ⟨ob, 0, none⟩) (by show vb ≠ ob; omega) (.int .i64 o')))
                clear qa qb hJ1 hJ2 hJ3 hJ4 ho' ht'
                cases lv3 with
                | false =>
                  clear hA1 hB1
                  gi_wp2
                  refine ⟨trivial, ?_⟩
                  gi_wp2
                  refine ⟨trivial, ?_⟩
                  gi_wp2
                  exact HFW.out false (fun e => by cases e)
                | true =>
                  by_cases hA0 : 0 < za
                  · have hA0' : decide (0 < za) = true := by simpa using hA0
                    by_cases hB0 : 0 < zb
                    · have hB0' : decide (0 < zb) = true := by simpa using hB0
                      obtain ⟨gg1, gg2⟩ := HG.out rfl hA0 hB0
                      have k1' : decide ((q : Int) + 16 < o' - t') = false := by simp; omega
                      have k2' : decide ((q : Int) + 16 < t' - o') = false := by simp; omega
                      clear gg1 gg2
                      gi_wp2
                      refine ⟨trivial, ((callsIn_wide.2 (hA1 _ (Fr.setIn (Fr.refl _ _) (.inl (.inl rfl)) _))).inRound l).mono ?_⟩
                      rintro e w9 ⟨rfl, rfl⟩
                      gi_wp2
                      refine ⟨trivial, ((callsIn_wide.2 (hB1 _ (Fr.setIn (Fr.refl _ _) (.inl (.inl rfl)) _))).inRound l).mono ?_⟩
                      rintro e w9 ⟨rfl, rfl⟩
                      gi_wp2
                      exact HFW.out true (fun _ => ⟨by trivial, hA0, hB0⟩)
                    · have hB0' : decide (0 < zb) = false := by simpa using hB0
                      gi_wp2
                      refine ⟨trivial, ((callsIn_wide.2 (hA1 _ (Fr.setIn (Fr.refl _ _) (.inl (.inl rfl)) _))).inRound l).mono ?_⟩
                      rintro e w9 ⟨rfl, rfl⟩
                      gi_wp2
                      refine ⟨trivial, ((callsIn_wide.2 (hB1 _ (Fr.setIn (Fr.refl _ _) (.inl (.inl rfl)) _))).inRound l).mono ?_⟩
                      rintro e w9 ⟨rfl, rfl⟩
                      gi_wp2
                      exact HFW.out false (fun e => by cases e)
                  · have hA0' : decide (0 < za) = false := by simpa using hA0
                    gi_wp2
                    refine ⟨trivial, ((callsIn_wide.2 (hA1 _ (Fr.setIn (Fr.refl _ _) (.inl (.inl rfl)) _))).inRound l).mono ?_⟩
                    rintro e w9 ⟨rfl, rfl⟩
                    gi_wp2
                    refine ⟨trivial, ?_⟩
                    gi_wp2
                    exact HFW.out false (fun e => by cases e)
            · by_cases qb : qk = bi
              · skip
                have hqa : ((qk : Int) == (ai : Int)) = false := by simp; omega
                obtain rfl : o' = one3 := by rw [← ho', if_neg qa]; omega
                have hqb : ((qk : Int) == (bi : Int)) = true := by simp; omega
                have w2' : IntKind.i64.wrap (two3 + y.1.2) = t' := by rw [← ht', if_pos qb]; exact IntWalk.i64_in _ (by omega)
                have HFW := hide (HFin.out _ (Fr.setIn (Fr.refl _ _) (.inl (.inr rfl)) _) (Bl.far HJ.out.fo.o (p := ⟨tb, 0, none⟩) (by show ob ≠ tb; omega) (.int .i64 t')) (Bl.set HJ.out.fo.t 0 (.int .i64 t')) (Bl.far HJ.out.fo.v (p := ⟨tb, 0, none⟩) (by show vb ≠ tb; omega) (.int .i64 t')))
                clear qa qb hJ1 hJ2 hJ3 hJ4 ho' ht'
                cases lv3 with
                | false =>
                  clear hA1 hB1
                  gi_wp2
                  refine ⟨trivial, ?_⟩
                  gi_wp2
                  refine ⟨trivial, ?_⟩
                  gi_wp2
                  exact HFW.out false (fun e => by cases e)
                | true =>
                  by_cases hA0 : 0 < za
                  · have hA0' : decide (0 < za) = true := by simpa using hA0
                    by_cases hB0 : 0 < zb
                    · have hB0' : decide (0 < zb) = true := by simpa using hB0
                      obtain ⟨gg1, gg2⟩ := HG.out rfl hA0 hB0
                      have k1' : decide ((q : Int) + 16 < o' - t') = false := by simp; omega
                      have k2' : decide ((q : Int) + 16 < t' - o') = false := by simp; omega
                      clear gg1 gg2
                      gi_wp2
                      refine ⟨trivial, ((callsIn_wide.2 (hA1 _ (Fr.setIn (Fr.refl _ _) (.inl (.inr rfl)) _))).inRound l).mono ?_⟩
                      rintro e w9 ⟨rfl, rfl⟩
                      gi_wp2
                      refine ⟨trivial, ((callsIn_wide.2 (hB1 _ (Fr.setIn (Fr.refl _ _) (.inl (.inr rfl)) _))).inRound l).mono ?_⟩
                      rintro e w9 ⟨rfl, rfl⟩
                      gi_wp2
                      exact HFW.out true (fun _ => ⟨by trivial, hA0, hB0⟩)
                    · have hB0' : decide (0 < zb) = false := by simpa using hB0
                      gi_wp2
                      refine ⟨trivial, ((callsIn_wide.2 (hA1 _ (Fr.setIn (Fr.refl _ _) (.inl (.inr rfl)) _))).inRound l).mono ?_⟩
                      rintro e w9 ⟨rfl, rfl⟩
                      gi_wp2
                      refine ⟨trivial, ((callsIn_wide.2 (hB1 _ (Fr.setIn (Fr.refl _ _) (.inl (.inr rfl)) _))).inRound l).mono ?_⟩
                      rintro e w9 ⟨rfl, rfl⟩
                      gi_wp2
                      exact HFW.out false (fun e => by cases e)
                  · have hA0' : decide (0 < za) = false := by simpa using hA0
                    gi_wp2
                    refine ⟨trivial, ((callsIn_wide.2 (hA1 _ (Fr.setIn (Fr.refl _ _) (.inl (.inr rfl)) _))).inRound l).mono ?_⟩
                    rintro e w9 ⟨rfl, rfl⟩
                    gi_wp2
                    refine ⟨trivial, ?_⟩
                    gi_wp2
                    exact HFW.out false (fun e => by cases e)
              · skip
                have hqa : ((qk : Int) == (ai : Int)) = false := by simp; omega
                obtain rfl : o' = one3 := by rw [← ho', if_neg qa]; omega
                have hqb : ((qk : Int) == (bi : Int)) = false := by simp; omega
                obtain rfl : t' = two3 := by rw [← ht', if_neg qb]; omega
                have HFW := hide (HFin.out _ (Fr.refl _ _) HJ.out.fo.o HJ.out.fo.t HJ.out.fo.v)
                clear qa qb hJ1 hJ2 hJ3 hJ4 ho' ht'
                cases lv3 with
                | false =>
                  clear hA1 hB1
                  gi_wp2
                  refine ⟨trivial, ?_⟩
                  gi_wp2
                  refine ⟨trivial, ?_⟩
                  gi_wp2
                  exact HFW.out false (fun e => by cases e)
                | true =>
                  by_cases hA0 : 0 < za
                  · have hA0' : decide (0 < za) = true := by simpa using hA0
                    by_cases hB0 : 0 < zb
                    · have hB0' : decide (0 < zb) = true := by simpa using hB0
                      obtain ⟨gg1, gg2⟩ := HG.out rfl hA0 hB0
                      have k1' : decide ((q : Int) + 16 < o' - t') = false := by simp; omega
                      have k2' : decide ((q : Int) + 16 < t' - o') = false := by simp; omega
                      clear gg1 gg2
                      gi_wp2
                      refine ⟨trivial, ((callsIn_wide.2 (hA1 _ (Fr.refl _ _))).inRound l).mono ?_⟩
                      rintro e w9 ⟨rfl, rfl⟩
                      gi_wp2
                      refine ⟨trivial, ((callsIn_wide.2 (hB1 _ (Fr.refl _ _))).inRound l).mono ?_⟩
                      rintro e w9 ⟨rfl, rfl⟩
                      gi_wp2
                      exact HFW.out true (fun _ => ⟨by trivial, hA0, hB0⟩)
                    · have hB0' : decide (0 < zb) = false := by simpa using hB0
                      gi_wp2
                      refine ⟨trivial, ((callsIn_wide.2 (hA1 _ (Fr.refl _ _))).inRound l).mono ?_⟩
                      rintro e w9 ⟨rfl, rfl⟩
                      gi_wp2
                      refine ⟨trivial, ((callsIn_wide.2 (hB1 _ (Fr.refl _ _))).inRound l).mono ?_⟩
                      rintro e w9 ⟨rfl, rfl⟩
                      gi_wp2
                      exact HFW.out false (fun e => by cases e)
                  · have hA0' : decide (0 < za) = false := by simpa using hA0
                    gi_wp2
                    refine ⟨trivial, ((callsIn_wide.2 (hA1 _ (Fr.refl _ _))).inRound l).mono ?_⟩
                    rintro e w9 ⟨rfl, rfl⟩
                    gi_wp2
                    refine ⟨trivial, ?_⟩
                    gi_wp2
                    exact HFW.out false (fun e => by cases e)
          case done =>
            intro D r W' hD hfin hJ hW
            obtain ⟨one3, two3, lv3, hT6, hgap⟩ := FJs.done (by omega) HT.out.rm hfin hJ hD hs5 hW
            obtain ⟨l1, hl1⟩ := get_of hT6.fb.ll hain
            obtain ⟨l2, hl2⟩ := get_of hT6.fb.ll hbin
            have g1 := hT6.b1.2 l1 hl1
            have g2 := hT6.b2.2 l2 hl2
            have g3 := hT6.b1.1
            have g4 := hT6.b2.1
            have v0 : W'.cell? ⟨vb, 0, none⟩ = some (.bool lv3) := hT6.fo.v.cell' (i := 0) rfl
            have v1 : W'.cell? ⟨ob, 0, none⟩ = some (.int .i64 one3) := hT6.fo.o.cell' (i := 0) rfl
            have v2 : W'.cell? ⟨tb, 0, none⟩ = some (.int .i64 two3) := hT6.fo.t.cell' (i := 0) rfl
            have w1' : IntKind.i64.wrap (one3 - two3) = one3 - two3 := IntWalk.i64_in _ (by omega)
            have w2' : IntKind.i64.wrap (two3 - one3) = two3 - one3 := IntWalk.i64_in _ (by omega)
            have HT6 := hide hT6
            clear hT6 hJ hW hfin hl1 hl2 g1 g2 g3 g4 HJ0 HT5
            cases lv3 with
            | false =>
              clear hgap
              go_wp2_with fail
              refine ⟨?_, ?_⟩
              · (repeat apply Exists.intro)
                refine ⟨?_, rfl⟩
                exact ⟨i + 1, _, _, _, _, (by push_cast; rfl), hlt, HT6.out.more⟩
              · simp [intOf]; omega
            | true =>
              obtain ⟨h1, h2⟩ := hgap rfl
              have j1 : decide (16 ≤ one3 - two3) = false := by simp; omega
              have j2 : decide (16 ≤ two3 - one3) = false := by simp; omega
              clear hgap h1 h2
              go_wp2_with fail
              refine ⟨?_, ?_⟩
              · (repeat apply Exists.intro)
                refine ⟨?_, rfl⟩
                exact ⟨i + 1, _, _, _, _, (by push_cast; rfl), hlt, HT6.out.more⟩
              · simp [intOf]; omega
        · clear hqz hcz
          go_wp2_with fail
          refine ⟨?_, ?_⟩
          · (repeat apply Exists.intro)
            refine ⟨?_, rfl⟩
            exact ⟨i + 1, _, _, _, _, (by push_cast; rfl), hlt, HT.out.more⟩
          · simp [intOf]; omega
    · obtain rfl : i = sn := by omega
      have hr0 := hT.fo.r
      have r0 : wo.cell? ⟨rb, 0, none⟩ = some (.bool false) := hr0.cell' (i := 0) rfl
      have zr := hr0.free 0
      have HT := hide hT
      have HR := hide hr0
      clear hT hr0
      go_wp2_with fail
      have hFw : Fr (fun x => x = rb) wo (wo.setCell ⟨rb, 0, none⟩ (.bool true)) := (Fr.refl _ _).setAt _
      refine leave_marks (lo := w.heap.size) ds _ (HT.out.ma.keep hFw fun x hx e => ?_) fun W' hf => ?_
      · have h1 := HR.out
        unfold Bl at h1
        rw [hx] at e
        rw [h1] at e; cases e
      · have h1 := (HR.out.set 0 (.bool true)).fr hf (fun e => by
          have h2 := HR.out.set 0 (.bool true)
          unfold Bl at h2
          rw [h2] at e; cases e.2)
        refine ⟨_, results_cell1 rfl _ _ rb (.bool true) _ rfl (h1.cell' rfl) Try.underlying4 rfl, rfl, ?_⟩
        refine Fr.toBelow (((HT.out.fr.comp hFw (T := fun x => x = rb) (S := fun _ => False) fun x hx e => by omega)).comp hf fun x hx e => by have := e.1; omega) (by omega) (fun _ _ => id)
end Go.Proofs.Ytanfhmebjgmdpaa.Qj
