/-
  Texts merged into one, to keep the claim small: PdH.
-/
import Derived.Test.YtlcjhbemgagchaaMc24
import Derived.Test.YtlcjhbemgagchaaMc19
import Derived.Deep.CutBlock
import Derived.Test.YtlcjhbemgagchaaMc28
/-
  proto: the document's Decode. (printed by pr_dec3.py)
-/
namespace Go.Proofs.Ytlcjhbemgagchaa
open Go.RowKit
set_option linter.unusedVariables false
set_option linter.unusedSimpArgs false

theorem strOf_inj2 {a b : List Nat} (ha : ∀ x ∈ a, x < 256) (hb : ∀ x ∈ b, x < 256) (h : strOf a = strOf b) : a = b := by
  have h1 : (a.map UInt8.ofNat) = (b.map UInt8.ofNat) := by
    have := congrArg ByteArray.data h
    exact List.toArray_inj this
  have h2 : ∀ l : List Nat, (∀ x ∈ l, x < 256) → (l.map UInt8.ofNat).map UInt8.toNat = l := fun l hl => by
    rw [List.map_map]
    refine (List.map_congr_left fun x hx => ?_).trans (List.map_id l)
    have := hl x hx
    simp; omega
  rw [← h2 a ha, ← h2 b hb, h1]
/-- What the document's Decode answers. -/
def RDecPost (bs : List Nat) (w : World) (e : Ending) (w' : World) : Prop :=
  (512 < bs.length ∧ e = .returned (.tuple #[.agg #[.int .i64 0, .int .i64 0, .string ⟨#[]⟩, .int .i64 0, .int .u64 0, .int .i64 0, .int .i64 0, .int .i64 0, .int .i64 0, .int .i64 0, .int .u64 0, .int .u64 0, .slice none 0 0, .int .i64 0, .int .i64 0, .int .i64 0, .int .i64 0, .int .i64 0, .int .i64 0, .int .u64 0, .int .u64 0, .int .u64 0, .int .i64 0, .slice none 0 0], .int .i64 3]) ∧ Fr (fun _ => False) w w') ∨
  (bs.length ≤ 512 ∧ (∀ q, ¬ KForm bs q) ∧ e = .returned (.tuple #[.agg #[.int .i64 0, .int .i64 0, .string ⟨#[]⟩, .int .i64 0, .int .u64 0, .int .i64 0, .int .i64 0, .int .i64 0, .int .i64 0, .int .i64 0, .int .u64 0, .int .u64 0, .slice none 0 0, .int .i64 0, .int .i64 0, .int .i64 0, .int .i64 0, .int .i64 0, .int .i64 0, .int .u64 0, .int .u64 0, .int .u64 0, .int .i64 0, .slice none 0 0], .int .i64 270]) ∧ Fr (fun _ => False) w w') ∨
  (bs.length ≤ 512 ∧ ∃ q, KForm bs q ∧ e = .returned (.tuple #[.agg #[.int .i64 q.id, .int .i64 q.kind, .string (strOf q.name), .int .i64 q.to_, .int .u64 (q.co : Int), .int .i64 q.item, .int .i64 q.num, .int .i64 q.of_, .int .i64 q.e.acc, .int .i64 q.e.item, .int .u64 (q.e.co : Int), .int .u64 (q.e.pr : Int), .slice q.e.A q.e.n q.e.c, .int .i64 q.k.num, .int .i64 q.k.kind, .int .i64 q.k.by_, .int .i64 q.k.dl, .int .i64 q.k.to_, .int .i64 q.k.want, .int .u64 (q.k.pr : Int), .int .u64 (q.k.rs : Int), .int .u64 (q.k.st : Int), .int .i64 q.k.of_, .slice q.k.A q.k.n q.k.c], .int .i64 0]) ∧ (REnt w' q.e ∧ RCon w' q.k) ∧ Fr (fun _ => False) w w')
abbrev tCmR : TypeId := 31
set_option maxHeartbeats 32000000 in
set_option maxRecDepth 8000 in
attribute [-go_sem] Go.Instr.loadAt Go.Instr.storeAt in
theorem rDecode_of (w : World) (xs : List Nat) (A : Option Addr) (n c : Nat) (hl : n = xs.length) (hcap : n ≤ c) (hcap2 : c ≤ 9223372036854775807) (h256 : ∀ x ∈ xs, x < 256) (hS : Sl w 1 A n (xs.map bn))
    (hmay : ∀ w1 (q : KC), q.at_ w1 → q.wf → Calls Try.prog 74 #[.agg #[.int .i64 q.id, .int .i64 q.kind, .string (strOf q.name), .int .i64 q.to_, .int .u64 (q.co : Int), .int .i64 q.item, .int .i64 q.num, .int .i64 q.of_, .int .i64 q.e.acc, .int .i64 q.e.item, .int .u64 (q.e.co : Int), .int .u64 (q.e.pr : Int), .slice q.e.A q.e.n q.e.c, .int .i64 q.k.num, .int .i64 q.k.kind, .int .i64 q.k.by_, .int .i64 q.k.dl, .int .i64 q.k.to_, .int .i64 q.k.want, .int .u64 (q.k.pr : Int), .int .u64 (q.k.rs : Int), .int .u64 (q.k.st : Int), .int .i64 q.k.of_, .slice q.k.A q.k.n q.k.c]] w1 fun e w' => e = .returned (.bool q.ok) ∧ Fr (fun _ => False) w1 w') :
    Calls Try.prog 101 #[.slice A n c] w (RDecPost xs w) := by
  have HM := hide hmay
  have Hl := hide hl
  have H256 := hide h256
  clear hmay hl h256
  by_cases hlong : 512 < n
  · have hst := run_storeAt_at (P := Try.prog) tCmR w.heap.size 0 tCmR #[.int .i64 0, .int .i64 0, .string ⟨#[]⟩, .int .i64 0, .int .u64 0, .int .i64 0, .int .i64 0, .int .i64 0, .int .i64 0, .int .i64 0, .int .u64 0, .int .u64 0, .slice none 0 0, .int .i64 0, .int .i64 0, .int .i64 0, .int .i64 0, .int .i64 0, .int .i64 0, .int .u64 0, .int .u64 0, .int .u64 0, .int .i64 0, .slice none 0 0] #[.int .i64 0, .int .i64 0, .string ⟨#[]⟩, .int .i64 0, .int .u64 0, .int .i64 0, .int .i64 0, .int .i64 0, .int .i64 0, .int .i64 0, .int .u64 0, .int .u64 0, .slice none 0 0, .int .i64 0, .int .i64 0, .int .i64 0, .int .i64 0, .int .i64 0, .int .i64 0, .int .u64 0, .int .u64 0, .int .u64 0, .int .i64 0, .slice none 0 0] #[.int .i64 0, .int .i64 0, .string ⟨#[]⟩, .int .i64 0, .int .u64 0, .int .i64 0, .int .i64 0, .int .i64 0, .int .i64 0, .int .i64 0, .int .u64 0, .int .u64 0, .slice none 0 0, .int .i64 0, .int .i64 0, .int .i64 0, .int .i64 0, .int .i64 0, .int .i64 0, .int .u64 0, .int .u64 0, .int .u64 0, .int .i64 0, .slice none 0 0] (by kernel_rfl) 24 24 rfl rfl (by decide) rfl rfl (Bl.new w tCmR #[.int .i64 0, .int .i64 0, .string ⟨#[]⟩, .int .i64 0, .int .u64 0, .int .i64 0, .int .i64 0, .int .i64 0, .int .i64 0, .int .i64 0, .int .u64 0, .int .u64 0, .slice none 0 0, .int .i64 0, .int .i64 0, .int .i64 0, .int .i64 0, .int .i64 0, .int .i64 0, .int .u64 0, .int .u64 0, .int .u64 0, .int .i64 0, .slice none 0 0])
    go_enter Try.func101, Try.ntmps101
    go_wp2_with fail
    try simp only [Exit.inBlock, Exit.then]
    refine bodyPost_ret (results_row_tmp rfl _ _ w.heap.size tCmR #[.int .i64 0, .int .i64 0, .string ⟨#[]⟩, .int .i64 0, .int .u64 0, .int .i64 0, .int .i64 0, .int .i64 0, .int .i64 0, .int .i64 0, .int .u64 0, .int .u64 0, .slice none 0 0, .int .i64 0, .int .i64 0, .int .i64 0, .int .i64 0, .int .i64 0, .int .i64 0, .int .u64 0, .int .u64 0, .int .u64 0, .int .i64 0, .slice none 0 0] (0, 0) _ rfl ((Bl.new w tCmR #[.int .i64 0, .int .i64 0, .string ⟨#[]⟩, .int .i64 0, .int .u64 0, .int .i64 0, .int .i64 0, .int .i64 0, .int .i64 0, .int .i64 0, .int .u64 0, .int .u64 0, .slice none 0 0, .int .i64 0, .int .i64 0, .int .i64 0, .int .i64 0, .int .i64 0, .int .i64 0, .int .u64 0, .int .u64 0, .int .u64 0, .int .i64 0, .slice none 0 0]).setRow #[.int .i64 0, .int .i64 0, .string ⟨#[]⟩, .int .i64 0, .int .u64 0, .int .i64 0, .int .i64 0, .int .i64 0, .int .i64 0, .int .i64 0, .int .u64 0, .int .u64 0, .slice none 0 0, .int .i64 0, .int .i64 0, .int .i64 0, .int .i64 0, .int .i64 0, .int .i64 0, .int .u64 0, .int .u64 0, .int .u64 0, .int .i64 0, .slice none 0 0]) Try.underlying31 rfl (by kernel_rfl)) rfl ?_
    exact .inl ⟨by rw [← Hl.out]; exact hlong, rfl, Fr.setRow ((Fr.refl _ _).alloc _) (.inr (Nat.le_refl _)) _⟩
  have HRB : Hid (RB w xs A n c) := ⟨Hl.out, by omega, hcap, hcap2, H256.out, hS⟩
  have Hlim : Hid (xs.length ≤ 512) := by show _ ≤ _; rw [← Hl.out]; omega
  obtain ⟨n1, hn1⟩ : ∃ a, smallS xs 1 = a := ⟨_, rfl⟩
  obtain ⟨n2, hn2⟩ : ∃ a, smallS xs 2 = a := ⟨_, rfl⟩
  obtain ⟨vv, hvv⟩ : ∃ a, saidS xs 3 = a := ⟨_, rfl⟩
  obtain ⟨str, hstr⟩ : ∃ a, a = strOf vv := ⟨_, rfl⟩
  obtain ⟨n4, hn4⟩ : ∃ a, smallS xs 4 = a := ⟨_, rfl⟩
  obtain ⟨n5, hn5⟩ : ∃ a, bigS xs 5 = a := ⟨_, rfl⟩
  obtain ⟨n6, hn6⟩ : ∃ a, smallS xs 6 = a := ⟨_, rfl⟩
  obtain ⟨n7, hn7⟩ : ∃ a, smallS xs 7 = a := ⟨_, rfl⟩
  obtain ⟨n8, hn8⟩ : ∃ a, smallS xs 8 = a := ⟨_, rfl⟩
  have Hn1 := hide hn1
  have Hn2 := hide hn2
  have Hvv := hide hvv
  have Hstr := hide hstr
  have Hn4 := hide hn4
  have Hn5 := hide hn5
  have Hn6 := hide hn6
  have Hn7 := hide hn7
  have Hn8 := hide hn8
  clear hn1 hn2 hvv hstr hn4 hn5 hn6 hn7 hn8 hS
  obtain ⟨w0, hw0⟩ : ∃ w0, w.alloc (.cells #[.int .i64 0, .int .i64 0, .string ⟨#[]⟩, .int .i64 0, .int .u64 0, .int .i64 0, .int .i64 0, .int .i64 0, .int .i64 0, .int .i64 0, .int .u64 0, .int .u64 0, .slice none 0 0, .int .i64 0, .int .i64 0, .int .i64 0, .int .i64 0, .int .i64 0, .int .i64 0, .int .u64 0, .int .u64 0, .int .u64 0, .int .i64 0, .slice none 0 0] tCmR) = w0 := ⟨_, rfl⟩
  have HF0 : Hid (Fr (fun _ => False) w w0) := by show Fr _ _ _; rw [← hw0]; (repeat (first | with_reducible exact Fr.refl _ _ | with_reducible assumption | with_reducible refine Fr.drew ?_ | with_reducible refine Fr.drewN ?_ _ | with_reducible refine Fr.alloc ?_ _ | with_reducible refine Fr.setIn ?_ (by first | exact Or.inl rfl | exact Or.inr (by simp; done) | exact Or.inr (by simp; omega) | exact Or.inr (by omega)) _))
  have HBR : Hid (Bl w0 w.heap.size tCmR #[.int .i64 0, .int .i64 0, .string ⟨#[]⟩, .int .i64 0, .int .u64 0, .int .i64 0, .int .i64 0, .int .i64 0, .int .i64 0, .int .i64 0, .int .u64 0, .int .u64 0, .slice none 0 0, .int .i64 0, .int .i64 0, .int .i64 0, .int .i64 0, .int .i64 0, .int .i64 0, .int .u64 0, .int .u64 0, .int .u64 0, .int .i64 0, .slice none 0 0]) := by show Bl _ _ _ _; rw [← hw0]; exact Bl.new _ _ _
  have hs0 : w.heap.size < w0.heap.size := HBR.out.lt
  have HRB0 := HRB
  have HRB : Hid (RB w0 xs A n c) := HRB0.out.quiet HF0.out
  have M0 : Qt [] w0 w0 := ⟨Fr.refl _ _, fun x hx => by cases hx⟩
  go_enter Try.func101, Try.ntmps101
  go_wp2_with fail
  (try rw [hw0])
  clear hw0
  go_upto_region 3 with fail
  go_cut [0, 2, 3, 4] (fun s0 s2 s3 s4 wx => s0 = .slice A n c ∧ s2 = .pointer (some ⟨w.heap.size, 0, none⟩) ∧ s3 = .int .i64 0 ∧ ∃ (B4 : Nat), s4 = .pointer (some ⟨B4, 0, none⟩) ∧ Hid (Fr (fun _ => False) w0 wx ∧ Bl wx B4 tCmR #[.int .i64 n1, .int .i64 n2, .string str, .int .i64 n4, .int .u64 (n5 : Int), .int .i64 n6, .int .i64 n7, .int .i64 n8, .int .i64 0, .int .i64 0, .int .u64 0, .int .u64 0, .slice none 0 0, .int .i64 0, .int .i64 0, .int .i64 0, .int .i64 0, .int .i64 0, .int .i64 0, .int .u64 0, .int .u64 0, .int .u64 0, .int .i64 0, .slice none 0 0] ∧ w0.heap.size ≤ B4))
  case first =>
    go_region_law
      (first
        | (have hk := M7; clear hk; go_simp; go_at_call 86; refine (Qt.small (by first | exact M7 | exact M7.push tCmR #[.int .i64 0, .int .i64 0, .string ⟨#[]⟩, .int .i64 0, .int .u64 0, .int .i64 0, .int .i64 0, .int .i64 0, .int .i64 0, .int .i64 0, .int .u64 0, .int .u64 0, .slice none 0 0, .int .i64 0, .int .i64 0, .int .i64 0, .int .i64 0, .int .i64 0, .int .i64 0, .int .u64 0, .int .u64 0, .int .u64 0, .int .i64 0, .slice none 0 0]) HRB.out 8 Hn8).mono ?_; rintro e v8 ⟨rfl, hf8, M8⟩; have g8 : Fr (fun _ => False) v3 v8 := (by first | exact g7.trans hf8 | exact (g7.alloc _).trans hf8); have g8a : ∀ o, Fr (fun _ => False) v3 (v8.alloc o) := fun o => g8.alloc o;
            first
              | (have Y5 := M8.hd; have Y6 := M8.hdle; have M9 := M8; have hst := run_storeAt_at (P := Try.prog) tCmR _ 0 tCmR #[.int .i64 0, .int .i64 0, .string ⟨#[]⟩, .int .i64 0, .int .u64 0, .int .i64 0, .int .i64 0, .int .i64 0, .int .i64 0, .int .i64 0, .int .u64 0, .int .u64 0, .slice none 0 0, .int .i64 0, .int .i64 0, .int .i64 0, .int .i64 0, .int .i64 0, .int .i64 0, .int .u64 0, .int .u64 0, .int .u64 0, .int .i64 0, .slice none 0 0] #[.int .i64 n1, .int .i64 n2, .string str, .int .i64 n4, .int .u64 (n5 : Int), .int .i64 n6, .int .i64 n7, .int .i64 n8, .int .i64 0, .int .i64 0, .int .u64 0, .int .u64 0, .slice none 0 0, .int .i64 0, .int .i64 0, .int .i64 0, .int .i64 0, .int .i64 0, .int .i64 0, .int .u64 0, .int .u64 0, .int .u64 0, .int .i64 0, .slice none 0 0] #[.int .i64 n1, .int .i64 n2, .string str, .int .i64 n4, .int .u64 (n5 : Int), .int .i64 n6, .int .i64 n7, .int .i64 n8, .int .i64 0, .int .i64 0, .int .u64 0, .int .u64 0, .slice none 0 0, .int .i64 0, .int .i64 0, .int .i64 0, .int .i64 0, .int .i64 0, .int .i64 0, .int .u64 0, .int .u64 0, .int .u64 0, .int .i64 0, .slice none 0 0] (by kernel_rfl) 24 24 rfl rfl (by decide) rfl rfl Y5)
              | (have Y5 := Bl.new v8 tCmR #[.int .i64 0, .int .i64 0, .string ⟨#[]⟩, .int .i64 0, .int .u64 0, .int .i64 0, .int .i64 0, .int .i64 0, .int .i64 0, .int .i64 0, .int .u64 0, .int .u64 0, .slice none 0 0, .int .i64 0, .int .i64 0, .int .i64 0, .int .i64 0, .int .i64 0, .int .i64 0, .int .u64 0, .int .u64 0, .int .u64 0, .int .i64 0, .slice none 0 0]; have Y6 := M8.fr.size; have M9 := M8.push tCmR #[.int .i64 0, .int .i64 0, .string ⟨#[]⟩, .int .i64 0, .int .u64 0, .int .i64 0, .int .i64 0, .int .i64 0, .int .i64 0, .int .i64 0, .int .u64 0, .int .u64 0, .slice none 0 0, .int .i64 0, .int .i64 0, .int .i64 0, .int .i64 0, .int .i64 0, .int .i64 0, .int .u64 0, .int .u64 0, .int .u64 0, .int .i64 0, .slice none 0 0]; have hst := run_storeAt_at (P := Try.prog) tCmR _ 0 tCmR #[.int .i64 0, .int .i64 0, .string ⟨#[]⟩, .int .i64 0, .int .u64 0, .int .i64 0, .int .i64 0, .int .i64 0, .int .i64 0, .int .i64 0, .int .u64 0, .int .u64 0, .slice none 0 0, .int .i64 0, .int .i64 0, .int .i64 0, .int .i64 0, .int .i64 0, .int .i64 0, .int .u64 0, .int .u64 0, .int .u64 0, .int .i64 0, .slice none 0 0] #[.int .i64 n1, .int .i64 n2, .string str, .int .i64 n4, .int .u64 (n5 : Int), .int .i64 n6, .int .i64 n7, .int .i64 n8, .int .i64 0, .int .i64 0, .int .u64 0, .int .u64 0, .slice none 0 0, .int .i64 0, .int .i64 0, .int .i64 0, .int .i64 0, .int .i64 0, .int .i64 0, .int .u64 0, .int .u64 0, .int .u64 0, .int .i64 0, .slice none 0 0] #[.int .i64 n1, .int .i64 n2, .string str, .int .i64 n4, .int .u64 (n5 : Int), .int .i64 n6, .int .i64 n7, .int .i64 n8, .int .i64 0, .int .i64 0, .int .u64 0, .int .u64 0, .slice none 0 0, .int .i64 0, .int .i64 0, .int .i64 0, .int .i64 0, .int .i64 0, .int .i64 0, .int .u64 0, .int .u64 0, .int .u64 0, .int .i64 0, .slice none 0 0] (by kernel_rfl) 24 24 rfl rfl (by decide) rfl rfl Y5))
        | (have hk := M6; clear hk; go_simp; go_at_call 86; refine (Qt.small (by first | exact M6 | exact M6.push tCmR #[.int .i64 0, .int .i64 0, .string ⟨#[]⟩, .int .i64 0, .int .u64 0, .int .i64 0, .int .i64 0, .int .i64 0, .int .i64 0, .int .i64 0, .int .u64 0, .int .u64 0, .slice none 0 0, .int .i64 0, .int .i64 0, .int .i64 0, .int .i64 0, .int .i64 0, .int .i64 0, .int .u64 0, .int .u64 0, .int .u64 0, .int .i64 0, .slice none 0 0]) HRB.out 7 Hn7).mono ?_; rintro e v7 ⟨rfl, hf7, M7⟩; have g7 : Fr (fun _ => False) v3 v7 := (by first | exact g6.trans hf7 | exact (g6.alloc _).trans hf7); have g7a : ∀ o, Fr (fun _ => False) v3 (v7.alloc o) := fun o => g7.alloc o)
        | (have hk := M5; clear hk; go_simp; go_at_call 86; refine (Qt.small (by first | exact M5 | exact M5.push tCmR #[.int .i64 0, .int .i64 0, .string ⟨#[]⟩, .int .i64 0, .int .u64 0, .int .i64 0, .int .i64 0, .int .i64 0, .int .i64 0, .int .i64 0, .int .u64 0, .int .u64 0, .slice none 0 0, .int .i64 0, .int .i64 0, .int .i64 0, .int .i64 0, .int .i64 0, .int .i64 0, .int .u64 0, .int .u64 0, .int .u64 0, .int .i64 0, .slice none 0 0]) HRB.out 6 Hn6).mono ?_; rintro e v6 ⟨rfl, hf6, M6⟩; have g6 : Fr (fun _ => False) v3 v6 := (by first | exact g5.trans hf6 | exact (g5.alloc _).trans hf6); have g6a : ∀ o, Fr (fun _ => False) v3 (v6.alloc o) := fun o => g6.alloc o)
        | (have hk := M4; clear hk; go_simp; go_at_call 85; refine (Qt.big (by first | exact M4 | exact M4.push tCmR #[.int .i64 0, .int .i64 0, .string ⟨#[]⟩, .int .i64 0, .int .u64 0, .int .i64 0, .int .i64 0, .int .i64 0, .int .i64 0, .int .i64 0, .int .u64 0, .int .u64 0, .slice none 0 0, .int .i64 0, .int .i64 0, .int .i64 0, .int .i64 0, .int .i64 0, .int .i64 0, .int .u64 0, .int .u64 0, .int .u64 0, .int .i64 0, .slice none 0 0]) HRB.out 5 Hn5).mono ?_; rintro e v5 ⟨rfl, hf5, M5⟩; have g5 : Fr (fun _ => False) v3 v5 := (by first | exact g4.trans hf5 | exact (g4.alloc _).trans hf5); have g5a : ∀ o, Fr (fun _ => False) v3 (v5.alloc o) := fun o => g5.alloc o)
        | (have hk := M3; clear hk; go_simp; go_at_call 86; refine (Qt.small (by first | exact M3 | exact M3.push tCmR #[.int .i64 0, .int .i64 0, .string ⟨#[]⟩, .int .i64 0, .int .u64 0, .int .i64 0, .int .i64 0, .int .i64 0, .int .i64 0, .int .i64 0, .int .u64 0, .int .u64 0, .slice none 0 0, .int .i64 0, .int .i64 0, .int .i64 0, .int .i64 0, .int .i64 0, .int .i64 0, .int .u64 0, .int .u64 0, .int .u64 0, .int .i64 0, .slice none 0 0]) HRB.out 4 Hn4).mono ?_; rintro e v4 ⟨rfl, hf4, M4⟩; have g4 : Fr (fun _ => False) v3 v4 := (by first | exact g3.trans hf4 | exact (g3.alloc _).trans hf4); have g4a : ∀ o, Fr (fun _ => False) v3 (v4.alloc o) := fun o => g4.alloc o)
        | (have hk := M2; clear hk; go_simp; go_at_call 87; refine (Qt.said (by first | exact M2 | exact M2.push tCmR #[.int .i64 0, .int .i64 0, .string ⟨#[]⟩, .int .i64 0, .int .u64 0, .int .i64 0, .int .i64 0, .int .i64 0, .int .i64 0, .int .i64 0, .int .u64 0, .int .u64 0, .slice none 0 0, .int .i64 0, .int .i64 0, .int .i64 0, .int .i64 0, .int .i64 0, .int .i64 0, .int .u64 0, .int .u64 0, .int .u64 0, .int .i64 0, .slice none 0 0]) HRB.out 3 Hvv).mono ?_; rintro e v3 ⟨SB, sm, sd, rfl, HSR, hf3, M3⟩; have hcv : ∀ w', Fr (fun _ => False) v3 w' → (convert 22 9 (.slice SB sm sd)).run Try.prog w' = .ok (.string str) w' := (fun w' hf => (by rw [Hstr.out]; exact conv_bs w' SB sm sd _ HSR.out.byte (HSR.out.quiet hf).sl)); have g3 : Fr (fun _ => False) v3 v3 := Fr.refl _ _; have g3a : ∀ o, Fr (fun _ => False) v3 (v3.alloc o) := fun o => (Fr.refl _ _).alloc o)
        | (have hk := M1; clear hk; go_simp; go_at_call 86; refine (Qt.small (by first | exact M1 | exact M1.push tCmR #[.int .i64 0, .int .i64 0, .string ⟨#[]⟩, .int .i64 0, .int .u64 0, .int .i64 0, .int .i64 0, .int .i64 0, .int .i64 0, .int .i64 0, .int .u64 0, .int .u64 0, .slice none 0 0, .int .i64 0, .int .i64 0, .int .i64 0, .int .i64 0, .int .i64 0, .int .i64 0, .int .u64 0, .int .u64 0, .int .u64 0, .int .i64 0, .slice none 0 0]) HRB.out 2 Hn2).mono ?_; rintro e v2 ⟨rfl, hf2, M2⟩)
        | (go_simp; go_at_call 86; refine (Qt.small (by first | exact M0.step ((Fr.refl _ _).drew) | exact (M0.step ((Fr.refl _ _).drew)).pushAt tCmR #[.int .i64 0, .int .i64 0, .string ⟨#[]⟩, .int .i64 0, .int .u64 0, .int .i64 0, .int .i64 0, .int .i64 0, .int .i64 0, .int .i64 0, .int .u64 0, .int .u64 0, .slice none 0 0, .int .i64 0, .int .i64 0, .int .i64 0, .int .i64 0, .int .i64 0, .int .i64 0, .int .u64 0, .int .u64 0, .int .u64 0, .int .i64 0, .slice none 0 0] w0.heap.size rfl) HRB.out 1 Hn1).mono ?_; rintro e v1 ⟨rfl, hf1, M1⟩)
        | fail)
    all_goals (go_wp2_with fail; go_meet; case rel => exact ⟨rfl, rfl, rfl, _, rfl, Fr.setRow M9.fr (.inr Y6) _, Y5.setRow _, Y6⟩)
  case rest =>
  obtain ⟨rfl, rfl, rfl, B4, rfl, HW⟩ := hcut
  obtain ⟨w3, rfl⟩ : ∃ w3, w3 = wc := ⟨_, rfl⟩
  obtain ⟨hF3, hB3, hle4⟩ := HW.out
  have HF3 := hide hF3
  have HB3 := hide hB3
  clear hF3 hB3 HW M0
  have Q3 : Qt [(B4, tCmR, #[.int .i64 n1, .int .i64 n2, .string str, .int .i64 n4, .int .u64 (n5 : Int), .int .i64 n6, .int .i64 n7, .int .i64 n8, .int .i64 0, .int .i64 0, .int .u64 0, .int .u64 0, .slice none 0 0, .int .i64 0, .int .i64 0, .int .i64 0, .int .i64 0, .int .i64 0, .int .i64 0, .int .u64 0, .int .u64 0, .int .u64 0, .int .i64 0, .slice none 0 0])] w0 w3 := ⟨HF3.out, fun x hx => by rw [List.mem_singleton.1 hx]; exact ⟨HB3.out, hle4⟩⟩
  go_wp2_with fail
  refine (Qt.said Q3 HRB.out 9 (v := saidS xs 9) rfl).mono ?_
  rintro e w4 ⟨SB, sm, sd, rfl, HR9, hf4, Q4⟩
  go_wp2_with fail
  refine (rreadEntry_any w4 _ SB sm sd HR9.out).mono ?_
  rintro e w5 ⟨qe, rfl, Hqe, hf5⟩
  have Q5 := Q4.step hf5
  have a1 := run_storeAt_at (P := Try.prog) tEnt B4 8 tCmR _ #[.int .i64 n1, .int .i64 n2, .string str, .int .i64 n4, .int .u64 (n5 : Int), .int .i64 n6, .int .i64 n7, .int .i64 n8, .int .i64 qe.acc, .int .i64 qe.item, .int .u64 (qe.co : Int), .int .u64 (qe.pr : Int), .slice qe.A qe.n qe.c, .int .i64 0, .int .i64 0, .int .i64 0, .int .i64 0, .int .i64 0, .int .i64 0, .int .u64 0, .int .u64 0, .int .u64 0, .int .i64 0, .slice none 0 0] #[.int .i64 qe.acc, .int .i64 qe.item, .int .u64 (qe.co : Int), .int .u64 (qe.pr : Int), .slice qe.A qe.n qe.c] (by kernel_rfl) 24 5 rfl rfl (by decide) rfl rfl Q5.hd
  have E6 : Hid (REnt (w5.setRow B4 #[.int .i64 n1, .int .i64 n2, .string str, .int .i64 n4, .int .u64 (n5 : Int), .int .i64 n6, .int .i64 n7, .int .i64 n8, .int .i64 qe.acc, .int .i64 qe.item, .int .u64 (qe.co : Int), .int .u64 (qe.pr : Int), .slice qe.A qe.n qe.c, .int .i64 0, .int .i64 0, .int .i64 0, .int .i64 0, .int .i64 0, .int .i64 0, .int .u64 0, .int .u64 0, .int .u64 0, .int .i64 0, .slice none 0 0]) qe) := REnt.row ⟨Hqe.out.2.1, Hqe.out.2.2⟩ Q5.hd.typed (by decide) _
  have Q6 : Qt [(B4, tCmR, #[.int .i64 n1, .int .i64 n2, .string str, .int .i64 n4, .int .u64 (n5 : Int), .int .i64 n6, .int .i64 n7, .int .i64 n8, .int .i64 qe.acc, .int .i64 qe.item, .int .u64 (qe.co : Int), .int .u64 (qe.pr : Int), .slice qe.A qe.n qe.c, .int .i64 0, .int .i64 0, .int .i64 0, .int .i64 0, .int .i64 0, .int .i64 0, .int .u64 0, .int .u64 0, .int .u64 0, .int .i64 0, .slice none 0 0])] w0 (w5.setRow B4 #[.int .i64 n1, .int .i64 n2, .string str, .int .i64 n4, .int .u64 (n5 : Int), .int .i64 n6, .int .i64 n7, .int .i64 n8, .int .i64 qe.acc, .int .i64 qe.item, .int .u64 (qe.co : Int), .int .u64 (qe.pr : Int), .slice qe.A qe.n qe.c, .int .i64 0, .int .i64 0, .int .i64 0, .int .i64 0, .int .i64 0, .int .i64 0, .int .u64 0, .int .u64 0, .int .u64 0, .int .i64 0, .slice none 0 0]) := ⟨Fr.setRow Q5.fr (.inr hle4) _, fun x hx => by rw [List.mem_singleton.1 hx]; exact ⟨Q5.hd.setRow _, hle4⟩⟩
  obtain ⟨w6, hw6⟩ : ∃ w6, w5.setRow B4 #[.int .i64 n1, .int .i64 n2, .string str, .int .i64 n4, .int .u64 (n5 : Int), .int .i64 n6, .int .i64 n7, .int .i64 n8, .int .i64 qe.acc, .int .i64 qe.item, .int .u64 (qe.co : Int), .int .u64 (qe.pr : Int), .slice qe.A qe.n qe.c, .int .i64 0, .int .i64 0, .int .i64 0, .int .i64 0, .int .i64 0, .int .i64 0, .int .u64 0, .int .u64 0, .int .u64 0, .int .i64 0, .slice none 0 0] = w6 := ⟨_, rfl⟩
  rw [hw6] at a1 E6 Q6
  clear Q3 Q4 Q5 hw6 hf4 hf5
  go_wp2_with fail
  clear a1
  refine (Qt.said Q6 HRB.out 12 (v := saidS xs 12) rfl).mono ?_
  rintro e w7 ⟨SB2, sm2, sd2, rfl, HR12, hf7, Q7⟩
  go_wp2_with fail
  refine (rreadContract_any w7 _ SB2 sm2 sd2 HR12.out).mono ?_
  rintro e w8 ⟨qk, rfl, Hqk, hf8⟩
  have Q8 := Q7.step hf8
  have a2 := run_storeAt_at (P := Try.prog) tCoR B4 13 tCmR _ #[.int .i64 n1, .int .i64 n2, .string str, .int .i64 n4, .int .u64 (n5 : Int), .int .i64 n6, .int .i64 n7, .int .i64 n8, .int .i64 qe.acc, .int .i64 qe.item, .int .u64 (qe.co : Int), .int .u64 (qe.pr : Int), .slice qe.A qe.n qe.c, .int .i64 qk.num, .int .i64 qk.kind, .int .i64 qk.by_, .int .i64 qk.dl, .int .i64 qk.to_, .int .i64 qk.want, .int .u64 (qk.pr : Int), .int .u64 (qk.rs : Int), .int .u64 (qk.st : Int), .int .i64 qk.of_, .slice qk.A qk.n qk.c] #[.int .i64 qk.num, .int .i64 qk.kind, .int .i64 qk.by_, .int .i64 qk.dl, .int .i64 qk.to_, .int .i64 qk.want, .int .u64 (qk.pr : Int), .int .u64 (qk.rs : Int), .int .u64 (qk.st : Int), .int .i64 qk.of_, .slice qk.A qk.n qk.c] (by kernel_rfl) 24 11 rfl rfl (by decide) rfl rfl Q8.hd
  have E9 : Hid (REnt (w8.setRow B4 #[.int .i64 n1, .int .i64 n2, .string str, .int .i64 n4, .int .u64 (n5 : Int), .int .i64 n6, .int .i64 n7, .int .i64 n8, .int .i64 qe.acc, .int .i64 qe.item, .int .u64 (qe.co : Int), .int .u64 (qe.pr : Int), .slice qe.A qe.n qe.c, .int .i64 qk.num, .int .i64 qk.kind, .int .i64 qk.by_, .int .i64 qk.dl, .int .i64 qk.to_, .int .i64 qk.want, .int .u64 (qk.pr : Int), .int .u64 (qk.rs : Int), .int .u64 (qk.st : Int), .int .i64 qk.of_, .slice qk.A qk.n qk.c]) qe) := (E6.out.quiet (hf7.trans hf8)).row Q8.hd.typed (by decide) _
  have C9 : Hid (RCon (w8.setRow B4 #[.int .i64 n1, .int .i64 n2, .string str, .int .i64 n4, .int .u64 (n5 : Int), .int .i64 n6, .int .i64 n7, .int .i64 n8, .int .i64 qe.acc, .int .i64 qe.item, .int .u64 (qe.co : Int), .int .u64 (qe.pr : Int), .slice qe.A qe.n qe.c, .int .i64 qk.num, .int .i64 qk.kind, .int .i64 qk.by_, .int .i64 qk.dl, .int .i64 qk.to_, .int .i64 qk.want, .int .u64 (qk.pr : Int), .int .u64 (qk.rs : Int), .int .u64 (qk.st : Int), .int .i64 qk.of_, .slice qk.A qk.n qk.c]) qk) := Hqk.out.2.row Q8.hd.typed (by decide) (by decide) _
  have Q9 : Qt [(B4, tCmR, #[.int .i64 n1, .int .i64 n2, .string str, .int .i64 n4, .int .u64 (n5 : Int), .int .i64 n6, .int .i64 n7, .int .i64 n8, .int .i64 qe.acc, .int .i64 qe.item, .int .u64 (qe.co : Int), .int .u64 (qe.pr : Int), .slice qe.A qe.n qe.c, .int .i64 qk.num, .int .i64 qk.kind, .int .i64 qk.by_, .int .i64 qk.dl, .int .i64 qk.to_, .int .i64 qk.want, .int .u64 (qk.pr : Int), .int .u64 (qk.rs : Int), .int .u64 (qk.st : Int), .int .i64 qk.of_, .slice qk.A qk.n qk.c])] w0 (w8.setRow B4 #[.int .i64 n1, .int .i64 n2, .string str, .int .i64 n4, .int .u64 (n5 : Int), .int .i64 n6, .int .i64 n7, .int .i64 n8, .int .i64 qe.acc, .int .i64 qe.item, .int .u64 (qe.co : Int), .int .u64 (qe.pr : Int), .slice qe.A qe.n qe.c, .int .i64 qk.num, .int .i64 qk.kind, .int .i64 qk.by_, .int .i64 qk.dl, .int .i64 qk.to_, .int .i64 qk.want, .int .u64 (qk.pr : Int), .int .u64 (qk.rs : Int), .int .u64 (qk.st : Int), .int .i64 qk.of_, .slice qk.A qk.n qk.c]) := ⟨Fr.setRow Q8.fr (.inr hle4) _, fun x hx => by rw [List.mem_singleton.1 hx]; exact ⟨Q8.hd.setRow _, hle4⟩⟩
  obtain ⟨w9, hw9⟩ : ∃ w9, w8.setRow B4 #[.int .i64 n1, .int .i64 n2, .string str, .int .i64 n4, .int .u64 (n5 : Int), .int .i64 n6, .int .i64 n7, .int .i64 n8, .int .i64 qe.acc, .int .i64 qe.item, .int .u64 (qe.co : Int), .int .u64 (qe.pr : Int), .slice qe.A qe.n qe.c, .int .i64 qk.num, .int .i64 qk.kind, .int .i64 qk.by_, .int .i64 qk.dl, .int .i64 qk.to_, .int .i64 qk.want, .int .u64 (qk.pr : Int), .int .u64 (qk.rs : Int), .int .u64 (qk.st : Int), .int .i64 qk.of_, .slice qk.A qk.n qk.c] = w9 := ⟨_, rfl⟩
  rw [hw9] at a2 E9 C9 Q9
  clear Q6 Q7 Q8 E6 hw9 hf7 hf8
  have rC := run_loadAt_at (P := Try.prog) tCmR B4 0 tCmR _ #[.int .i64 n1, .int .i64 n2, .string str, .int .i64 n4, .int .u64 (n5 : Int), .int .i64 n6, .int .i64 n7, .int .i64 n8, .int .i64 qe.acc, .int .i64 qe.item, .int .u64 (qe.co : Int), .int .u64 (qe.pr : Int), .slice qe.A qe.n qe.c, .int .i64 qk.num, .int .i64 qk.kind, .int .i64 qk.by_, .int .i64 qk.dl, .int .i64 qk.to_, .int .i64 qk.want, .int .u64 (qk.pr : Int), .int .u64 (qk.rs : Int), .int .u64 (qk.st : Int), .int .i64 qk.of_, .slice qk.A qk.n qk.c] _ Try.underlying31 rfl (by kernel_rfl) rfl Q9.hd
  go_wp2_with fail
  clear a2 rC
  obtain ⟨q, hq⟩ : ∃ q : KC, q = ⟨n1, n2, vv, n4, n5, n6, n7, n8, qe, qk⟩ := ⟨_, rfl⟩
  have HK : Hid (q.like (cmdS xs)) := by
    show KC.like _ _
    rw [hq]
    unfold cmdS
    rw [Hn1.out, Hn2.out, Hvv.out, Hn4.out, Hn5.out, Hn6.out, Hn7.out, Hn8.out]
    exact ⟨rfl, rfl, rfl, rfl, rfl, rfl, rfl, rfl, Hqe.out.1, Hqk.out.1⟩
  have Hwf := hide (HK.out.wf (cmdS_wf H256.out))
  have Hat : Hid (q.at_ w9) := by rw [hq]; exact ⟨E9.out.1, C9.out.at_⟩
  have HE : Hid (Calls Try.prog 42 #[.agg #[.int .i64 n1, .int .i64 n2, .string str, .int .i64 n4, .int .u64 (n5 : Int), .int .i64 n6, .int .i64 n7, .int .i64 n8, .int .i64 qe.acc, .int .i64 qe.item, .int .u64 (qe.co : Int), .int .u64 (qe.pr : Int), .slice qe.A qe.n qe.c, .int .i64 qk.num, .int .i64 qk.kind, .int .i64 qk.by_, .int .i64 qk.dl, .int .i64 qk.to_, .int .i64 qk.want, .int .u64 (qk.pr : Int), .int .u64 (qk.rs : Int), .int .u64 (qk.st : Int), .int .i64 qk.of_, .slice qk.A qk.n qk.c]] w9 (PutPost (if q.ok then q.form else []) (if q.ok then 0 else 270) w9)) := by
    have h1 := rEncode_of w9 q Hat.out Hwf.out (fun w1 hf => HM.out w1 q (Hat.out.quiet hf) Hwf.out)
    have h2 : (.agg #[.int .i64 q.id, .int .i64 q.kind, .string (strOf q.name), .int .i64 q.to_, .int .u64 (q.co : Int), .int .i64 q.item, .int .i64 q.num, .int .i64 q.of_, .int .i64 q.e.acc, .int .i64 q.e.item, .int .u64 (q.e.co : Int), .int .u64 (q.e.pr : Int), .slice q.e.A q.e.n q.e.c, .int .i64 q.k.num, .int .i64 q.k.kind, .int .i64 q.k.by_, .int .i64 q.k.dl, .int .i64 q.k.to_, .int .i64 q.k.want, .int .u64 (q.k.pr : Int), .int .u64 (q.k.rs : Int), .int .u64 (q.k.st : Int), .int .i64 q.k.of_, .slice q.k.A q.k.n q.k.c] : Value) = .agg #[.int .i64 n1, .int .i64 n2, .string str, .int .i64 n4, .int .u64 (n5 : Int), .int .i64 n6, .int .i64 n7, .int .i64 n8, .int .i64 qe.acc, .int .i64 qe.item, .int .u64 (qe.co : Int), .int .u64 (qe.pr : Int), .slice qe.A qe.n qe.c, .int .i64 qk.num, .int .i64 qk.kind, .int .i64 qk.by_, .int .i64 qk.dl, .int .i64 qk.to_, .int .i64 qk.want, .int .u64 (qk.pr : Int), .int .u64 (qk.rs : Int), .int .u64 (qk.st : Int), .int .i64 qk.of_, .slice qk.A qk.n qk.c] := by rw [hq, Hstr.out]
    rw [h2] at h1
    exact h1
  have Hq := hide hq
  obtain ⟨ok, hok⟩ : ∃ ok, q.ok = ok := ⟨_, rfl⟩
  rw [hok] at HE
  have Hok := hide hok
  have HQ9 := hide Q9
  clear hok hq Q9 HM
  refine HE.out.mono ?_
  rintro e w10 ⟨FA, fn, fc, fg, rfl, HO, -, hf10⟩
  have HF10 : Hid (Fr (fun _ => False) w w10) := HF0.out.trans (HQ9.out.fr.trans hf10)
  have HB10 : Hid (Bl w10 w.heap.size tCmR #[.int .i64 0, .int .i64 0, .string ⟨#[]⟩, .int .i64 0, .int .u64 0, .int .i64 0, .int .i64 0, .int .i64 0, .int .i64 0, .int .i64 0, .int .u64 0, .int .u64 0, .slice none 0 0, .int .i64 0, .int .i64 0, .int .i64 0, .int .i64 0, .int .i64 0, .int .i64 0, .int .u64 0, .int .u64 0, .int .u64 0, .int .i64 0, .slice none 0 0]) := HBR.out.fr (HQ9.out.fr.trans hf10) id
  have Hf10 := hide hf10
  clear hf10
  cases ok with
  | false =>
    have hst := run_storeAt_at (P := Try.prog) tCmR w.heap.size 0 tCmR #[.int .i64 0, .int .i64 0, .string ⟨#[]⟩, .int .i64 0, .int .u64 0, .int .i64 0, .int .i64 0, .int .i64 0, .int .i64 0, .int .i64 0, .int .u64 0, .int .u64 0, .slice none 0 0, .int .i64 0, .int .i64 0, .int .i64 0, .int .i64 0, .int .i64 0, .int .i64 0, .int .u64 0, .int .u64 0, .int .u64 0, .int .i64 0, .slice none 0 0] #[.int .i64 0, .int .i64 0, .string ⟨#[]⟩, .int .i64 0, .int .u64 0, .int .i64 0, .int .i64 0, .int .i64 0, .int .i64 0, .int .i64 0, .int .u64 0, .int .u64 0, .slice none 0 0, .int .i64 0, .int .i64 0, .int .i64 0, .int .i64 0, .int .i64 0, .int .i64 0, .int .u64 0, .int .u64 0, .int .u64 0, .int .i64 0, .slice none 0 0] #[.int .i64 0, .int .i64 0, .string ⟨#[]⟩, .int .i64 0, .int .u64 0, .int .i64 0, .int .i64 0, .int .i64 0, .int .i64 0, .int .i64 0, .int .u64 0, .int .u64 0, .slice none 0 0, .int .i64 0, .int .i64 0, .int .i64 0, .int .i64 0, .int .i64 0, .int .i64 0, .int .u64 0, .int .u64 0, .int .u64 0, .int .i64 0, .slice none 0 0] (by kernel_rfl) 24 24 rfl rfl (by decide) rfl rfl HB10.out
    clear HO
    rw [if_neg (by decide)]
    go_wp2_with fail
    try simp only [Exit.inBlock, Exit.then]
    refine bodyPost_ret (results_row_tmp rfl _ _ w.heap.size tCmR #[.int .i64 0, .int .i64 0, .string ⟨#[]⟩, .int .i64 0, .int .u64 0, .int .i64 0, .int .i64 0, .int .i64 0, .int .i64 0, .int .i64 0, .int .u64 0, .int .u64 0, .slice none 0 0, .int .i64 0, .int .i64 0, .int .i64 0, .int .i64 0, .int .i64 0, .int .i64 0, .int .u64 0, .int .u64 0, .int .u64 0, .int .i64 0, .slice none 0 0] (0, 0) _ rfl (HB10.out.setRow #[.int .i64 0, .int .i64 0, .string ⟨#[]⟩, .int .i64 0, .int .u64 0, .int .i64 0, .int .i64 0, .int .i64 0, .int .i64 0, .int .i64 0, .int .u64 0, .int .u64 0, .slice none 0 0, .int .i64 0, .int .i64 0, .int .i64 0, .int .i64 0, .int .i64 0, .int .i64 0, .int .u64 0, .int .u64 0, .int .u64 0, .int .i64 0, .slice none 0 0]) Try.underlying31 rfl (by kernel_rfl)) rfl ?_
    refine .inr (.inl ⟨Hlim.out, fun p hp => ?_, rfl, HF10.out.setRow (.inr (Nat.le_refl _)) _⟩)
    have h1 := (cmdS_iff H256.out).2 ⟨p, hp⟩
    have h2 := HK.out.ok
    rw [Hok.out, h1.1] at h2
    cases h2
  | true =>
    rw [if_pos rfl] at HO
    rw [if_pos rfl]
    have cF := conv_bs w10 FA fn fc q.form (KC.form_b Hwf.out) HO.sl
    have cX := conv_bs w10 A n c xs H256.out (HRB.out.quiet (HQ9.out.fr.trans Hf10.out)).sl
    obtain ⟨s1, hs1⟩ : ∃ s, strOf q.form = s := ⟨_, rfl⟩
    obtain ⟨s2, hs2⟩ : ∃ s, strOf xs = s := ⟨_, rfl⟩
    rw [hs1] at cF
    rw [hs2] at cX
    clear HO
    by_cases heq : q.form = xs
    · have e12 : s1 = s2 := by rw [← hs1, ← hs2, heq]
      subst e12
      have Heq := hide heq
      have hst := run_storeAt_at (P := Try.prog) tCmR w.heap.size 0 tCmR #[.int .i64 0, .int .i64 0, .string ⟨#[]⟩, .int .i64 0, .int .u64 0, .int .i64 0, .int .i64 0, .int .i64 0, .int .i64 0, .int .i64 0, .int .u64 0, .int .u64 0, .slice none 0 0, .int .i64 0, .int .i64 0, .int .i64 0, .int .i64 0, .int .i64 0, .int .i64 0, .int .u64 0, .int .u64 0, .int .u64 0, .int .i64 0, .slice none 0 0] #[.int .i64 n1, .int .i64 n2, .string str, .int .i64 n4, .int .u64 (n5 : Int), .int .i64 n6, .int .i64 n7, .int .i64 n8, .int .i64 qe.acc, .int .i64 qe.item, .int .u64 (qe.co : Int), .int .u64 (qe.pr : Int), .slice qe.A qe.n qe.c, .int .i64 qk.num, .int .i64 qk.kind, .int .i64 qk.by_, .int .i64 qk.dl, .int .i64 qk.to_, .int .i64 qk.want, .int .u64 (qk.pr : Int), .int .u64 (qk.rs : Int), .int .u64 (qk.st : Int), .int .i64 qk.of_, .slice qk.A qk.n qk.c] #[.int .i64 n1, .int .i64 n2, .string str, .int .i64 n4, .int .u64 (n5 : Int), .int .i64 n6, .int .i64 n7, .int .i64 n8, .int .i64 qe.acc, .int .i64 qe.item, .int .u64 (qe.co : Int), .int .u64 (qe.pr : Int), .slice qe.A qe.n qe.c, .int .i64 qk.num, .int .i64 qk.kind, .int .i64 qk.by_, .int .i64 qk.dl, .int .i64 qk.to_, .int .i64 qk.want, .int .u64 (qk.pr : Int), .int .u64 (qk.rs : Int), .int .u64 (qk.st : Int), .int .i64 qk.of_, .slice qk.A qk.n qk.c] (by kernel_rfl) 24 24 rfl rfl (by decide) rfl rfl HB10.out
      have rC := run_loadAt_at (P := Try.prog) tCmR B4 0 tCmR _ #[.int .i64 n1, .int .i64 n2, .string str, .int .i64 n4, .int .u64 (n5 : Int), .int .i64 n6, .int .i64 n7, .int .i64 n8, .int .i64 qe.acc, .int .i64 qe.item, .int .u64 (qe.co : Int), .int .u64 (qe.pr : Int), .slice qe.A qe.n qe.c, .int .i64 qk.num, .int .i64 qk.kind, .int .i64 qk.by_, .int .i64 qk.dl, .int .i64 qk.to_, .int .i64 qk.want, .int .u64 (qk.pr : Int), .int .u64 (qk.rs : Int), .int .u64 (qk.st : Int), .int .i64 qk.of_, .slice qk.A qk.n qk.c] _ Try.underlying31 rfl (by kernel_rfl) rfl (HQ9.out.hd.fr Hf10.out id)
      clear hs1 hs2 heq
      go_wp2_with fail
      try simp only [Exit.inBlock, Exit.then]
      refine bodyPost_ret (results_row_tmp rfl _ _ w.heap.size tCmR #[.int .i64 n1, .int .i64 n2, .string str, .int .i64 n4, .int .u64 (n5 : Int), .int .i64 n6, .int .i64 n7, .int .i64 n8, .int .i64 qe.acc, .int .i64 qe.item, .int .u64 (qe.co : Int), .int .u64 (qe.pr : Int), .slice qe.A qe.n qe.c, .int .i64 qk.num, .int .i64 qk.kind, .int .i64 qk.by_, .int .i64 qk.dl, .int .i64 qk.to_, .int .i64 qk.want, .int .u64 (qk.pr : Int), .int .u64 (qk.rs : Int), .int .u64 (qk.st : Int), .int .i64 qk.of_, .slice qk.A qk.n qk.c] (0, 0) _ rfl (HB10.out.setRow #[.int .i64 n1, .int .i64 n2, .string str, .int .i64 n4, .int .u64 (n5 : Int), .int .i64 n6, .int .i64 n7, .int .i64 n8, .int .i64 qe.acc, .int .i64 qe.item, .int .u64 (qe.co : Int), .int .u64 (qe.pr : Int), .slice qe.A qe.n qe.c, .int .i64 qk.num, .int .i64 qk.kind, .int .i64 qk.by_, .int .i64 qk.dl, .int .i64 qk.to_, .int .i64 qk.want, .int .u64 (qk.pr : Int), .int .u64 (qk.rs : Int), .int .u64 (qk.st : Int), .int .i64 qk.of_, .slice qk.A qk.n qk.c]) Try.underlying31 rfl (by kernel_rfl)) rfl ?_
      refine .inr (.inr ⟨Hlim.out, q, ⟨Hok.out, Hwf.out, Heq.out⟩, by rw [Hq.out, Hstr.out]; rfl, ?_, HF10.out.setRow (.inr (Nat.le_refl _)) _⟩)
      rw [Hq.out]
      exact ⟨(E9.out.quiet Hf10.out).row HB10.out.typed (by decide) _, (C9.out.quiet Hf10.out).row HB10.out.typed (by decide) (by decide) _⟩
    · have ne12 : ¬ s1 = s2 := fun e => heq (strOf_inj2 (KC.form_b Hwf.out) H256.out (by rw [hs1, hs2, e]))
      have ne12b : (s1.toList == s2.toList) = false := by
        rw [beq_eq_false_iff_ne]
        intro e
        rw [ByteArray.toList_eq, ByteArray.toList_eq] at e
        exact ne12 (by cases s1; cases s2; congr 1; exact Array.toList_inj.1 e)
      have Hne := hide heq
      have hst := run_storeAt_at (P := Try.prog) tCmR w.heap.size 0 tCmR #[.int .i64 0, .int .i64 0, .string ⟨#[]⟩, .int .i64 0, .int .u64 0, .int .i64 0, .int .i64 0, .int .i64 0, .int .i64 0, .int .i64 0, .int .u64 0, .int .u64 0, .slice none 0 0, .int .i64 0, .int .i64 0, .int .i64 0, .int .i64 0, .int .i64 0, .int .i64 0, .int .u64 0, .int .u64 0, .int .u64 0, .int .i64 0, .slice none 0 0] #[.int .i64 0, .int .i64 0, .string ⟨#[]⟩, .int .i64 0, .int .u64 0, .int .i64 0, .int .i64 0, .int .i64 0, .int .i64 0, .int .i64 0, .int .u64 0, .int .u64 0, .slice none 0 0, .int .i64 0, .int .i64 0, .int .i64 0, .int .i64 0, .int .i64 0, .int .i64 0, .int .u64 0, .int .u64 0, .int .u64 0, .int .i64 0, .slice none 0 0] #[.int .i64 0, .int .i64 0, .string ⟨#[]⟩, .int .i64 0, .int .u64 0, .int .i64 0, .int .i64 0, .int .i64 0, .int .i64 0, .int .i64 0, .int .u64 0, .int .u64 0, .slice none 0 0, .int .i64 0, .int .i64 0, .int .i64 0, .int .i64 0, .int .i64 0, .int .i64 0, .int .u64 0, .int .u64 0, .int .u64 0, .int .i64 0, .slice none 0 0] (by kernel_rfl) 24 24 rfl rfl (by decide) rfl rfl HB10.out
      clear hs1 hs2 heq
      go_wp2_with fail
      try simp only [Exit.inBlock, Exit.then]
      refine bodyPost_ret (results_row_tmp rfl _ _ w.heap.size tCmR #[.int .i64 0, .int .i64 0, .string ⟨#[]⟩, .int .i64 0, .int .u64 0, .int .i64 0, .int .i64 0, .int .i64 0, .int .i64 0, .int .i64 0, .int .u64 0, .int .u64 0, .slice none 0 0, .int .i64 0, .int .i64 0, .int .i64 0, .int .i64 0, .int .i64 0, .int .i64 0, .int .u64 0, .int .u64 0, .int .u64 0, .int .i64 0, .slice none 0 0] (0, 0) _ rfl (HB10.out.setRow #[.int .i64 0, .int .i64 0, .string ⟨#[]⟩, .int .i64 0, .int .u64 0, .int .i64 0, .int .i64 0, .int .i64 0, .int .i64 0, .int .i64 0, .int .u64 0, .int .u64 0, .slice none 0 0, .int .i64 0, .int .i64 0, .int .i64 0, .int .i64 0, .int .i64 0, .int .i64 0, .int .u64 0, .int .u64 0, .int .u64 0, .int .i64 0, .slice none 0 0]) Try.underlying31 rfl (by kernel_rfl)) rfl ?_
      refine .inr (.inl ⟨Hlim.out, fun p hp => ?_, rfl, HF10.out.setRow (.inr (Nat.le_refl _)) _⟩)
      have h1 := (cmdS_iff H256.out).2 ⟨p, hp⟩
      exact Hne.out (HK.out.form.trans h1.2)
end Go.Proofs.Ytlcjhbemgagchaa
