/-
  Texts merged into one, to keep the claim small: Sv2.
-/
import Derived.Test.YtlcjhbemgagchaaMk47
/-
  StreamCuts: the law's alike, where both are the same. (printed by pr_pcs.py)
-/
namespace Go.Proofs.Ytlcjhbemgagchaa
open Go.RowKit
set_option linter.unusedVariables false
set_option maxHeartbeats 2000000 in
set_option maxRecDepth 8000 in
attribute [-go_sem] Go.Instr.loadAt in
theorem alike_any (w W1 W2 : World) (l m : List PC) (hlk : LikeP l m) (A B : Option Addr) (n c d : Nat) (g g' : Option Nat) (hb : n ≤ 1048576) (h1 : Pcr W1 w l tPc A n c g) (h2 : Pcr W2 w m tPc B n d g') :
    Calls Try.prog 35 #[.slice A n c, .slice B n d] w fun e w' => e = .returned (.bool true) ∧ Fr (fun _ => False) w w' := by
  have H1 := hide h1
  have H2 := hide h2
  have HL := hide hlk
  clear h1 h2 hlk
  go_enter Try.func35, Try.ntmps35
  go_wp2_with fail
  go_loopw [5] (fun i wr => ∃ k : Nat, k ≤ n ∧ i = .int .i64 k ∧ Hid (Fr (fun _ => False) w wr)) (fun i _ => n - (intOf i).toNat)
  case atStart => exact ⟨0, Nat.zero_le _, rfl, Fr.refl _ _⟩
  case round =>
    obtain ⟨k, hk, rfl, hF⟩ := hrel
    by_cases hlt : k < n
    · have hr1 := H1.out.quiet hF.out
      have hr2 := H2.out.quiet hF.out
      obtain ⟨b, o, rfl⟩ := hr1.addr (by omega)
      obtain ⟨b', o', rfl⟩ := hr2.addr (by omega)
      obtain ⟨x, hx⟩ : ∃ x, l[k]? = some x := ⟨_, List.getElem?_eq_getElem (by have := hr1.len; omega)⟩
      obtain ⟨y, hy⟩ : ∃ y, m[k]? = some y := ⟨_, List.getElem?_eq_getElem (by have := hr2.len; omega)⟩
      have hxy := HL.out.at_ hx hy
      have ha := (hr1.rt x (List.mem_of_getElem? hx)).at_
      have hb' := (hr2.rt y (List.mem_of_getElem? hy)).at_
      have HC := hide (fun w' (hf : Fr (fun _ => False) wr w') => commandLike29_any w' x.c y.c hxy.1 (ha.quiet hf) (hb'.quiet hf))
      have l1 : ∀ w', Fr (fun _ => False) wr w' → (Instr.loadAt tCm (.pointer (some ⟨b, o + k * 25, none⟩))).run Try.prog w' = .ok (.agg #[.int .i64 x.c.id, .int .i64 x.c.kind, .string (strOf x.c.name), .int .i64 x.c.to_, .int .u64 (x.c.co : Int), .int .i64 x.c.item, .int .i64 x.c.num, .int .i64 x.c.of_, .int .i64 x.c.e.acc, .int .i64 x.c.e.item, .int .u64 (x.c.e.co : Int), .int .u64 (x.c.e.pr : Int), .slice x.c.e.A x.c.e.n x.c.e.c, .int .i64 x.c.k.num, .int .i64 x.c.k.kind, .int .i64 x.c.k.by_, .int .i64 x.c.k.dl, .int .i64 x.c.k.to_, .int .i64 x.c.k.want, .int .u64 (x.c.k.pr : Int), .int .u64 (x.c.k.rs : Int), .int .u64 (x.c.k.st : Int), .int .i64 x.c.k.of_, .slice x.c.k.A x.c.k.n x.c.k.c]) w' := fun w' hf => (hr1.quiet hf).loadC hx
      have l2 : ∀ w', Fr (fun _ => False) wr w' → (Instr.loadAt tCm (.pointer (some ⟨b', o' + k * 25, none⟩))).run Try.prog w' = .ok (.agg #[.int .i64 y.c.id, .int .i64 y.c.kind, .string (strOf y.c.name), .int .i64 y.c.to_, .int .u64 (y.c.co : Int), .int .i64 y.c.item, .int .i64 y.c.num, .int .i64 y.c.of_, .int .i64 y.c.e.acc, .int .i64 y.c.e.item, .int .u64 (y.c.e.co : Int), .int .u64 (y.c.e.pr : Int), .slice y.c.e.A y.c.e.n y.c.e.c, .int .i64 y.c.k.num, .int .i64 y.c.k.kind, .int .i64 y.c.k.by_, .int .i64 y.c.k.dl, .int .i64 y.c.k.to_, .int .i64 y.c.k.want, .int .u64 (y.c.k.pr : Int), .int .u64 (y.c.k.rs : Int), .int .u64 (y.c.k.st : Int), .int .i64 y.c.k.of_, .slice y.c.k.A y.c.k.n y.c.k.c]) w' := fun w' hf => (hr2.quiet hf).loadC hy
      have l3 : ∀ w', Fr (fun _ => False) wr w' → (Instr.loadAt 32 (.pointer (some ⟨b, o + k * 25 + 24, none⟩))).run Try.prog w' = .ok (.int .i64 (x.er : Int)) w' := fun w' hf => In.run_loadAt_cell _ _ Try.underlying32 rfl ((hr1.quiet hf).err hx)
      have l4 : ∀ w', Fr (fun _ => False) wr w' → (Instr.loadAt 32 (.pointer (some ⟨b', o' + k * 25 + 24, none⟩))).run Try.prog w' = .ok (.int .i64 (x.er : Int)) w' := fun w' hf => In.run_loadAt_cell _ _ Try.underlying32 rfl (by rw [hxy.2]; exact (hr2.quiet hf).err hy)
      have HN := hide (fun w' => num29_any w' (x.er : Int))
      have i0 : (0 : Int) ≤ (k : Int) := by omega
      have i1 : (k : Int) < (n : Int) := by omega
      have hS : Fr (fun _ => False) wr wr := Fr.refl _ _
      clear hr1 hr2 hx hy hxy ha hb'
      go_wp2_with fail
      go_region_held3 (fun w' => Fr (fun _ => False) wr w') (first | assumption | exact Fr.drew (by assumption))
        (first
          | (go_at_call 38; refine (HC.out _ (by first | assumption | exact Fr.drew (by assumption))).mono ?_; rintro e w4 ⟨rfl, hf4⟩; have hf5 : Fr (fun _ => False) wr w4 := Fr.trans (by first | assumption | exact Fr.drew (by assumption)) hf4)
          | (go_at_call 13; refine (HN.out _).mono ?_; rintro e w4 ⟨rfl, rfl⟩))
      have HF := hide (hF.out.trans hf5)
      clear l1 l2 l3 l4 hf4 hf5
      go_wp2_with fail
      exact ⟨⟨k + 1, by omega, by go_num, HF⟩, by simp [intOf]; omega⟩
    · go_wp2_with fail
      go_ret
      exact ⟨rfl, hF.out⟩
end Go.Proofs.Ytlcjhbemgagchaa
