/-
  Texts merged into one, to keep the claim small: Sx1.
-/
import Derived.Test.YtlcjhbemgagchaaMnSw2
import Derived.Test.YtlcjhbemgagchaaMnSv1
import Derived.Test.YtlcjhbemgagchaaMc22
/-
  StreamKnown: what the chapter's bytes tell; the law's no.
-/
namespace Go.Proofs.Ytlcjhbemgagchaa
open Go.RowKit
set_option linter.unusedVariables false
theorem noK {bs : List Nat} (hb : ∀ x ∈ bs, x < 256) (h : ((cmdS bs).ok && decide ((cmdS bs).form = bs)) = false) : ∀ q, ¬ KForm bs q := fun q hq => by
  obtain ⟨h1, h2⟩ := (cmdS_iff hb).2 ⟨q, hq⟩
  rw [h1, decide_eq_true h2] at h
  cases h
theorem noR {bs : List Nat} (hb : ∀ x ∈ bs, x < 256) (h : ((repS bs).ok && decide ((repS bs).form = bs)) = false) : ∀ q, ¬ RForm bs q := fun q hq => by
  obtain ⟨h1, h2⟩ := (repS_iff hb).2 ⟨q, hq⟩
  rw [h1, decide_eq_true h2] at h
  cases h
theorem bad0 : KVer [] zeroC 270 := .inr (.inl ⟨by decide, noK (by decide) (by kernel_rfl), rfl, rfl⟩)
theorem bad7 : KVer [7] zeroC 270 := .inr (.inl ⟨by decide, noK (by decide) (by kernel_rfl), rfl, rfl⟩)
def L1 : List Nat := [0, 0, 3, 2, 1, 4, 0]
def L2 : List Nat := [0, 0, 3, 2, 1, 4, 0, 0, 0, 0, 0, 1, 7]
def L3 : List Nat := [0, 0, 3, 2, 1, 4, 0, 0, 0, 0, 0, 1, 7, 0, 2, 0]
theorem pcs1 : Pcs L1 0 [⟨k4, 0⟩] 6 false := Pcs.one (bs := L1) (k := 0) (by decide) (by decide) k4_ver (.short (k := 6) (by decide))
theorem pcs2 : Pcs L2 6 [PC.no, PC.no] 13 false :=
  Pcs.bad (bs := L2) (k := 6) (by decide) (by decide) bad0 (by decide) (Pcs.bad (bs := L2) (k := 9) (by decide) (by decide) bad7 (by decide) (.short (k := 13) (by decide)))
theorem pcs3 : Pcs L3 13 [] 13 false := .half (k := 13) (by decide) (by decide) (by decide)
theorem pcs4 : Pcs [0, 2, 1, 0, 0, 0] 0 [PC.no] 0 true := .long (by decide) (by decide)
/-- All of them pieces of no command. -/
def AllNo (l : List PC) : Prop := ∀ x ∈ l, x.er = 290 ∧ x.c.like zeroC
theorem LikeP.no : ∀ {l m : List PC}, LikeP l m → (∀ x ∈ m, x = PC.no) → AllNo l
  | _, _, .nil, _ => fun x h => by cases h
  | _, _, .cons (a := a) (b := b) h1 h2, h => fun x hx => by
    rcases List.mem_cons.1 hx with rfl | hx
    · have hb : b = PC.no := h b (List.mem_cons_self ..)
      subst hb
      exact ⟨h1.2, h1.1⟩
    · exact LikeP.no h2 (fun y hy => h y (List.mem_cons_of_mem _ hy)) x hx
theorem fed1 {l : List PC} {u : Nat} {d : Bool} (h : FedP ([] ++ L1) 0 false l u d) : u = 6 ∧ d = false ∧ l.length = 1 := by
  rcases h with ⟨-, h⟩ | ⟨h, _⟩
  · obtain ⟨e1, e2, e3⟩ := h.same pcs1
    exact ⟨e1, e2, e3.len⟩
  · cases h
theorem fed2 {l : List PC} {u : Nat} {d : Bool} (h : FedP (([] ++ L1) ++ [0, 0, 0, 0, 1, 7]) 6 false l u d) : u = 13 ∧ d = false ∧ AllNo l ∧ l.length = 2 := by
  rcases h with ⟨-, h⟩ | ⟨h, _⟩
  · obtain ⟨e1, e2, e3⟩ := h.same pcs2
    exact ⟨e1, e2, e3.no (by simp), e3.len⟩
  · cases h
theorem fed3 {l : List PC} {u : Nat} {d : Bool} (h : FedP ((([] ++ L1) ++ [0, 0, 0, 0, 1, 7]) ++ [0, 2, 0]) 13 false l u d) : u = 13 ∧ d = false ∧ AllNo l ∧ l.length = 0 := by
  rcases h with ⟨-, h⟩ | ⟨h, _⟩
  · obtain ⟨e1, e2, e3⟩ := h.same pcs3
    exact ⟨e1, e2, e3.no (by simp), e3.len⟩
  · cases h
theorem fed4 {l : List PC} {u : Nat} {d : Bool} (h : FedP ([] ++ [0, 2, 1, 0, 0, 0]) 0 false l u d) : u = 0 ∧ d = true ∧ AllNo l ∧ l.length = 1 := by
  rcases h with ⟨-, h⟩ | ⟨h, _⟩
  · obtain ⟨e1, e2, e3⟩ := h.same pcs4
    exact ⟨e1, e2, e3.no (by simp), e3.len⟩
  · cases h
theorem fed5 {T : List Nat} {l : List PC} {u u' : Nat} {d : Bool} (h : FedP T u true l u' d) : l = [] ∧ u' = u ∧ d = true := by
  rcases h with ⟨h, _⟩ | ⟨-, h1, h2, h3⟩
  · cases h
  · exact ⟨h1, h2, h3⟩
def rid1 : RR := { zeroR with id := 1 }
theorem form0 : RForm [] zeroR := ⟨by kernel_rfl, ⟨by decide, by decide, ⟨by decide, by decide, by decide, fun e h => by cases h⟩, fun x h => by cases h⟩, by kernel_rfl⟩
theorem form1 : RForm [1, 1, 1] rid1 := ⟨by kernel_rfl, ⟨by decide, by decide, ⟨by decide, by decide, by decide, fun e h => by cases h⟩, fun x h => by cases h⟩, by kernel_rfl⟩
theorem reps1 : Reps [0, 0, 0, 0, 0, 3, 1, 1, 1, 0] 0 [zeroR, rid1] 9 0 :=
  Reps.one (k := 0) (by decide) (by decide) (.inr (.inr ⟨by decide, rfl, form0⟩)) (Reps.one (k := 3) (by decide) (by decide) (.inr (.inr ⟨by decide, rfl, form1⟩)) (.short (k := 9) (by decide)))
theorem reps2 : Reps [0, 0, 1, 0] 0 [] 0 290 := Reps.bad (k := 0) (c := zeroR) (er := 270) (by decide) (by decide) (.inr (.inl ⟨by decide, noR (by decide) (by kernel_rfl), rfl, rfl⟩)) (by decide)
theorem zeroR_at (w : World) : zeroR.at_ w := (zeroR_T w).at_
theorem rid1_at (w : World) : rid1.at_ w := ⟨(zeroR_at w).sl, (zeroR_at w).le, (zeroR_at w).cap, (zeroR_at w).k⟩
theorem zeroC_at (w : World) : zeroC.at_ w := (zeroC_T w).at_
theorem zeroC_wf : zeroC.wf := ⟨by decide, ⟨by decide, by decide⟩, ⟨by decide, by decide, by decide, fun e h => by cases h⟩, fun x h => by cases h⟩
set_option maxHeartbeats 1000000 in
set_option maxRecDepth 8000 in
attribute [-go_sem] Go.Instr.loadAt in
theorem no_any (w W : World) (l : List PC) (A : Option Addr) (n c : Nat) (g : Option Nat) (hl : AllNo l) (h : Pcr W w l tPc A n c g) (hn : n ≤ 1000) :
    Calls Try.prog 36 #[.slice A n c, .int .i64 (n : Int)] w fun e w' => e = .returned (.bool true) ∧ Fr (fun _ => False) w w' := by
  have H1 := hide h
  have HL := hide hl
  have HN := hide (fun w' => num29_any w' 290)
  clear h hl
  go_enter Try.func36, Try.ntmps36
  go_wp2_with fail
  go_loopw [5] (fun i wr => ∃ k : Nat, k ≤ n ∧ i = .int .i64 k ∧ Hid (Fr (fun _ => False) w wr)) (fun i _ => n - (intOf i).toNat)
  case atStart => exact ⟨0, Nat.zero_le _, rfl, Fr.refl _ _⟩
  case round =>
    obtain ⟨k, hk, rfl, hF⟩ := hrel
    by_cases hlt : k < n
    · have hr1 := H1.out.quiet hF.out
      obtain ⟨b, o, rfl⟩ := hr1.addr (by omega)
      obtain ⟨x, hx⟩ : ∃ x, l[k]? = some x := ⟨_, List.getElem?_eq_getElem (by have := hr1.len; omega)⟩
      obtain ⟨hx1, hx2⟩ := HL.out x (List.mem_of_getElem? hx)
      have ha := (hr1.rt x (List.mem_of_getElem? hx)).at_
      have HC1 := hide (fun w' (hf : Fr (fun _ => False) wr w') => commandLike29_any w' x.c zeroC hx2 (ha.quiet hf) (zeroC_at w'))
      have l1 := hr1.loadC hx
      have l3 : (Instr.loadAt 32 (.pointer (some ⟨b, o + k * 25 + 24, none⟩))).run Try.prog wr = .ok (.int .i64 290) wr := by
        have h := hr1.err hx
        rw [hx1] at h
        exact In.run_loadAt_cell _ _ Try.underlying32 rfl h
      have i0 : (0 : Int) ≤ (k : Int) := by omega
      have i1 : (k : Int) < (n : Int) := by omega
      clear hr1 hx hx1 hx2 ha
      go_wp2_with fail
      refine (HN.out _).mono ?_
      rintro e w' ⟨rfl, rfl⟩
      go_wp2_with fail
      refine (HC1.out _ (Fr.refl _ _)).mono ?_
      rintro e w4 ⟨rfl, hf4⟩
      have HF := hide (hF.out.trans hf4)
      clear l1 l3 hf4
      go_wp2_with fail
      exact ⟨⟨k + 1, by omega, by go_num, HF⟩, by simp [intOf]; omega⟩
    · obtain rfl : n = k := by omega
      go_wp2_with fail
      go_ret
      exact ⟨rfl, hF.out⟩
end Go.Proofs.Ytlcjhbemgagchaa
