/-
  Texts merged into one, to keep the claim small: Su5.
-/
import Derived.Test.YtlcjhbemgagchaaMn35
import Derived.Deep.CutBlock
/-
  stream: Feed. (printed by pr_su5.py out of su5.in)
-/
namespace Go.Proofs.Ytlcjhbemgagchaa
open Go.RowKit
set_option linter.unusedVariables false
attribute [local go_sem ↓] storeP_ storeC_ loadP_ loadC_
attribute [local go_sem] run_store_fn run_store_nf
/-- Where a Feed stands within a line: at a length, at a body, deaf. -/
def Ph (w : World) (p : Nat) (SL : Value) (T : List Nat) (k ph : Nat) (rest : List Nat) (LA : Option Addr) : Prop :=
  (ph = 0 ∧ StB w p SL 3 0 (fnL p) false ∧ rest = T.drop k ∧ k ≤ T.length) ∨
  (ph = 1 ∧ k + 3 ≤ T.length ∧ longS (T.drop k) ≤ 512 ∧ StB w p SL (longS (T.drop k)) 3 (fnB p) false ∧ rest = T.drop (k + 3) ∧ ∃ b o, LA = some ⟨b, o, none⟩) ∨
  (ph = 2 ∧ ∃ wa ta, StB w p SL wa ta .nilFunc true)
/-- What was told so far. -/
def Tp (T : List Nat) (u : Nat) (d : Bool) (k ph : Nat) (l : List PC) : Prop :=
  (ph ≠ 2 ∧ d = false ∧ ToldP T u k l) ∨ (ph = 2 ∧ d = false ∧ Pcs T u l k true) ∨ (ph = 2 ∧ d = true ∧ l = [] ∧ k = u)
/-- What a Feed tells. -/
def FedP (T : List Nat) (u : Nat) (d : Bool) (l : List PC) (u' : Nat) (d' : Bool) : Prop := (d = false ∧ Pcs T u l u' d') ∨ (d = true ∧ l = [] ∧ u' = u ∧ d' = true)
theorem StF.typ {w : World} {p : Nat} {T : List Nat} {u : Nat} {d : Bool} {sg : Option Nat} {ln : List Nat} {want taken : Nat} {f : Value} {SA : Option Addr} {sc : Nat} (h : StF w p T u d sg ln want taken f SA sc) : Typed w p tStm := Bl.typed h.bl
def FeedPost (w : World) (p : Nat) (T : List Nat) (u : Nat) (d : Bool) (sg : Option Nat) (ds : List Nat) (e : Ending) (w' : World) : Prop :=
  ∃ (l : List PC) (u' : Nat) (d' : Bool) (B : Option Addr) (m : Nat) (g sg' : Option Nat), e = .returned (.slice B m m) ∧ FedP (T ++ ds) u d l u' d' ∧ Pcm w w' l B m m g ∧ StM w' p (T ++ ds) u' d' sg' ∧ (∀ x, sg' = some x → w.heap.size ≤ x) ∧ Fr (fun x => x = p ∨ some x = sg) w w'
def takenAt (w : World) (p : Nat) : Nat := match w.cell? ⟨p, 2, none⟩ with | some (.int _ t) => t.toNat | _ => 0
def lenOf : Value → Nat | .slice _ n _ => n | _ => 0
theorem takenAt_of {w : World} {p : Nat} {SL : Value} {want taken : Nat} {f : Value} {deaf : Bool} (h : StB w p SL want taken f deaf) : takenAt w p = taken := by
  have := Bl.cell' (i := 2) h rfl
  unfold takenAt
  rw [this]; simp
/-- A stream that is fed, at the start. -/
theorem StF.ph {w : World} {p : Nat} {T : List Nat} {u : Nat} {d : Bool} {sg : Option Nat} {ln : List Nat} {want taken : Nat} {f : Value} {SA : Option Addr} {sc : Nat} (h : StF w p T u d sg ln want taken f SA sc) {w' : World} {S : Nat → Prop} (hf : Fr S w w') (hp : ¬ S p) (ds : List Nat) {LA : Option Addr} (hLA : SA ≠ none → LA ≠ none) (hLg : ∀ a, LA = some a → ∃ b o, LA = some ⟨b, o, none⟩) :
    ∃ ph, ph ≤ 2 ∧ Ph w' p (.slice SA ln.length sc) (T ++ ds) u ph (ln ++ ds) LA ∧ Tp (T ++ ds) u d u ph [] := by
  have hb := h.bl.fr hf hp
  rcases h.md with ⟨rfl, rfl, rfl⟩ | ⟨rfl, h1, h2, rfl, rfl, rfl, rfl⟩ | ⟨rfl, h1, h2, rfl, rfl, rfl, rfl, b, o, rfl⟩
  · exact ⟨2, Nat.le_refl _, .inr (.inr ⟨rfl, want, taken, hb⟩), .inr (.inr ⟨rfl, rfl, rfl, rfl⟩)⟩
  · exact ⟨0, by omega, .inl ⟨rfl, hb, by rw [List.drop_append_of_le_length h2], by rw [List.length_append]; omega⟩, .inl ⟨by decide, rfl, .nil⟩⟩
  · refine ⟨1, by omega, .inr (.inl ⟨rfl, by rw [List.length_append]; omega, by rw [longS_app h1]; exact h2, by rw [longS_app h1]; exact hb, by rw [List.drop_append_of_le_length h1], ?_⟩), .inl ⟨by decide, rfl, .nil⟩⟩
    cases hl : LA with
    | none => exact absurd hl (hLA (by simp))
    | some a => obtain ⟨b, o, e⟩ := hLg a hl; exact ⟨b, o, by rw [← hl]; exact e⟩
theorem sl_pc (w : World) (P : PC) (e : TypeId) : Sl (w.alloc (.cells (pcells P).toArray e)) 25 (some ⟨w.heap.size, 0, none⟩) 1 (pcells P) := by
  refine ⟨rfl, fun _ => ⟨w.heap.size, 0, rfl, fun j u hu => ?_⟩⟩
  have hb := Bl.new w e (pcells P).toArray
  rw [Nat.zero_add]
  exact hb.cell' (by rw [List.getElem?_toArray]; exact hu)
theorem Pcm.stm {W w w' : World} {l : List PC} {A : Option Addr} {n c : Nat} {g : Option Nat} (h : Pcm W w l A n c g) {p : Nat} (hp : Typed w p tStm) (hf : Fr (fun x => x = p) w w') : Pcm W w' l A n c g :=
  h.frt hf fun x t hx ht e => by
    subst e
    have := hx.same hp
    subst this
    revert ht; decide
theorem fold_set : ∀ (xs : List Value) (k : Nat) (cs : Array Value), k + xs.length ≤ cs.size → List.foldl (fun (cs : Array Value) (x : Value × Nat) => cs.setIfInBounds x.snd x.fst) cs (xs.zipIdx k) = (cs.toList.take k ++ xs ++ cs.toList.drop (k + xs.length)).toArray
  | [], k, cs, _ => by simp
  | x :: xs, k, cs, h => by
    rw [List.length_cons] at h
    have hk : k < cs.toList.length := by rw [Array.length_toList]; omega
    rw [List.zipIdx_cons, List.foldl_cons, fold_set xs (k + 1) _ (by rw [Array.size_setIfInBounds]; omega)]
    congr 1
    have e : (cs.setIfInBounds k x).toList = cs.toList.take k ++ x :: cs.toList.drop (k + 1) := by
      rw [Array.toList_setIfInBounds, List.set_eq_take_append_cons_drop, if_pos hk]
    have hl : (cs.toList.take k).length = k := by rw [List.length_take]; omega
    have hd : List.drop (k + 1 + xs.length) (cs.toList.take k) = [] := List.drop_of_length_le (by omega)
    rw [e, List.take_append, List.drop_append, hl, List.take_of_length_le (by omega), hd, show k + 1 - k = 1 by omega, show k + 1 + xs.length - k = xs.length + 1 by omega, List.length_cons, show k + (xs.length + 1) = k + 1 + xs.length by omega]
    simp
theorem fold_pc (P : PC) : List.foldl (fun (cs : Array Value) (x : Value × Nat) => cs.setIfInBounds x.snd x.fst) #[.int .i64 0, .int .i64 0, .string ⟨#[]⟩, .int .i64 0, .int .u64 0, .int .i64 0, .int .i64 0, .int .i64 0, .int .i64 0, .int .i64 0, .int .u64 0, .int .u64 0, .slice none 0 0, .int .i64 0, .int .i64 0, .int .i64 0, .int .i64 0, .int .i64 0, .int .i64 0, .int .u64 0, .int .u64 0, .int .u64 0, .int .i64 0, .slice none 0 0, .int .i64 0] (pcells P).zipIdx = (pcells P).toArray := by
  have hl := pcells_len P
  rw [fold_set (pcells P) 0 #[.int .i64 0, .int .i64 0, .string ⟨#[]⟩, .int .i64 0, .int .u64 0, .int .i64 0, .int .i64 0, .int .i64 0, .int .i64 0, .int .i64 0, .int .u64 0, .int .u64 0, .slice none 0 0, .int .i64 0, .int .i64 0, .int .i64 0, .int .i64 0, .int .i64 0, .int .i64 0, .int .u64 0, .int .u64 0, .int .u64 0, .int .i64 0, .slice none 0 0, .int .i64 0] (by rw [hl]; decide)]
  rw [hl]
  simp
/-- A piece more was told. -/
theorem Pcm.tell {W wo w3 w4 : World} {l : List PC} {B A4 : Option Addr} {m d1 c4 : Nat} {g g4 : Option Nat} {P : PC} (ho : Pcm W wo l B m d1 g) (h3 : Pcm W w3 l B m d1 g) (hs : W.heap.size ≤ wo.heap.size) (hs3 : W.heap.size ≤ w3.heap.size) (hq : KOwn wo w3 P.c)
    (hO : Ow w4 tPc 25 A4 (m + 1) c4 (l.flatMap pcells ++ pcells P) g4) (hf : Fr (fun x => some x = g) (w3.alloc (.cells (pcells P).toArray tPc)) w4) (hg : g4 = g ∨ ∃ b, g4 = some b ∧ w3.heap.size + 1 ≤ b) : Pcm W w4 (l ++ [P]) A4 (m + 1) c4 g4 ∧ Fr (fun x => some x = g) w3 w4 := by
  have hal : Fr (fun _ => False) w3 (w3.alloc (.cells (pcells P).toArray tPc)) := (Fr.refl _ _).alloc _
  exact ⟨ho.app (h3.quiet hal) hs (hq.quiet hal) hO hf (hg.imp id fun ⟨b, e, h⟩ => ⟨b, e, by omega⟩), (hal.weak _).trans hf⟩
set_option maxHeartbeats 2000000 in
set_option maxRecDepth 10000 in
theorem feed_wide (w : World) (p : Nat) (T : List Nat) (u : Nat) (d : Bool) (sg : Option Nat) (h : StM w p T u d sg) (ds : List Nat) (D : Option Addr) (nd cd : Nat) (hnd : nd = ds.length) (hlen : (T ++ ds).length ≤ 137438953472) (h256 : ∀ x ∈ T ++ ds, x < 256) (hD : Sl w 1 D nd (ds.map bn)) :
    Calls Try.prog 27 #[.pointer (some ⟨p, 0, none⟩), .slice D nd cd] w (FeedPost w p T u d sg ds) := by
  obtain ⟨i0, hi, hz0, hz1, hz2⟩ := info_parts info5
  obtain ⟨j0, hj, hj0, hj1, hj2⟩ := info_parts infoPc3
  obtain ⟨ln, want, taken, f, SA, sc, h⟩ := h
  have hln : ln.length ≤ T.length := by
    rcases h.md with ⟨-, -, rfl⟩ | ⟨-, -, -, rfl, -⟩ | ⟨-, -, -, rfl, -⟩ <;> simp
  have hlen2 : T.length + nd ≤ 137438953472 := by rw [List.length_append] at hlen; omega
  have c0 := Bl.cell' (i := 0) h.bl rfl
  have hO0 := h.ow
  have hpl := Bl.lt h.bl
  have hty : ∀ x, sg = some x → x ≠ p := fun x e e' => absurd ((h.ow.typed x e).same (e' ▸ Bl.typed h.bl)) (by decide)
  obtain ⟨n0, hn0⟩ : ∃ n0, ln.length = n0 := ⟨_, rfl⟩
  rw [hn0] at c0 hO0 hln
  have Hn0 := hide hn0
  have H := hide h
  have Hnd := hide hnd
  have H256 := hide h256
  have Hty := hide hty
  have Hlen := hide hlen
  clear h hn0 hnd h256 hty hlen
  go_enter Try.func27, Try.ntmps27
  go_wp2_with (at_builtin; go_loud (refine wpList_append_ow _ rfl _ _ 22 rfl 5 i0 (.int .u8 0) 1 1 Try.underlying22 hi hz0 hz1 hz2 rfl (by decide) _ _ _ _ _ rfl hO0 _ _ _ _ rfl hD (bn_one _) (by unfold maxLen; omega) (by omega) ?_))
  intro LA0 lc0 w1 lg hO1 hf1 hg1
  have hg1' : ∀ x, lg = some x → some x = sg ∨ w.heap.size ≤ x := fun x e => by
    rcases hg1 with e1 | ⟨b, e1, hb⟩
    · exact .inl (by rw [← e, e1])
    · rw [e1] at e; cases e; exact .inr hb
  have hLg : ∀ a, LA0 = some a → ∃ b o, LA0 = some ⟨b, o, none⟩ := fun a e => by
    rcases hO1.2 with ⟨e1, _⟩ | ⟨b, o, cur, e1, _⟩
    · rw [e1] at e; cases e
    · exact ⟨b, o, e1⟩
  have hLA : SA ≠ none → LA0 ≠ none := fun hne => by
    have hx : ∃ x, lg = some x := by
      rcases hg1 with e1 | ⟨b, e1, _⟩
      · rcases hO0.2 with ⟨e2, _⟩ | ⟨b, o, cur, _, e2, _⟩
        · exact absurd e2 hne
        · exact ⟨b, by rw [e1, e2]⟩
      · exact ⟨b, e1⟩
    obtain ⟨x, e⟩ := hx
    rw [e] at hO1
    obtain ⟨o, e2⟩ := hO1.addr_of
    rw [e2]; simp
  obtain ⟨ph0, hph, hPh0, hTp0⟩ := H.out.ph hf1 (fun e => Hty.out p e.symm rfl) ds hLA hLg
  obtain ⟨T', hT'⟩ : ∃ T', T ++ ds = T' := ⟨_, rfl⟩
  rw [hT'] at hPh0 hTp0 H256 Hlen
  have hR0 : (ln ++ ds).length = n0 + nd := by rw [List.length_append, Hn0.out, Hnd.out]
  have hO1' : Ow w1 5 1 LA0 (n0 + nd) lc0 ((ln ++ ds).map bn) lg := by rw [List.map_append]; exact hO1
  have hfe : Fr (fun x => x = p ∨ some x = sg) w w1 := hf1.mono fun x _ e => .inr e
  have hlgt := hO1.typed
  obtain ⟨R0, hR⟩ : ∃ R0, ln ++ ds = R0 := ⟨_, rfl⟩
  rw [hR] at hR0 hO1' hPh0
  obtain ⟨N0, hN0⟩ : ∃ N0, n0 + nd = N0 := ⟨_, rfl⟩
  have hN0b : N0 ≤ 137438953472 := by omega
  rw [hN0] at hR0 hO1'
  have hpl1 : p < w1.heap.size := Nat.lt_of_lt_of_le hpl hf1.size
  have HI := hide (And.intro hO1' (And.intro hPh0 (And.intro hTp0 (And.intro hfe hR0))))
  have HG := hide (And.intro hg1' hlgt)
  obtain ⟨SL, hSL⟩ : ∃ SL : Value, .slice SA ln.length sc = SL := ⟨_, rfl⟩
  rw [hSL] at HI
  clear hO1 hf1 hg1 hg1' hLg hLA hO0 c0 hPh0 hTp0 hR0 hO1' hfe hlgt hR hSL hD
  (try simp only [hN0])
  have HN := hide hN0
  clear hN0 hlen2
  have eqL : ∀ W, (binOp .neq 96 (.func (.func 52) #[.pointer (some ⟨p, 0, none⟩)] #[]) .nilFunc).run Try.prog W = .ok (.bool true) W := fun W => by kernel_rfl
  have eqB : ∀ W, (binOp .neq 96 (.func (.func 100) #[.pointer (some ⟨p, 0, none⟩)] #[]) .nilFunc).run Try.prog W = .ok (.bool true) W := fun W => by kernel_rfl
  have eqL' : ∀ W, (binOp .eql 96 (.func (.func 52) #[.pointer (some ⟨p, 0, none⟩)] #[]) .nilFunc).run Try.prog W = .ok (.bool false) W := fun W => by kernel_rfl
  have eqB' : ∀ W, (binOp .eql 96 (.func (.func 100) #[.pointer (some ⟨p, 0, none⟩)] #[]) .nilFunc).run Try.prog W = .ok (.bool false) W := fun W => by kernel_rfl
  have eqN' : ∀ W, (binOp .eql 96 .nilFunc .nilFunc).run Try.prog W = .ok (.bool true) W := fun W => by kernel_rfl
  have eqN : ∀ W, (binOp .neq 96 .nilFunc .nilFunc).run Try.prog W = .ok (.bool false) W := fun W => by kernel_rfl
  go_upto_block 0 with fail
  go_cut [5, 6] (fun v5 v6 wx => ∃ (l : List PC) (k ph : Nat) (d' : Bool) (B : Option Addr) (m d1 : Nat) (g : Option Nat) (LA : Option Addr) (n6 lc : Nat) (rest : List Nat), v5 = .slice B m d1 ∧ v6 = .slice LA n6 lc ∧ n6 ≤ N0 ∧ Hid (FedP T' u d l k d' ∧ (d' = true ↔ ph = 2) ∧ (ph = 0 → rest.length < 3) ∧ (ph = 1 → rest.length < longS (T'.drop k))) ∧
    Hid (Pcm w wx l B m d1 g) ∧ Hid (Ow wx 5 1 LA n6 lc (rest.map bn) lg ∧ n6 = rest.length) ∧ Hid (Fr (fun x => x = p ∨ some x = sg) w wx) ∧ Hid (Ph wx p SL T' k ph rest LA))
  case first =>
    go_wp2_with fail
    go_loopw [5, 6] (fun v5 v6 wr => ∃ (l : List PC) (k ph : Nat) (B : Option Addr) (m d1 : Nat) (g : Option Nat) (LA : Option Addr) (n6 lc : Nat) (rest : List Nat), v5 = .slice B m d1 ∧ v6 = .slice LA n6 lc ∧ n6 ≤ N0 ∧ Hid (Tp T' u d k ph l) ∧
      Hid (Pcm w wr l B m d1 g) ∧ Hid (Ow wr 5 1 LA n6 lc (rest.map bn) lg ∧ n6 = rest.length) ∧ Hid (Fr (fun x => x = p ∨ some x = sg) w wr) ∧ Hid (Ph wr p SL T' k ph rest LA)) (fun _ v6 wr => 4 * lenOf v6 + takenAt wr p)
    case atStart => exact ⟨[], u, ph0, none, 0, 0, none, LA0, N0, lc0, R0, rfl, rfl, Nat.le_refl _, HI.out.2.2.1, Pcm.nil_ _ _, ⟨HI.out.1, HI.out.2.2.2.2.symm⟩, HI.out.2.2.2.1, HI.out.2.1⟩
    case round =>
      obtain ⟨l, k, ph, B, m, d1, g, LA, n6, lc, rest, rfl, rfl, hn6, hT, hM, hO, hF, hP⟩ := hrel
      clear HI
      obtain ⟨wo, rfl⟩ : ∃ z, z = wr := ⟨_, rfl⟩
      rcases hP.out with ⟨rfl, hb, hr, hk⟩ | ⟨rfl, hk, hL, hb, hr, hla⟩ | ⟨rfl, wa, ta, hb⟩
      · have hln6 := hO.out.2
        have c1 : wo.cell? ⟨p, 1, none⟩ = some (.int .i64 3) := Bl.cell' (i := 1) hb rfl
        have c3 : wo.cell? ⟨p, 3, none⟩ = some (.func (.func 52) #[.pointer (some ⟨p, 0, none⟩)] #[]) := Bl.cell' (i := 3) hb rfl
        have htold : d = false ∧ ToldP T' u k l := by
          rcases hT.out with ⟨_, h, h2⟩ | ⟨h, _⟩ | ⟨h, _⟩
          · exact ⟨h, h2⟩
          · cases h
          · cases h
        have hrl : rest.length = T'.length - k := by rw [hr, List.length_drop]
        have hcap := hO.out.1.cap
        have hcm := hcap.2
        unfold maxLen at hcm
        by_cases hsh : n6 < 3
        · have hfd : FedP T' u d l k false := by
            have := htold.2.pcs (.short (by omega))
            rw [List.append_nil] at this
            exact .inl ⟨htold.1, this⟩
          have HFD := hide hfd
          have hs2 : rest.length < 3 := by omega
          have b1 : ¬ (3 : Int) ≤ (n6 : Int) := by omega
          have HS2 := hide hs2
          clear hb hfd hs2 hr htold hrl hln6 hcap
          go_wp2_with fail
          go_meet
          case rel => exact ⟨l, k, 0, false, B, m, d1, g, LA, n6, lc, rest, rfl, rfl, hn6, ⟨HFD.out, by simp, fun _ => HS2.out, by simp⟩, hM, hO, hF, hP⟩
        · have b1 : (3 : Int) ≤ (n6 : Int) := by omega
          have b2 : (3 : Int) ≤ (lc : Int) := by omega
          obtain ⟨b, o, rfl⟩ : ∃ b o, LA = some ⟨b, o, none⟩ := by
            obtain ⟨b, o, hA, -⟩ := hO.out.1.sl.2 (by omega)
            exact ⟨b, o, hA⟩
          have hS3 : Sl wo 1 (some ⟨b, o, none⟩) 3 (((T'.drop k).take 3).map bn) := by
            have h1 := hO.out.1.sl.part (f := 0) (t := 3) (by omega) (by omega)
            rw [List.drop_zero, ← List.map_take, hr] at h1
            exact h1
          have hlg := length_any wo p SL 3 0 hb ((T'.drop k).take 3) (some ⟨b, o, none⟩) 3 lc (Nat.le_refl _) hS3 (fun x hx => H256.out x (List.mem_of_mem_drop (List.mem_of_mem_take hx)))
          rw [longS_three] at hlg
          obtain ⟨L, hL⟩ : ∃ L, longS (T'.drop k) = L := ⟨_, rfl⟩
          rw [hL] at hlg
          have HL := hide hL
          have hpt : Typed wo p tStm := Bl.typed hb
          have hta : takenAt wo p = 0 := takenAt_of hb
          have hml : m ≤ 137438953472 := by have := hM.out.len; have := htold.2.len; have := Hlen.out; omega
          have hdr : (rest.map bn).drop 3 = (T'.drop (k + 3)).map bn := by rw [← List.map_drop, hr, List.drop_drop]
          have HD := hide (And.intro hpt (And.intro hta (And.intro htold (And.intro hrl hdr))))
          have HLN := hide hln6
          have hk3 : k + 3 ≤ T'.length := by omega
          have hcl : n6 ≤ lc := hcap.1
          clear hb hS3 hr hpt hta htold hrl hdr hcap hcm hln6
          by_cases hz : lc = 3
          · obtain rfl : lc = 3 := hz
            obtain rfl : n6 = 3 := by omega
            have HOt : Hid (Ow wo 5 1 (some ⟨b, o, none⟩) 0 0 ((T'.drop (k + 3)).map bn) lg ∧ 0 = (T'.drop (k + 3)).length) := by
              have h0 : (T'.drop (k + 3)).length = 0 := by rw [List.length_drop]; have := HD.out.2.2.2.1; have := HLN.out; omega
              rw [List.eq_nil_of_length_eq_zero h0]
              exact ⟨hO.out.1.zero, rfl⟩
            go_wp2_with fail
            refine hlg.mono ?_
            rintro v w2 (⟨hL5, rfl, hb2, hf2⟩ | ⟨hL5, rfl, hb2, hf2⟩)
            · obtain ⟨hpt, hta, htold, hrl, hdr⟩ := HD.out
              have hM2 := hM.out.stm hpt hf2
              have HX := hide (And.intro hb2 hf2)
              clear hpt hta htold hrl hdr hb2 hf2 hlg c1 c3
              obtain ⟨w3, hw3⟩ : ∃ w3, (w2.alloc (.cells #[.int .i64 0, .int .i64 0, .string ⟨#[]⟩, .int .i64 0, .int .u64 0, .int .i64 0, .int .i64 0, .int .i64 0, .int .i64 0, .int .i64 0, .int .u64 0, .int .u64 0, .slice none 0 0, .int .i64 0, .int .i64 0, .int .i64 0, .int .i64 0, .int .i64 0, .int .i64 0, .int .u64 0, .int .u64 0, .int .u64 0, .int .i64 0, .slice none 0 0, .int .i64 0] tPc)).setRow w2.heap.size (pcells PC.no).toArray = w3 := ⟨_, rfl⟩
              have kp : In.storeIn Try.prog 79 (.pointer (some ⟨w2.heap.size, 0, none⟩)) (.agg (pcells PC.no).toArray) (w2.alloc (.cells #[.int .i64 0, .int .i64 0, .string ⟨#[]⟩, .int .i64 0, .int .u64 0, .int .i64 0, .int .i64 0, .int .i64 0, .int .i64 0, .int .i64 0, .int .u64 0, .int .u64 0, .slice none 0 0, .int .i64 0, .int .i64 0, .int .i64 0, .int .i64 0, .int .i64 0, .int .i64 0, .int .u64 0, .int .u64 0, .int .u64 0, .int .i64 0, .slice none 0 0, .int .i64 0] 79)) = .ok () w3 := by rw [← hw3]; exact putP (Bl.new w2 tPc #[.int .i64 0, .int .i64 0, .string ⟨#[]⟩, .int .i64 0, .int .u64 0, .int .i64 0, .int .i64 0, .int .i64 0, .int .i64 0, .int .i64 0, .int .u64 0, .int .u64 0, .slice none 0 0, .int .i64 0, .int .i64 0, .int .i64 0, .int .i64 0, .int .i64 0, .int .i64 0, .int .u64 0, .int .u64 0, .int .u64 0, .int .i64 0, .slice none 0 0, .int .i64 0]) rfl PC.no
              have hP3 : Bl w3 w2.heap.size tPc (pcells PC.no).toArray := by rw [← hw3]; exact (Bl.new w2 tPc #[.int .i64 0, .int .i64 0, .string ⟨#[]⟩, .int .i64 0, .int .u64 0, .int .i64 0, .int .i64 0, .int .i64 0, .int .i64 0, .int .i64 0, .int .u64 0, .int .u64 0, .slice none 0 0, .int .i64 0, .int .i64 0, .int .i64 0, .int .i64 0, .int .i64 0, .int .i64 0, .int .u64 0, .int .u64 0, .int .u64 0, .int .i64 0, .slice none 0 0, .int .i64 0]).setRow _
              have hF3 : Fr (fun _ => False) w2 w3 := by rw [← hw3]; exact Fr.setRow ((Fr.refl _ _).alloc _) (.inr (Nat.le_refl _)) _
              have lp : In.loadIn Try.prog 79 (.pointer (some ⟨w2.heap.size, 0, none⟩)) w3 = .ok (.agg (pcells PC.no).toArray) w3 := getP hP3
              have hps := pcells_len (PC.no)
              have hfo := fold_pc (PC.no)
              have hm3 := hM2.quiet hF3
              have hO3 := hm3.ow
              have H3 := hide (And.intro hm3 (And.intro hF3 hM2))
              clear hP3 hF3 hm3 hM2 hw3
              go_wp2_with (at_builtin; go_loud (refine wpList_append_ow _ rfl _ _ 67 rfl tPc j0 (.agg #[.int .i64 0, .int .i64 0, .string ⟨#[]⟩, .int .i64 0, .int .u64 0, .int .i64 0, .int .i64 0, .int .i64 0, .int .i64 0, .int .i64 0, .int .u64 0, .int .u64 0, .slice none 0 0, .int .i64 0, .int .i64 0, .int .i64 0, .int .i64 0, .int .i64 0, .int .i64 0, .int .u64 0, .int .u64 0, .int .u64 0, .int .i64 0, .slice none 0 0, .int .i64 0]) 25 240 Try.underlying67 hj hj0 hj1 hj2 rfl (by decide) _ _ _ _ _ rfl (hO3.fr (S := fun _ => False) ((Fr.refl _ _).alloc _) (fun _ _ => id)) _ _ _ (pcells PC.no) rfl (sl_pc _ _ _) (pcells_one PC.no) (by unfold maxLen; omega) (by omega) ?_))
              intro A4 c4 w4 g4 hO4 hf4 hg4
              obtain ⟨hm3, hF3, hM2⟩ := H3.out
              have hal : Fr (fun _ => False) w3 (w3.alloc (.cells (pcells PC.no).toArray tPc)) := (Fr.refl _ _).alloc _
              clear hO3 kp lp hps hfo
              obtain ⟨hpt, hta, htold, hrl, hdr⟩ := HD.out
              obtain ⟨hb2, hf2⟩ := HX.out
              obtain ⟨hM4, hF4⟩ := hM.out.tell hm3 hF.out.size (Nat.le_trans hF.out.size (Nat.le_trans hf2.size hF3.size)) (zeroC_own _ _) hO4 hf4 (hg4.imp id fun ⟨x, e, h⟩ => ⟨x, e, by first | omega | (simp at h; omega)⟩)
              have hF24 : Fr (fun x => some x = g) w2 w4 := (hF3.weak _).trans hF4
              have hgn := hM.out.new
              have hgt : ∀ x, g = some x → Typed w2 x tPc := fun x e => hM2.ow.typed x e
              have hpt2 : Typed w2 p tStm := Bl.typed hb2
              have hb4 : StB w4 p SL 3 0 .nilFunc true := hb2.fr hF24 (fun e => absurd (hpt2.same (hgt p e.symm)) (by decide))
              have hO4l : Ow w4 5 1 (some ⟨b, o, none⟩) (0) (0) ((T'.drop (k + 3)).map bn) lg := (HOt.out.1.fr hf2 (fun x e e' => absurd ((HOt.out.1.typed x e).same (e' ▸ hpt)) (by decide))).fr hF24 (fun x e e' => by
                have h1 := HOt.out.1.fr hf2 (fun x e e' => absurd ((HOt.out.1.typed x e).same (e' ▸ hpt)) (by decide))
                exact absurd ((h1.typed x e).same (hgt x e'.symm)) (by decide))
              have hFw : Fr (fun x => x = p ∨ some x = sg) w w4 := (hF.out.trans (hf2.mono fun x _ e => .inl e)).comp hF24 fun i hi e => by have := hgn i e.symm; omega
              have hTn : Tp T' u d k 2 (l ++ [PC.no]) := .inr (.inl ⟨rfl, htold.1, htold.2.pcs (.long (by omega) (by rw [HL.out]; exact hL5))⟩)
              have hta4 : takenAt w4 p = 0 := takenAt_of hb4
              have HZ := hide (And.intro hTn (And.intro hM4 (And.intro hO4l (And.intro hFw hb4))))
              have HTA := hide (And.intro hta hta4)
              clear hpt hta htold hrl hdr hb2 hf2 hM4 hF4 hF24 hgn hgt hpt2 hb4 hO4l hFw hTn hta4 hO4 hf4 hg4 hm3 hF3 hM2 hal
              go_wp2_with fail
              refine ⟨⟨l ++ [PC.no], k, 2, A4, m + 1, c4, g4, some ⟨b, o, none⟩, 0, 0, T'.drop (k + 3), rfl, rfl, by omega, HZ.out.1, HZ.out.2.1, ⟨HZ.out.2.2.1, HOt.out.2⟩, HZ.out.2.2.2.1, .inr (.inr ⟨rfl, 3, 0, HZ.out.2.2.2.2⟩)⟩, ?_⟩
              have h1 := HTA.out.1
              have h2 := HTA.out.2
              rw [h1, h2]; simp only [lenOf]; omega
            · obtain ⟨hpt, hta, htold, hrl, hdr⟩ := HD.out
              have hM2 := hM.out.stm hpt hf2
              obtain ⟨w3, hw3⟩ : ∃ w3, (w2.alloc (.cells #[.int .i64 0, .int .i64 0, .string ⟨#[]⟩, .int .i64 0, .int .u64 0, .int .i64 0, .int .i64 0, .int .i64 0, .int .i64 0, .int .i64 0, .int .u64 0, .int .u64 0, .slice none 0 0, .int .i64 0, .int .i64 0, .int .i64 0, .int .i64 0, .int .i64 0, .int .i64 0, .int .u64 0, .int .u64 0, .int .u64 0, .int .i64 0, .slice none 0 0, .int .i64 0] tPc)).setRow w2.heap.size (pcells ⟨zeroC, 0⟩).toArray = w3 := ⟨_, rfl⟩
              have kp : In.storeIn Try.prog 79 (.pointer (some ⟨w2.heap.size, 0, none⟩)) (.agg (pcells ⟨zeroC, 0⟩).toArray) (w2.alloc (.cells #[.int .i64 0, .int .i64 0, .string ⟨#[]⟩, .int .i64 0, .int .u64 0, .int .i64 0, .int .i64 0, .int .i64 0, .int .i64 0, .int .i64 0, .int .u64 0, .int .u64 0, .slice none 0 0, .int .i64 0, .int .i64 0, .int .i64 0, .int .i64 0, .int .i64 0, .int .i64 0, .int .u64 0, .int .u64 0, .int .u64 0, .int .i64 0, .slice none 0 0, .int .i64 0] 79)) = .ok () w3 := by rw [← hw3]; exact putP (Bl.new w2 tPc #[.int .i64 0, .int .i64 0, .string ⟨#[]⟩, .int .i64 0, .int .u64 0, .int .i64 0, .int .i64 0, .int .i64 0, .int .i64 0, .int .i64 0, .int .u64 0, .int .u64 0, .slice none 0 0, .int .i64 0, .int .i64 0, .int .i64 0, .int .i64 0, .int .i64 0, .int .i64 0, .int .u64 0, .int .u64 0, .int .u64 0, .int .i64 0, .slice none 0 0, .int .i64 0]) rfl ⟨zeroC, 0⟩
              have hF3 : Fr (fun _ => False) w2 w3 := by rw [← hw3]; exact Fr.setRow ((Fr.refl _ _).alloc _) (.inr (Nat.le_refl _)) _
              have hb3 := hb2.fr hF3 id
              have hO3 : Ow w3 5 1 (some ⟨b, o, none⟩) (0) (0) ((T'.drop (k + 3)).map bn) lg := (HOt.out.1.fr hf2 (fun x e e' => absurd ((HOt.out.1.typed x e).same (e' ▸ hpt)) (by decide))).fr hF3 (fun _ _ => id)
              have hFw : Fr (fun x => x = p ∨ some x = sg) w w3 := (hF.out.trans (hf2.mono fun x _ e => .inl e)).trans (hF3.weak _)
              have hta3 : takenAt w3 p = 3 := takenAt_of hb3
              have hPh : Ph w3 p SL T' k 1 (T'.drop (k + 3)) (some ⟨b, o, none⟩) := .inr (.inl ⟨rfl, by omega, by rw [HL.out]; exact hL5, by rw [HL.out]; exact hb3, rfl, b, o, rfl⟩)
              have HZ := hide (And.intro (hM2.quiet hF3) (And.intro hO3 (And.intro hFw hPh)))
              have HTA := hide (And.intro hta hta3)
              have HTd := hide htold
              clear hpt hta htold hrl hdr hb2 hf2 hM2 hw3 hF3 hb3 hO3 hFw hta3 hPh hlg c1 c3
              go_wp2_with fail
              refine ⟨⟨l, k, 1, B, m, d1, g, some ⟨b, o, none⟩, 0, 0, T'.drop (k + 3), rfl, rfl, by omega, .inl ⟨by decide, HTd.out.1, HTd.out.2⟩, HZ.out.1, ⟨HZ.out.2.1, HOt.out.2⟩, HZ.out.2.2.1, HZ.out.2.2.2⟩, ?_⟩
              have h1 := HTA.out.1
              have h2 := HTA.out.2
              rw [h1, h2]; simp only [lenOf]; omega
          · have hz2 : ¬ (lc : Int) = 3 := by omega
            have HOt : Hid (Ow wo 5 1 (some ⟨b, o + 3, none⟩) (n6 - 3) (lc - 3) ((T'.drop (k + 3)).map bn) lg ∧ n6 - 3 = (T'.drop (k + 3)).length) := by
              have h1 := hO.out.1.tail (k := 3) (by omega)
              rw [HD.out.2.2.2.2] at h1
              exact ⟨h1, by rw [List.length_drop]; have := HD.out.2.2.2.1; have := HLN.out; omega⟩
            go_wp2_with fail
            refine hlg.mono ?_
            rintro v w2 (⟨hL5, rfl, hb2, hf2⟩ | ⟨hL5, rfl, hb2, hf2⟩)
            · obtain ⟨hpt, hta, htold, hrl, hdr⟩ := HD.out
              have hM2 := hM.out.stm hpt hf2
              have HX := hide (And.intro hb2 hf2)
              clear hpt hta htold hrl hdr hb2 hf2 hlg c1 c3
              obtain ⟨w3, hw3⟩ : ∃ w3, (w2.alloc (.cells #[.int .i64 0, .int .i64 0, .string ⟨#[]⟩, .int .i64 0, .int .u64 0, .int .i64 0, .int .i64 0, .int .i64 0, .int .i64 0, .int .i64 0, .int .u64 0, .int .u64 0, .slice none 0 0, .int .i64 0, .int .i64 0, .int .i64 0, .int .i64 0, .int .i64 0, .int .i64 0, .int .u64 0, .int .u64 0, .int .u64 0, .int .i64 0, .slice none 0 0, .int .i64 0] tPc)).setRow w2.heap.size (pcells PC.no).toArray = w3 := ⟨_, rfl⟩
              have kp : In.storeIn Try.prog 79 (.pointer (some ⟨w2.heap.size, 0, none⟩)) (.agg (pcells PC.no).toArray) (w2.alloc (.cells #[.int .i64 0, .int .i64 0, .string ⟨#[]⟩, .int .i64 0, .int .u64 0, .int .i64 0, .int .i64 0, .int .i64 0, .int .i64 0, .int .i64 0, .int .u64 0, .int .u64 0, .slice none 0 0, .int .i64 0, .int .i64 0, .int .i64 0, .int .i64 0, .int .i64 0, .int .i64 0, .int .u64 0, .int .u64 0, .int .u64 0, .int .i64 0, .slice none 0 0, .int .i64 0] 79)) = .ok () w3 := by rw [← hw3]; exact putP (Bl.new w2 tPc #[.int .i64 0, .int .i64 0, .string ⟨#[]⟩, .int .i64 0, .int .u64 0, .int .i64 0, .int .i64 0, .int .i64 0, .int .i64 0, .int .i64 0, .int .u64 0, .int .u64 0, .slice none 0 0, .int .i64 0, .int .i64 0, .int .i64 0, .int .i64 0, .int .i64 0, .int .i64 0, .int .u64 0, .int .u64 0, .int .u64 0, .int .i64 0, .slice none 0 0, .int .i64 0]) rfl PC.no
              have hP3 : Bl w3 w2.heap.size tPc (pcells PC.no).toArray := by rw [← hw3]; exact (Bl.new w2 tPc #[.int .i64 0, .int .i64 0, .string ⟨#[]⟩, .int .i64 0, .int .u64 0, .int .i64 0, .int .i64 0, .int .i64 0, .int .i64 0, .int .i64 0, .int .u64 0, .int .u64 0, .slice none 0 0, .int .i64 0, .int .i64 0, .int .i64 0, .int .i64 0, .int .i64 0, .int .i64 0, .int .u64 0, .int .u64 0, .int .u64 0, .int .i64 0, .slice none 0 0, .int .i64 0]).setRow _
              have hF3 : Fr (fun _ => False) w2 w3 := by rw [← hw3]; exact Fr.setRow ((Fr.refl _ _).alloc _) (.inr (Nat.le_refl _)) _
              have lp : In.loadIn Try.prog 79 (.pointer (some ⟨w2.heap.size, 0, none⟩)) w3 = .ok (.agg (pcells PC.no).toArray) w3 := getP hP3
              have hps := pcells_len (PC.no)
              have hfo := fold_pc (PC.no)
              have hm3 := hM2.quiet hF3
              have hO3 := hm3.ow
              have H3 := hide (And.intro hm3 (And.intro hF3 hM2))
              clear hP3 hF3 hm3 hM2 hw3
              go_wp2_with (at_builtin; go_loud (refine wpList_append_ow _ rfl _ _ 67 rfl tPc j0 (.agg #[.int .i64 0, .int .i64 0, .string ⟨#[]⟩, .int .i64 0, .int .u64 0, .int .i64 0, .int .i64 0, .int .i64 0, .int .i64 0, .int .i64 0, .int .u64 0, .int .u64 0, .slice none 0 0, .int .i64 0, .int .i64 0, .int .i64 0, .int .i64 0, .int .i64 0, .int .i64 0, .int .u64 0, .int .u64 0, .int .u64 0, .int .i64 0, .slice none 0 0, .int .i64 0]) 25 240 Try.underlying67 hj hj0 hj1 hj2 rfl (by decide) _ _ _ _ _ rfl (hO3.fr (S := fun _ => False) ((Fr.refl _ _).alloc _) (fun _ _ => id)) _ _ _ (pcells PC.no) rfl (sl_pc _ _ _) (pcells_one PC.no) (by unfold maxLen; omega) (by omega) ?_))
              intro A4 c4 w4 g4 hO4 hf4 hg4
              obtain ⟨hm3, hF3, hM2⟩ := H3.out
              have hal : Fr (fun _ => False) w3 (w3.alloc (.cells (pcells PC.no).toArray tPc)) := (Fr.refl _ _).alloc _
              clear hO3 kp lp hps hfo
              obtain ⟨hpt, hta, htold, hrl, hdr⟩ := HD.out
              obtain ⟨hb2, hf2⟩ := HX.out
              obtain ⟨hM4, hF4⟩ := hM.out.tell hm3 hF.out.size (Nat.le_trans hF.out.size (Nat.le_trans hf2.size hF3.size)) (zeroC_own _ _) hO4 hf4 (hg4.imp id fun ⟨x, e, h⟩ => ⟨x, e, by first | omega | (simp at h; omega)⟩)
              have hF24 : Fr (fun x => some x = g) w2 w4 := (hF3.weak _).trans hF4
              have hgn := hM.out.new
              have hgt : ∀ x, g = some x → Typed w2 x tPc := fun x e => hM2.ow.typed x e
              have hpt2 : Typed w2 p tStm := Bl.typed hb2
              have hb4 : StB w4 p SL 3 0 .nilFunc true := hb2.fr hF24 (fun e => absurd (hpt2.same (hgt p e.symm)) (by decide))
              have hO4l : Ow w4 5 1 (some ⟨b, o + 3, none⟩) (n6 - 3) (lc - 3) ((T'.drop (k + 3)).map bn) lg := (HOt.out.1.fr hf2 (fun x e e' => absurd ((HOt.out.1.typed x e).same (e' ▸ hpt)) (by decide))).fr hF24 (fun x e e' => by
                have h1 := HOt.out.1.fr hf2 (fun x e e' => absurd ((HOt.out.1.typed x e).same (e' ▸ hpt)) (by decide))
                exact absurd ((h1.typed x e).same (hgt x e'.symm)) (by decide))
              have hFw : Fr (fun x => x = p ∨ some x = sg) w w4 := (hF.out.trans (hf2.mono fun x _ e => .inl e)).comp hF24 fun i hi e => by have := hgn i e.symm; omega
              have hTn : Tp T' u d k 2 (l ++ [PC.no]) := .inr (.inl ⟨rfl, htold.1, htold.2.pcs (.long (by omega) (by rw [HL.out]; exact hL5))⟩)
              have hta4 : takenAt w4 p = 0 := takenAt_of hb4
              have HZ := hide (And.intro hTn (And.intro hM4 (And.intro hO4l (And.intro hFw hb4))))
              have HTA := hide (And.intro hta hta4)
              clear hpt hta htold hrl hdr hb2 hf2 hM4 hF4 hF24 hgn hgt hpt2 hb4 hO4l hFw hTn hta4 hO4 hf4 hg4 hm3 hF3 hM2 hal
              go_wp2_with fail
              refine ⟨⟨l ++ [PC.no], k, 2, A4, m + 1, c4, g4, some ⟨b, o + 3, none⟩, n6 - 3, lc - 3, T'.drop (k + 3), rfl, rfl, by omega, HZ.out.1, HZ.out.2.1, ⟨HZ.out.2.2.1, HOt.out.2⟩, HZ.out.2.2.2.1, .inr (.inr ⟨rfl, 3, 0, HZ.out.2.2.2.2⟩)⟩, ?_⟩
              have h1 := HTA.out.1
              have h2 := HTA.out.2
              rw [h1, h2]; simp only [lenOf]; omega
            · obtain ⟨hpt, hta, htold, hrl, hdr⟩ := HD.out
              have hM2 := hM.out.stm hpt hf2
              obtain ⟨w3, hw3⟩ : ∃ w3, (w2.alloc (.cells #[.int .i64 0, .int .i64 0, .string ⟨#[]⟩, .int .i64 0, .int .u64 0, .int .i64 0, .int .i64 0, .int .i64 0, .int .i64 0, .int .i64 0, .int .u64 0, .int .u64 0, .slice none 0 0, .int .i64 0, .int .i64 0, .int .i64 0, .int .i64 0, .int .i64 0, .int .i64 0, .int .u64 0, .int .u64 0, .int .u64 0, .int .i64 0, .slice none 0 0, .int .i64 0] tPc)).setRow w2.heap.size (pcells ⟨zeroC, 0⟩).toArray = w3 := ⟨_, rfl⟩
              have kp : In.storeIn Try.prog 79 (.pointer (some ⟨w2.heap.size, 0, none⟩)) (.agg (pcells ⟨zeroC, 0⟩).toArray) (w2.alloc (.cells #[.int .i64 0, .int .i64 0, .string ⟨#[]⟩, .int .i64 0, .int .u64 0, .int .i64 0, .int .i64 0, .int .i64 0, .int .i64 0, .int .i64 0, .int .u64 0, .int .u64 0, .slice none 0 0, .int .i64 0, .int .i64 0, .int .i64 0, .int .i64 0, .int .i64 0, .int .i64 0, .int .u64 0, .int .u64 0, .int .u64 0, .int .i64 0, .slice none 0 0, .int .i64 0] 79)) = .ok () w3 := by rw [← hw3]; exact putP (Bl.new w2 tPc #[.int .i64 0, .int .i64 0, .string ⟨#[]⟩, .int .i64 0, .int .u64 0, .int .i64 0, .int .i64 0, .int .i64 0, .int .i64 0, .int .i64 0, .int .u64 0, .int .u64 0, .slice none 0 0, .int .i64 0, .int .i64 0, .int .i64 0, .int .i64 0, .int .i64 0, .int .i64 0, .int .u64 0, .int .u64 0, .int .u64 0, .int .i64 0, .slice none 0 0, .int .i64 0]) rfl ⟨zeroC, 0⟩
              have hF3 : Fr (fun _ => False) w2 w3 := by rw [← hw3]; exact Fr.setRow ((Fr.refl _ _).alloc _) (.inr (Nat.le_refl _)) _
              have hb3 := hb2.fr hF3 id
              have hO3 : Ow w3 5 1 (some ⟨b, o + 3, none⟩) (n6 - 3) (lc - 3) ((T'.drop (k + 3)).map bn) lg := (HOt.out.1.fr hf2 (fun x e e' => absurd ((HOt.out.1.typed x e).same (e' ▸ hpt)) (by decide))).fr hF3 (fun _ _ => id)
              have hFw : Fr (fun x => x = p ∨ some x = sg) w w3 := (hF.out.trans (hf2.mono fun x _ e => .inl e)).trans (hF3.weak _)
              have hta3 : takenAt w3 p = 3 := takenAt_of hb3
              have hPh : Ph w3 p SL T' k 1 (T'.drop (k + 3)) (some ⟨b, o + 3, none⟩) := .inr (.inl ⟨rfl, by omega, by rw [HL.out]; exact hL5, by rw [HL.out]; exact hb3, rfl, b, o + 3, rfl⟩)
              have HZ := hide (And.intro (hM2.quiet hF3) (And.intro hO3 (And.intro hFw hPh)))
              have HTA := hide (And.intro hta hta3)
              have HTd := hide htold
              clear hpt hta htold hrl hdr hb2 hf2 hM2 hw3 hF3 hb3 hO3 hFw hta3 hPh hlg c1 c3
              go_wp2_with fail
              refine ⟨⟨l, k, 1, B, m, d1, g, some ⟨b, o + 3, none⟩, n6 - 3, lc - 3, T'.drop (k + 3), rfl, rfl, by omega, .inl ⟨by decide, HTd.out.1, HTd.out.2⟩, HZ.out.1, ⟨HZ.out.2.1, HOt.out.2⟩, HZ.out.2.2.1, HZ.out.2.2.2⟩, ?_⟩
              have h1 := HTA.out.1
              have h2 := HTA.out.2
              rw [h1, h2]; simp only [lenOf]; omega
      · have hln6 := hO.out.2
        have htold : d = false ∧ ToldP T' u k l := by
          rcases hT.out with ⟨_, h, h2⟩ | ⟨h, _⟩ | ⟨h, _⟩
          · exact ⟨h, h2⟩
          · cases h
          · cases h
        have hrl : rest.length = T'.length - (k + 3) := by rw [hr, List.length_drop]
        have hcap := hO.out.1.cap
        have hcm := hcap.2
        unfold maxLen at hcm
        obtain ⟨b, o, rfl⟩ := hla
        obtain ⟨L, hLe⟩ : ∃ L, longS (T'.drop k) = L := ⟨_, rfl⟩
        rw [hLe] at hL hb
        have HL := hide hLe
        have c1 : wo.cell? ⟨p, 1, none⟩ = some (.int .i64 (L : Int)) := Bl.cell' (i := 1) hb rfl
        have c3 : wo.cell? ⟨p, 3, none⟩ = some (.func (.func 100) #[.pointer (some ⟨p, 0, none⟩)] #[]) := Bl.cell' (i := 3) hb rfl
        by_cases hsh : n6 < L
        · have hfd : FedP T' u d l k false := by
            have := htold.2.pcs (.half hk (by rw [HL.out]; exact hL) (by rw [HL.out]; omega))
            rw [List.append_nil] at this
            exact .inl ⟨htold.1, this⟩
          have HFD := hide hfd
          have hs2 : rest.length < longS (T'.drop k) := by rw [HL.out]; omega
          have b1 : ¬ (L : Int) ≤ (n6 : Int) := by omega
          have HS2 := hide hs2
          clear hb hfd hs2 hr htold hrl hln6 hcap hLe
          go_wp2_with fail
          go_meet
          case rel => exact ⟨l, k, 1, false, B, m, d1, g, _, n6, lc, rest, rfl, rfl, hn6, ⟨HFD.out, by simp, by simp, fun _ => HS2.out⟩, hM, hO, hF, hP⟩
        · have b1 : (L : Int) ≤ (n6 : Int) := by omega
          have b2 : (L : Int) ≤ (lc : Int) := by have := hcap.1; omega
          have b3 : (0 : Int) ≤ (L : Int) := by omega
          have hbl8 : (bodyS T' k).length = L := by unfold bodyS; rw [HL.out]; simp; omega
          have hSb : Sl wo 1 (some ⟨b, o, none⟩) L ((bodyS T' k).map bn) := by
            have h1 := hO.out.1.sl.part (f := 0) (t := L) (by omega) (by omega)
            rw [List.drop_zero, ← List.map_take, hr] at h1
            unfold bodyS
            rw [HL.out]
            exact h1
          have hpt : Typed wo p tStm := Bl.typed hb
          have hlb : lg = some b := hO.out.1.sblk rfl
          have hlg := body_any wo p SL L 3 hb (bodyS T' k) (some ⟨b, o, none⟩) L lc hbl8.symm hL hSb (fun b' o' e e' => by cases e; subst e'; exact absurd ((hO.out.1.typed _ hlb).same hpt) (by decide)) (fun x hx => H256.out x (List.mem_of_mem_drop (List.mem_of_mem_take hx)))
          have hta : takenAt wo p = 3 := takenAt_of hb
          have hml : m ≤ 137438953472 := by have := hM.out.len; have := htold.2.len; have := Hlen.out; omega
          have hdr : (rest.map bn).drop L = (T'.drop (k + 3 + L)).map bn := by rw [← List.map_drop, hr, List.drop_drop]
          have HLN := hide hln6
          have hk3 : k + 3 + L ≤ T'.length := by omega
          have hcl : n6 ≤ lc := hcap.1
          have HD := hide (And.intro hpt (And.intro hta (And.intro htold (And.intro hrl hdr))))
          clear hb hSb hr hpt hta htold hrl hdr hcap hcm hln6 hLe hbl8 hlb
          by_cases hz : lc = L
          · obtain rfl : n6 = L := by omega
            obtain rfl : lc = n6 := hz
            have HOt : Hid (Ow wo 5 1 (some ⟨b, o, none⟩) 0 0 ((T'.drop (k + 3 + lc)).map bn) lg ∧ 0 = (T'.drop (k + 3 + lc)).length) := by
              have h0 : (T'.drop (k + 3 + lc)).length = 0 := by rw [List.length_drop]; have := HD.out.2.2.2.1; have := HLN.out; omega
              rw [List.eq_nil_of_length_eq_zero h0]
              exact ⟨hO.out.1.zero, rfl⟩
            go_wp2_with fail
            refine hlg.mono ?_
            rintro v w2 ⟨P, q, er, hV, hcase, rfl, hb2, hq2, hf2⟩
            obtain ⟨hpt, hta, htold, hrl, hdr⟩ := HD.out
            have hM2 := hM.out.stm hpt hf2
            have HX := hide (And.intro hb2 (And.intro hf2 (And.intro hq2 (And.intro hV hcase))))
            clear hpt hta htold hrl hdr hb2 hf2 hq2 hV hcase hlg c1 c3
            obtain ⟨w3, hw3⟩ : ∃ w3, (w2.alloc (.cells #[.int .i64 0, .int .i64 0, .string ⟨#[]⟩, .int .i64 0, .int .u64 0, .int .i64 0, .int .i64 0, .int .i64 0, .int .i64 0, .int .i64 0, .int .u64 0, .int .u64 0, .slice none 0 0, .int .i64 0, .int .i64 0, .int .i64 0, .int .i64 0, .int .i64 0, .int .i64 0, .int .u64 0, .int .u64 0, .int .u64 0, .int .i64 0, .slice none 0 0, .int .i64 0] tPc)).setRow w2.heap.size (pcells P).toArray = w3 := ⟨_, rfl⟩
            have kp : In.storeIn Try.prog 79 (.pointer (some ⟨w2.heap.size, 0, none⟩)) (.agg (pcells P).toArray) (w2.alloc (.cells #[.int .i64 0, .int .i64 0, .string ⟨#[]⟩, .int .i64 0, .int .u64 0, .int .i64 0, .int .i64 0, .int .i64 0, .int .i64 0, .int .i64 0, .int .u64 0, .int .u64 0, .slice none 0 0, .int .i64 0, .int .i64 0, .int .i64 0, .int .i64 0, .int .i64 0, .int .i64 0, .int .u64 0, .int .u64 0, .int .u64 0, .int .i64 0, .slice none 0 0, .int .i64 0] 79)) = .ok () w3 := by rw [← hw3]; exact putP (Bl.new w2 tPc #[.int .i64 0, .int .i64 0, .string ⟨#[]⟩, .int .i64 0, .int .u64 0, .int .i64 0, .int .i64 0, .int .i64 0, .int .i64 0, .int .i64 0, .int .u64 0, .int .u64 0, .slice none 0 0, .int .i64 0, .int .i64 0, .int .i64 0, .int .i64 0, .int .i64 0, .int .i64 0, .int .u64 0, .int .u64 0, .int .u64 0, .int .i64 0, .slice none 0 0, .int .i64 0]) rfl P
            have hP3 : Bl w3 w2.heap.size tPc (pcells P).toArray := by rw [← hw3]; exact (Bl.new w2 tPc #[.int .i64 0, .int .i64 0, .string ⟨#[]⟩, .int .i64 0, .int .u64 0, .int .i64 0, .int .i64 0, .int .i64 0, .int .i64 0, .int .i64 0, .int .u64 0, .int .u64 0, .slice none 0 0, .int .i64 0, .int .i64 0, .int .i64 0, .int .i64 0, .int .i64 0, .int .i64 0, .int .u64 0, .int .u64 0, .int .u64 0, .int .i64 0, .slice none 0 0, .int .i64 0]).setRow _
            have hF3 : Fr (fun _ => False) w2 w3 := by rw [← hw3]; exact Fr.setRow ((Fr.refl _ _).alloc _) (.inr (Nat.le_refl _)) _
            have lp : In.loadIn Try.prog 79 (.pointer (some ⟨w2.heap.size, 0, none⟩)) w3 = .ok (.agg (pcells P).toArray) w3 := getP hP3
            have hps := pcells_len (P)
            have hfo := fold_pc (P)
            have hm3 := hM2.quiet hF3
            have hO3 := hm3.ow
            have H3 := hide (And.intro hm3 (And.intro hF3 hM2))
            clear hP3 hF3 hm3 hM2 hw3
            go_wp2_with (at_builtin; go_loud (refine wpList_append_ow _ rfl _ _ 67 rfl tPc j0 (.agg #[.int .i64 0, .int .i64 0, .string ⟨#[]⟩, .int .i64 0, .int .u64 0, .int .i64 0, .int .i64 0, .int .i64 0, .int .i64 0, .int .i64 0, .int .u64 0, .int .u64 0, .slice none 0 0, .int .i64 0, .int .i64 0, .int .i64 0, .int .i64 0, .int .i64 0, .int .i64 0, .int .u64 0, .int .u64 0, .int .u64 0, .int .i64 0, .slice none 0 0, .int .i64 0]) 25 240 Try.underlying67 hj hj0 hj1 hj2 rfl (by decide) _ _ _ _ _ rfl (hO3.fr (S := fun _ => False) ((Fr.refl _ _).alloc _) (fun _ _ => id)) _ _ _ (pcells P) rfl (sl_pc _ _ _) (pcells_one P) (by unfold maxLen; omega) (by omega) ?_))
            intro A4 c4 w4 g4 hO4 hf4 hg4
            obtain ⟨hm3, hF3, hM2⟩ := H3.out
            have hal : Fr (fun _ => False) w3 (w3.alloc (.cells (pcells P).toArray tPc)) := (Fr.refl _ _).alloc _
            clear hO3 kp lp hps hfo
            obtain ⟨hpt, hta, htold, hrl, hdr⟩ := HD.out
            obtain ⟨hb2, hf2, hq2, hV, hcase⟩ := HX.out
            obtain ⟨hM4, hF4⟩ := hM.out.tell hm3 hF.out.size (Nat.le_trans hF.out.size (Nat.le_trans hf2.size hF3.size)) (hq2.quiet hF3) hO4 hf4 (hg4.imp id fun ⟨x, e, h⟩ => ⟨x, e, by first | omega | (simp at h; omega)⟩)
            have hF24 : Fr (fun x => some x = g) w2 w4 := (hF3.weak _).trans hF4
            have hgn := hM.out.new
            have hgt : ∀ x, g = some x → Typed w2 x tPc := fun x e => hM2.ow.typed x e
            have hpt2 : Typed w2 p tStm := Bl.typed hb2
            have hb4 : StB w4 p SL 3 0 (fnL p) false := hb2.fr hF24 (fun e => absurd (hpt2.same (hgt p e.symm)) (by decide))
            have hO4l : Ow w4 5 1 (some ⟨b, o, none⟩) (0) (0) ((T'.drop (k + 3 + lc)).map bn) lg := (HOt.out.1.fr hf2 (fun x e e' => absurd ((HOt.out.1.typed x e).same (e' ▸ hpt)) (by decide))).fr hF24 (fun x e e' => by
              have h1 := HOt.out.1.fr hf2 (fun x e e' => absurd ((HOt.out.1.typed x e).same (e' ▸ hpt)) (by decide))
              exact absurd ((h1.typed x e).same (hgt x e'.symm)) (by decide))
            have hFw : Fr (fun x => x = p ∨ some x = sg) w w4 := (hF.out.trans (hf2.mono fun x _ e => .inl e)).comp hF24 fun i hi e => by have := hgn i e.symm; omega
            have hTn : ToldP T' u (k + 3 + lc) (l ++ [P]) := by
              have e1 := HL.out
              rcases hcase with ⟨h1, rfl⟩ | ⟨h1, rfl⟩
              · have h2 := htold.2.bad (by rw [e1]; exact hL) (by rw [e1]; exact hk3) hV h1
                rw [e1] at h2; exact h2
              · subst h1
                have h2 := htold.2.one (by rw [e1]; exact hL) (by rw [e1]; exact hk3) hV
                rw [e1] at h2; exact h2
            have hta4 : takenAt w4 p = 0 := takenAt_of hb4
            have HZ := hide (And.intro (And.intro htold.1 hTn) (And.intro hM4 (And.intro hO4l (And.intro hFw hb4))))
            have HTA := hide (And.intro hta hta4)
            clear hpt hta htold hrl hdr hb2 hf2 hq2 hV hcase hM4 hF4 hF24 hgn hgt hpt2 hb4 hO4l hFw hTn hta4 hO4 hf4 hg4 hm3 hF3 hM2 hal
            go_wp2_with fail
            refine ⟨⟨l ++ [P], k + 3 + lc, 0, A4, m + 1, c4, g4, some ⟨b, o, none⟩, 0, 0, T'.drop (k + 3 + lc), rfl, rfl, by omega, .inl ⟨by decide, HZ.out.1.1, HZ.out.1.2⟩, HZ.out.2.1, ⟨HZ.out.2.2.1, HOt.out.2⟩, HZ.out.2.2.2.1, .inl ⟨rfl, HZ.out.2.2.2.2, rfl, hk3⟩⟩, ?_⟩
            have h1 := HTA.out.1
            have h2 := HTA.out.2
            rw [h1, h2]; simp only [lenOf]; omega
          · have hz2 : ¬ (lc : Int) = (L : Int) := by omega
            have HOt : Hid (Ow wo 5 1 (some ⟨b, o + L, none⟩) (n6 - L) (lc - L) ((T'.drop (k + 3 + L)).map bn) lg ∧ n6 - L = (T'.drop (k + 3 + L)).length) := by
              have h1 := hO.out.1.tail (k := L) (by omega)
              rw [HD.out.2.2.2.2] at h1
              exact ⟨h1, by rw [List.length_drop]; have := HD.out.2.2.2.1; have := HLN.out; omega⟩
            go_wp2_with fail
            refine hlg.mono ?_
            rintro v w2 ⟨P, q, er, hV, hcase, rfl, hb2, hq2, hf2⟩
            obtain ⟨hpt, hta, htold, hrl, hdr⟩ := HD.out
            have hM2 := hM.out.stm hpt hf2
            have HX := hide (And.intro hb2 (And.intro hf2 (And.intro hq2 (And.intro hV hcase))))
            clear hpt hta htold hrl hdr hb2 hf2 hq2 hV hcase hlg c1 c3
            obtain ⟨w3, hw3⟩ : ∃ w3, (w2.alloc (.cells #[.int .i64 0, .int .i64 0, .string ⟨#[]⟩, .int .i64 0, .int .u64 0, .int .i64 0, .int .i64 0, .int .i64 0, .int .i64 0, .int .i64 0, .int .u64 0, .int .u64 0, .slice none 0 0, .int .i64 0, .int .i64 0, .int .i64 0, .int .i64 0, .int .i64 0, .int .i64 0, .int .u64 0, .int .u64 0, .int .u64 0, .int .i64 0, .slice none 0 0, .int .i64 0] tPc)).setRow w2.heap.size (pcells P).toArray = w3 := ⟨_, rfl⟩
            have kp : In.storeIn Try.prog 79 (.pointer (some ⟨w2.heap.size, 0, none⟩)) (.agg (pcells P).toArray) (w2.alloc (.cells #[.int .i64 0, .int .i64 0, .string ⟨#[]⟩, .int .i64 0, .int .u64 0, .int .i64 0, .int .i64 0, .int .i64 0, .int .i64 0, .int .i64 0, .int .u64 0, .int .u64 0, .slice none 0 0, .int .i64 0, .int .i64 0, .int .i64 0, .int .i64 0, .int .i64 0, .int .i64 0, .int .u64 0, .int .u64 0, .int .u64 0, .int .i64 0, .slice none 0 0, .int .i64 0] 79)) = .ok () w3 := by rw [← hw3]; exact putP (Bl.new w2 tPc #[.int .i64 0, .int .i64 0, .string ⟨#[]⟩, .int .i64 0, .int .u64 0, .int .i64 0, .int .i64 0, .int .i64 0, .int .i64 0, .int .i64 0, .int .u64 0, .int .u64 0, .slice none 0 0, .int .i64 0, .int .i64 0, .int .i64 0, .int .i64 0, .int .i64 0, .int .i64 0, .int .u64 0, .int .u64 0, .int .u64 0, .int .i64 0, .slice none 0 0, .int .i64 0]) rfl P
            have hP3 : Bl w3 w2.heap.size tPc (pcells P).toArray := by rw [← hw3]; exact (Bl.new w2 tPc #[.int .i64 0, .int .i64 0, .string ⟨#[]⟩, .int .i64 0, .int .u64 0, .int .i64 0, .int .i64 0, .int .i64 0, .int .i64 0, .int .i64 0, .int .u64 0, .int .u64 0, .slice none 0 0, .int .i64 0, .int .i64 0, .int .i64 0, .int .i64 0, .int .i64 0, .int .i64 0, .int .u64 0, .int .u64 0, .int .u64 0, .int .i64 0, .slice none 0 0, .int .i64 0]).setRow _
            have hF3 : Fr (fun _ => False) w2 w3 := by rw [← hw3]; exact Fr.setRow ((Fr.refl _ _).alloc _) (.inr (Nat.le_refl _)) _
            have lp : In.loadIn Try.prog 79 (.pointer (some ⟨w2.heap.size, 0, none⟩)) w3 = .ok (.agg (pcells P).toArray) w3 := getP hP3
            have hps := pcells_len (P)
            have hfo := fold_pc (P)
            have hm3 := hM2.quiet hF3
            have hO3 := hm3.ow
            have H3 := hide (And.intro hm3 (And.intro hF3 hM2))
            clear hP3 hF3 hm3 hM2 hw3
            go_wp2_with (at_builtin; go_loud (refine wpList_append_ow _ rfl _ _ 67 rfl tPc j0 (.agg #[.int .i64 0, .int .i64 0, .string ⟨#[]⟩, .int .i64 0, .int .u64 0, .int .i64 0, .int .i64 0, .int .i64 0, .int .i64 0, .int .i64 0, .int .u64 0, .int .u64 0, .slice none 0 0, .int .i64 0, .int .i64 0, .int .i64 0, .int .i64 0, .int .i64 0, .int .i64 0, .int .u64 0, .int .u64 0, .int .u64 0, .int .i64 0, .slice none 0 0, .int .i64 0]) 25 240 Try.underlying67 hj hj0 hj1 hj2 rfl (by decide) _ _ _ _ _ rfl (hO3.fr (S := fun _ => False) ((Fr.refl _ _).alloc _) (fun _ _ => id)) _ _ _ (pcells P) rfl (sl_pc _ _ _) (pcells_one P) (by unfold maxLen; omega) (by omega) ?_))
            intro A4 c4 w4 g4 hO4 hf4 hg4
            obtain ⟨hm3, hF3, hM2⟩ := H3.out
            have hal : Fr (fun _ => False) w3 (w3.alloc (.cells (pcells P).toArray tPc)) := (Fr.refl _ _).alloc _
            clear hO3 kp lp hps hfo
            obtain ⟨hpt, hta, htold, hrl, hdr⟩ := HD.out
            obtain ⟨hb2, hf2, hq2, hV, hcase⟩ := HX.out
            obtain ⟨hM4, hF4⟩ := hM.out.tell hm3 hF.out.size (Nat.le_trans hF.out.size (Nat.le_trans hf2.size hF3.size)) (hq2.quiet hF3) hO4 hf4 (hg4.imp id fun ⟨x, e, h⟩ => ⟨x, e, by first | omega | (simp at h; omega)⟩)
            have hF24 : Fr (fun x => some x = g) w2 w4 := (hF3.weak _).trans hF4
            have hgn := hM.out.new
            have hgt : ∀ x, g = some x → Typed w2 x tPc := fun x e => hM2.ow.typed x e
            have hpt2 : Typed w2 p tStm := Bl.typed hb2
            have hb4 : StB w4 p SL 3 0 (fnL p) false := hb2.fr hF24 (fun e => absurd (hpt2.same (hgt p e.symm)) (by decide))
            have hO4l : Ow w4 5 1 (some ⟨b, o + L, none⟩) (n6 - L) (lc - L) ((T'.drop (k + 3 + L)).map bn) lg := (HOt.out.1.fr hf2 (fun x e e' => absurd ((HOt.out.1.typed x e).same (e' ▸ hpt)) (by decide))).fr hF24 (fun x e e' => by
              have h1 := HOt.out.1.fr hf2 (fun x e e' => absurd ((HOt.out.1.typed x e).same (e' ▸ hpt)) (by decide))
              exact absurd ((h1.typed x e).same (hgt x e'.symm)) (by decide))
            have hFw : Fr (fun x => x = p ∨ some x = sg) w w4 := (hF.out.trans (hf2.mono fun x _ e => .inl e)).comp hF24 fun i hi e => by have := hgn i e.symm; omega
            have hTn : ToldP T' u (k + 3 + L) (l ++ [P]) := by
              have e1 := HL.out
              rcases hcase with ⟨h1, rfl⟩ | ⟨h1, rfl⟩
              · have h2 := htold.2.bad (by rw [e1]; exact hL) (by rw [e1]; exact hk3) hV h1
                rw [e1] at h2; exact h2
              · subst h1
                have h2 := htold.2.one (by rw [e1]; exact hL) (by rw [e1]; exact hk3) hV
                rw [e1] at h2; exact h2
            have hta4 : takenAt w4 p = 0 := takenAt_of hb4
            have HZ := hide (And.intro (And.intro htold.1 hTn) (And.intro hM4 (And.intro hO4l (And.intro hFw hb4))))
            have HTA := hide (And.intro hta hta4)
            clear hpt hta htold hrl hdr hb2 hf2 hq2 hV hcase hM4 hF4 hF24 hgn hgt hpt2 hb4 hO4l hFw hTn hta4 hO4 hf4 hg4 hm3 hF3 hM2 hal
            go_wp2_with fail
            refine ⟨⟨l ++ [P], k + 3 + L, 0, A4, m + 1, c4, g4, some ⟨b, o + L, none⟩, n6 - L, lc - L, T'.drop (k + 3 + L), rfl, rfl, by omega, .inl ⟨by decide, HZ.out.1.1, HZ.out.1.2⟩, HZ.out.2.1, ⟨HZ.out.2.2.1, HOt.out.2⟩, HZ.out.2.2.2.1, .inl ⟨rfl, HZ.out.2.2.2.2, rfl, hk3⟩⟩, ?_⟩
            have h1 := HTA.out.1
            have h2 := HTA.out.2
            rw [h1, h2]; simp only [lenOf]; omega
      · have c3 : wo.cell? ⟨p, 3, none⟩ = some .nilFunc := Bl.cell' (i := 3) hb rfl
        have hfd : FedP T' u d l k true := by
          rcases hT.out with ⟨h, _⟩ | ⟨_, h, h2⟩ | ⟨_, h, h2, h3⟩
          · exact absurd rfl h
          · exact .inl ⟨h, h2⟩
          · exact .inr ⟨h, h2, h3, rfl⟩
        have HFD := hide hfd
        clear hb hfd
        go_wp2_with fail
        go_meet
        case rel => exact ⟨l, k, 2, true, B, m, d1, g, LA, n6, lc, rest, rfl, rfl, hn6, ⟨HFD.out, by simp, by simp, by simp⟩, hM, hO, hF, hP⟩
  case rest =>
  obtain ⟨l, k, ph, d', B, m, d1, g, LA, n6, lc, rest, rfl, rfl, hn6, HA, hM, hO, hF, hP⟩ := hcut
  obtain ⟨w2, rfl⟩ : ∃ z, z = wc := ⟨_, rfl⟩
  have hcl := clone8_any w2 rest LA n6 lc hO.out.2 (by omega) hO.out.1.sl
  have hmc := hM.out.ow.cap
  have hm1 := hmc.1
  have hm2 := hmc.2
  have hpw : p < w2.heap.size := Nat.lt_of_lt_of_le hpl hF.out.size
  have hct := hO.out.1.cap
  have hc2 := hct.1
  have hc3 := hct.2
  clear hmc hct
  unfold maxLen at hc3
  go_upto_block 0 with fail
  refine hcl.mono ?_
  rintro e w3 ⟨CB, cd3, cg, rfl, hcO, hcn, hcs, hcf⟩
  have hF3 := hF.out.trans (hcf.weak _)
  have hF4 : ∀ v : Value, Fr (fun x => x = p ∨ some x = sg) w (w3.setCell ⟨p, 0, none⟩ v) := fun v => hF3.setIn (.inl (.inl rfl)) v
  have hm3 := hM.out.quiet hcf
  have hne : ∀ x, cg = some x → x ≠ p := fun x e e' => by have := hcn x e; omega
  have hcO4 : ∀ v : Value, Ow (w3.setCell ⟨p, 0, none⟩ v) 5 1 CB n6 cd3 (rest.map bn) cg := fun v => hcO.fr (S := fun x => x = p) (Fr.setAt (Fr.refl _ _) v) hne
  have hty3 : Typed w3 p tStm := by
    rcases hP.out with ⟨_, hb, _⟩ | ⟨_, _, _, hb, _⟩ | ⟨_, wa, ta, hb⟩ <;> exact Bl.typed (hb.fr hcf id)
  have hM4 : ∀ v : Value, Pcm w (w3.setCell ⟨p, 0, none⟩ v) l B m d1 g := fun v => hm3.stm hty3 (Fr.setAt (Fr.refl _ _) v)
  have hcn' : ∀ x, cg = some x → w.heap.size ≤ x := fun x e => Nat.le_trans hF.out.size (hcn x e)
  have HX := hide (And.intro hF4 (And.intro hcO4 (And.intro hM4 (And.intro hcn' (And.intro hcs hO.out.2)))))
  clear hcl hF3 hF4 hm3 hty3 hne hcO4 hM4 hcn' hcs hcO hcn
  rcases hP.out with ⟨rfl, hb, hr, hk⟩ | ⟨rfl, hk, hL, hb, hr, hla⟩ | ⟨rfl, wa, ta, hb⟩
  · have hb3 := hb.fr hcf id
    have hb4 : StB (w3.setCell ⟨p, 0, none⟩ (.slice CB n6 cd3)) p (.slice CB n6 cd3) 3 0 (fnL p) false := Bl.set hb3 0 _
    have c3 : (w3.setCell ⟨p, 0, none⟩ (.slice CB n6 cd3)).cell? ⟨p, 3, none⟩ = some (.func (.func 52) #[.pointer (some ⟨p, 0, none⟩)] #[]) := Bl.cell' (i := 3) hb4 rfl
    have c0 := Bl.cell' (i := 0) hb3 rfl
    have z0 := Bl.free hb3 0
    have HB := hide hb4
    have HR := hide hr
    clear hb hb3 hb4 hr hcf
    go_wp2_with fail
    refine (clipP_any _ B m d1 hm1 hm2).mono ?_
    rintro e w' ⟨rfl, rfl⟩
    go_wp2_with fail
    go_ret
    obtain ⟨x1, x2, x3, x4, x5, x6⟩ := HX.out
    obtain ⟨a1, a2, a3, a4⟩ := HA.out
    have hd : d' = false := by cases d' with | false => rfl | true => exact by simp at a2
    subst hd
    have hlt := a3 (by simp)
    have hr' := HR.out
    have hl3 : T'.length < k + 3 := by rw [hr', List.length_drop] at hlt; omega
    subst x6
    unfold FeedPost
    rw [hT']
    exact ⟨l, k, false, B, m, g, cg, rfl, a1, (x3 _).clip, ⟨rest, 3, 0, fnL p, CB, cd3, HB.out, x2 _, .inr (.inl ⟨rfl, hl3, hk, hr', rfl, rfl, rfl⟩)⟩, x4, x1 _⟩
  · have hb3 := hb.fr hcf id
    have hb4 : StB (w3.setCell ⟨p, 0, none⟩ (.slice CB n6 cd3)) p (.slice CB n6 cd3) (longS (T'.drop k)) 3 (fnB p) false := Bl.set hb3 0 _
    have c3 : (w3.setCell ⟨p, 0, none⟩ (.slice CB n6 cd3)).cell? ⟨p, 3, none⟩ = some (.func (.func 100) #[.pointer (some ⟨p, 0, none⟩)] #[]) := Bl.cell' (i := 3) hb4 rfl
    have c0 := Bl.cell' (i := 0) hb3 rfl
    have z0 := Bl.free hb3 0
    have HB := hide hb4
    have HR := hide (And.intro hr (And.intro hk (And.intro hL hla)))
    clear hb hb3 hb4 hr hcf hk hL hla
    go_wp2_with fail
    refine (clipP_any _ B m d1 hm1 hm2).mono ?_
    rintro e w' ⟨rfl, rfl⟩
    go_wp2_with fail
    go_ret
    obtain ⟨x1, x2, x3, x4, x5, x6⟩ := HX.out
    obtain ⟨a1, a2, a3, a4⟩ := HA.out
    have hd : d' = false := by cases d' with | false => rfl | true => exact by simp at a2
    subst hd
    obtain ⟨hr', hk, hL, hla⟩ := HR.out
    subst x6
    unfold FeedPost
    rw [hT']
    exact ⟨l, k, false, B, m, g, cg, rfl, a1, (x3 _).clip, ⟨rest, longS (T'.drop k), 3, fnB p, CB, cd3, HB.out, x2 _, .inr (.inr ⟨rfl, hk, hL, hr', rfl, rfl, rfl, x5 hla⟩)⟩, x4, x1 _⟩
  · have hb3 := hb.fr hcf id
    have hb4 : StB (w3.setCell ⟨p, 0, none⟩ (.slice CB n6 cd3)) p (.slice CB n6 cd3) wa ta .nilFunc true := Bl.set hb3 0 _
    have hb5 : StB ((w3.setCell ⟨p, 0, none⟩ (.slice CB n6 cd3)).setCell ⟨p, 0, none⟩ (.slice none 0 0)) p (.slice none 0 0) wa ta .nilFunc true := Bl.set hb4 0 _
    have c3 : (w3.setCell ⟨p, 0, none⟩ (.slice CB n6 cd3)).cell? ⟨p, 3, none⟩ = some .nilFunc := Bl.cell' (i := 3) hb4 rfl
    have c0 := Bl.cell' (i := 0) hb3 rfl
    have z0 := Bl.free hb3 0
    have c04 := Bl.cell' (i := 0) hb4 rfl
    have z04 := Bl.free hb4 0
    have HB := hide hb5
    have HT4 := hide (Bl.typed hb4)
    clear hb hb3 hb4 hb5 hcf
    go_wp2_with fail
    refine (clipP_any _ B m d1 hm1 hm2).mono ?_
    rintro e w' ⟨rfl, rfl⟩
    go_wp2_with fail
    go_ret
    obtain ⟨x1, x2, x3, x4, x5, x6⟩ := HX.out
    obtain ⟨a1, a2, a3, a4⟩ := HA.out
    have hd : d' = true := by simpa using a2
    subst hd
    unfold FeedPost
    rw [hT']
    exact ⟨l, k, true, B, m, g, none, rfl, a1, ((x3 _).stm HT4.out (Fr.setAt (Fr.refl _ _) _)).clip, ⟨[], wa, ta, .nilFunc, none, 0, HB.out, Ow.nil_ _ _ _, .inl ⟨rfl, rfl, rfl⟩⟩, (fun x e => by cases e), (x1 _).setIn (.inl (.inl rfl)) _⟩
/-- The same, for a line of bounded bulk. -/
theorem feed_any (w : World) (p : Nat) (T : List Nat) (u : Nat) (d : Bool) (sg : Option Nat) (h : StM w p T u d sg) (ds : List Nat) (D : Option Addr) (nd cd : Nat) (hnd : nd = ds.length) (hlen : (T ++ ds).length ≤ 1048576) (h256 : ∀ x ∈ T ++ ds, x < 256) (hD : Sl w 1 D nd (ds.map bn)) :
    Calls Try.prog 27 #[.pointer (some ⟨p, 0, none⟩), .slice D nd cd] w (FeedPost w p T u d sg ds) :=
  feed_wide w p T u d sg h ds D nd cd hnd (Nat.le_trans hlen (by decide)) h256 hD
end Go.Proofs.Ytlcjhbemgagchaa
