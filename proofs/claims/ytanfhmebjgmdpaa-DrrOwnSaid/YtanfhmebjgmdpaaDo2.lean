/-
  DrrOwn: servers of three queues; their calls.
-/
import Derived.Test.YtanfhmebjgmdpaaDo1
namespace Go.Proofs.Ytanfhmebjgmdpaa.Qi
open Go.RowKit
set_option linter.unusedVariables false

def s3 (p0 p1 p2 : Nat) (g0 g1 g2 : Option Nat) (t0 t1 t2 : List X) : DS X := ⟨8, 65536, [⟨p0, g0, t0, 0⟩, ⟨p1, g1, t1, 0⟩, ⟨p2, g2, t2, 0⟩], false⟩
section
variable {w0 w w' : World} {d L f M : Nat} {sd sf : DS X} {Ls : List Rec} {m : Nat} {AA : Option Addr} {ac : Nat} {ag : Option Nat} {p0 p1 p2 : Nat} {g0 g1 g2 : Option Nat} {t0 t1 t2 : List X}
theorem made_s3 {D : Int} (h : Made w 3 65536 8 d L sd w') : ∃ p0 p1 p2 g0 g1 g2, sd = s3 p0 p1 p2 g0 g1 g2 [] [] [] := by
  obtain ⟨_, hq, hrm, hbz, hlen, hfe, _, _⟩ := h
  obtain ⟨q, room, lines, busy⟩ := sd
  simp only at hq hrm hbz hlen hfe
  match lines, hlen with
  | [⟨p0, g0, t0, f0⟩, ⟨p1, g1, t1, f1⟩, ⟨p2, g2, t2, f2⟩], _ =>
    have h0 := hfe ⟨p0, g0, t0, f0⟩ (by simp)
    have h1 := hfe ⟨p1, g1, t1, f1⟩ (by simp)
    have h2 := hfe ⟨p2, g2, t2, f2⟩ (by simp)
    obtain ⟨rfl, rfl⟩ := h0
    obtain ⟨rfl, rfl⟩ := h1
    obtain ⟨rfl, rfl⟩ := h2
    subst hq hrm hbz
    exact ⟨p0, p1, p2, g0, g1, g2, rfl⟩
theorem OT.init {w1 w2 w3 : World} (hf1 : Fr (fun _ => False) w0 w1) (m1 : Made w1 3 65536 8 d L sd w2) (m2 : Made w2 3 65536 8 f M sf w3) : OT w0 w3 d L f M sd sf [] 0 none 0 none := by
  have hd := m1.1 0 (by omega) (by omega)
  have hf := m2.1 0 (by omega) (by omega)
  have f1 := m1.2.2.2.2.2.2
  have f2 := m2.2.2.2.2.2.2
  refine ⟨hd.quiet f2.1, hf, fun x hx hy => ?_, fun x hx => Nat.le_trans hf1.size (f1.2 x hx), fun x hx => Nat.le_trans hf1.size (Nat.le_trans f1.1.size (f2.2 x hx)), Ow.nil_ _ _ _, fun b e => (nomatch e), fun j r hr => by simp at hr, fun j j' r r' b hr => by simp at hr, ((hf1.trans f1.1).trans f2.1).weak _⟩
  have := hd.lt hx
  have := f2.2 x hy
  omega
theorem OT.add0 (h : OT w0 w d L f M (s3 p0 p1 p2 g0 g1 g2 t0 t1 t2) sf Ls m AA ac ag) (v : Int) (hl : t0.length < 65536) :
    Calls Try.prog 16 #[.pointer (some ⟨d, 0, none⟩), .int .i64 0, .int .i64 1, .int .i64 v] w fun e w' => e = .returned (.int .i64 0) ∧
      ∃ g', OT w0 w' d L f M (s3 p0 p1 p2 g' g1 g2 (t0 ++ [(v, 1)]) t1 t2) sf Ls m AA ac ag :=
  OT.add h 0 ⟨p0, g0, t0, 0⟩ (v, 1) rfl rfl ⟨by show (1 : Int) ≤ _; simp, by show _ ≤ (8 : Int); simp⟩ hl
theorem OT.add1 (h : OT w0 w d L f M (s3 p0 p1 p2 g0 g1 g2 t0 t1 t2) sf Ls m AA ac ag) (v : Int) (hl : t1.length < 65536) :
    Calls Try.prog 16 #[.pointer (some ⟨d, 0, none⟩), .int .i64 1, .int .i64 2, .int .i64 v] w fun e w' => e = .returned (.int .i64 0) ∧
      ∃ g', OT w0 w' d L f M (s3 p0 p1 p2 g0 g' g2 t0 (t1 ++ [(v, 2)]) t2) sf Ls m AA ac ag :=
  OT.add h 1 ⟨p1, g1, t1, 0⟩ (v, 2) rfl rfl ⟨by show (1 : Int) ≤ _; simp, by show _ ≤ (8 : Int); simp⟩ hl
theorem OT.add2 (h : OT w0 w d L f M (s3 p0 p1 p2 g0 g1 g2 t0 t1 t2) sf Ls m AA ac ag) (v : Int) (hl : t2.length < 65536) :
    Calls Try.prog 16 #[.pointer (some ⟨d, 0, none⟩), .int .i64 2, .int .i64 3, .int .i64 v] w fun e w' => e = .returned (.int .i64 0) ∧
      ∃ g', OT w0 w' d L f M (s3 p0 p1 p2 g0 g1 g' t0 t1 (t2 ++ [(v, 3)])) sf Ls m AA ac ag :=
  OT.add h 2 ⟨p2, g2, t2, 0⟩ (v, 3) rfl rfl ⟨by show (1 : Int) ≤ _; simp, by show _ ≤ (8 : Int); simp⟩ hl
theorem OT.addF (h : OT w0 w d L f M sd (s3 p0 p1 p2 g0 g1 g2 t0 t1 t2) Ls m AA ac ag) (v : Int) (hl : t0.length < 65536) :
    Calls Try.prog 16 #[.pointer (some ⟨f, 0, none⟩), .int .i64 0, .int .i64 1, .int .i64 v] w fun e w' => e = .returned (.int .i64 0) ∧
      ∃ g', OT w0 w' d L f M sd (s3 p0 p1 p2 g' g1 g2 (t0 ++ [(v, 1)]) t1 t2) Ls m AA ac ag :=
  (OT.add0 h.swap v hl).mono fun e w' ⟨he, g', h'⟩ => ⟨he, g', h'.swap⟩
/-- Behind a Drop: the slice is new. -/
def GotL (w0 : World) (d L f M : Nat) (sd sf : DS X) (Ls : List Rec) (m : Nat) (AA : Option Addr) (ac : Nat) (ag : Option Nat) (V : List Int) (n : Nat) (e : Ending) (w' : World) : Prop :=
  ∃ A c g', e = .returned (.tuple #[.slice A n c, .int .i64 0]) ∧ OT w0 w' d L f M sd sf (Ls ++ [⟨A, n, c, g', V⟩]) m AA ac ag ∧ Sl w' 1 A n (V.map giv)
theorem GotL.of {V : List Int} {n : Nat} {xs : List X} (hn : xs.length = n) (hV : xs.map Prod.fst = V) {e : Ending} {w' : World} (h : ∃ A c g', e = .returned (.tuple #[.slice A xs.length c, .int .i64 0]) ∧ OT w0 w' d L f M sd sf (Ls ++ [⟨A, xs.length, c, g', xs.map Prod.fst⟩]) m AA ac ag) : GotL w0 d L f M sd sf Ls m AA ac ag V n e w' := by
  subst hn hV
  obtain ⟨A, c, g', he, h⟩ := h
  exact ⟨A, c, g', he, h, (h.ow Ls.length ⟨A, xs.length, c, g', xs.map Prod.fst⟩ (by simp)).1.sl⟩
theorem OT.drop0 (h : OT w0 w d L f M (s3 p0 p1 p2 g0 g1 g2 t0 t1 t2) sf Ls m AA ac ag) (hm : m ≤ Ls.length) {V : List Int} {n : Nat} (hn : t0.length = n) (hV : t0.map Prod.fst = V) :
    Calls Try.prog 17 #[.pointer (some ⟨d, 0, none⟩), .int .i64 0] w (GotL w0 d L f M (s3 p0 p1 p2 g0 g1 g2 [] t1 t2) sf Ls m AA ac ag V n) :=
  (OT.drop h hm 0 ⟨p0, g0, t0, 0⟩ rfl rfl).mono fun e w' h => GotL.of hn hV h
theorem OT.drop1 (h : OT w0 w d L f M (s3 p0 p1 p2 g0 g1 g2 t0 t1 t2) sf Ls m AA ac ag) (hm : m ≤ Ls.length) {V : List Int} {n : Nat} (hn : t1.length = n) (hV : t1.map Prod.fst = V) :
    Calls Try.prog 17 #[.pointer (some ⟨d, 0, none⟩), .int .i64 1] w (GotL w0 d L f M (s3 p0 p1 p2 g0 g1 g2 t0 [] t2) sf Ls m AA ac ag V n) :=
  (OT.drop h hm 1 ⟨p1, g1, t1, 0⟩ rfl rfl).mono fun e w' h => GotL.of hn hV h
theorem OT.dropF (h : OT w0 w d L f M sd (s3 p0 p1 p2 g0 g1 g2 t0 t1 t2) Ls m AA ac ag) (hm : m ≤ Ls.length) {V : List Int} {n : Nat} (hn : t0.length = n) (hV : t0.map Prod.fst = V) :
    Calls Try.prog 17 #[.pointer (some ⟨f, 0, none⟩), .int .i64 0] w (GotL w0 d L f M sd (s3 p0 p1 p2 g0 g1 g2 [] t1 t2) Ls m AA ac ag V n) :=
  (OT.drop0 h.swap hm hn hV).mono fun e w' ⟨A, c, g', he, h, hs⟩ => ⟨A, c, g', he, h.swap, hs⟩
end
/-- So much of a list, each thing of that cost. -/
def pk (c : Int) (xs : List Int) (i : Nat) : List X := (xs.take i).map fun x => (x, c)
theorem pk_succ {c : Int} {xs : List Int} {i : Nat} {x : Int} (h : xs[i]? = some x) : pk c xs (i + 1) = pk c xs i ++ [(x, c)] := by
  simp [pk, take_succ_of h]
theorem pk_len {c : Int} {xs : List Int} {i : Nat} (h : i ≤ xs.length) : (pk c xs i).length = i := by simp [pk]; omega
theorem pk_fst {c : Int} {xs : List Int} : (pk c xs xs.length).map Prod.fst = xs := by
  simp [pk, Function.comp_def]
/-- So many turns' things. -/
def rp (xs : List Int) : Nat → List X
  | 0 => []
  | t + 1 => rp xs t ++ pk 3 xs xs.length
theorem rp_len (xs : List Int) (t : Nat) : (rp xs t).length = t * xs.length := by
  induction t with
  | zero => simp [rp]
  | succ t ih => simp [rp, ih, pk_len (Nat.le_refl _), Nat.add_mul]
end Go.Proofs.Ytanfhmebjgmdpaa.Qi
