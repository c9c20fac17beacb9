/-
  Texts merged into one, to keep the claim small: PdQ, PrI, PdN, PdJ, St7, Su1.
-/
import Derived.Test.YtlcjhbemgagchaaMc23
import Derived.Test.YtlcjhbemgagchaaMc14
import Derived.Test.YtlcjhbemgagchaaMc17
import Derived.Test.YtlcjhbemgagchaaMc19
import Derived.Test.YtlcjhbemgagchaaMc16
import Derived.Test.YtlcjhbemgagchaaMc20
import Derived.Test.YtlcjhbemgagchaaMc21
import Derived.Test.YtlcjhbemgagchaaMc3
section
/-
  proto, the document's way: calls that only make memory, one behind the other.
-/
namespace Go.Proofs.Ytlcjhbemgagchaa
open Go.RowKit
set_option linter.unusedVariables false
set_option linter.unusedSimpArgs false
/-- Behind W only new memory was made; these blocks stand. -/
structure Qt (X : List (Nat × TypeId × Array Value)) (W w : World) : Prop where
  fr : Fr (fun _ => False) W w
  xs : ∀ x ∈ X, Bl w x.1 x.2.1 x.2.2 ∧ W.heap.size ≤ x.1
/-- Numbers that can be read, among numbers. -/
def RLt (w : World) (ws : List Int) (A : Option Addr) (n c : Nat) : Prop := RL w ws A n c ∧ ∀ b o, A = some ⟨b, o, none⟩ → Typed w b 3
theorem RLt.row {w : World} {ws : List Int} {A : Option Addr} {n c : Nat} (h : RLt w ws A n c) {k : Nat} {t : TypeId} (hk : Typed w k t) (ht : t ≠ 3) (new : Array Value) : RLt (w.setRow k new) ws A n c := by
  have hn : ∀ b o, A = some ⟨b, o, none⟩ → ¬ b = k := fun b o e e2 => by subst e2; exact ht (hk.same (h.2 b o e))
  exact ⟨⟨h.1.le, h.1.cap, h.1.cap2, h.1.sl.fr (B := 0) (Fr.row new) fun b ⟨o, e⟩ _ => hn b o e⟩, fun b o e => (h.2 b o e).fr (Fr.row new) (hn b o e)⟩
theorem RLt.quiet {w w' : World} {ws : List Int} {A : Option Addr} {n c : Nat} (h : RLt w ws A n c) (hf : Fr (fun _ => False) w w') : RLt w' ws A n c := ⟨h.1.quiet hf, fun b o e => (h.2 b o e).fr hf id⟩
theorem RLt.frt {w w' : World} {ws : List Int} {A : Option Addr} {n c : Nat} (h : RLt w ws A n c) {S : Nat → Prop} (hf : Fr S w w') (hS : ∀ x, Typed w x 3 → ¬ S x) : RLt w' ws A n c :=
  ⟨⟨h.1.le, h.1.cap, h.1.cap2, h.1.sl.fr (B := 0) hf fun b ⟨o, e⟩ _ => hS b (h.2 b o e)⟩, fun b o e => (h.2 b o e).fr hf (hS b (h.2 b o e))⟩
section
variable {X : List (Nat × TypeId × Array Value)} {W w w' : World}
theorem Qt.step (h : Qt X W w) (hf : Fr (fun _ => False) w w') : Qt X W w' := ⟨h.fr.trans hf, fun x hx => ⟨(h.xs x hx).1.fr hf id, (h.xs x hx).2⟩⟩
theorem Qt.pushAt (h : Qt X W w) (t : TypeId) (cs : Array Value) (g : Nat) (hg : g = w.heap.size) : Qt ((g, t, cs) :: X) W (w.alloc (.cells cs t)) := by
  subst hg
  have h1 := h.step ((Fr.refl (fun _ => False) w).alloc (.cells cs t))
  refine ⟨h1.fr, fun x hx => ?_⟩
  rcases List.mem_cons.1 hx with rfl | hx
  · exact ⟨Bl.new w t cs, h.fr.size⟩
  · exact h1.xs x hx
theorem Qt.push (h : Qt X W w) (t : TypeId) (cs : Array Value) : Qt ((w.heap.size, t, cs) :: X) W (w.alloc (.cells cs t)) := h.pushAt t cs _ rfl
theorem Qt.hd {x : Nat} {t : TypeId} {cs : Array Value} (h : Qt ((x, t, cs) :: X) W w) : Bl w x t cs := (h.xs _ (List.mem_cons_self ..)).1
theorem Qt.hdle {x : Nat} {t : TypeId} {cs : Array Value} (h : Qt ((x, t, cs) :: X) W w) : W.heap.size ≤ x := (h.xs _ (List.mem_cons_self ..)).2
theorem Qt.small (h : Qt X W w) {xs : List Nat} {A : Option Addr} {n c : Nat} (hR : RB W xs A n c) (t : Int) {v : Int} (hv : Hid (smallS xs t = v)) :
    Calls Try.prog 86 #[.slice A n c, .int .i64 t] w fun e w' => e = .returned (.int .i64 v) ∧ Fr (fun _ => False) w w' ∧ Qt X W w' := by
  rw [← hv.out]
  refine (rsmall_any w xs A n c (hR.quiet h.fr) t).mono ?_
  rintro e w' ⟨rfl, hf⟩
  exact ⟨rfl, hf, h.step hf⟩
theorem Qt.big (h : Qt X W w) {xs : List Nat} {A : Option Addr} {n c : Nat} (hR : RB W xs A n c) (t : Int) {v : Nat} (hv : Hid (bigS xs t = v)) :
    Calls Try.prog 85 #[.slice A n c, .int .i64 t] w fun e w' => e = .returned (.int .u64 (v : Int)) ∧ Fr (fun _ => False) w w' ∧ Qt X W w' := by
  rw [← hv.out]
  refine (rbig_any w xs A n c (hR.quiet h.fr) t).mono ?_
  rintro e w' ⟨rfl, hf⟩
  exact ⟨rfl, hf, h.step hf⟩
theorem Qt.said (h : Qt X W w) {xs : List Nat} {A : Option Addr} {n c : Nat} (hR : RB W xs A n c) (t : Int) {v : List Nat} (hv : Hid (saidS xs t = v)) :
    Calls Try.prog 87 #[.slice A n c, .int .i64 t] w fun e w' => ∃ B m d, e = .returned (.slice B m d) ∧ Hid (RB w' v B m d) ∧ Fr (fun _ => False) w w' ∧ Qt X W w' := by
  rw [← hv.out]
  refine (rsaid_any w xs A n c (hR.quiet h.fr) t).mono ?_
  rintro e w' ⟨B, m, d, rfl, hr, hf⟩
  exact ⟨B, m, d, rfl, hr, hf, h.step hf⟩
theorem Qt.list (h : Qt X W w) {xs : List Nat} {A : Option Addr} {n c : Nat} (hR : RB W xs A n c) (t : Int) :
    Calls Try.prog 88 #[.slice A n c, .int .i64 t] w fun e w' => ∃ B m d, e = .returned (.slice B m d) ∧ Hid (RL w' (listS xs t) B m d ∧ ∀ b o, B = some ⟨b, o, none⟩ → Typed w' b 3) ∧ Fr (fun _ => False) w w' ∧ Qt X W w' := by
  refine (rlistI_any w xs A n c (hR.quiet h.fr) t).mono ?_
  rintro e w' ⟨B, m, d, rfl, hr, hf⟩
  exact ⟨B, m, d, rfl, hr, hf, h.step hf⟩
end
end Go.Proofs.Ytlcjhbemgagchaa
end

section
/-
  proto's law: markedContract. (printed by pr_like.py)
-/
namespace Go.Proofs.Ytlcjhbemgagchaa
open Go.RowKit
set_option linter.unusedVariables false
set_option linter.unusedSimpArgs false
end Go.Proofs.Ytlcjhbemgagchaa
end

section
/-
  proto's law: command, where both are the same (for the like of XPd3). (printed by pr_cl.py)
-/
namespace Go.Proofs.Ytlcjhbemgagchaa
open Go.RowKit
set_option linter.unusedVariables false
set_option linter.unusedSimpArgs false
end Go.Proofs.Ytlcjhbemgagchaa
end

section
/-
  proto: the program's Decode and the document's say the same; copy into a slice of one's own.
-/
namespace Go.Proofs.Ytlcjhbemgagchaa
open Go.RowKit
set_option linter.unusedVariables false
set_option linter.unusedSimpArgs false
def zeroE : ER := ⟨0, 0, 0, 0, none, 0, 0, []⟩
def zeroK : CR := ⟨0, 0, 0, 0, 0, 0, 0, 0, 0, 0, none, 0, 0, []⟩
def zeroC : KC := ⟨0, 0, [], 0, 0, 0, 0, 0, zeroE, zeroK⟩
def zeroR : RR := ⟨0, 0, 0, 0, none, 0, 0, [], [], 0, zeroK⟩
/-- What bytes say as a command, or the refusal. -/
def KVer (bs : List Nat) (c : KC) (er : Int) : Prop := (512 < bs.length ∧ er = 3 ∧ c = zeroC) ∨ (bs.length ≤ 512 ∧ (∀ q, ¬ KForm bs q) ∧ er = 270 ∧ c = zeroC) ∨ (bs.length ≤ 512 ∧ er = 0 ∧ KForm bs c)
def RVer (bs : List Nat) (c : RR) (er : Int) : Prop := (65536 < bs.length ∧ er = 3 ∧ c = zeroR) ∨ (bs.length ≤ 65536 ∧ (∀ q, ¬ RForm bs q) ∧ er = 270 ∧ c = zeroR) ∨ (bs.length ≤ 65536 ∧ er = 0 ∧ RForm bs c)
theorem CR.like_refl (a : CR) : a.like a := ⟨rfl, rfl, rfl, rfl, rfl, rfl, rfl, rfl, rfl, rfl, rfl, fun i h h' => ER.like_mk rfl rfl rfl rfl rfl⟩
theorem KC.like_refl (a : KC) : a.like a := ⟨rfl, rfl, rfl, rfl, rfl, rfl, rfl, rfl, ER.like_mk rfl rfl rfl rfl rfl, CR.like_refl _⟩
theorem RR.like_refl (a : RR) : a.like a := ⟨rfl, rfl, rfl, rfl, rfl, rfl, rfl, CR.like_refl _⟩
theorem KVer.same {bs : List Nat} {c d : KC} {er er' : Int} (h : KVer bs c er) (k : KVer bs d er') : er = er' ∧ c.like d := by
  rcases h with ⟨h1, rfl, rfl⟩ | ⟨h1, h2, rfl, rfl⟩ | ⟨h1, rfl, h2⟩ <;> rcases k with ⟨k1, rfl, rfl⟩ | ⟨k1, k2, rfl, rfl⟩ | ⟨k1, rfl, k2⟩
  · exact ⟨rfl, KC.like_refl _⟩
  · omega
  · omega
  · omega
  · exact ⟨rfl, KC.like_refl _⟩
  · exact (h2 _ k2).elim
  · omega
  · exact (k2 _ h2).elim
  · exact ⟨rfl, (cmdS_of h2).symm.trans (cmdS_of k2)⟩
theorem RVer.same {bs : List Nat} {c d : RR} {er er' : Int} (h : RVer bs c er) (k : RVer bs d er') : er = er' ∧ c.like d := by
  rcases h with ⟨h1, rfl, rfl⟩ | ⟨h1, h2, rfl, rfl⟩ | ⟨h1, rfl, h2⟩ <;> rcases k with ⟨k1, rfl, rfl⟩ | ⟨k1, k2, rfl, rfl⟩ | ⟨k1, rfl, k2⟩
  · exact ⟨rfl, RR.like_refl _⟩
  · omega
  · omega
  · omega
  · exact ⟨rfl, RR.like_refl _⟩
  · exact (h2 _ k2).elim
  · omega
  · exact (k2 _ h2).elim
  · exact ⟨rfl, (repS_of h2).symm.trans (repS_of k2)⟩
/-- A contract that can be read; its entries lie among entries, their wishes among numbers. -/
structure KCon (w : World) (q : CR) : Prop where
  len : q.n = q.es.length
  ow : ∃ g, Ow w tEnt 5 q.A q.n q.c (q.es.flatMap ER.cells) g
  le : q.n ≤ 1048576
  es : ∀ e ∈ q.es, REnt w e
theorem KCon.frt {w w' : World} {q : CR} (h : KCon w q) {S : Nat → Prop} (hf : Fr S w w') (h1 : ∀ x, Typed w x tEnt → ¬ S x) (hS : ∀ x, Typed w x 3 → ¬ S x) : KCon w' q := by
  obtain ⟨g, hg⟩ := h.ow
  exact ⟨h.len, ⟨g, hg.fr hf fun x e => h1 x (hg.typed x e)⟩, h.le, fun e he => (h.es e he).frt hf hS⟩
theorem KCon.at_ {w : World} {q : CR} (h : KCon w q) : q.at_ w := by
  obtain ⟨g, hg⟩ := h.ow
  have := hg.cap
  unfold maxLen at this
  have := h.le
  exact ⟨hg.sl, by omega, by omega, fun e he => (h.es e he).1⟩
theorem RCon.k {w : World} {q : CR} (h : RCon w q) : KCon w q := ⟨h.len, h.ow, by have := h.le; omega, h.es⟩
theorem REnt.of {w : World} {q : ER} {g : Option Nat} (h : Ow w 3 1 q.A q.n q.c (q.ws.map iv) g) (hn : q.n ≤ 1048576) : REnt w q := by
  have hc := h.cap
  unfold maxLen at hc
  exact ⟨⟨h.sl, by omega, hc.1, hc.2⟩, fun b o e => h.typed b (h.sblk' e)⟩
theorem Ents.k {W w : World} {q : CR} {g : Option Nat} (h : Ents W w q.es q.A q.n q.c g) (hn : q.n ≤ 1048576) : KCon w q :=
  ⟨h.len, ⟨g, h.ow⟩, hn, fun e he => by obtain ⟨h1, gi, h2, -⟩ := h.own e he; exact REnt.of h2 h1⟩
/-- A command that can be read. -/
def KT (w : World) (c : KC) : Prop := REnt w c.e ∧ KCon w c.k
def RT (w : World) (c : RR) : Prop := RLt w c.items c.A c.n c.c ∧ c.n ≤ 65536 ∧ KCon w c.k
theorem KT.frt {w w' : World} {q : KC} (h : KT w q) {S : Nat → Prop} (hf : Fr S w w') (h1 : ∀ x, Typed w x tEnt → ¬ S x) (hS : ∀ x, Typed w x 3 → ¬ S x) : KT w' q := ⟨h.1.frt hf hS, h.2.frt hf h1 hS⟩
theorem KT.at_ {w : World} {q : KC} (h : KT w q) : q.at_ w := ⟨h.1.1, h.2.at_⟩
theorem RT.frt {w w' : World} {q : RR} (h : RT w q) {S : Nat → Prop} (hf : Fr S w w') (h1 : ∀ x, Typed w x tEnt → ¬ S x) (hS : ∀ x, Typed w x 3 → ¬ S x) : RT w' q := ⟨h.1.frt hf hS, h.2.1, h.2.2.frt hf h1 hS⟩
theorem RT.at_ {w : World} {q : RR} (h : RT w q) : q.at_ w := ⟨h.1.1.sl, by have := h.2.1; omega, ⟨h.1.1.cap, h.1.1.cap2⟩, h.2.2.at_⟩
theorem zeroE_at (w : World) : REnt w zeroE := ⟨⟨Sl.nil_ _ _ _, by decide, by decide⟩, fun b o e => by cases e⟩
theorem zeroK_at (w : World) : KCon w zeroK := ⟨rfl, ⟨none, Ow.nil_ _ _ _⟩, by decide, fun e he => by cases he⟩
theorem strOf_nil : strOf [] = ⟨#[]⟩ := rfl
-- (from here on printed by pr_dlaw.py)
def DecIs (bs : List Nat) (w : World) (e : Ending) (w' : World) : Prop := ∃ (c : KC) (er : Int), e = .returned (.tuple #[.agg #[.int .i64 c.id, .int .i64 c.kind, .string (strOf c.name), .int .i64 c.to_, .int .u64 (c.co : Int), .int .i64 c.item, .int .i64 c.num, .int .i64 c.of_, .int .i64 c.e.acc, .int .i64 c.e.item, .int .u64 (c.e.co : Int), .int .u64 (c.e.pr : Int), .slice c.e.A c.e.n c.e.c, .int .i64 c.k.num, .int .i64 c.k.kind, .int .i64 c.k.by_, .int .i64 c.k.dl, .int .i64 c.k.to_, .int .i64 c.k.want, .int .u64 (c.k.pr : Int), .int .u64 (c.k.rs : Int), .int .u64 (c.k.st : Int), .int .i64 c.k.of_, .slice c.k.A c.k.n c.k.c], .int .i64 er]) ∧ Hid (KVer bs c er) ∧ Hid (KT w' c) ∧ Fr (fun _ => False) w w'
def RepIs (bs : List Nat) (w : World) (e : Ending) (w' : World) : Prop := ∃ (c : RR) (er : Int), e = .returned (.tuple #[.agg #[.int .i64 c.id, .int .i64 c.err, .int .i64 c.num, .int .u64 (c.co : Int), .slice c.A c.n c.c, .string (strOf c.txt), .int .u32 (c.bits : Int), .int .i64 c.k.num, .int .i64 c.k.kind, .int .i64 c.k.by_, .int .i64 c.k.dl, .int .i64 c.k.to_, .int .i64 c.k.want, .int .u64 (c.k.pr : Int), .int .u64 (c.k.rs : Int), .int .u64 (c.k.st : Int), .int .i64 c.k.of_, .slice c.k.A c.k.n c.k.c], .int .i64 er]) ∧ Hid (RVer bs c er) ∧ Hid (RT w' c) ∧ Fr (fun _ => False) w w'
theorem zeroC_T (w : World) : KT w zeroC := ⟨zeroE_at w, zeroK_at w⟩
theorem zeroR_T (w : World) : RT w zeroR := ⟨⟨⟨by decide, by decide, by decide, Sl.nil_ _ _ _⟩, fun b o e => by cases e⟩, by decide, zeroK_at w⟩
theorem DecPost.is {bs : List Nat} {w w' : World} {e : Ending} (h : DecPost bs w e w') : DecIs bs w e w' := by
  rcases h with ⟨h1, rfl, hf⟩ | ⟨h1, h2, rfl, hf⟩ | ⟨h1, c, h2, rfl, h3, hf⟩
  · exact ⟨zeroC, 3, rfl, .inl ⟨h1, rfl, rfl⟩, zeroC_T _, hf⟩
  · exact ⟨zeroC, 270, rfl, .inr (.inl ⟨h1, h2, rfl, rfl⟩), zeroC_T _, hf⟩
  · obtain ⟨ge, o1, -⟩ := h3.eo
    obtain ⟨gk, o2⟩ := h3.ko
    exact ⟨c, 0, rfl, .inr (.inr ⟨h1, rfl, h2⟩), ⟨REnt.of o1 h3.en, o2.k h3.kn⟩, hf⟩
theorem RepPost.is {bs : List Nat} {w w' : World} {e : Ending} (h : RepPost bs w e w') : RepIs bs w e w' := by
  rcases h with ⟨h1, rfl, hf⟩ | ⟨h1, h2, rfl, hf⟩ | ⟨h1, c, h2, rfl, h3, hf⟩
  · exact ⟨zeroR, 3, rfl, .inl ⟨h1, rfl, rfl⟩, zeroR_T _, hf⟩
  · exact ⟨zeroR, 270, rfl, .inr (.inl ⟨h1, h2, rfl, rfl⟩), zeroR_T _, hf⟩
  · obtain ⟨ge, o1, -⟩ := h3.eo
    obtain ⟨gk, o2⟩ := h3.ko
    have hc := o1.cap
    unfold maxLen at hc
    have hlen : c.n = c.items.length := by have := o1.1; simpa using this.symm
    have hle := (RR.ok_split h2.ok).2.2.2.2.1
    exact ⟨c, 0, rfl, .inr (.inr ⟨h1, rfl, h2⟩), ⟨⟨⟨by omega, hc.1, hc.2, o1.sl⟩, fun b o e => o1.typed b (o1.sblk' e)⟩, by omega, o2.k h3.kn⟩, hf⟩
abbrev tCL : TypeId := 31
abbrev tRL : TypeId := 35
theorem box_cmd {w : World} {g : Nat} (q : KC) (h : Bl w g tCL #[.int .i64 q.id, .int .i64 q.kind, .string (strOf q.name), .int .i64 q.to_, .int .u64 (q.co : Int), .int .i64 q.item, .int .i64 q.num, .int .i64 q.of_, .int .i64 q.e.acc, .int .i64 q.e.item, .int .u64 (q.e.co : Int), .int .u64 (q.e.pr : Int), .slice q.e.A q.e.n q.e.c, .int .i64 q.k.num, .int .i64 q.k.kind, .int .i64 q.k.by_, .int .i64 q.k.dl, .int .i64 q.k.to_, .int .i64 q.k.want, .int .u64 (q.k.pr : Int), .int .u64 (q.k.rs : Int), .int .u64 (q.k.st : Int), .int .i64 q.k.of_, .slice q.k.A q.k.n q.k.c]) : (Instr.loadAt tCL (.pointer (some ⟨g, 0, none⟩))).run Try.prog w = .ok (.agg #[.int .i64 q.id, .int .i64 q.kind, .string (strOf q.name), .int .i64 q.to_, .int .u64 (q.co : Int), .int .i64 q.item, .int .i64 q.num, .int .i64 q.of_, .int .i64 q.e.acc, .int .i64 q.e.item, .int .u64 (q.e.co : Int), .int .u64 (q.e.pr : Int), .slice q.e.A q.e.n q.e.c, .int .i64 q.k.num, .int .i64 q.k.kind, .int .i64 q.k.by_, .int .i64 q.k.dl, .int .i64 q.k.to_, .int .i64 q.k.want, .int .u64 (q.k.pr : Int), .int .u64 (q.k.rs : Int), .int .u64 (q.k.st : Int), .int .i64 q.k.of_, .slice q.k.A q.k.n q.k.c]) w :=
  run_loadAt_at (P := Try.prog) tCL g 0 tCL _ #[.int .i64 q.id, .int .i64 q.kind, .string (strOf q.name), .int .i64 q.to_, .int .u64 (q.co : Int), .int .i64 q.item, .int .i64 q.num, .int .i64 q.of_, .int .i64 q.e.acc, .int .i64 q.e.item, .int .u64 (q.e.co : Int), .int .u64 (q.e.pr : Int), .slice q.e.A q.e.n q.e.c, .int .i64 q.k.num, .int .i64 q.k.kind, .int .i64 q.k.by_, .int .i64 q.k.dl, .int .i64 q.k.to_, .int .i64 q.k.want, .int .u64 (q.k.pr : Int), .int .u64 (q.k.rs : Int), .int .u64 (q.k.st : Int), .int .i64 q.k.of_, .slice q.k.A q.k.n q.k.c] _ Try.underlying31 rfl (by kernel_rfl) rfl h
theorem box_rep {w : World} {g : Nat} (q : RR) (h : Bl w g tRL #[.int .i64 q.id, .int .i64 q.err, .int .i64 q.num, .int .u64 (q.co : Int), .slice q.A q.n q.c, .string (strOf q.txt), .int .u32 (q.bits : Int), .int .i64 q.k.num, .int .i64 q.k.kind, .int .i64 q.k.by_, .int .i64 q.k.dl, .int .i64 q.k.to_, .int .i64 q.k.want, .int .u64 (q.k.pr : Int), .int .u64 (q.k.rs : Int), .int .u64 (q.k.st : Int), .int .i64 q.k.of_, .slice q.k.A q.k.n q.k.c]) : (Instr.loadAt tRL (.pointer (some ⟨g, 0, none⟩))).run Try.prog w = .ok (.agg #[.int .i64 q.id, .int .i64 q.err, .int .i64 q.num, .int .u64 (q.co : Int), .slice q.A q.n q.c, .string (strOf q.txt), .int .u32 (q.bits : Int), .int .i64 q.k.num, .int .i64 q.k.kind, .int .i64 q.k.by_, .int .i64 q.k.dl, .int .i64 q.k.to_, .int .i64 q.k.want, .int .u64 (q.k.pr : Int), .int .u64 (q.k.rs : Int), .int .u64 (q.k.st : Int), .int .i64 q.k.of_, .slice q.k.A q.k.n q.k.c]) w :=
  run_loadAt_at (P := Try.prog) tRL g 0 tRL _ #[.int .i64 q.id, .int .i64 q.err, .int .i64 q.num, .int .u64 (q.co : Int), .slice q.A q.n q.c, .string (strOf q.txt), .int .u32 (q.bits : Int), .int .i64 q.k.num, .int .i64 q.k.kind, .int .i64 q.k.by_, .int .i64 q.k.dl, .int .i64 q.k.to_, .int .i64 q.k.want, .int .u64 (q.k.pr : Int), .int .u64 (q.k.rs : Int), .int .u64 (q.k.st : Int), .int .i64 q.k.of_, .slice q.k.A q.k.n q.k.c] _ Try.underlying35 rfl (by kernel_rfl) rfl h
theorem put_cmd {w : World} (q : KC) : (Instr.storeAt tCL (.pointer (some ⟨w.heap.size, 0, none⟩)) (.agg #[.int .i64 q.id, .int .i64 q.kind, .string (strOf q.name), .int .i64 q.to_, .int .u64 (q.co : Int), .int .i64 q.item, .int .i64 q.num, .int .i64 q.of_, .int .i64 q.e.acc, .int .i64 q.e.item, .int .u64 (q.e.co : Int), .int .u64 (q.e.pr : Int), .slice q.e.A q.e.n q.e.c, .int .i64 q.k.num, .int .i64 q.k.kind, .int .i64 q.k.by_, .int .i64 q.k.dl, .int .i64 q.k.to_, .int .i64 q.k.want, .int .u64 (q.k.pr : Int), .int .u64 (q.k.rs : Int), .int .u64 (q.k.st : Int), .int .i64 q.k.of_, .slice q.k.A q.k.n q.k.c])).run Try.prog (w.alloc (.cells #[.int .i64 0, .int .i64 0, .string ⟨#[]⟩, .int .i64 0, .int .u64 0, .int .i64 0, .int .i64 0, .int .i64 0, .int .i64 0, .int .i64 0, .int .u64 0, .int .u64 0, .slice none 0 0, .int .i64 0, .int .i64 0, .int .i64 0, .int .i64 0, .int .i64 0, .int .i64 0, .int .u64 0, .int .u64 0, .int .u64 0, .int .i64 0, .slice none 0 0] tCL)) = .ok () ((w.alloc (.cells #[.int .i64 0, .int .i64 0, .string ⟨#[]⟩, .int .i64 0, .int .u64 0, .int .i64 0, .int .i64 0, .int .i64 0, .int .i64 0, .int .i64 0, .int .u64 0, .int .u64 0, .slice none 0 0, .int .i64 0, .int .i64 0, .int .i64 0, .int .i64 0, .int .i64 0, .int .i64 0, .int .u64 0, .int .u64 0, .int .u64 0, .int .i64 0, .slice none 0 0] tCL)).setRow w.heap.size #[.int .i64 q.id, .int .i64 q.kind, .string (strOf q.name), .int .i64 q.to_, .int .u64 (q.co : Int), .int .i64 q.item, .int .i64 q.num, .int .i64 q.of_, .int .i64 q.e.acc, .int .i64 q.e.item, .int .u64 (q.e.co : Int), .int .u64 (q.e.pr : Int), .slice q.e.A q.e.n q.e.c, .int .i64 q.k.num, .int .i64 q.k.kind, .int .i64 q.k.by_, .int .i64 q.k.dl, .int .i64 q.k.to_, .int .i64 q.k.want, .int .u64 (q.k.pr : Int), .int .u64 (q.k.rs : Int), .int .u64 (q.k.st : Int), .int .i64 q.k.of_, .slice q.k.A q.k.n q.k.c]) :=
  run_storeAt_at (P := Try.prog) tCL w.heap.size 0 tCL #[.int .i64 0, .int .i64 0, .string ⟨#[]⟩, .int .i64 0, .int .u64 0, .int .i64 0, .int .i64 0, .int .i64 0, .int .i64 0, .int .i64 0, .int .u64 0, .int .u64 0, .slice none 0 0, .int .i64 0, .int .i64 0, .int .i64 0, .int .i64 0, .int .i64 0, .int .i64 0, .int .u64 0, .int .u64 0, .int .u64 0, .int .i64 0, .slice none 0 0] #[.int .i64 q.id, .int .i64 q.kind, .string (strOf q.name), .int .i64 q.to_, .int .u64 (q.co : Int), .int .i64 q.item, .int .i64 q.num, .int .i64 q.of_, .int .i64 q.e.acc, .int .i64 q.e.item, .int .u64 (q.e.co : Int), .int .u64 (q.e.pr : Int), .slice q.e.A q.e.n q.e.c, .int .i64 q.k.num, .int .i64 q.k.kind, .int .i64 q.k.by_, .int .i64 q.k.dl, .int .i64 q.k.to_, .int .i64 q.k.want, .int .u64 (q.k.pr : Int), .int .u64 (q.k.rs : Int), .int .u64 (q.k.st : Int), .int .i64 q.k.of_, .slice q.k.A q.k.n q.k.c] #[.int .i64 q.id, .int .i64 q.kind, .string (strOf q.name), .int .i64 q.to_, .int .u64 (q.co : Int), .int .i64 q.item, .int .i64 q.num, .int .i64 q.of_, .int .i64 q.e.acc, .int .i64 q.e.item, .int .u64 (q.e.co : Int), .int .u64 (q.e.pr : Int), .slice q.e.A q.e.n q.e.c, .int .i64 q.k.num, .int .i64 q.k.kind, .int .i64 q.k.by_, .int .i64 q.k.dl, .int .i64 q.k.to_, .int .i64 q.k.want, .int .u64 (q.k.pr : Int), .int .u64 (q.k.rs : Int), .int .u64 (q.k.st : Int), .int .i64 q.k.of_, .slice q.k.A q.k.n q.k.c] (by kernel_rfl) 24 24 rfl rfl (by decide) rfl rfl (Bl.new w tCL #[.int .i64 0, .int .i64 0, .string ⟨#[]⟩, .int .i64 0, .int .u64 0, .int .i64 0, .int .i64 0, .int .i64 0, .int .i64 0, .int .i64 0, .int .u64 0, .int .u64 0, .slice none 0 0, .int .i64 0, .int .i64 0, .int .i64 0, .int .i64 0, .int .i64 0, .int .i64 0, .int .u64 0, .int .u64 0, .int .u64 0, .int .i64 0, .slice none 0 0])
theorem put_rep {w : World} (q : RR) : (Instr.storeAt tRL (.pointer (some ⟨w.heap.size, 0, none⟩)) (.agg #[.int .i64 q.id, .int .i64 q.err, .int .i64 q.num, .int .u64 (q.co : Int), .slice q.A q.n q.c, .string (strOf q.txt), .int .u32 (q.bits : Int), .int .i64 q.k.num, .int .i64 q.k.kind, .int .i64 q.k.by_, .int .i64 q.k.dl, .int .i64 q.k.to_, .int .i64 q.k.want, .int .u64 (q.k.pr : Int), .int .u64 (q.k.rs : Int), .int .u64 (q.k.st : Int), .int .i64 q.k.of_, .slice q.k.A q.k.n q.k.c])).run Try.prog (w.alloc (.cells #[.int .i64 0, .int .i64 0, .int .i64 0, .int .u64 0, .slice none 0 0, .string ⟨#[]⟩, .int .u32 0, .int .i64 0, .int .i64 0, .int .i64 0, .int .i64 0, .int .i64 0, .int .i64 0, .int .u64 0, .int .u64 0, .int .u64 0, .int .i64 0, .slice none 0 0] tRL)) = .ok () ((w.alloc (.cells #[.int .i64 0, .int .i64 0, .int .i64 0, .int .u64 0, .slice none 0 0, .string ⟨#[]⟩, .int .u32 0, .int .i64 0, .int .i64 0, .int .i64 0, .int .i64 0, .int .i64 0, .int .i64 0, .int .u64 0, .int .u64 0, .int .u64 0, .int .i64 0, .slice none 0 0] tRL)).setRow w.heap.size #[.int .i64 q.id, .int .i64 q.err, .int .i64 q.num, .int .u64 (q.co : Int), .slice q.A q.n q.c, .string (strOf q.txt), .int .u32 (q.bits : Int), .int .i64 q.k.num, .int .i64 q.k.kind, .int .i64 q.k.by_, .int .i64 q.k.dl, .int .i64 q.k.to_, .int .i64 q.k.want, .int .u64 (q.k.pr : Int), .int .u64 (q.k.rs : Int), .int .u64 (q.k.st : Int), .int .i64 q.k.of_, .slice q.k.A q.k.n q.k.c]) :=
  run_storeAt_at (P := Try.prog) tRL w.heap.size 0 tRL #[.int .i64 0, .int .i64 0, .int .i64 0, .int .u64 0, .slice none 0 0, .string ⟨#[]⟩, .int .u32 0, .int .i64 0, .int .i64 0, .int .i64 0, .int .i64 0, .int .i64 0, .int .i64 0, .int .u64 0, .int .u64 0, .int .u64 0, .int .i64 0, .slice none 0 0] #[.int .i64 q.id, .int .i64 q.err, .int .i64 q.num, .int .u64 (q.co : Int), .slice q.A q.n q.c, .string (strOf q.txt), .int .u32 (q.bits : Int), .int .i64 q.k.num, .int .i64 q.k.kind, .int .i64 q.k.by_, .int .i64 q.k.dl, .int .i64 q.k.to_, .int .i64 q.k.want, .int .u64 (q.k.pr : Int), .int .u64 (q.k.rs : Int), .int .u64 (q.k.st : Int), .int .i64 q.k.of_, .slice q.k.A q.k.n q.k.c] #[.int .i64 q.id, .int .i64 q.err, .int .i64 q.num, .int .u64 (q.co : Int), .slice q.A q.n q.c, .string (strOf q.txt), .int .u32 (q.bits : Int), .int .i64 q.k.num, .int .i64 q.k.kind, .int .i64 q.k.by_, .int .i64 q.k.dl, .int .i64 q.k.to_, .int .i64 q.k.want, .int .u64 (q.k.pr : Int), .int .u64 (q.k.rs : Int), .int .u64 (q.k.st : Int), .int .i64 q.k.of_, .slice q.k.A q.k.n q.k.c] (by kernel_rfl) 18 18 rfl rfl (by decide) rfl rfl (Bl.new w tRL #[.int .i64 0, .int .i64 0, .int .i64 0, .int .u64 0, .slice none 0 0, .string ⟨#[]⟩, .int .u32 0, .int .i64 0, .int .i64 0, .int .i64 0, .int .i64 0, .int .i64 0, .int .i64 0, .int .u64 0, .int .u64 0, .int .u64 0, .int .i64 0, .slice none 0 0])
theorem box_new {w : World} (t : TypeId) (z cs : Array Value) : Bl ((w.alloc (.cells z t)).setRow w.heap.size cs) w.heap.size t cs ∧ Fr (fun _ => False) w ((w.alloc (.cells z t)).setRow w.heap.size cs) :=
  ⟨(Bl.new w t z).setRow cs, Fr.setRow ((Fr.refl _ _).alloc _) (.inr (Nat.le_refl _)) _⟩
theorem KT.quiet {w w' : World} {q : KC} (h : KT w q) (hf : Fr (fun _ => False) w w') : KT w' q := h.frt hf (fun _ _ => id) (fun _ _ => id)
theorem RT.quiet {w w' : World} {q : RR} (h : RT w q) (hf : Fr (fun _ => False) w w') : RT w' q := h.frt hf (fun _ _ => id) (fun _ _ => id)
end Go.Proofs.Ytlcjhbemgagchaa
end

section
/-
  stream: replies one behind the other: what bytes tell (Reps), and where the replies lie (Rps).
-/
namespace Go.Proofs.Ytlcjhbemgagchaa
open Go.RowKit
set_option linter.unusedVariables false

/-- A frame's body: so many bytes behind the three of its length. -/
def bodyS (bs : List Nat) (k : Nat) : List Nat := (bs.drop (k + 3)).take (longS (bs.drop k))
/-- What bytes tell from k on: the replies, how many bytes were used, the error. -/
inductive Reps (bs : List Nat) : Nat → List RR → Nat → Nat → Prop
  | short {k : Nat} : bs.length < k + 3 → Reps bs k [] k 0
  | long {k : Nat} : k + 3 ≤ bs.length → 65536 < longS (bs.drop k) → Reps bs k [] k 290
  | half {k : Nat} : k + 3 ≤ bs.length → longS (bs.drop k) ≤ 65536 → bs.length < k + 3 + longS (bs.drop k) → Reps bs k [] k 0
  | bad {k : Nat} {c : RR} {er : Int} : longS (bs.drop k) ≤ 65536 → k + 3 + longS (bs.drop k) ≤ bs.length → RVer (bodyS bs k) c er → er ≠ 0 → Reps bs k [] k 290
  | one {k : Nat} {c : RR} {l : List RR} {u e : Nat} : longS (bs.drop k) ≤ 65536 → k + 3 + longS (bs.drop k) ≤ bs.length → RVer (bodyS bs k) c 0 → Reps bs (k + 3 + longS (bs.drop k)) l u e → Reps bs k (c :: l) u e
/-- The same replies. -/
inductive LikeR : List RR → List RR → Prop
  | nil : LikeR [] []
  | cons {a b : RR} {l m : List RR} : a.like b → LikeR l m → LikeR (a :: l) (b :: m)
theorem LikeR.len {l m : List RR} (h : LikeR l m) : l.length = m.length := by
  induction h with
  | nil => rfl
  | cons _ _ ih => simp [ih]
theorem LikeR.at_ {l m : List RR} (h : LikeR l m) : ∀ {i : Nat} {a b : RR}, l[i]? = some a → m[i]? = some b → a.like b := by
  induction h with
  | nil => intro i a b h; simp at h
  | cons h1 _ ih =>
    intro i a b ha hb
    rcases i with _ | i
    · simp at ha hb; subst ha hb; exact h1
    · simp at ha hb; exact ih ha hb
theorem Reps.same {bs : List Nat} {k : Nat} {l l' : List RR} {u u' e e' : Nat} (h : Reps bs k l u e) (h' : Reps bs k l' u' e') : u = u' ∧ e = e' ∧ LikeR l l' := by
  induction h generalizing l' u' e' with
  | short h1 =>
    cases h' with
    | short => exact ⟨rfl, rfl, .nil⟩
    | long => omega
    | half => omega
    | bad => omega
    | one => omega
  | long h1 h2 =>
    cases h' with
    | short => omega
    | long => exact ⟨rfl, rfl, .nil⟩
    | half => omega
    | bad => omega
    | one => omega
  | half h1 h2 h3 =>
    cases h' with
    | short => omega
    | long => omega
    | half => exact ⟨rfl, rfl, .nil⟩
    | bad => omega
    | one => omega
  | bad h1 h2 h3 h4 =>
    cases h' with
    | short => omega
    | long => omega
    | half => omega
    | bad => exact ⟨rfl, rfl, .nil⟩
    | one k1 k2 k3 k4 => exact absurd (h3.same k3).1 h4
  | one h1 h2 h3 h4 ih =>
    cases h' with
    | short => omega
    | long => omega
    | half => omega
    | bad k1 k2 k3 k4 => exact absurd (k3.same h3).1 k4
    | one k1 k2 k3 k4 =>
      obtain ⟨i1, i2, i3⟩ := ih k4
      exact ⟨i1, i2, .cons (h3.same k3).2 i3⟩
/-- What was told ahead of k. -/
inductive ToldR (bs : List Nat) : Nat → List RR → Prop
  | nil : ToldR bs 0 []
  | snoc {k : Nat} {l : List RR} {c : RR} : ToldR bs k l → longS (bs.drop k) ≤ 65536 → k + 3 + longS (bs.drop k) ≤ bs.length → RVer (bodyS bs k) c 0 → ToldR bs (k + 3 + longS (bs.drop k)) (l ++ [c])
theorem ToldR.reps {bs : List Nat} {k : Nat} {l : List RR} (h : ToldR bs k l) : ∀ {l' : List RR} {u e : Nat}, Reps bs k l' u e → Reps bs 0 (l ++ l') u e := by
  induction h with
  | nil => exact fun h => h
  | snoc _ h1 h2 h3 ih =>
    intro l' u e h
    rw [List.append_assoc]
    exact ih (.one h1 h2 h3 h)
theorem ToldR.len {bs : List Nat} {k : Nat} {l : List RR} (h : ToldR bs k l) : 3 * l.length ≤ k ∧ (k = 0 ∨ k ≤ bs.length) := by
  induction h with
  | nil => simp
  | snoc _ h1 h2 h3 ih => simp only [List.length_append, List.length_singleton]; omega

abbrev tRpl : TypeId := 35
def rcells (r : RR) : List Value := [.int .i64 r.id, .int .i64 r.err, .int .i64 r.num, .int .u64 (r.co : Int), .slice r.A r.n r.c, .string (strOf r.txt), .int .u32 (r.bits : Int), .int .i64 r.k.num, .int .i64 r.k.kind, .int .i64 r.k.by_, .int .i64 r.k.dl, .int .i64 r.k.to_, .int .i64 r.k.want, .int .u64 (r.k.pr : Int), .int .u64 (r.k.rs : Int), .int .u64 (r.k.st : Int), .int .i64 r.k.of_, .slice r.k.A r.k.n r.k.c]
theorem rcells_len (r : RR) : (rcells r).length = 18 := rfl
theorem rcells_one (r : RR) : ∀ u ∈ rcells r, u.oneCell' = true := by
  intro u hu
  simp only [rcells, List.mem_cons, List.not_mem_nil, or_false] at hu
  rcases hu with rfl | rfl | rfl | rfl | rfl | rfl | rfl | rfl | rfl | rfl | rfl | rfl | rfl | rfl | rfl | rfl | rfl | rfl <;> rfl
theorem infoRpl : (Try.prog.info? tRpl).map (fun i => (i.zero, i.size, i.bytes)) = some (some (.agg #[.int .i64 0, .int .i64 0, .int .i64 0, .int .u64 0, .slice none 0 0, .string ⟨#[]⟩, .int .u32 0, .int .i64 0, .int .i64 0, .int .i64 0, .int .i64 0, .int .i64 0, .int .i64 0, .int .u64 0, .int .u64 0, .int .u64 0, .int .i64 0, .slice none 0 0]), 18, 184) := by kernel_rfl
section
variable {W w w' : World} {q : RR}
theorem ROwn.frt (h : ROwn W w q) {S : Nat → Prop} (hf : Fr S w w') (h1 : ∀ x, Typed w x tEnt → ¬ S x) (h2 : ∀ x, Typed w x 3 → ¬ S x) : ROwn W w' q := by
  obtain ⟨ge, o1, o2⟩ := h.eo
  obtain ⟨gk, o3⟩ := h.ko
  exact ⟨h.en, ⟨ge, o1.fr hf fun x e => h2 x (o1.typed x e), o2⟩, h.kn, ⟨gk, o3.frt hf h1 h2⟩⟩
theorem ROwn.quiet (h : ROwn W w q) (hf : Fr (fun _ => False) w w') : ROwn W w' q := h.frt hf (fun _ _ => id) (fun _ _ => id)
theorem ROwn.base (h : ROwn W w q) {W' : World} (hs : W'.heap.size ≤ W.heap.size) : ROwn W' w q := by
  obtain ⟨ge, o1, o2⟩ := h.eo
  obtain ⟨gk, o3⟩ := h.ko
  exact ⟨h.en, ⟨ge, o1, fun x e => Nat.le_trans hs (o2 x e)⟩, h.kn, ⟨gk, o3.base hs⟩⟩
/-- What turns lies below. -/
theorem ROwn.low (h : ROwn W w q) {S : Nat → Prop} (hf : Fr S w w') (hS : ∀ x, S x → x < W.heap.size) : ROwn W w' q := by
  obtain ⟨ge, o1, o2⟩ := h.eo
  obtain ⟨gk, o3⟩ := h.ko
  refine ⟨h.en, ⟨ge, o1.fr hf fun x e hs => by have := o2 x e; have := hS x hs; omega, o2⟩, h.kn, ⟨gk, o3.len, o3.ow.fr hf fun x e hs => by have := o3.new x e; have := hS x hs; omega, o3.new, fun p hp => ?_, o3.ap⟩⟩
  obtain ⟨k1, gi, k2, k3⟩ := o3.own p hp
  exact ⟨k1, gi, k2.fr hf fun x e hs => by have := k3 x e; have := hS x hs; omega, k3⟩
theorem ROwn.rt (h : ROwn W w q) (hok : q.items.length ≤ 65536) : RT w q := by
  obtain ⟨ge, o1, -⟩ := h.eo
  obtain ⟨gk, o2⟩ := h.ko
  have hc := o1.cap
  unfold maxLen at hc
  have hlen : q.n = q.items.length := by have := o1.1; simpa using this.symm
  exact ⟨⟨⟨by omega, hc.1, hc.2, o1.sl⟩, fun b o e => o1.typed b (o1.sblk' e)⟩, by omega, o2.k h.kn⟩
/-- Replies in memory of their own. -/
structure Rps (W w : World) (l : List RR) (A : Option Addr) (n c : Nat) (g : Option Nat) : Prop where
  len : n = l.length
  ow : Ow w tRpl 18 A n c (l.flatMap rcells) g
  new : ∀ b, g = some b → W.heap.size ≤ b
  own : ∀ q ∈ l, ROwn W w q ∧ q.items.length ≤ 65536
  ap : l.Pairwise fun p q => ∀ x o y o', p.A = some ⟨x, o, none⟩ → q.A = some ⟨y, o', none⟩ → x < y
/-- Replies that can be read. -/
structure Rpr (W w : World) (l : List RR) (A : Option Addr) (n c : Nat) (g : Option Nat) : Prop where
  len : n = l.length
  ow : Ow w tRpl 18 A n c (l.flatMap rcells) g
  new : ∀ b, g = some b → W.heap.size ≤ b
  rt : ∀ q ∈ l, RT w q
variable {l : List RR} {A : Option Addr} {n c : Nat} {g : Option Nat}
theorem Rps.nil_ (W w : World) : Rps W w [] none 0 0 none := ⟨rfl, Ow.nil_ _ _ _, (fun b e => by cases e), (fun q h => by cases h), List.Pairwise.nil⟩
theorem Rpr.nil_ (W w : World) : Rpr W w [] none 0 0 none := ⟨rfl, Ow.nil_ _ _ _, (fun b e => by cases e), fun q h => by cases h⟩
theorem Rps.quiet (h : Rps W w l A n c g) (hf : Fr (fun _ => False) w w') : Rps W w' l A n c g := ⟨h.len, h.ow.fr hf (fun _ _ => id), h.new, fun q hq => ⟨(h.own q hq).1.quiet hf, (h.own q hq).2⟩, h.ap⟩
theorem Rpr.quiet (h : Rpr W w l A n c g) (hf : Fr (fun _ => False) w w') : Rpr W w' l A n c g := ⟨h.len, h.ow.fr hf (fun _ _ => id), h.new, fun q hq => (h.rt q hq).quiet hf⟩
theorem Rps.pr (h : Rps W w l A n c g) : Rpr W w l A n c g := ⟨h.len, h.ow, h.new, fun q hq => (h.own q hq).1.rt (h.own q hq).2⟩
theorem flat_snoc (l : List RR) (q : RR) : (l ++ [q]).flatMap rcells = l.flatMap rcells ++ rcells q := by simp [List.flatMap_append]
theorem Rps.app {w1 : World} {A3 : Option Addr} {c3 : Nat} {g3 : Option Nat} (h1 : Rps W w1 l A n c g) (h : Rps W w l A n c g) (hs : W.heap.size ≤ w1.heap.size) (hq : ROwn w1 w q) (hi : q.items.length ≤ 65536) (hO : Ow w' tRpl 18 A3 (n + 1) c3 (l.flatMap rcells ++ rcells q) g3) (hf : Fr (fun x => some x = g) w w') (hg : g3 = g ∨ ∃ b, g3 = some b ∧ W.heap.size ≤ b) : Rps W w' (l ++ [q]) A3 (n + 1) c3 g3 := by
  have k1 : ∀ x, Typed w x tEnt → ¬ some x = g := fun x hx e => absurd (hx.same (h.ow.typed x e.symm)) (by decide)
  have k2 : ∀ x, Typed w x 3 → ¬ some x = g := fun x hx e => absurd (hx.same (h.ow.typed x e.symm)) (by decide)
  refine ⟨by rw [h.len]; simp, by rw [flat_snoc]; exact hO, fun b e => ?_, fun p hp => ?_, ?_⟩
  · rcases hg with rfl | ⟨b', rfl, hb⟩
    · exact h.new b e
    · cases e; exact hb
  · rcases List.mem_append.1 hp with hp | hp
    · exact ⟨(h.own p hp).1.frt hf k1 k2, (h.own p hp).2⟩
    · obtain rfl : p = q := by simpa using hp
      exact ⟨(hq.base hs).frt hf k1 k2, hi⟩
  · rw [List.pairwise_append]
    refine ⟨h.ap, List.pairwise_singleton _ _, fun p hp p' hp' => ?_⟩
    obtain rfl : p' = q := by simpa using hp'
    intro x o y o' ex ey
    obtain ⟨gp, k2, -⟩ := (h1.own p hp).1.eo
    obtain ⟨gq, k3, k4⟩ := hq.eo
    have a1 := k2.lt x (k2.sblk ex)
    have a2 := k4 y (k3.sblk ey)
    omega
theorem Rpr.app {A3 : Option Addr} {c3 : Nat} {g3 : Option Nat} (h : Rpr W w l A n c g) (hq : RT w q) (hO : Ow w' tRpl 18 A3 (n + 1) c3 (l.flatMap rcells ++ rcells q) g3) (hf : Fr (fun x => some x = g) w w') (hg : g3 = g ∨ ∃ b, g3 = some b ∧ W.heap.size ≤ b) : Rpr W w' (l ++ [q]) A3 (n + 1) c3 g3 := by
  have k1 : ∀ x, Typed w x tEnt → ¬ some x = g := fun x hx e => absurd (hx.same (h.ow.typed x e.symm)) (by decide)
  have k2 : ∀ x, Typed w x 3 → ¬ some x = g := fun x hx e => absurd (hx.same (h.ow.typed x e.symm)) (by decide)
  refine ⟨by rw [h.len]; simp, by rw [flat_snoc]; exact hO, fun b e => ?_, fun p hp => ?_⟩
  · rcases hg with rfl | ⟨b', rfl, hb⟩
    · exact h.new b e
    · cases e; exact hb
  · rcases List.mem_append.1 hp with hp | hp
    · exact (h.rt p hp).frt hf k1 k2
    · obtain rfl : p = q := by simpa using hp
      exact hq.frt hf k1 k2
end
end Go.Proofs.Ytlcjhbemgagchaa
end

section
/-
  stream: pieces one behind the other: what a line tells (Pcs). No program in sight.
-/
namespace Go.Proofs.Ytlcjhbemgagchaa
set_option linter.unusedVariables false

/-- A piece: its command, its error. -/
structure PC where
  c : KC
  er : Nat
def PC.no : PC := ⟨zeroC, 290⟩
def PC.like (a b : PC) : Prop := a.c.like b.c ∧ a.er = b.er
theorem PC.like_refl (a : PC) : a.like a := ⟨KC.like_refl _, rfl⟩
/-- What a line tells from k on: its pieces, where its last whole frame ends, whether it is deaf. -/
inductive Pcs (bs : List Nat) : Nat → List PC → Nat → Bool → Prop
  | short {k : Nat} : bs.length < k + 3 → Pcs bs k [] k false
  | long {k : Nat} : k + 3 ≤ bs.length → 512 < longS (bs.drop k) → Pcs bs k [PC.no] k true
  | half {k : Nat} : k + 3 ≤ bs.length → longS (bs.drop k) ≤ 512 → bs.length < k + 3 + longS (bs.drop k) → Pcs bs k [] k false
  | bad {k : Nat} {c : KC} {er : Int} {l : List PC} {u : Nat} {d : Bool} : longS (bs.drop k) ≤ 512 → k + 3 + longS (bs.drop k) ≤ bs.length → KVer (bodyS bs k) c er → er ≠ 0 → Pcs bs (k + 3 + longS (bs.drop k)) l u d → Pcs bs k (PC.no :: l) u d
  | one {k : Nat} {c : KC} {l : List PC} {u : Nat} {d : Bool} : longS (bs.drop k) ≤ 512 → k + 3 + longS (bs.drop k) ≤ bs.length → KVer (bodyS bs k) c 0 → Pcs bs (k + 3 + longS (bs.drop k)) l u d → Pcs bs k (⟨c, 0⟩ :: l) u d
/-- The same pieces. -/
inductive LikeP : List PC → List PC → Prop
  | nil : LikeP [] []
  | cons {a b : PC} {l m : List PC} : a.like b → LikeP l m → LikeP (a :: l) (b :: m)
theorem LikeP.len {l m : List PC} (h : LikeP l m) : l.length = m.length := by
  induction h with
  | nil => rfl
  | cons _ _ ih => simp [ih]
theorem LikeP.at_ {l m : List PC} (h : LikeP l m) : ∀ {i : Nat} {a b : PC}, l[i]? = some a → m[i]? = some b → a.like b := by
  induction h with
  | nil => intro i a b h; simp at h
  | cons h1 _ ih =>
    intro i a b ha hb
    rcases i with _ | i
    · simp at ha hb; subst ha hb; exact h1
    · simp at ha hb; exact ih ha hb
theorem LikeP.drop {l m : List PC} (h : LikeP l m) : ∀ k, LikeP (l.drop k) (m.drop k) := by
  induction h with
  | nil => intro k; simp; exact .nil
  | cons h1 h2 ih =>
    intro k
    rcases k with _ | k
    · exact .cons h1 h2
    · simp; exact ih k
theorem Pcs.same {bs : List Nat} {k : Nat} {l l' : List PC} {u u' : Nat} {d d' : Bool} (h : Pcs bs k l u d) (h' : Pcs bs k l' u' d') : u = u' ∧ d = d' ∧ LikeP l l' := by
  induction h generalizing l' u' d' with
  | short h1 =>
    cases h' with
    | short => exact ⟨rfl, rfl, .nil⟩
    | long => omega
    | half => omega
    | bad => omega
    | one => omega
  | long h1 h2 =>
    cases h' with
    | short => omega
    | long => exact ⟨rfl, rfl, .cons (PC.like_refl _) .nil⟩
    | half => omega
    | bad => omega
    | one => omega
  | half h1 h2 h3 =>
    cases h' with
    | short => omega
    | long => omega
    | half => exact ⟨rfl, rfl, .nil⟩
    | bad => omega
    | one => omega
  | bad h1 h2 h3 h4 h5 ih =>
    cases h' with
    | short => omega
    | long => omega
    | half => omega
    | bad k1 k2 k3 k4 k5 =>
      obtain ⟨i1, i2, i3⟩ := ih k5
      exact ⟨i1, i2, .cons (PC.like_refl _) i3⟩
    | one k1 k2 k3 k4 => exact absurd (h3.same k3).1 h4
  | one h1 h2 h3 h4 ih =>
    cases h' with
    | short => omega
    | long => omega
    | half => omega
    | bad k1 k2 k3 k4 => exact absurd (k3.same h3).1 k4
    | one k1 k2 k3 k4 =>
      obtain ⟨i1, i2, i3⟩ := ih k4
      exact ⟨i1, i2, .cons ⟨(h3.same k3).2, rfl⟩ i3⟩
theorem Pcs.bound {bs : List Nat} {k : Nat} {l : List PC} {u : Nat} {d : Bool} (h : Pcs bs k l u d) : 3 * l.length + k ≤ u + 3 ∧ k ≤ u ∧ (u = k ∨ u ≤ bs.length) ∧ (d = false → 3 * l.length + k ≤ u) := by
  induction h with
  | short _ => simp
  | long _ _ => simp; omega
  | half _ _ _ => simp
  | bad _ _ _ _ _ ih =>
    refine ⟨?_, ?_, ?_, fun hd => ?_⟩
    · simp only [List.length_cons]; omega
    · omega
    · omega
    · have := ih.2.2.2 hd; simp only [List.length_cons]; omega
  | one _ _ _ _ ih =>
    refine ⟨?_, ?_, ?_, fun hd => ?_⟩
    · simp only [List.length_cons]; omega
    · omega
    · omega
    · have := ih.2.2.2 hd; simp only [List.length_cons]; omega
/-- What stands at the end of what a line tells. -/
theorem Pcs.end_ {bs : List Nat} {k : Nat} {l : List PC} {u : Nat} {d : Bool} (h : Pcs bs k l u d) : (d = true ∧ u + 3 ≤ bs.length ∧ 512 < longS (bs.drop u)) ∨ (d = false ∧ (bs.length < u + 3 ∨ u + 3 ≤ bs.length ∧ longS (bs.drop u) ≤ 512 ∧ bs.length < u + 3 + longS (bs.drop u))) := by
  induction h with
  | short h1 => exact .inr ⟨rfl, .inl h1⟩
  | long h1 h2 => exact .inl ⟨rfl, h1, h2⟩
  | half h1 h2 h3 => exact .inr ⟨rfl, .inr ⟨h1, h2, h3⟩⟩
  | bad _ _ _ _ _ ih => exact ih
  | one _ _ _ _ ih => exact ih
theorem longS_app {bs ds : List Nat} {k : Nat} (h : k + 3 ≤ bs.length) : longS ((bs ++ ds).drop k) = longS (bs.drop k) := by
  have key : ∀ j, j < 3 → ((bs ++ ds).drop k).getD j 0 = (bs.drop k).getD j 0 := fun j hj => by
    simp only [List.getD, List.getElem?_drop]
    rw [List.getElem?_append_left (by omega)]
  unfold longS
  rw [key 0 (by omega), key 1 (by omega), key 2 (by omega)]
theorem bodyS_app {bs ds : List Nat} {k : Nat} (h : k + 3 + longS (bs.drop k) ≤ bs.length) : bodyS (bs ++ ds) k = bodyS bs k := by
  unfold bodyS
  rw [longS_app (by omega), List.drop_append_of_le_length (by omega), List.take_append_of_le_length (by simp; omega)]
/-- More bytes behind a line: what it told stays told. -/
theorem Pcs.more {bs : List Nat} {k : Nat} {l : List PC} {u : Nat} (ds : List Nat) {d : Bool} (h : Pcs bs k l u d) : d = false → ∀ {l' : List PC} {u' : Nat} {d' : Bool}, Pcs (bs ++ ds) u l' u' d' → Pcs (bs ++ ds) k (l ++ l') u' d' := by
  induction h with
  | short h1 => exact fun _ _ _ _ h => h
  | long h1 h2 => intro h; cases h
  | half h1 h2 h3 => exact fun _ _ _ _ h => h
  | @bad k c er _ _ _ h1 h2 h3 h4 _ ih =>
    intro hd l' u' d' h
    have e := longS_app (bs := bs) (ds := ds) (k := k) (by omega)
    have := ih hd h
    rw [← e] at this
    exact .bad (by rw [e]; exact h1) (by rw [e, List.length_append]; omega) (by rw [bodyS_app h2]; exact h3) h4 this
  | @one k c _ _ _ h1 h2 h3 _ ih =>
    intro hd l' u' d' h
    have e := longS_app (bs := bs) (ds := ds) (k := k) (by omega)
    have := ih hd h
    rw [← e] at this
    exact .one (by rw [e]; exact h1) (by rw [e, List.length_append]; omega) (by rw [bodyS_app h2]; exact h3) this
theorem Pcs.deaf {bs : List Nat} {k : Nat} {l : List PC} {u : Nat} (ds : List Nat) {d : Bool} (h : Pcs bs k l u d) : d = true → Pcs (bs ++ ds) k l u true := by
  induction h with
  | short h1 => intro h; cases h
  | long h1 h2 => exact fun _ => .long (by rw [List.length_append]; omega) (by rw [longS_app h1]; exact h2)
  | half h1 h2 h3 => intro h; cases h
  | @bad k c er _ _ _ h1 h2 h3 h4 _ ih =>
    intro hd
    have e := longS_app (bs := bs) (ds := ds) (k := k) (by omega)
    have := ih hd
    rw [← e] at this
    exact .bad (by rw [e]; exact h1) (by rw [e, List.length_append]; omega) (by rw [bodyS_app h2]; exact h3) h4 this
  | @one k c _ _ _ h1 h2 h3 _ ih =>
    intro hd
    have e := longS_app (bs := bs) (ds := ds) (k := k) (by omega)
    have := ih hd
    rw [← e] at this
    exact .one (by rw [e]; exact h1) (by rw [e, List.length_append]; omega) (by rw [bodyS_app h2]; exact h3) this
/-- What was told from k0 on, ahead of k. -/
inductive ToldP (bs : List Nat) (k0 : Nat) : Nat → List PC → Prop
  | nil : ToldP bs k0 k0 []
  | bad {k : Nat} {l : List PC} {c : KC} {er : Int} : ToldP bs k0 k l → longS (bs.drop k) ≤ 512 → k + 3 + longS (bs.drop k) ≤ bs.length → KVer (bodyS bs k) c er → er ≠ 0 → ToldP bs k0 (k + 3 + longS (bs.drop k)) (l ++ [PC.no])
  | one {k : Nat} {l : List PC} {c : KC} : ToldP bs k0 k l → longS (bs.drop k) ≤ 512 → k + 3 + longS (bs.drop k) ≤ bs.length → KVer (bodyS bs k) c 0 → ToldP bs k0 (k + 3 + longS (bs.drop k)) (l ++ [⟨c, 0⟩])
theorem ToldP.pcs {bs : List Nat} {k0 k : Nat} {l : List PC} (h : ToldP bs k0 k l) : ∀ {l' : List PC} {u : Nat} {d : Bool}, Pcs bs k l' u d → Pcs bs k0 (l ++ l') u d := by
  induction h with
  | nil => exact fun h => h
  | bad _ h1 h2 h3 h4 ih =>
    intro l' u d h
    rw [List.append_assoc]
    exact ih (.bad h1 h2 h3 h4 h)
  | one _ h1 h2 h3 ih =>
    intro l' u d h
    rw [List.append_assoc]
    exact ih (.one h1 h2 h3 h)
theorem ToldP.len {bs : List Nat} {k0 k : Nat} {l : List PC} (h : ToldP bs k0 k l) : 3 * l.length + k0 ≤ k ∧ (k = k0 ∨ k ≤ bs.length) := by
  induction h with
  | nil => simp
  | bad _ h1 h2 h3 h4 ih => simp only [List.length_append, List.length_singleton]; omega
  | one _ h1 h2 h3 ih => simp only [List.length_append, List.length_singleton]; omega
end Go.Proofs.Ytlcjhbemgagchaa
end
