/-
  Texts merged into one, to keep the claim small: PdQ, PdJ.
-/
import Derived.Test.YtlcjhbemgagchaaMr35
import Derived.Test.YtlcjhbemgagchaaMr30
import Derived.Test.YtlcjhbemgagchaaMr32
import Derived.Test.YtlcjhbemgagchaaMr23
section
/-
  proto, the document's way: calls that only make memory, one behind the other.
-/
namespace Go.Proofs.Ytlcjhbemgagchaa
open Go.RowKit
set_option linter.unusedVariables false
set_option linter.unusedSimpArgs false
/-- Behind W only new memory was made; these blocks stand. -/
structure Qt (X : List (Nat × TypeId × Array Value)) (W w : World) : Prop where
  fr : Fr (fun _ => False) W w
  xs : ∀ x ∈ X, Bl w x.1 x.2.1 x.2.2 ∧ W.heap.size ≤ x.1
/-- Numbers that can be read, among numbers. -/
def RLt (w : World) (ws : List Int) (A : Option Addr) (n c : Nat) : Prop := RL w ws A n c ∧ ∀ b o, A = some ⟨b, o, none⟩ → Typed w b 3
theorem RLt.row {w : World} {ws : List Int} {A : Option Addr} {n c : Nat} (h : RLt w ws A n c) {k : Nat} {t : TypeId} (hk : Typed w k t) (ht : t ≠ 3) (new : Array Value) : RLt (w.setRow k new) ws A n c := by
  have hn : ∀ b o, A = some ⟨b, o, none⟩ → ¬ b = k := fun b o e e2 => by subst e2; exact ht (hk.same (h.2 b o e))
  exact ⟨⟨h.1.le, h.1.cap, h.1.cap2, h.1.sl.fr (B := 0) (Fr.row new) fun b ⟨o, e⟩ _ => hn b o e⟩, fun b o e => (h.2 b o e).fr (Fr.row new) (hn b o e)⟩
theorem RLt.quiet {w w' : World} {ws : List Int} {A : Option Addr} {n c : Nat} (h : RLt w ws A n c) (hf : Fr (fun _ => False) w w') : RLt w' ws A n c := ⟨h.1.quiet hf, fun b o e => (h.2 b o e).fr hf id⟩
theorem RLt.frt {w w' : World} {ws : List Int} {A : Option Addr} {n c : Nat} (h : RLt w ws A n c) {S : Nat → Prop} (hf : Fr S w w') (hS : ∀ x, Typed w x 3 → ¬ S x) : RLt w' ws A n c :=
  ⟨⟨h.1.le, h.1.cap, h.1.cap2, h.1.sl.fr (B := 0) hf fun b ⟨o, e⟩ _ => hS b (h.2 b o e)⟩, fun b o e => (h.2 b o e).fr hf (hS b (h.2 b o e))⟩
section
variable {X : List (Nat × TypeId × Array Value)} {W w w' : World}
theorem Qt.step (h : Qt X W w) (hf : Fr (fun _ => False) w w') : Qt X W w' := ⟨h.fr.trans hf, fun x hx => ⟨(h.xs x hx).1.fr hf id, (h.xs x hx).2⟩⟩
theorem Qt.pushAt (h : Qt X W w) (t : TypeId) (cs : Array Value) (g : Nat) (hg : g = w.heap.size) : Qt ((g, t, cs) :: X) W (w.alloc (.cells cs t)) := by
  subst hg
  have h1 := h.step ((Fr.refl (fun _ => False) w).alloc (.cells cs t))
  refine ⟨h1.fr, fun x hx => ?_⟩
  rcases List.mem_cons.1 hx with rfl | hx
  · exact ⟨Bl.new w t cs, h.fr.size⟩
  · exact h1.xs x hx
theorem Qt.push (h : Qt X W w) (t : TypeId) (cs : Array Value) : Qt ((w.heap.size, t, cs) :: X) W (w.alloc (.cells cs t)) := h.pushAt t cs _ rfl
theorem Qt.hd {x : Nat} {t : TypeId} {cs : Array Value} (h : Qt ((x, t, cs) :: X) W w) : Bl w x t cs := (h.xs _ (List.mem_cons_self ..)).1
theorem Qt.hdle {x : Nat} {t : TypeId} {cs : Array Value} (h : Qt ((x, t, cs) :: X) W w) : W.heap.size ≤ x := (h.xs _ (List.mem_cons_self ..)).2
theorem Qt.small (h : Qt X W w) {xs : List Nat} {A : Option Addr} {n c : Nat} (hR : RB W xs A n c) (t : Int) {v : Int} (hv : Hid (smallS xs t = v)) :
    Calls Try.prog 86 #[.slice A n c, .int .i64 t] w fun e w' => e = .returned (.int .i64 v) ∧ Fr (fun _ => False) w w' ∧ Qt X W w' := by
  rw [← hv.out]
  refine (rsmall_any w xs A n c (hR.quiet h.fr) t).mono ?_
  rintro e w' ⟨rfl, hf⟩
  exact ⟨rfl, hf, h.step hf⟩
theorem Qt.big (h : Qt X W w) {xs : List Nat} {A : Option Addr} {n c : Nat} (hR : RB W xs A n c) (t : Int) {v : Nat} (hv : Hid (bigS xs t = v)) :
    Calls Try.prog 85 #[.slice A n c, .int .i64 t] w fun e w' => e = .returned (.int .u64 (v : Int)) ∧ Fr (fun _ => False) w w' ∧ Qt X W w' := by
  rw [← hv.out]
  refine (rbig_any w xs A n c (hR.quiet h.fr) t).mono ?_
  rintro e w' ⟨rfl, hf⟩
  exact ⟨rfl, hf, h.step hf⟩
theorem Qt.said (h : Qt X W w) {xs : List Nat} {A : Option Addr} {n c : Nat} (hR : RB W xs A n c) (t : Int) {v : List Nat} (hv : Hid (saidS xs t = v)) :
    Calls Try.prog 87 #[.slice A n c, .int .i64 t] w fun e w' => ∃ B m d, e = .returned (.slice B m d) ∧ Hid (RB w' v B m d) ∧ Fr (fun _ => False) w w' ∧ Qt X W w' := by
  rw [← hv.out]
  refine (rsaid_any w xs A n c (hR.quiet h.fr) t).mono ?_
  rintro e w' ⟨B, m, d, rfl, hr, hf⟩
  exact ⟨B, m, d, rfl, hr, hf, h.step hf⟩
theorem Qt.list (h : Qt X W w) {xs : List Nat} {A : Option Addr} {n c : Nat} (hR : RB W xs A n c) (t : Int) :
    Calls Try.prog 88 #[.slice A n c, .int .i64 t] w fun e w' => ∃ B m d, e = .returned (.slice B m d) ∧ Hid (RL w' (listS xs t) B m d ∧ ∀ b o, B = some ⟨b, o, none⟩ → Typed w' b 3) ∧ Fr (fun _ => False) w w' ∧ Qt X W w' := by
  refine (rlistI_any w xs A n c (hR.quiet h.fr) t).mono ?_
  rintro e w' ⟨B, m, d, rfl, hr, hf⟩
  exact ⟨B, m, d, rfl, hr, hf, h.step hf⟩
end
end Go.Proofs.Ytlcjhbemgagchaa
end

section
/-
  proto: the program's Decode and the document's say the same; copy into a slice of one's own.
-/
namespace Go.Proofs.Ytlcjhbemgagchaa
open Go.RowKit
set_option linter.unusedVariables false
set_option linter.unusedSimpArgs false
def zeroE : ER := ⟨0, 0, 0, 0, none, 0, 0, []⟩
def zeroK : CR := ⟨0, 0, 0, 0, 0, 0, 0, 0, 0, 0, none, 0, 0, []⟩
def zeroC : KC := ⟨0, 0, [], 0, 0, 0, 0, 0, zeroE, zeroK⟩
def zeroR : RR := ⟨0, 0, 0, 0, none, 0, 0, [], [], 0, zeroK⟩
/-- What bytes say as a command, or the refusal. -/
def KVer (bs : List Nat) (c : KC) (er : Int) : Prop := (512 < bs.length ∧ er = 3 ∧ c = zeroC) ∨ (bs.length ≤ 512 ∧ (∀ q, ¬ KForm bs q) ∧ er = 270 ∧ c = zeroC) ∨ (bs.length ≤ 512 ∧ er = 0 ∧ KForm bs c)
def RVer (bs : List Nat) (c : RR) (er : Int) : Prop := (65536 < bs.length ∧ er = 3 ∧ c = zeroR) ∨ (bs.length ≤ 65536 ∧ (∀ q, ¬ RForm bs q) ∧ er = 270 ∧ c = zeroR) ∨ (bs.length ≤ 65536 ∧ er = 0 ∧ RForm bs c)
theorem CR.like_refl (a : CR) : a.like a := ⟨rfl, rfl, rfl, rfl, rfl, rfl, rfl, rfl, rfl, rfl, rfl, fun i h h' => ER.like_mk rfl rfl rfl rfl rfl⟩
theorem KC.like_refl (a : KC) : a.like a := ⟨rfl, rfl, rfl, rfl, rfl, rfl, rfl, rfl, ER.like_mk rfl rfl rfl rfl rfl, CR.like_refl _⟩
theorem RR.like_refl (a : RR) : a.like a := ⟨rfl, rfl, rfl, rfl, rfl, rfl, rfl, CR.like_refl _⟩
theorem KVer.same {bs : List Nat} {c d : KC} {er er' : Int} (h : KVer bs c er) (k : KVer bs d er') : er = er' ∧ c.like d := by
  rcases h with ⟨h1, rfl, rfl⟩ | ⟨h1, h2, rfl, rfl⟩ | ⟨h1, rfl, h2⟩ <;> rcases k with ⟨k1, rfl, rfl⟩ | ⟨k1, k2, rfl, rfl⟩ | ⟨k1, rfl, k2⟩
  · exact ⟨rfl, KC.like_refl _⟩
  · omega
  · omega
  · omega
  · exact ⟨rfl, KC.like_refl _⟩
  · exact (h2 _ k2).elim
  · omega
  · exact (k2 _ h2).elim
  · exact ⟨rfl, (cmdS_of h2).symm.trans (cmdS_of k2)⟩
theorem RVer.same {bs : List Nat} {c d : RR} {er er' : Int} (h : RVer bs c er) (k : RVer bs d er') : er = er' ∧ c.like d := by
  rcases h with ⟨h1, rfl, rfl⟩ | ⟨h1, h2, rfl, rfl⟩ | ⟨h1, rfl, h2⟩ <;> rcases k with ⟨k1, rfl, rfl⟩ | ⟨k1, k2, rfl, rfl⟩ | ⟨k1, rfl, k2⟩
  · exact ⟨rfl, RR.like_refl _⟩
  · omega
  · omega
  · omega
  · exact ⟨rfl, RR.like_refl _⟩
  · exact (h2 _ k2).elim
  · omega
  · exact (k2 _ h2).elim
  · exact ⟨rfl, (repS_of h2).symm.trans (repS_of k2)⟩
/-- A contract that can be read; its entries lie among entries, their wishes among numbers. -/
structure KCon (w : World) (q : CR) : Prop where
  len : q.n = q.es.length
  ow : ∃ g, Ow w tEnt 5 q.A q.n q.c (q.es.flatMap ER.cells) g
  le : q.n ≤ 1048576
  es : ∀ e ∈ q.es, REnt w e
theorem KCon.frt {w w' : World} {q : CR} (h : KCon w q) {S : Nat → Prop} (hf : Fr S w w') (h1 : ∀ x, Typed w x tEnt → ¬ S x) (hS : ∀ x, Typed w x 3 → ¬ S x) : KCon w' q := by
  obtain ⟨g, hg⟩ := h.ow
  exact ⟨h.len, ⟨g, hg.fr hf fun x e => h1 x (hg.typed x e)⟩, h.le, fun e he => (h.es e he).frt hf hS⟩
theorem KCon.at_ {w : World} {q : CR} (h : KCon w q) : q.at_ w := by
  obtain ⟨g, hg⟩ := h.ow
  have := hg.cap
  unfold maxLen at this
  have := h.le
  exact ⟨hg.sl, by omega, by omega, fun e he => (h.es e he).1⟩
theorem RCon.k {w : World} {q : CR} (h : RCon w q) : KCon w q := ⟨h.len, h.ow, by have := h.le; omega, h.es⟩
theorem REnt.of {w : World} {q : ER} {g : Option Nat} (h : Ow w 3 1 q.A q.n q.c (q.ws.map iv) g) (hn : q.n ≤ 1048576) : REnt w q := by
  have hc := h.cap
  unfold maxLen at hc
  exact ⟨⟨h.sl, by omega, hc.1, hc.2⟩, fun b o e => h.typed b (h.sblk' e)⟩
theorem Ents.k {W w : World} {q : CR} {g : Option Nat} (h : Ents W w q.es q.A q.n q.c g) (hn : q.n ≤ 1048576) : KCon w q :=
  ⟨h.len, ⟨g, h.ow⟩, hn, fun e he => by obtain ⟨h1, gi, h2, -⟩ := h.own e he; exact REnt.of h2 h1⟩
/-- A command that can be read. -/
def KT (w : World) (c : KC) : Prop := REnt w c.e ∧ KCon w c.k
def RT (w : World) (c : RR) : Prop := RLt w c.items c.A c.n c.c ∧ c.n ≤ 65536 ∧ KCon w c.k
theorem KT.frt {w w' : World} {q : KC} (h : KT w q) {S : Nat → Prop} (hf : Fr S w w') (h1 : ∀ x, Typed w x tEnt → ¬ S x) (hS : ∀ x, Typed w x 3 → ¬ S x) : KT w' q := ⟨h.1.frt hf hS, h.2.frt hf h1 hS⟩
theorem KT.at_ {w : World} {q : KC} (h : KT w q) : q.at_ w := ⟨h.1.1, h.2.at_⟩
theorem RT.frt {w w' : World} {q : RR} (h : RT w q) {S : Nat → Prop} (hf : Fr S w w') (h1 : ∀ x, Typed w x tEnt → ¬ S x) (hS : ∀ x, Typed w x 3 → ¬ S x) : RT w' q := ⟨h.1.frt hf hS, h.2.1, h.2.2.frt hf h1 hS⟩
theorem RT.at_ {w : World} {q : RR} (h : RT w q) : q.at_ w := ⟨h.1.1.sl, by have := h.2.1; omega, ⟨h.1.1.cap, h.1.1.cap2⟩, h.2.2.at_⟩
theorem zeroE_at (w : World) : REnt w zeroE := ⟨⟨Sl.nil_ _ _ _, by decide, by decide⟩, fun b o e => by cases e⟩
theorem zeroK_at (w : World) : KCon w zeroK := ⟨rfl, ⟨none, Ow.nil_ _ _ _⟩, by decide, fun e he => by cases he⟩
theorem strOf_nil : strOf [] = ⟨#[]⟩ := rfl
-- (from here on printed by pr_dlaw.py)
def DecIs (bs : List Nat) (w : World) (e : Ending) (w' : World) : Prop := ∃ (c : KC) (er : Int), e = .returned (.tuple #[.agg #[.int .i64 c.id, .int .i64 c.kind, .string (strOf c.name), .int .i64 c.to_, .int .u64 (c.co : Int), .int .i64 c.item, .int .i64 c.num, .int .i64 c.of_, .int .i64 c.e.acc, .int .i64 c.e.item, .int .u64 (c.e.co : Int), .int .u64 (c.e.pr : Int), .slice c.e.A c.e.n c.e.c, .int .i64 c.k.num, .int .i64 c.k.kind, .int .i64 c.k.by_, .int .i64 c.k.dl, .int .i64 c.k.to_, .int .i64 c.k.want, .int .u64 (c.k.pr : Int), .int .u64 (c.k.rs : Int), .int .u64 (c.k.st : Int), .int .i64 c.k.of_, .slice c.k.A c.k.n c.k.c], .int .i64 er]) ∧ Hid (KVer bs c er) ∧ Hid (KT w' c) ∧ Fr (fun _ => False) w w'
def RepIs (bs : List Nat) (w : World) (e : Ending) (w' : World) : Prop := ∃ (c : RR) (er : Int), e = .returned (.tuple #[.agg #[.int .i64 c.id, .int .i64 c.err, .int .i64 c.num, .int .u64 (c.co : Int), .slice c.A c.n c.c, .string (strOf c.txt), .int .u32 (c.bits : Int), .int .i64 c.k.num, .int .i64 c.k.kind, .int .i64 c.k.by_, .int .i64 c.k.dl, .int .i64 c.k.to_, .int .i64 c.k.want, .int .u64 (c.k.pr : Int), .int .u64 (c.k.rs : Int), .int .u64 (c.k.st : Int), .int .i64 c.k.of_, .slice c.k.A c.k.n c.k.c], .int .i64 er]) ∧ Hid (RVer bs c er) ∧ Hid (RT w' c) ∧ Fr (fun _ => False) w w'
theorem zeroC_T (w : World) : KT w zeroC := ⟨zeroE_at w, zeroK_at w⟩
theorem zeroR_T (w : World) : RT w zeroR := ⟨⟨⟨by decide, by decide, by decide, Sl.nil_ _ _ _⟩, fun b o e => by cases e⟩, by decide, zeroK_at w⟩
theorem DecPost.is {bs : List Nat} {w w' : World} {e : Ending} (h : DecPost bs w e w') : DecIs bs w e w' := by
  rcases h with ⟨h1, rfl, hf⟩ | ⟨h1, h2, rfl, hf⟩ | ⟨h1, c, h2, rfl, h3, hf⟩
  · exact ⟨zeroC, 3, rfl, .inl ⟨h1, rfl, rfl⟩, zeroC_T _, hf⟩
  · exact ⟨zeroC, 270, rfl, .inr (.inl ⟨h1, h2, rfl, rfl⟩), zeroC_T _, hf⟩
  · obtain ⟨ge, o1, -⟩ := h3.eo
    obtain ⟨gk, o2⟩ := h3.ko
    exact ⟨c, 0, rfl, .inr (.inr ⟨h1, rfl, h2⟩), ⟨REnt.of o1 h3.en, o2.k h3.kn⟩, hf⟩
theorem RepPost.is {bs : List Nat} {w w' : World} {e : Ending} (h : RepPost bs w e w') : RepIs bs w e w' := by
  rcases h with ⟨h1, rfl, hf⟩ | ⟨h1, h2, rfl, hf⟩ | ⟨h1, c, h2, rfl, h3, hf⟩
  · exact ⟨zeroR, 3, rfl, .inl ⟨h1, rfl, rfl⟩, zeroR_T _, hf⟩
  · exact ⟨zeroR, 270, rfl, .inr (.inl ⟨h1, h2, rfl, rfl⟩), zeroR_T _, hf⟩
  · obtain ⟨ge, o1, -⟩ := h3.eo
    obtain ⟨gk, o2⟩ := h3.ko
    have hc := o1.cap
    unfold maxLen at hc
    have hlen : c.n = c.items.length := by have := o1.1; simpa using this.symm
    have hle := (RR.ok_split h2.ok).2.2.2.2.1
    exact ⟨c, 0, rfl, .inr (.inr ⟨h1, rfl, h2⟩), ⟨⟨⟨by omega, hc.1, hc.2, o1.sl⟩, fun b o e => o1.typed b (o1.sblk' e)⟩, by omega, o2.k h3.kn⟩, hf⟩
abbrev tCL : TypeId := 31
abbrev tRL : TypeId := 35
theorem box_cmd {w : World} {g : Nat} (q : KC) (h : Bl w g tCL #[.int .i64 q.id, .int .i64 q.kind, .string (strOf q.name), .int .i64 q.to_, .int .u64 (q.co : Int), .int .i64 q.item, .int .i64 q.num, .int .i64 q.of_, .int .i64 q.e.acc, .int .i64 q.e.item, .int .u64 (q.e.co : Int), .int .u64 (q.e.pr : Int), .slice q.e.A q.e.n q.e.c, .int .i64 q.k.num, .int .i64 q.k.kind, .int .i64 q.k.by_, .int .i64 q.k.dl, .int .i64 q.k.to_, .int .i64 q.k.want, .int .u64 (q.k.pr : Int), .int .u64 (q.k.rs : Int), .int .u64 (q.k.st : Int), .int .i64 q.k.of_, .slice q.k.A q.k.n q.k.c]) : (Instr.loadAt tCL (.pointer (some ⟨g, 0, none⟩))).run Try.prog w = .ok (.agg #[.int .i64 q.id, .int .i64 q.kind, .string (strOf q.name), .int .i64 q.to_, .int .u64 (q.co : Int), .int .i64 q.item, .int .i64 q.num, .int .i64 q.of_, .int .i64 q.e.acc, .int .i64 q.e.item, .int .u64 (q.e.co : Int), .int .u64 (q.e.pr : Int), .slice q.e.A q.e.n q.e.c, .int .i64 q.k.num, .int .i64 q.k.kind, .int .i64 q.k.by_, .int .i64 q.k.dl, .int .i64 q.k.to_, .int .i64 q.k.want, .int .u64 (q.k.pr : Int), .int .u64 (q.k.rs : Int), .int .u64 (q.k.st : Int), .int .i64 q.k.of_, .slice q.k.A q.k.n q.k.c]) w :=
  run_loadAt_at (P := Try.prog) tCL g 0 tCL _ #[.int .i64 q.id, .int .i64 q.kind, .string (strOf q.name), .int .i64 q.to_, .int .u64 (q.co : Int), .int .i64 q.item, .int .i64 q.num, .int .i64 q.of_, .int .i64 q.e.acc, .int .i64 q.e.item, .int .u64 (q.e.co : Int), .int .u64 (q.e.pr : Int), .slice q.e.A q.e.n q.e.c, .int .i64 q.k.num, .int .i64 q.k.kind, .int .i64 q.k.by_, .int .i64 q.k.dl, .int .i64 q.k.to_, .int .i64 q.k.want, .int .u64 (q.k.pr : Int), .int .u64 (q.k.rs : Int), .int .u64 (q.k.st : Int), .int .i64 q.k.of_, .slice q.k.A q.k.n q.k.c] _ Try.underlying31 rfl (by kernel_rfl) rfl h
theorem box_rep {w : World} {g : Nat} (q : RR) (h : Bl w g tRL #[.int .i64 q.id, .int .i64 q.err, .int .i64 q.num, .int .u64 (q.co : Int), .slice q.A q.n q.c, .string (strOf q.txt), .int .u32 (q.bits : Int), .int .i64 q.k.num, .int .i64 q.k.kind, .int .i64 q.k.by_, .int .i64 q.k.dl, .int .i64 q.k.to_, .int .i64 q.k.want, .int .u64 (q.k.pr : Int), .int .u64 (q.k.rs : Int), .int .u64 (q.k.st : Int), .int .i64 q.k.of_, .slice q.k.A q.k.n q.k.c]) : (Instr.loadAt tRL (.pointer (some ⟨g, 0, none⟩))).run Try.prog w = .ok (.agg #[.int .i64 q.id, .int .i64 q.err, .int .i64 q.num, .int .u64 (q.co : Int), .slice q.A q.n q.c, .string (strOf q.txt), .int .u32 (q.bits : Int), .int .i64 q.k.num, .int .i64 q.k.kind, .int .i64 q.k.by_, .int .i64 q.k.dl, .int .i64 q.k.to_, .int .i64 q.k.want, .int .u64 (q.k.pr : Int), .int .u64 (q.k.rs : Int), .int .u64 (q.k.st : Int), .int .i64 q.k.of_, .slice q.k.A q.k.n q.k.c]) w :=
  run_loadAt_at (P := Try.prog) tRL g 0 tRL _ #[.int .i64 q.id, .int .i64 q.err, .int .i64 q.num, .int .u64 (q.co : Int), .slice q.A q.n q.c, .string (strOf q.txt), .int .u32 (q.bits : Int), .int .i64 q.k.num, .int .i64 q.k.kind, .int .i64 q.k.by_, .int .i64 q.k.dl, .int .i64 q.k.to_, .int .i64 q.k.want, .int .u64 (q.k.pr : Int), .int .u64 (q.k.rs : Int), .int .u64 (q.k.st : Int), .int .i64 q.k.of_, .slice q.k.A q.k.n q.k.c] _ Try.underlying35 rfl (by kernel_rfl) rfl h
theorem put_cmd {w : World} (q : KC) : (Instr.storeAt tCL (.pointer (some ⟨w.heap.size, 0, none⟩)) (.agg #[.int .i64 q.id, .int .i64 q.kind, .string (strOf q.name), .int .i64 q.to_, .int .u64 (q.co : Int), .int .i64 q.item, .int .i64 q.num, .int .i64 q.of_, .int .i64 q.e.acc, .int .i64 q.e.item, .int .u64 (q.e.co : Int), .int .u64 (q.e.pr : Int), .slice q.e.A q.e.n q.e.c, .int .i64 q.k.num, .int .i64 q.k.kind, .int .i64 q.k.by_, .int .i64 q.k.dl, .int .i64 q.k.to_, .int .i64 q.k.want, .int .u64 (q.k.pr : Int), .int .u64 (q.k.rs : Int), .int .u64 (q.k.st : Int), .int .i64 q.k.of_, .slice q.k.A q.k.n q.k.c])).run Try.prog (w.alloc (.cells #[.int .i64 0, .int .i64 0, .string ⟨#[]⟩, .int .i64 0, .int .u64 0, .int .i64 0, .int .i64 0, .int .i64 0, .int .i64 0, .int .i64 0, .int .u64 0, .int .u64 0, .slice none 0 0, .int .i64 0, .int .i64 0, .int .i64 0, .int .i64 0, .int .i64 0, .int .i64 0, .int .u64 0, .int .u64 0, .int .u64 0, .int .i64 0, .slice none 0 0] tCL)) = .ok () ((w.alloc (.cells #[.int .i64 0, .int .i64 0, .string ⟨#[]⟩, .int .i64 0, .int .u64 0, .int .i64 0, .int .i64 0, .int .i64 0, .int .i64 0, .int .i64 0, .int .u64 0, .int .u64 0, .slice none 0 0, .int .i64 0, .int .i64 0, .int .i64 0, .int .i64 0, .int .i64 0, .int .i64 0, .int .u64 0, .int .u64 0, .int .u64 0, .int .i64 0, .slice none 0 0] tCL)).setRow w.heap.size #[.int .i64 q.id, .int .i64 q.kind, .string (strOf q.name), .int .i64 q.to_, .int .u64 (q.co : Int), .int .i64 q.item, .int .i64 q.num, .int .i64 q.of_, .int .i64 q.e.acc, .int .i64 q.e.item, .int .u64 (q.e.co : Int), .int .u64 (q.e.pr : Int), .slice q.e.A q.e.n q.e.c, .int .i64 q.k.num, .int .i64 q.k.kind, .int .i64 q.k.by_, .int .i64 q.k.dl, .int .i64 q.k.to_, .int .i64 q.k.want, .int .u64 (q.k.pr : Int), .int .u64 (q.k.rs : Int), .int .u64 (q.k.st : Int), .int .i64 q.k.of_, .slice q.k.A q.k.n q.k.c]) :=
  run_storeAt_at (P := Try.prog) tCL w.heap.size 0 tCL #[.int .i64 0, .int .i64 0, .string ⟨#[]⟩, .int .i64 0, .int .u64 0, .int .i64 0, .int .i64 0, .int .i64 0, .int .i64 0, .int .i64 0, .int .u64 0, .int .u64 0, .slice none 0 0, .int .i64 0, .int .i64 0, .int .i64 0, .int .i64 0, .int .i64 0, .int .i64 0, .int .u64 0, .int .u64 0, .int .u64 0, .int .i64 0, .slice none 0 0] #[.int .i64 q.id, .int .i64 q.kind, .string (strOf q.name), .int .i64 q.to_, .int .u64 (q.co : Int), .int .i64 q.item, .int .i64 q.num, .int .i64 q.of_, .int .i64 q.e.acc, .int .i64 q.e.item, .int .u64 (q.e.co : Int), .int .u64 (q.e.pr : Int), .slice q.e.A q.e.n q.e.c, .int .i64 q.k.num, .int .i64 q.k.kind, .int .i64 q.k.by_, .int .i64 q.k.dl, .int .i64 q.k.to_, .int .i64 q.k.want, .int .u64 (q.k.pr : Int), .int .u64 (q.k.rs : Int), .int .u64 (q.k.st : Int), .int .i64 q.k.of_, .slice q.k.A q.k.n q.k.c] #[.int .i64 q.id, .int .i64 q.kind, .string (strOf q.name), .int .i64 q.to_, .int .u64 (q.co : Int), .int .i64 q.item, .int .i64 q.num, .int .i64 q.of_, .int .i64 q.e.acc, .int .i64 q.e.item, .int .u64 (q.e.co : Int), .int .u64 (q.e.pr : Int), .slice q.e.A q.e.n q.e.c, .int .i64 q.k.num, .int .i64 q.k.kind, .int .i64 q.k.by_, .int .i64 q.k.dl, .int .i64 q.k.to_, .int .i64 q.k.want, .int .u64 (q.k.pr : Int), .int .u64 (q.k.rs : Int), .int .u64 (q.k.st : Int), .int .i64 q.k.of_, .slice q.k.A q.k.n q.k.c] (by kernel_rfl) 24 24 rfl rfl (by decide) rfl rfl (Bl.new w tCL #[.int .i64 0, .int .i64 0, .string ⟨#[]⟩, .int .i64 0, .int .u64 0, .int .i64 0, .int .i64 0, .int .i64 0, .int .i64 0, .int .i64 0, .int .u64 0, .int .u64 0, .slice none 0 0, .int .i64 0, .int .i64 0, .int .i64 0, .int .i64 0, .int .i64 0, .int .i64 0, .int .u64 0, .int .u64 0, .int .u64 0, .int .i64 0, .slice none 0 0])
theorem put_rep {w : World} (q : RR) : (Instr.storeAt tRL (.pointer (some ⟨w.heap.size, 0, none⟩)) (.agg #[.int .i64 q.id, .int .i64 q.err, .int .i64 q.num, .int .u64 (q.co : Int), .slice q.A q.n q.c, .string (strOf q.txt), .int .u32 (q.bits : Int), .int .i64 q.k.num, .int .i64 q.k.kind, .int .i64 q.k.by_, .int .i64 q.k.dl, .int .i64 q.k.to_, .int .i64 q.k.want, .int .u64 (q.k.pr : Int), .int .u64 (q.k.rs : Int), .int .u64 (q.k.st : Int), .int .i64 q.k.of_, .slice q.k.A q.k.n q.k.c])).run Try.prog (w.alloc (.cells #[.int .i64 0, .int .i64 0, .int .i64 0, .int .u64 0, .slice none 0 0, .string ⟨#[]⟩, .int .u32 0, .int .i64 0, .int .i64 0, .int .i64 0, .int .i64 0, .int .i64 0, .int .i64 0, .int .u64 0, .int .u64 0, .int .u64 0, .int .i64 0, .slice none 0 0] tRL)) = .ok () ((w.alloc (.cells #[.int .i64 0, .int .i64 0, .int .i64 0, .int .u64 0, .slice none 0 0, .string ⟨#[]⟩, .int .u32 0, .int .i64 0, .int .i64 0, .int .i64 0, .int .i64 0, .int .i64 0, .int .i64 0, .int .u64 0, .int .u64 0, .int .u64 0, .int .i64 0, .slice none 0 0] tRL)).setRow w.heap.size #[.int .i64 q.id, .int .i64 q.err, .int .i64 q.num, .int .u64 (q.co : Int), .slice q.A q.n q.c, .string (strOf q.txt), .int .u32 (q.bits : Int), .int .i64 q.k.num, .int .i64 q.k.kind, .int .i64 q.k.by_, .int .i64 q.k.dl, .int .i64 q.k.to_, .int .i64 q.k.want, .int .u64 (q.k.pr : Int), .int .u64 (q.k.rs : Int), .int .u64 (q.k.st : Int), .int .i64 q.k.of_, .slice q.k.A q.k.n q.k.c]) :=
  run_storeAt_at (P := Try.prog) tRL w.heap.size 0 tRL #[.int .i64 0, .int .i64 0, .int .i64 0, .int .u64 0, .slice none 0 0, .string ⟨#[]⟩, .int .u32 0, .int .i64 0, .int .i64 0, .int .i64 0, .int .i64 0, .int .i64 0, .int .i64 0, .int .u64 0, .int .u64 0, .int .u64 0, .int .i64 0, .slice none 0 0] #[.int .i64 q.id, .int .i64 q.err, .int .i64 q.num, .int .u64 (q.co : Int), .slice q.A q.n q.c, .string (strOf q.txt), .int .u32 (q.bits : Int), .int .i64 q.k.num, .int .i64 q.k.kind, .int .i64 q.k.by_, .int .i64 q.k.dl, .int .i64 q.k.to_, .int .i64 q.k.want, .int .u64 (q.k.pr : Int), .int .u64 (q.k.rs : Int), .int .u64 (q.k.st : Int), .int .i64 q.k.of_, .slice q.k.A q.k.n q.k.c] #[.int .i64 q.id, .int .i64 q.err, .int .i64 q.num, .int .u64 (q.co : Int), .slice q.A q.n q.c, .string (strOf q.txt), .int .u32 (q.bits : Int), .int .i64 q.k.num, .int .i64 q.k.kind, .int .i64 q.k.by_, .int .i64 q.k.dl, .int .i64 q.k.to_, .int .i64 q.k.want, .int .u64 (q.k.pr : Int), .int .u64 (q.k.rs : Int), .int .u64 (q.k.st : Int), .int .i64 q.k.of_, .slice q.k.A q.k.n q.k.c] (by kernel_rfl) 18 18 rfl rfl (by decide) rfl rfl (Bl.new w tRL #[.int .i64 0, .int .i64 0, .int .i64 0, .int .u64 0, .slice none 0 0, .string ⟨#[]⟩, .int .u32 0, .int .i64 0, .int .i64 0, .int .i64 0, .int .i64 0, .int .i64 0, .int .i64 0, .int .u64 0, .int .u64 0, .int .u64 0, .int .i64 0, .slice none 0 0])
theorem box_new {w : World} (t : TypeId) (z cs : Array Value) : Bl ((w.alloc (.cells z t)).setRow w.heap.size cs) w.heap.size t cs ∧ Fr (fun _ => False) w ((w.alloc (.cells z t)).setRow w.heap.size cs) :=
  ⟨(Bl.new w t z).setRow cs, Fr.setRow ((Fr.refl _ _).alloc _) (.inr (Nat.le_refl _)) _⟩
theorem KT.quiet {w w' : World} {q : KC} (h : KT w q) (hf : Fr (fun _ => False) w w') : KT w' q := h.frt hf (fun _ _ => id) (fun _ _ => id)
theorem RT.quiet {w w' : World} {q : RR} (h : RT w q) (hf : Fr (fun _ => False) w w') : RT w' q := h.frt hf (fun _ _ => id) (fun _ _ => id)
end Go.Proofs.Ytlcjhbemgagchaa
end
