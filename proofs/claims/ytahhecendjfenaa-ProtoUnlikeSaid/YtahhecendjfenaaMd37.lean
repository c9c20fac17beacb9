/-
  Texts merged into one, to keep the claim small: PdL.
-/
import Derived.Test.YtahhecendjfenaaMd36
/-
  ProtoDecodes: the walk. (printed by pr_dlaw.py)
-/
namespace Go.Proofs.Ytahhecendjfenaa
open Go.RowKit
set_option linter.unusedVariables false
set_option linter.unusedSimpArgs false
abbrev tCL : TypeId := 47
abbrev tRL : TypeId := 30
theorem box_cmd {w : World} {g : Nat} (q : KC) (h : Bl w g tCL #[.int .i64 q.id, .int .i64 q.kind, .string (strOf q.name), .int .i64 q.to_, .int .u64 (q.co : Int), .int .i64 q.item, .int .i64 q.num, .int .i64 q.of_, .int .i64 q.e.acc, .int .i64 q.e.item, .int .u64 (q.e.co : Int), .int .u64 (q.e.pr : Int), .slice q.e.A q.e.n q.e.c, .int .i64 q.k.num, .int .i64 q.k.kind, .int .i64 q.k.by_, .int .i64 q.k.dl, .int .i64 q.k.to_, .int .i64 q.k.want, .int .u64 (q.k.pr : Int), .int .u64 (q.k.rs : Int), .int .u64 (q.k.st : Int), .int .i64 q.k.of_, .slice q.k.A q.k.n q.k.c]) : (Instr.loadAt tCL (.pointer (some ⟨g, 0, none⟩))).run Try.prog w = .ok (.agg #[.int .i64 q.id, .int .i64 q.kind, .string (strOf q.name), .int .i64 q.to_, .int .u64 (q.co : Int), .int .i64 q.item, .int .i64 q.num, .int .i64 q.of_, .int .i64 q.e.acc, .int .i64 q.e.item, .int .u64 (q.e.co : Int), .int .u64 (q.e.pr : Int), .slice q.e.A q.e.n q.e.c, .int .i64 q.k.num, .int .i64 q.k.kind, .int .i64 q.k.by_, .int .i64 q.k.dl, .int .i64 q.k.to_, .int .i64 q.k.want, .int .u64 (q.k.pr : Int), .int .u64 (q.k.rs : Int), .int .u64 (q.k.st : Int), .int .i64 q.k.of_, .slice q.k.A q.k.n q.k.c]) w :=
  run_loadAt_at (P := Try.prog) tCL g 0 tCL _ #[.int .i64 q.id, .int .i64 q.kind, .string (strOf q.name), .int .i64 q.to_, .int .u64 (q.co : Int), .int .i64 q.item, .int .i64 q.num, .int .i64 q.of_, .int .i64 q.e.acc, .int .i64 q.e.item, .int .u64 (q.e.co : Int), .int .u64 (q.e.pr : Int), .slice q.e.A q.e.n q.e.c, .int .i64 q.k.num, .int .i64 q.k.kind, .int .i64 q.k.by_, .int .i64 q.k.dl, .int .i64 q.k.to_, .int .i64 q.k.want, .int .u64 (q.k.pr : Int), .int .u64 (q.k.rs : Int), .int .u64 (q.k.st : Int), .int .i64 q.k.of_, .slice q.k.A q.k.n q.k.c] _ Try.underlying47 rfl (by kernel_rfl) rfl h
theorem box_rep {w : World} {g : Nat} (q : RR) (h : Bl w g tRL #[.int .i64 q.id, .int .i64 q.err, .int .i64 q.num, .int .u64 (q.co : Int), .slice q.A q.n q.c, .string (strOf q.txt), .int .u32 (q.bits : Int), .int .i64 q.k.num, .int .i64 q.k.kind, .int .i64 q.k.by_, .int .i64 q.k.dl, .int .i64 q.k.to_, .int .i64 q.k.want, .int .u64 (q.k.pr : Int), .int .u64 (q.k.rs : Int), .int .u64 (q.k.st : Int), .int .i64 q.k.of_, .slice q.k.A q.k.n q.k.c]) : (Instr.loadAt tRL (.pointer (some ⟨g, 0, none⟩))).run Try.prog w = .ok (.agg #[.int .i64 q.id, .int .i64 q.err, .int .i64 q.num, .int .u64 (q.co : Int), .slice q.A q.n q.c, .string (strOf q.txt), .int .u32 (q.bits : Int), .int .i64 q.k.num, .int .i64 q.k.kind, .int .i64 q.k.by_, .int .i64 q.k.dl, .int .i64 q.k.to_, .int .i64 q.k.want, .int .u64 (q.k.pr : Int), .int .u64 (q.k.rs : Int), .int .u64 (q.k.st : Int), .int .i64 q.k.of_, .slice q.k.A q.k.n q.k.c]) w :=
  run_loadAt_at (P := Try.prog) tRL g 0 tRL _ #[.int .i64 q.id, .int .i64 q.err, .int .i64 q.num, .int .u64 (q.co : Int), .slice q.A q.n q.c, .string (strOf q.txt), .int .u32 (q.bits : Int), .int .i64 q.k.num, .int .i64 q.k.kind, .int .i64 q.k.by_, .int .i64 q.k.dl, .int .i64 q.k.to_, .int .i64 q.k.want, .int .u64 (q.k.pr : Int), .int .u64 (q.k.rs : Int), .int .u64 (q.k.st : Int), .int .i64 q.k.of_, .slice q.k.A q.k.n q.k.c] _ Try.underlying30 rfl (by kernel_rfl) rfl h
theorem put_cmd {w : World} (q : KC) : (Instr.storeAt tCL (.pointer (some ⟨w.heap.size, 0, none⟩)) (.agg #[.int .i64 q.id, .int .i64 q.kind, .string (strOf q.name), .int .i64 q.to_, .int .u64 (q.co : Int), .int .i64 q.item, .int .i64 q.num, .int .i64 q.of_, .int .i64 q.e.acc, .int .i64 q.e.item, .int .u64 (q.e.co : Int), .int .u64 (q.e.pr : Int), .slice q.e.A q.e.n q.e.c, .int .i64 q.k.num, .int .i64 q.k.kind, .int .i64 q.k.by_, .int .i64 q.k.dl, .int .i64 q.k.to_, .int .i64 q.k.want, .int .u64 (q.k.pr : Int), .int .u64 (q.k.rs : Int), .int .u64 (q.k.st : Int), .int .i64 q.k.of_, .slice q.k.A q.k.n q.k.c])).run Try.prog (w.alloc (.cells #[.int .i64 0, .int .i64 0, .string ⟨#[]⟩, .int .i64 0, .int .u64 0, .int .i64 0, .int .i64 0, .int .i64 0, .int .i64 0, .int .i64 0, .int .u64 0, .int .u64 0, .slice none 0 0, .int .i64 0, .int .i64 0, .int .i64 0, .int .i64 0, .int .i64 0, .int .i64 0, .int .u64 0, .int .u64 0, .int .u64 0, .int .i64 0, .slice none 0 0] tCL)) = .ok () ((w.alloc (.cells #[.int .i64 0, .int .i64 0, .string ⟨#[]⟩, .int .i64 0, .int .u64 0, .int .i64 0, .int .i64 0, .int .i64 0, .int .i64 0, .int .i64 0, .int .u64 0, .int .u64 0, .slice none 0 0, .int .i64 0, .int .i64 0, .int .i64 0, .int .i64 0, .int .i64 0, .int .i64 0, .int .u64 0, .int .u64 0, .int .u64 0, .int .i64 0, .slice none 0 0] tCL)).setRow w.heap.size #[.int .i64 q.id, .int .i64 q.kind, .string (strOf q.name), .int .i64 q.to_, .int .u64 (q.co : Int), .int .i64 q.item, .int .i64 q.num, .int .i64 q.of_, .int .i64 q.e.acc, .int .i64 q.e.item, .int .u64 (q.e.co : Int), .int .u64 (q.e.pr : Int), .slice q.e.A q.e.n q.e.c, .int .i64 q.k.num, .int .i64 q.k.kind, .int .i64 q.k.by_, .int .i64 q.k.dl, .int .i64 q.k.to_, .int .i64 q.k.want, .int .u64 (q.k.pr : Int), .int .u64 (q.k.rs : Int), .int .u64 (q.k.st : Int), .int .i64 q.k.of_, .slice q.k.A q.k.n q.k.c]) :=
  run_storeAt_at (P := Try.prog) tCL w.heap.size 0 tCL #[.int .i64 0, .int .i64 0, .string ⟨#[]⟩, .int .i64 0, .int .u64 0, .int .i64 0, .int .i64 0, .int .i64 0, .int .i64 0, .int .i64 0, .int .u64 0, .int .u64 0, .slice none 0 0, .int .i64 0, .int .i64 0, .int .i64 0, .int .i64 0, .int .i64 0, .int .i64 0, .int .u64 0, .int .u64 0, .int .u64 0, .int .i64 0, .slice none 0 0] #[.int .i64 q.id, .int .i64 q.kind, .string (strOf q.name), .int .i64 q.to_, .int .u64 (q.co : Int), .int .i64 q.item, .int .i64 q.num, .int .i64 q.of_, .int .i64 q.e.acc, .int .i64 q.e.item, .int .u64 (q.e.co : Int), .int .u64 (q.e.pr : Int), .slice q.e.A q.e.n q.e.c, .int .i64 q.k.num, .int .i64 q.k.kind, .int .i64 q.k.by_, .int .i64 q.k.dl, .int .i64 q.k.to_, .int .i64 q.k.want, .int .u64 (q.k.pr : Int), .int .u64 (q.k.rs : Int), .int .u64 (q.k.st : Int), .int .i64 q.k.of_, .slice q.k.A q.k.n q.k.c] #[.int .i64 q.id, .int .i64 q.kind, .string (strOf q.name), .int .i64 q.to_, .int .u64 (q.co : Int), .int .i64 q.item, .int .i64 q.num, .int .i64 q.of_, .int .i64 q.e.acc, .int .i64 q.e.item, .int .u64 (q.e.co : Int), .int .u64 (q.e.pr : Int), .slice q.e.A q.e.n q.e.c, .int .i64 q.k.num, .int .i64 q.k.kind, .int .i64 q.k.by_, .int .i64 q.k.dl, .int .i64 q.k.to_, .int .i64 q.k.want, .int .u64 (q.k.pr : Int), .int .u64 (q.k.rs : Int), .int .u64 (q.k.st : Int), .int .i64 q.k.of_, .slice q.k.A q.k.n q.k.c] (by kernel_rfl) 24 24 rfl rfl (by decide) rfl rfl (Bl.new w tCL #[.int .i64 0, .int .i64 0, .string ⟨#[]⟩, .int .i64 0, .int .u64 0, .int .i64 0, .int .i64 0, .int .i64 0, .int .i64 0, .int .i64 0, .int .u64 0, .int .u64 0, .slice none 0 0, .int .i64 0, .int .i64 0, .int .i64 0, .int .i64 0, .int .i64 0, .int .i64 0, .int .u64 0, .int .u64 0, .int .u64 0, .int .i64 0, .slice none 0 0])
theorem put_rep {w : World} (q : RR) : (Instr.storeAt tRL (.pointer (some ⟨w.heap.size, 0, none⟩)) (.agg #[.int .i64 q.id, .int .i64 q.err, .int .i64 q.num, .int .u64 (q.co : Int), .slice q.A q.n q.c, .string (strOf q.txt), .int .u32 (q.bits : Int), .int .i64 q.k.num, .int .i64 q.k.kind, .int .i64 q.k.by_, .int .i64 q.k.dl, .int .i64 q.k.to_, .int .i64 q.k.want, .int .u64 (q.k.pr : Int), .int .u64 (q.k.rs : Int), .int .u64 (q.k.st : Int), .int .i64 q.k.of_, .slice q.k.A q.k.n q.k.c])).run Try.prog (w.alloc (.cells #[.int .i64 0, .int .i64 0, .int .i64 0, .int .u64 0, .slice none 0 0, .string ⟨#[]⟩, .int .u32 0, .int .i64 0, .int .i64 0, .int .i64 0, .int .i64 0, .int .i64 0, .int .i64 0, .int .u64 0, .int .u64 0, .int .u64 0, .int .i64 0, .slice none 0 0] tRL)) = .ok () ((w.alloc (.cells #[.int .i64 0, .int .i64 0, .int .i64 0, .int .u64 0, .slice none 0 0, .string ⟨#[]⟩, .int .u32 0, .int .i64 0, .int .i64 0, .int .i64 0, .int .i64 0, .int .i64 0, .int .i64 0, .int .u64 0, .int .u64 0, .int .u64 0, .int .i64 0, .slice none 0 0] tRL)).setRow w.heap.size #[.int .i64 q.id, .int .i64 q.err, .int .i64 q.num, .int .u64 (q.co : Int), .slice q.A q.n q.c, .string (strOf q.txt), .int .u32 (q.bits : Int), .int .i64 q.k.num, .int .i64 q.k.kind, .int .i64 q.k.by_, .int .i64 q.k.dl, .int .i64 q.k.to_, .int .i64 q.k.want, .int .u64 (q.k.pr : Int), .int .u64 (q.k.rs : Int), .int .u64 (q.k.st : Int), .int .i64 q.k.of_, .slice q.k.A q.k.n q.k.c]) :=
  run_storeAt_at (P := Try.prog) tRL w.heap.size 0 tRL #[.int .i64 0, .int .i64 0, .int .i64 0, .int .u64 0, .slice none 0 0, .string ⟨#[]⟩, .int .u32 0, .int .i64 0, .int .i64 0, .int .i64 0, .int .i64 0, .int .i64 0, .int .i64 0, .int .u64 0, .int .u64 0, .int .u64 0, .int .i64 0, .slice none 0 0] #[.int .i64 q.id, .int .i64 q.err, .int .i64 q.num, .int .u64 (q.co : Int), .slice q.A q.n q.c, .string (strOf q.txt), .int .u32 (q.bits : Int), .int .i64 q.k.num, .int .i64 q.k.kind, .int .i64 q.k.by_, .int .i64 q.k.dl, .int .i64 q.k.to_, .int .i64 q.k.want, .int .u64 (q.k.pr : Int), .int .u64 (q.k.rs : Int), .int .u64 (q.k.st : Int), .int .i64 q.k.of_, .slice q.k.A q.k.n q.k.c] #[.int .i64 q.id, .int .i64 q.err, .int .i64 q.num, .int .u64 (q.co : Int), .slice q.A q.n q.c, .string (strOf q.txt), .int .u32 (q.bits : Int), .int .i64 q.k.num, .int .i64 q.k.kind, .int .i64 q.k.by_, .int .i64 q.k.dl, .int .i64 q.k.to_, .int .i64 q.k.want, .int .u64 (q.k.pr : Int), .int .u64 (q.k.rs : Int), .int .u64 (q.k.st : Int), .int .i64 q.k.of_, .slice q.k.A q.k.n q.k.c] (by kernel_rfl) 18 18 rfl rfl (by decide) rfl rfl (Bl.new w tRL #[.int .i64 0, .int .i64 0, .int .i64 0, .int .u64 0, .slice none 0 0, .string ⟨#[]⟩, .int .u32 0, .int .i64 0, .int .i64 0, .int .i64 0, .int .i64 0, .int .i64 0, .int .i64 0, .int .u64 0, .int .u64 0, .int .u64 0, .int .i64 0, .slice none 0 0])
theorem box_new {w : World} (t : TypeId) (z cs : Array Value) : Bl ((w.alloc (.cells z t)).setRow w.heap.size cs) w.heap.size t cs ∧ Fr (fun _ => False) w ((w.alloc (.cells z t)).setRow w.heap.size cs) :=
  ⟨(Bl.new w t z).setRow cs, Fr.setRow ((Fr.refl _ _).alloc _) (.inr (Nat.le_refl _)) _⟩
theorem KT.quiet {w w' : World} {q : KC} (h : KT w q) (hf : Fr (fun _ => False) w w') : KT w' q := h.frt hf (fun _ _ => id) (fun _ _ => id)
theorem RT.quiet {w w' : World} {q : RR} (h : RT w q) (hf : Fr (fun _ => False) w w') : RT w' q := h.frt hf (fun _ _ => id) (fun _ _ => id)
set_option maxHeartbeats 16000000 in
set_option maxRecDepth 8000 in
attribute [-go_sem] Go.Instr.loadAt Go.Instr.storeAt in
theorem decodes_walk
    (hcmd : ∀ w1 (q : KC), q.at_ w1 → Calls Try.prog 49 #[.agg #[.int .i64 q.id, .int .i64 q.kind, .string (strOf q.name), .int .i64 q.to_, .int .u64 (q.co : Int), .int .i64 q.item, .int .i64 q.num, .int .i64 q.of_, .int .i64 q.e.acc, .int .i64 q.e.item, .int .u64 (q.e.co : Int), .int .u64 (q.e.pr : Int), .slice q.e.A q.e.n q.e.c, .int .i64 q.k.num, .int .i64 q.k.kind, .int .i64 q.k.by_, .int .i64 q.k.dl, .int .i64 q.k.to_, .int .i64 q.k.want, .int .u64 (q.k.pr : Int), .int .u64 (q.k.rs : Int), .int .u64 (q.k.st : Int), .int .i64 q.k.of_, .slice q.k.A q.k.n q.k.c]] w1 fun e w' => e = .returned (.bool q.ok) ∧ Fr (fun _ => False) w1 w')
    (hmay : ∀ w1 (q : KC), q.at_ w1 → q.wf → Calls Try.prog 51 #[.agg #[.int .i64 q.id, .int .i64 q.kind, .string (strOf q.name), .int .i64 q.to_, .int .u64 (q.co : Int), .int .i64 q.item, .int .i64 q.num, .int .i64 q.of_, .int .i64 q.e.acc, .int .i64 q.e.item, .int .u64 (q.e.co : Int), .int .u64 (q.e.pr : Int), .slice q.e.A q.e.n q.e.c, .int .i64 q.k.num, .int .i64 q.k.kind, .int .i64 q.k.by_, .int .i64 q.k.dl, .int .i64 q.k.to_, .int .i64 q.k.want, .int .u64 (q.k.pr : Int), .int .u64 (q.k.rs : Int), .int .u64 (q.k.st : Int), .int .i64 q.k.of_, .slice q.k.A q.k.n q.k.c]] w1 fun e w' => e = .returned (.bool q.ok) ∧ Fr (fun _ => False) w1 w')
    (w : World) (xs : List Nat) (A : Option Addr) (n c : Nat) (hl : n = xs.length) (hn : n ≤ 140737488351232) (h256 : ∀ x ∈ xs, x < 256) (hS : Sl w 1 A n (xs.map bn))
    (zs : List Nat) (B : Option Addr) (m d : Nat) (hlz : m = zs.length) (hz256 : ∀ x ∈ zs, x < 256) (hSz : Sl w 1 B m (zs.map bn)) :
    Calls Try.prog 5 #[.slice A n c, .slice B m d] w fun e w' => e = .returned (.bool true) ∧ Below w.heap.size w w' := by
  obtain ⟨i0, hi, hz0, hz1, hz2⟩ := info_parts info5
  have HC := hide hcmd
  have HM := hide hmay
  have Hl := hide hl
  have H256 := hide h256
  have HSz := hide hSz
  have Hz256 := hide hz256
  have Hlz := hide hlz
  clear hcmd hmay hl h256 hSz hz256 hlz
  go_enter Try.func5, Try.ntmps5
  go_wp2_with (first | (at_builtin; go_loud (refine wpList_append_ow _ rfl _ _ 33 rfl 5 i0 (.int .u8 0) 1 1 Try.underlying33 hi hz0 hz1 hz2 rfl (by decide) _ _ _ _ _ rfl (Ow.made w 5 1 0 0 #[] [] rfl (by omega) (by unfold maxLen; omega) (by simp)) _ _ _ (xs.map bn) rfl (hS.quiet ((Fr.refl _ _).alloc _)) (bn_one xs) (by unfold maxLen; omega) (by omega) ?_)) | go_in)
  intro A2 c2 w2 g2 hO2 hf2 hg2
  have Hf2 : Hid (Fr (fun _ => False) w w2) := ((Fr.refl (fun _ => False) w).alloc (.cells #[] 5)).comp hf2 fun i hi e => by omega
  have Hg2 : Hid (∀ b, g2 = some b → w.heap.size ≤ b) := fun b e => by
    rcases hg2 with e2 | ⟨x, e2, hx⟩
    · rw [e2] at e; cases e; exact Nat.le_refl _
    · rw [e2] at e; cases e; (try simp at hx); omega
  clear hf2 hg2 hS
  go_wp2_with (first | (at_builtin; go_loud (refine wpList_append_ow _ rfl _ _ 33 rfl 5 i0 (.int .u8 0) 1 1 Try.underlying33 hi hz0 hz1 hz2 rfl (by decide) _ _ _ _ _ rfl (hO2.fr (S := fun _ => False) ((Fr.refl _ _).alloc _) (fun _ _ => id)) _ _ _ [.int .u8 201, .int .u8 77] rfl (Sl.row w2 #[.int .u8 201, .int .u8 77] 5 1 2 rfl) (by intro u hu; simp at hu; rcases hu with rfl | rfl <;> rfl) (by unfold maxLen; omega) (by omega) ?_)) | go_in)
  intro L cl w3 gl hO3 hf3 hg3
  have s2 := Hf2.out.size
  obtain ⟨W, hW⟩ : ∃ W, w3 = W := ⟨_, rfl⟩
  have HO : Hid (Ow w3 5 1 L (n + 2) cl (xs.map bn ++ [.int .u8 201, .int .u8 77]) gl) := by
    have := hO3
    (try simp only [List.nil_append, Nat.zero_add] at this)
    exact this
  have Hgl : Hid (∀ b, gl = some b → w.heap.size ≤ b) := fun b e => by
    rcases hg3 with e2 | ⟨x, e2, hx⟩
    · rw [e2] at e; exact Hg2.out b e
    · rw [e2] at e; cases e; (try simp at hx); omega
  have HF3 : Hid (Fr (fun _ => False) w w3) := Hf2.out.comp (((Fr.refl _ _).alloc _).comp hf3 (fun _ _ e => e)) fun x hx e => by have := Hg2.out x e.symm; omega
  have hcap := HO.out.cap
  have k1 : n + 2 ≤ cl := hcap.1
  have k2 : cl ≤ 9223372036854775807 := by have := hcap.2; unfold maxLen at this; exact this
  clear hO3 hf3 hg3 hO2 Hf2 Hg2 hcap s2 hW
  obtain ⟨bl, ol, rfl, hgl⟩ : ∃ bl ol, L = some ⟨bl, ol, none⟩ ∧ gl = some bl := by
    rcases HO.out.2 with ⟨-, h0, -⟩ | ⟨b, o, cur, h1, h2, -⟩
    · omega
    · exact ⟨b, o, h1, h2⟩
  subst hgl
  have Hlw : Hid (w.heap.size ≤ bl) := Hgl.out bl rfl
  have i0' : (0 : Int) ≤ (n : Int) := by omega
  have i1 : (n : Int) ≤ (cl : Int) := by omega
  have i2 : IntKind.i64.wrap ((n : Int) + 2) = (n : Int) + 2 := IntWalk.i64_in _ (by omega)
  have i2b : ((n : Int) + 2).toNat = n + 2 := by omega
  have i2c : (0 : Int) ≤ (n : Int) + 2 := by omega
  have i2d : (n : Int) + 2 ≤ (cl : Int) := by omega
  have i3 : IntKind.i64.wrap ((n : Int) + 1) = (n : Int) + 1 := IntWalk.i64_in _ (by omega)
  have i3b : ((n : Int) + 1).toNat = n + 1 := by omega
  have i3c : (0 : Int) ≤ (n : Int) + 1 := by omega
  go_wp2_with fail
  go_loopw [6] (fun i wr => ∃ (j : Nat) (ys : List Nat), j ≤ 2 ∧ i = .int .i64 (j : Int) ∧ Hid (n = ys.length ∧ (∀ y ∈ ys, y < 256) ∧ Ow wr 5 1 (some ⟨bl, ol, none⟩) (n + 2) cl (ys.map bn ++ [.int .u8 201, .int .u8 77]) (some bl) ∧ Fr (fun _ => False) w wr)) (fun i _ => 2 - (intOf i).toNat)
  case atStart => exact ⟨0, xs, by omega, rfl, Hl.out, H256.out, HO.out, HF3.out⟩
  case round =>
    obtain ⟨j, ys, hj, rfl, HJ⟩ := hrel
    obtain ⟨w4, rfl⟩ : ∃ w4, w4 = wr := ⟨_, rfl⟩
    by_cases hlt : j < 2
    · have q1 : IntKind.i64.wrap ((j : Int) + 1) = ((j + 1 : Nat) : Int) := by rw [IntWalk.i64_in _ (by omega)]; omega
      have ij : (j : Int) < 2 := by omega
      have Hlt := hide hlt
      have hSl : Sl w4 1 (some ⟨bl, ol, none⟩) n (ys.map bn) := by
        have h1 := (HJ.out.2.2.1.take (k := n) (by omega)).sl
        rwa [Nat.mul_one, List.take_left' (by rw [List.length_map, ← HJ.out.1])] at h1
      have HSl := hide hSl
      clear hlt hj
      go_wp2_with (first | (at_builtin; go_loud (refine wpList_append_ow _ rfl _ _ 33 rfl 5 i0 (.int .u8 0) 1 1 Try.underlying33 hi hz0 hz1 hz2 rfl (by decide) _ _ _ _ _ rfl (Ow.made w4 5 1 0 0 #[] [] rfl (by omega) (by unfold maxLen; omega) (by simp)) _ _ _ (ys.map bn) rfl (HSl.out.quiet ((Fr.refl _ _).alloc _)) (bn_one ys) (by unfold maxLen; omega) (by omega) ?_)) | go_in)
      intro V vc w5 gv hO5 hf5 hg5
      have HV : Hid (Ow w5 5 1 V n vc (ys.map bn) gv) := by
        have := hO5
        (try simp only [List.nil_append, Nat.zero_add] at this)
        exact this
      have HF5 : Hid (Fr (fun _ => False) w4 w5) := ((Fr.refl (fun _ => False) w4).alloc (.cells #[] 5)).comp hf5 fun i hi e => by omega
      have Hvl : Hid (∀ b, gv = some b → w4.heap.size ≤ b) := fun b e => by
        rcases hg5 with e2 | ⟨x, e2, hx⟩
        · rw [e2] at e; cases e; exact Nat.le_refl _
        · rw [e2] at e; cases e; (try simp at hx); omega
      have hvc := HV.out.cap
      unfold maxLen at hvc
      have HD1 : Hid (∀ w1, Fr (fun _ => False) w4 w1 → Calls Try.prog 26 #[.slice (some ⟨bl, ol, none⟩) n cl] w1 (DecIs ys w1)) := fun w1 hf => (Decode_of w1 ys _ n cl HJ.out.1 (by omega) HJ.out.2.1 (HSl.out.quiet hf) HC.out).mono fun e w' h => h.is
      have HD2 : Hid (∀ w1, Fr (fun _ => False) w5 w1 → Calls Try.prog 27 #[.slice V n vc] w1 (DecIs ys w1)) := fun w1 hf => (rDecode_of w1 ys V n vc HJ.out.1 hvc.1 hvc.2 HJ.out.2.1 (HV.out.sl.quiet hf) HM.out).mono fun e w' h => h.is
      have HD3 : Hid (∀ w1, Fr (fun _ => False) w4 w1 → Calls Try.prog 28 #[.slice (some ⟨bl, ol, none⟩) n cl] w1 (RepIs ys w1)) := fun w1 hf => (DecodeReply_any w1 ys _ n cl HJ.out.1 (by omega) HJ.out.2.1 (HSl.out.quiet hf)).mono fun e w' h => h.is
      have HD4 : Hid (∀ w1, Fr (fun _ => False) w5 w1 → Calls Try.prog 29 #[.slice V n vc] w1 (RepIs ys w1)) := fun w1 hf => (rDecodeReply_any w1 ys V n vc HJ.out.1 hvc.1 hvc.2 HJ.out.2.1 (HV.out.sl.quiet hf)).mono fun e w' h => h.is
      clear hO5 hf5 hg5 hvc hSl
      go_wp2_with fail
      refine (HD1.out w5 HF5.out).mono ?_
      rintro e w6 ⟨qc, ec, rfl, VC, TC, hf6⟩
      have p6 := put_cmd (w := w6) qc
      obtain ⟨hb8, hf7⟩ := box_new (w := w6) tCL #[.int .i64 0, .int .i64 0, .string ⟨#[]⟩, .int .i64 0, .int .u64 0, .int .i64 0, .int .i64 0, .int .i64 0, .int .i64 0, .int .i64 0, .int .u64 0, .int .u64 0, .slice none 0 0, .int .i64 0, .int .i64 0, .int .i64 0, .int .i64 0, .int .i64 0, .int .i64 0, .int .u64 0, .int .u64 0, .int .u64 0, .int .i64 0, .slice none 0 0] #[.int .i64 qc.id, .int .i64 qc.kind, .string (strOf qc.name), .int .i64 qc.to_, .int .u64 (qc.co : Int), .int .i64 qc.item, .int .i64 qc.num, .int .i64 qc.of_, .int .i64 qc.e.acc, .int .i64 qc.e.item, .int .u64 (qc.e.co : Int), .int .u64 (qc.e.pr : Int), .slice qc.e.A qc.e.n qc.e.c, .int .i64 qc.k.num, .int .i64 qc.k.kind, .int .i64 qc.k.by_, .int .i64 qc.k.dl, .int .i64 qc.k.to_, .int .i64 qc.k.want, .int .u64 (qc.k.pr : Int), .int .u64 (qc.k.rs : Int), .int .u64 (qc.k.st : Int), .int .i64 qc.k.of_, .slice qc.k.A qc.k.n qc.k.c]
      go_wp2_with fail
      obtain ⟨b8, h8⟩ : ∃ b, w6.heap.size = b := ⟨_, rfl⟩
      rw [h8] at hb8 hf7 ⊢
      obtain ⟨w7, h7⟩ : ∃ v, (w6.alloc (.cells #[.int .i64 0, .int .i64 0, .string ⟨#[]⟩, .int .i64 0, .int .u64 0, .int .i64 0, .int .i64 0, .int .i64 0, .int .i64 0, .int .i64 0, .int .u64 0, .int .u64 0, .slice none 0 0, .int .i64 0, .int .i64 0, .int .i64 0, .int .i64 0, .int .i64 0, .int .i64 0, .int .u64 0, .int .u64 0, .int .u64 0, .int .i64 0, .slice none 0 0] tCL)).setRow b8 #[.int .i64 qc.id, .int .i64 qc.kind, .string (strOf qc.name), .int .i64 qc.to_, .int .u64 (qc.co : Int), .int .i64 qc.item, .int .i64 qc.num, .int .i64 qc.of_, .int .i64 qc.e.acc, .int .i64 qc.e.item, .int .u64 (qc.e.co : Int), .int .u64 (qc.e.pr : Int), .slice qc.e.A qc.e.n qc.e.c, .int .i64 qc.k.num, .int .i64 qc.k.kind, .int .i64 qc.k.by_, .int .i64 qc.k.dl, .int .i64 qc.k.to_, .int .i64 qc.k.want, .int .u64 (qc.k.pr : Int), .int .u64 (qc.k.rs : Int), .int .u64 (qc.k.st : Int), .int .i64 qc.k.of_, .slice qc.k.A qc.k.n qc.k.c] = v := ⟨_, rfl⟩
      rw [h7] at hb8 hf7 ⊢
      have F7 : Hid (Fr (fun _ => False) w5 w7) := hf6.trans hf7
      have T7 := hide (TC.out.quiet hf7)
      have B8 := hide hb8
      clear p6 h8 h7 hb8 hf6 hf7 TC HD1
      refine (HD2.out w7 F7.out).mono ?_
      rintro e w8 ⟨qd, ed, rfl, VD, TD, hf8⟩
      obtain ⟨he, hlk⟩ := VC.out.same VD.out
      subst he
      have p8 := put_cmd (w := w8) qd
      obtain ⟨hb10, hf9⟩ := box_new (w := w8) tCL #[.int .i64 0, .int .i64 0, .string ⟨#[]⟩, .int .i64 0, .int .u64 0, .int .i64 0, .int .i64 0, .int .i64 0, .int .i64 0, .int .i64 0, .int .u64 0, .int .u64 0, .slice none 0 0, .int .i64 0, .int .i64 0, .int .i64 0, .int .i64 0, .int .i64 0, .int .i64 0, .int .u64 0, .int .u64 0, .int .u64 0, .int .i64 0, .slice none 0 0] #[.int .i64 qd.id, .int .i64 qd.kind, .string (strOf qd.name), .int .i64 qd.to_, .int .u64 (qd.co : Int), .int .i64 qd.item, .int .i64 qd.num, .int .i64 qd.of_, .int .i64 qd.e.acc, .int .i64 qd.e.item, .int .u64 (qd.e.co : Int), .int .u64 (qd.e.pr : Int), .slice qd.e.A qd.e.n qd.e.c, .int .i64 qd.k.num, .int .i64 qd.k.kind, .int .i64 qd.k.by_, .int .i64 qd.k.dl, .int .i64 qd.k.to_, .int .i64 qd.k.want, .int .u64 (qd.k.pr : Int), .int .u64 (qd.k.rs : Int), .int .u64 (qd.k.st : Int), .int .i64 qd.k.of_, .slice qd.k.A qd.k.n qd.k.c]
      go_wp2_with fail
      obtain ⟨b10, h10⟩ : ∃ b, w8.heap.size = b := ⟨_, rfl⟩
      rw [h10] at hb10 hf9 ⊢
      obtain ⟨w9, h9⟩ : ∃ v, (w8.alloc (.cells #[.int .i64 0, .int .i64 0, .string ⟨#[]⟩, .int .i64 0, .int .u64 0, .int .i64 0, .int .i64 0, .int .i64 0, .int .i64 0, .int .i64 0, .int .u64 0, .int .u64 0, .slice none 0 0, .int .i64 0, .int .i64 0, .int .i64 0, .int .i64 0, .int .i64 0, .int .i64 0, .int .u64 0, .int .u64 0, .int .u64 0, .int .i64 0, .slice none 0 0] tCL)).setRow b10 #[.int .i64 qd.id, .int .i64 qd.kind, .string (strOf qd.name), .int .i64 qd.to_, .int .u64 (qd.co : Int), .int .i64 qd.item, .int .i64 qd.num, .int .i64 qd.of_, .int .i64 qd.e.acc, .int .i64 qd.e.item, .int .u64 (qd.e.co : Int), .int .u64 (qd.e.pr : Int), .slice qd.e.A qd.e.n qd.e.c, .int .i64 qd.k.num, .int .i64 qd.k.kind, .int .i64 qd.k.by_, .int .i64 qd.k.dl, .int .i64 qd.k.to_, .int .i64 qd.k.want, .int .u64 (qd.k.pr : Int), .int .u64 (qd.k.rs : Int), .int .u64 (qd.k.st : Int), .int .i64 qd.k.of_, .slice qd.k.A qd.k.n qd.k.c] = v := ⟨_, rfl⟩
      rw [h9] at hb10 hf9 ⊢
      have F9 : Hid (Fr (fun _ => False) w5 w9) := F7.out.trans (hf8.trans hf9)
      have TC9 := hide (T7.out.quiet (hf8.trans hf9))
      have TD9 := hide (TD.out.quiet hf9)
      have B8b := hide (B8.out.fr (hf8.trans hf9) id)
      have B10 := hide hb10
      have LK := hide hlk
      clear p8 h10 h9 hb10 hf8 hf9 TD T7 B8 F7 HD2 VC VD hlk
      refine (HD3.out w9 (HF5.out.trans F9.out)).mono ?_
      rintro e w10 ⟨qr, eg, rfl, VR, TR, hf10⟩
      have p10 := put_rep (w := w10) qr
      obtain ⟨hb12, hf11⟩ := box_new (w := w10) tRL #[.int .i64 0, .int .i64 0, .int .i64 0, .int .u64 0, .slice none 0 0, .string ⟨#[]⟩, .int .u32 0, .int .i64 0, .int .i64 0, .int .i64 0, .int .i64 0, .int .i64 0, .int .i64 0, .int .u64 0, .int .u64 0, .int .u64 0, .int .i64 0, .slice none 0 0] #[.int .i64 qr.id, .int .i64 qr.err, .int .i64 qr.num, .int .u64 (qr.co : Int), .slice qr.A qr.n qr.c, .string (strOf qr.txt), .int .u32 (qr.bits : Int), .int .i64 qr.k.num, .int .i64 qr.k.kind, .int .i64 qr.k.by_, .int .i64 qr.k.dl, .int .i64 qr.k.to_, .int .i64 qr.k.want, .int .u64 (qr.k.pr : Int), .int .u64 (qr.k.rs : Int), .int .u64 (qr.k.st : Int), .int .i64 qr.k.of_, .slice qr.k.A qr.k.n qr.k.c]
      go_wp2_with fail
      obtain ⟨b12, h12⟩ : ∃ b, w10.heap.size = b := ⟨_, rfl⟩
      rw [h12] at hb12 hf11 ⊢
      obtain ⟨w11, h11⟩ : ∃ v, (w10.alloc (.cells #[.int .i64 0, .int .i64 0, .int .i64 0, .int .u64 0, .slice none 0 0, .string ⟨#[]⟩, .int .u32 0, .int .i64 0, .int .i64 0, .int .i64 0, .int .i64 0, .int .i64 0, .int .i64 0, .int .u64 0, .int .u64 0, .int .u64 0, .int .i64 0, .slice none 0 0] tRL)).setRow b12 #[.int .i64 qr.id, .int .i64 qr.err, .int .i64 qr.num, .int .u64 (qr.co : Int), .slice qr.A qr.n qr.c, .string (strOf qr.txt), .int .u32 (qr.bits : Int), .int .i64 qr.k.num, .int .i64 qr.k.kind, .int .i64 qr.k.by_, .int .i64 qr.k.dl, .int .i64 qr.k.to_, .int .i64 qr.k.want, .int .u64 (qr.k.pr : Int), .int .u64 (qr.k.rs : Int), .int .u64 (qr.k.st : Int), .int .i64 qr.k.of_, .slice qr.k.A qr.k.n qr.k.c] = v := ⟨_, rfl⟩
      rw [h11] at hb12 hf11 ⊢
      have F11 : Hid (Fr (fun _ => False) w5 w11) := F9.out.trans (hf10.trans hf11)
      have G911 : Hid (Fr (fun _ => False) w9 w11) := hf10.trans hf11
      have TR11 := hide (TR.out.quiet hf11)
      have B12 := hide hb12
      clear p10 h12 h11 hb12 hf10 hf11 TR HD3
      refine (HD4.out w11 F11.out).mono ?_
      rintro e w12 ⟨qs, eh, rfl, VS, TS, hf12⟩
      obtain ⟨he, hlk2⟩ := VR.out.same VS.out
      subst he
      have p12 := put_rep (w := w12) qs
      obtain ⟨hb14, hf13⟩ := box_new (w := w12) tRL #[.int .i64 0, .int .i64 0, .int .i64 0, .int .u64 0, .slice none 0 0, .string ⟨#[]⟩, .int .u32 0, .int .i64 0, .int .i64 0, .int .i64 0, .int .i64 0, .int .i64 0, .int .i64 0, .int .u64 0, .int .u64 0, .int .u64 0, .int .i64 0, .slice none 0 0] #[.int .i64 qs.id, .int .i64 qs.err, .int .i64 qs.num, .int .u64 (qs.co : Int), .slice qs.A qs.n qs.c, .string (strOf qs.txt), .int .u32 (qs.bits : Int), .int .i64 qs.k.num, .int .i64 qs.k.kind, .int .i64 qs.k.by_, .int .i64 qs.k.dl, .int .i64 qs.k.to_, .int .i64 qs.k.want, .int .u64 (qs.k.pr : Int), .int .u64 (qs.k.rs : Int), .int .u64 (qs.k.st : Int), .int .i64 qs.k.of_, .slice qs.k.A qs.k.n qs.k.c]
      go_wp2_with fail
      obtain ⟨b14, h14⟩ : ∃ b, w12.heap.size = b := ⟨_, rfl⟩
      rw [h14] at hb14 hf13 ⊢
      obtain ⟨w13, h13⟩ : ∃ v, (w12.alloc (.cells #[.int .i64 0, .int .i64 0, .int .i64 0, .int .u64 0, .slice none 0 0, .string ⟨#[]⟩, .int .u32 0, .int .i64 0, .int .i64 0, .int .i64 0, .int .i64 0, .int .i64 0, .int .i64 0, .int .u64 0, .int .u64 0, .int .u64 0, .int .i64 0, .slice none 0 0] tRL)).setRow b14 #[.int .i64 qs.id, .int .i64 qs.err, .int .i64 qs.num, .int .u64 (qs.co : Int), .slice qs.A qs.n qs.c, .string (strOf qs.txt), .int .u32 (qs.bits : Int), .int .i64 qs.k.num, .int .i64 qs.k.kind, .int .i64 qs.k.by_, .int .i64 qs.k.dl, .int .i64 qs.k.to_, .int .i64 qs.k.want, .int .u64 (qs.k.pr : Int), .int .u64 (qs.k.rs : Int), .int .u64 (qs.k.st : Int), .int .i64 qs.k.of_, .slice qs.k.A qs.k.n qs.k.c] = v := ⟨_, rfl⟩
      rw [h13] at hb14 hf13 ⊢
      have G1113 := hf12.trans hf13
      have G913 := G911.out.trans G1113
      have F13 : Hid (Fr (fun _ => False) w5 w13) := F11.out.trans G1113
      have TC13 := hide (TC9.out.quiet G913)
      have TD13 := hide (TD9.out.quiet G913)
      have TR13 := hide (TR11.out.quiet G1113)
      have TS13 := hide (TS.out.quiet hf13)
      have B8c := hide (B8b.out.fr G913 id)
      have B10c := hide (B10.out.fr G913 id)
      have B12c := hide (B12.out.fr G1113 id)
      have B14 := hide hb14
      have LK2 := hide hlk2
      clear p12 h14 h13 hb14 hf12 hf13 TS TR11 TC9 TD9 B8b B10 B12 F11 F9 G911 G1113 G913 HD4 VR VS hlk2
      have HO13 : Hid (Ow w13 5 1 (some ⟨bl, ol, none⟩) (n + 2) cl (ys.map bn ++ [.int .u8 201, .int .u8 77]) (some bl)) := HJ.out.2.2.1.fr (HF5.out.trans F13.out) (fun _ _ => id)
      have HV13 : Hid (Sl w13 1 V n (ys.map bn)) := HV.out.sl.quiet F13.out
      have HF13 : Hid (Fr (fun _ => False) w w13) := HJ.out.2.2.2.trans (HF5.out.trans F13.out)
      have hyn := hide HJ.out.1
      have hyb := hide HJ.out.2.1
      clear F13 HF5 HV HJ HSl
      have r8 := box_cmd qc B8c.out
      have r10 := box_cmd qd B10c.out
      go_wp2_with fail
      refine (num27law_any w13 ec).mono ?_
      rintro e w' ⟨rfl, rfl⟩
      go_wp2_with fail
      refine (num27law_any w13 eg).mono ?_
      rintro e w' ⟨rfl, rfl⟩
      go_wp2_with fail
      refine (commandLike_any w13 qc qd LK.out TC13.out.at_ TD13.out.at_).mono ?_
      rintro e w14 ⟨rfl, hf14⟩
      clear r8 r10
      have TR14 := hide (TR13.out.quiet hf14)
      have TS14 := hide (TS13.out.quiet hf14)
      have r12 := box_rep qr (B12c.out.fr hf14 id)
      have r14 := box_rep qs (B14.out.fr hf14 id)
      go_wp2_with fail
      refine (replyLike_any w14 qr qs LK2.out TR14.out.at_ TS14.out.at_).mono ?_
      rintro e w15 ⟨rfl, hf15⟩
      clear r12 r14
      have H15 := hide (hf14.trans hf15)
      have HO15 := hide (HO13.out.fr H15.out (fun _ _ => id))
      have hSl15 : Sl w15 1 (some ⟨bl, ol, none⟩) n (ys.map bn) := by
        have h1 := (HO15.out.take (k := n) (by omega)).sl
        rwa [Nat.mul_one, List.take_left' (by rw [List.length_map, ← hyn.out])] at h1
      have HSm := hide (same27_true w15 ys (some ⟨bl, ol, none⟩) V cl vc n hyb.out hSl15 (HV13.out.quiet H15.out))
      have hylen : (ys.map bn).length = n := by rw [List.length_map]; exact hyn.out.symm
      have m1 : w15.cell? ⟨bl, ol + n, none⟩ = some (.int .u8 201) := by
        obtain ⟨b, o, e1, h1⟩ := HO15.out.sl.at_ (j := n) (u := .int .u8 201) (by rw [List.getElem?_append_right (by omega), hylen, Nat.sub_self]; rfl)
        cases e1; exact h1
      have m2 : w15.cell? ⟨bl, ol + (n + 1), none⟩ = some (.int .u8 77) := by
        obtain ⟨b, o, e1, h1⟩ := HO15.out.sl.at_ (j := n + 1) (u := .int .u8 77) (by rw [List.getElem?_append_right (by omega), hylen, show n + 1 - n = 1 by omega]; rfl)
        cases e1; exact h1
      have l1 := run_loadAt_cell (P := Try.prog) 5 _ Try.underlying5 rfl m1
      have l2 := run_loadAt_cell (P := Try.prog) 5 _ Try.underlying5 rfl m2
      have x1 : (n : Int) < (n : Int) + 2 := by omega
      have x2 : (n : Int) + 1 < (n : Int) + 2 := by omega
      clear hf14 hf15 TR14 TS14 hylen hSl15 m1 m2
      go_wp2_with fail
      refine HSm.out.mono ?_
      rintro e w' ⟨rfl, rfl⟩
      have hHO := HO15.out
      have hSz15 : Sl w15 1 B m (zs.map bn) := HSz.out.quiet (HF13.out.trans H15.out)
      clear HSm
      go_wp2_with (refine wpList_copy_ow (o := ⟨some 105, _, _, _, _, _⟩) rfl _ _ rfl _ n cl _ _ _ _ rfl hHO (by omega) _ _ _ _ rfl hSz15 (bn_one zs) ?_)
      intro w16 hO16 hf16
      obtain ⟨kk, hkk⟩ : ∃ kk, Nat.min m n = kk := ⟨_, rfl⟩
      have hkn : kk ≤ n ∧ kk ≤ m := by rw [← hkk]; exact ⟨Nat.min_le_right .., Nat.min_le_left ..⟩
      have HO16 : Hid (n = (zs.take kk ++ ys.drop kk).length ∧ (∀ y ∈ zs.take kk ++ ys.drop kk, y < 256) ∧ Ow w16 5 1 (some ⟨bl, ol, none⟩) (n + 2) cl ((zs.take kk ++ ys.drop kk).map bn ++ [.int .u8 201, .int .u8 77]) (some bl)) := by
        have h1 := hyn.out
        have h2 := Hlz.out
        refine ⟨by rw [List.length_append, List.length_take, List.length_drop]; omega, fun y hy => ?_, ?_⟩
        · rcases List.mem_append.1 hy with hy | hy
          · exact Hz256.out y (List.mem_of_mem_take hy)
          · exact hyb.out y (List.mem_of_mem_drop hy)
        · have h3 := hO16
          rw [hkk] at h3
          rw [List.drop_append_of_le_length (by rw [List.length_map]; omega), ← List.map_take, ← List.map_drop, ← List.append_assoc, ← List.map_append] at h3
          exact h3
      have hty := hHO.typed bl rfl
      have hnt : ∀ (x : Nat) (t : TypeId), Typed w15 x t → t ≠ 5 → ¬ some x = some bl := fun x t h1 h2 e => by cases e; exact h2 (h1.same hty)
      have h1516 : Fr (fun x => some x = some bl) w15 w16 := hf16.mono fun x _ e => by rw [e]
      have TC16 := hide ((TC13.out.quiet H15.out).frt h1516 (fun x h => hnt x _ h (by decide)) (fun x h => hnt x _ h (by decide)))
      have TD16 := hide ((TD13.out.quiet H15.out).frt h1516 (fun x h => hnt x _ h (by decide)) (fun x h => hnt x _ h (by decide)))
      have TR16 := hide ((TR13.out.quiet H15.out).frt h1516 (fun x h => hnt x _ h (by decide)) (fun x h => hnt x _ h (by decide)))
      have TS16 := hide ((TS13.out.quiet H15.out).frt h1516 (fun x h => hnt x _ h (by decide)) (fun x h => hnt x _ h (by decide)))
      have b8' := B8c.out.fr H15.out id
      have b8'' := b8'.fr h1516 (hnt _ _ b8'.typed (by decide))
      have b10' := B10c.out.fr H15.out id
      have b10'' := b10'.fr h1516 (hnt _ _ b10'.typed (by decide))
      have b12' := B12c.out.fr H15.out id
      have b12'' := b12'.fr h1516 (hnt _ _ b12'.typed (by decide))
      have b14' := B14.out.fr H15.out id
      have b14'' := b14'.fr h1516 (hnt _ _ b14'.typed (by decide))
      have HB12 := hide b12''
      have HB14 := hide b14''
      have HF16 : Hid (Fr (fun _ => False) w w16) := (HF13.out.trans H15.out).comp h1516 fun x hx e => by cases e; have := Hlw.out; omega
      have r8 := box_cmd qc b8''
      have r10 := box_cmd qd b10''
      clear l1 l2 x1 x2 hHO hSz15 hO16 hf16 hty hnt h1516 b8' b8'' b10' b10'' b12' b12'' b14' b14'' TC13 TD13 TR13 TS13 B8c B10c B12c B14 HO13 HO15 HV13 H15 HF13 hkn hkk
      go_wp2_with fail
      refine (commandLike_any w16 qc qd LK.out TC16.out.at_ TD16.out.at_).mono ?_
      rintro e w17 ⟨rfl, hf17⟩
      clear r8 r10
      have TR17 := hide (TR16.out.quiet hf17)
      have TS17 := hide (TS16.out.quiet hf17)
      have r12 := box_rep qr (HB12.out.fr hf17 id)
      have r14 := box_rep qs (HB14.out.fr hf17 id)
      go_wp2_with fail
      refine (replyLike_any w17 qr qs LK2.out TR17.out.at_ TS17.out.at_).mono ?_
      rintro e w18 ⟨rfl, hf18⟩
      clear r12 r14
      have h1618 := hf17.trans hf18
      go_wp2_with fail
      have := Hlt.out
      exact ⟨⟨j + 1, zs.take kk ++ ys.drop kk, by omega, by first | rfl | go_num, HO16.out.1, HO16.out.2.1, HO16.out.2.2.fr h1618 (fun _ _ => id), HF16.out.trans h1618⟩, by simp [intOf]; try omega⟩
    · obtain rfl : j = 2 := by omega
      clear hlt
      go_wp2_with fail
      go_ret
      exact ⟨rfl, HJ.out.2.2.2.toBelow (Nat.le_refl _) fun _ _ => id⟩
end Go.Proofs.Ytahhecendjfenaa
