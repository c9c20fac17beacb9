/-
  Texts merged into one, to keep the claim small: PrN4, Su7.
-/
import Derived.Test.YtlcjhbemgagchaaMs37
import Derived.Test.YtlcjhbemgagchaaMc38
import Derived.Test.YtlcjhbemgagchaaMc39
import Derived.Test.YtlcjhbemgagchaaMc40
import Derived.Test.YtlcjhbemgagchaaMc41
import Derived.Test.YtlcjhbemgagchaaMc42
import Derived.Test.YtlcjhbemgagchaaMc43
import Derived.Test.YtlcjhbemgagchaaMs31
section
/-
  bazaarref27's May of any command (XPrN3 without the law's walk: never import both).
-/
namespace Go.Proofs.Ytlcjhbemgagchaa
open Go.RowKit
set_option linter.unusedVariables false
theorem May_any (w : World) (r : KC) (h : r.at_ w) (hwf : r.wf) :
    Calls Try.prog 74 #[.agg #[.int .i64 r.id, .int .i64 r.kind, .string (strOf r.name), .int .i64 r.to_, .int .u64 (r.co : Int), .int .i64 r.item, .int .i64 r.num, .int .i64 r.of_, .int .i64 r.e.acc, .int .i64 r.e.item, .int .u64 (r.e.co : Int), .int .u64 (r.e.pr : Int), .slice r.e.A r.e.n r.e.c, .int .i64 r.k.num, .int .i64 r.k.kind, .int .i64 r.k.by_, .int .i64 r.k.dl, .int .i64 r.k.to_, .int .i64 r.k.want, .int .u64 (r.k.pr : Int), .int .u64 (r.k.rs : Int), .int .u64 (r.k.st : Int), .int .i64 r.k.of_, .slice r.k.A r.k.n r.k.c]] w fun e w' => e = .returned (.bool r.ok) ∧ Fr (fun _ => False) w w' := by
  cases hf : r.fine with
  | false =>
    have hok : r.ok = false := by unfold KC.ok; rw [hf]; rfl
    rw [hok]
    exact May_unfine w r h hf
  | true =>
    have hk := (KC.fine_split hf).1
    have hd : r.kind = 1 ∨ r.kind = 2 ∨ r.kind = 3 ∨ r.kind = 4 ∨ r.kind = 5 ∨ r.kind = 6 ∨ r.kind = 7 ∨ r.kind = 8 ∨ r.kind = 9 ∨ r.kind = 10 ∨ r.kind = 11 ∨ r.kind = 12 ∨ r.kind = 13 ∨ r.kind = 14 := by omega
    rcases hd with e | e | e | e | e | e | e | e | e | e | e | e | e | e
    · exact May_fine1 w r h hwf hf e
    · exact May_fine2 w r h hwf hf e
    · exact May_fine3 w r h hwf hf e
    · exact May_fine4 w r h hwf hf e
    · exact May_fine5 w r h hwf hf e
    · exact May_fine6 w r h hwf hf e
    · exact May_fine7 w r h hwf hf e
    · exact May_fine8 w r h hwf hf e
    · exact May_fine9 w r h hwf hf e
    · exact May_fine10 w r h hwf hf e
    · exact May_fine11 w r h hwf hf e
    · exact May_fine12 w r h hwf hf e
    · exact May_fine13 w r h hwf hf e
    · exact May_fine14 w r h hwf hf e
end Go.Proofs.Ytlcjhbemgagchaa
end

section
/-
  stream: pieces, the reference's. (printed by pr_rpc.py)
-/
namespace Go.Proofs.Ytlcjhbemgagchaa
open Go.RowKit
set_option linter.unusedVariables false
attribute [local go_sem ↓] storeC_ loadC_
abbrev tRp : TypeId := 106
theorem infoRp3 : (Try.prog.info? tRp).map (fun i => (i.zero, i.size, i.bytes)) = some (some (.agg #[.int .i64 0, .int .i64 0, .string ⟨#[]⟩, .int .i64 0, .int .u64 0, .int .i64 0, .int .i64 0, .int .i64 0, .int .i64 0, .int .i64 0, .int .u64 0, .int .u64 0, .slice none 0 0, .int .i64 0, .int .i64 0, .int .i64 0, .int .i64 0, .int .i64 0, .int .i64 0, .int .u64 0, .int .u64 0, .int .u64 0, .int .i64 0, .slice none 0 0, .int .i64 0]), 25, 240) := by kernel_rfl
theorem Pcr.app {W w w' : World} {l : List PC} {t : TypeId} {A : Option Addr} {n c : Nat} {g : Option Nat} {q : PC} {A3 : Option Addr} {c3 : Nat} {g3 : Option Nat} (h : Pcr W w l t A n c g) (hq : KT w q.c) (hO : Ow w' t 25 A3 (n + 1) c3 (l.flatMap pcells ++ pcells q) g3) (hf : Fr (fun x => some x = g) w w') (hg : g3 = g ∨ ∃ b, g3 = some b ∧ W.heap.size ≤ b) (t1 : t ≠ tEnt) (t2 : t ≠ 3) : Pcr W w' (l ++ [q]) t A3 (n + 1) c3 g3 := by
  have k1 : ∀ x, Typed w x tEnt → ¬ some x = g := fun x hx e => t1 ((hx.same (h.ow.typed x e.symm))).symm
  have k2 : ∀ x, Typed w x 3 → ¬ some x = g := fun x hx e => t2 ((hx.same (h.ow.typed x e.symm))).symm
  refine ⟨by rw [h.len]; simp, by rw [pflat_snoc]; exact hO, fun b e => ?_, fun p hp => ?_⟩
  · rcases hg with rfl | ⟨b', rfl, hb⟩
    · exact h.new b e
    · cases e; exact hb
  · rcases List.mem_append.1 hp with hp | hp
    · exact (h.rt p hp).frt hf k1 k2
    · obtain rfl : p = q := by simpa using hp
      exact hq.frt hf k1 k2
def RPcPost (bs : List Nat) (w : World) (e : Ending) (w' : World) : Prop :=
  ∃ (l : List PC) (u : Nat) (dd : Bool) (B : Option Addr) (m d : Nat) (g : Option Nat), e = .returned (.tuple #[.slice B m d, .int .i64 (waitN bs u dd : Int), .bool dd]) ∧ Pcs bs 0 l u dd ∧ Pcr w w' l tRp B m d g ∧ Fr (fun _ => False) w w'
set_option maxHeartbeats 2000000 in
set_option maxRecDepth 8000 in
theorem rpieces_any (w : World) (bs : List Nat) (A : Option Addr) (n c : Nat) (hn : n = bs.length) (hb : n ≤ 1048576) (hc : n ≤ c) (hc2 : c ≤ maxLen) (h256 : ∀ x ∈ bs, x < 256) (hA : Sl w 1 A n (bs.map bn)) :
    Calls Try.prog 53 #[.slice A n c] w (RPcPost bs w) := by
  obtain ⟨j0, hj, hj0, hj1, hj2⟩ := info_parts infoRp3
  unfold maxLen at hc2
  have HA := hide (fun w' (hf : Fr (fun _ => False) w w') => hA.below hf (fun _ _ => id))
  have Hn := hide hn
  have H256 := hide h256
  clear hA hn h256
  go_enter Try.func53, Try.ntmps53
  go_wp2_with fail
  go_loopw [5, 6] (fun v5 v6 wr => ∃ (k : Nat) (l : List PC) (B : Option Addr) (m d : Nat) (g : Option Nat), v5 = .slice B m d ∧ v6 = .int .i64 (k : Int) ∧ k ≤ n ∧ Hid (ToldP bs 0 k l) ∧ Hid (Pcr w wr l tRp B m d g) ∧ Hid (Fr (fun _ => False) w wr)) (fun _ v _ => n - (intOf v).toNat)
  case atStart => exact ⟨0, [], none, 0, 0, none, rfl, rfl, Nat.zero_le _, .nil, Pcr.nil_ _ _ _, Fr.refl _ _⟩
  case round =>
    obtain ⟨k, l, B, m, d, g, rfl, rfl, hk, hT, hR, hF⟩ := hrel
    obtain ⟨wo, rfl⟩ : ∃ z, z = wr := ⟨_, rfl⟩
    have hcap := hR.out.ow.cap
    have hml : m ≤ 700000 := by have := hT.out.len; have := hR.out.len; have := Hn.out; omega
    clear hcap
    by_cases hsh : n < k + 3
    · have hD : Hid (Pcs bs 0 l k false) := by
        have := hT.out.pcs (.short (by have := Hn.out; omega))
        rwa [List.append_nil] at this
      have hW : Hid ((n : Int) - (k : Int) = (waitN bs k false : Int)) := by
        show _ = ((bs.length - k : Nat) : Int)
        have := Hn.out; omega
      have b1 : ¬ (k : Int) + 3 ≤ (n : Int) := by omega
      have iw : IntKind.i64.wrap ((k : Int) + 3) = (k : Int) + 3 := IntWalk.i64_in _ (by omega)
      have iw1 : IntKind.i64.wrap ((n : Int) - (k : Int)) = (n : Int) - (k : Int) := IntWalk.i64_in _ (by omega)
      clear hsh
      go_wp2_with fail
      go_ret3
      exact ⟨l, k, false, B, m, d, g, by rw [← hW.out]; rfl, hD.out, hR.out, hF.out⟩
    · have b1 : (k : Int) + 3 ≤ (n : Int) := by omega
      have iw : IntKind.i64.wrap ((k : Int) + 3) = (k : Int) + 3 := IntWalk.i64_in _ (by omega)
      have hA := HA.out wo hF.out
      obtain ⟨b, o, rfl, -⟩ := hA.byte (k := 0) (by omega)
      have hAk := hA.rest8 hk
      have hlg := rlong_any wo ((bs.drop k).take 3) _ 3 (c - k) (Nat.le_refl _) (hA.three8 (by omega)) (fun x hx => drop_bytes H256.out k x (List.mem_of_mem_take hx))
      rw [longS_three] at hlg
      obtain ⟨L, hL⟩ : ∃ L, longS (bs.drop k) = L := ⟨_, rfl⟩
      rw [hL] at hlg
      have HL := hide hL
      have k1 : (0 : Int) ≤ (k : Int) := by omega
      have k2 : (k : Int) ≤ (n : Int) := by omega
      have hS3 := fun (h : k + 3 + L ≤ n) => hA.body8 h HL.out
      have HS3 := hide hS3
      have hRw := fun w' (hf : Fr (fun _ => False) wo w') => hR.out.quiet hf
      have HRw := hide hRw
      clear hL hA hAk hS3 hRw
      go_wp2_with fail
      refine hlg.mono ?_
      rintro e w' ⟨rfl, m1, rfl⟩
      have hf1 : Fr (fun _ => False) wo (wo.drewN m1) := (Fr.refl _ _).drewN m1
      obtain ⟨w1, hw1⟩ : ∃ w1, wo.drewN m1 = w1 := ⟨_, rfl⟩
      rw [hw1] at hf1
      have hf01 := hF.out.trans hf1
      rw [hw1]
      clear hw1 hlg
      by_cases h2 : 512 < L
      · have hD : Hid (Pcs bs 0 (l ++ [PC.no]) k true) := hT.out.pcs (.long (k := k) (by have := Hn.out; omega) (by rw [HL.out]; exact h2))
        have b2 : (512 : Int) < (L : Int) := by omega
        have HR1 := hide (HRw.out w1 hf1)
        have HF1 := hide hf01
        have hO3 := HR1.out.ow
        clear h2 hf1 hf01
        go_wp2_with (at_builtin; go_loud (refine wpList_append_ow _ rfl _ _ 65 rfl tRp j0 (.agg #[.int .i64 0, .int .i64 0, .string ⟨#[]⟩, .int .i64 0, .int .u64 0, .int .i64 0, .int .i64 0, .int .i64 0, .int .i64 0, .int .i64 0, .int .u64 0, .int .u64 0, .slice none 0 0, .int .i64 0, .int .i64 0, .int .i64 0, .int .i64 0, .int .i64 0, .int .i64 0, .int .u64 0, .int .u64 0, .int .u64 0, .int .i64 0, .slice none 0 0, .int .i64 0]) 25 240 Try.underlying65 hj hj0 hj1 hj2 rfl (by decide) _ _ _ _ _ rfl (hO3.fr (S := fun _ => False) ((Fr.refl _ _).alloc _) (fun _ _ => id)) _ _ _ (pcells PC.no) rfl (sl_pc _ PC.no _) (pcells_one PC.no) (by unfold maxLen; omega) (by omega) ?_))
        intro A4 c4 w4 g4 hO4 hf4 hg4
        have hal : Fr (fun _ => False) w1 (w1.alloc (.cells (pcells PC.no).toArray tRp)) := (Fr.refl _ _).alloc _
        have hR4 := Pcr.app (HR1.out.quiet hal) (zeroC_T _) hO4 hf4 (hg4.imp id fun ⟨x, e, h⟩ => ⟨x, e, by have := HF1.out.size; first | omega | (simp at h; omega)⟩) (by decide) (by decide)
        have hgn := HR1.out.new
        have HR4 := hide hR4
        have HF4 : Hid (Fr (fun _ => False) w w4) := (HF1.out.trans hal).comp hf4 fun i hi e => by have := hgn i e.symm; omega
        clear hO4 hf4 hg4 hR4 hal hO3 hgn
        go_wp2_with fail
        go_ret3
        exact ⟨l ++ [PC.no], k, true, A4, m + 1, c4, g4, rfl, hD.out, HR4.out, HF4.out⟩
      · have b2 : ¬ (512 : Int) < (L : Int) := by omega
        have iw2 : IntKind.i64.wrap ((k : Int) + 3 + (L : Int)) = (k : Int) + 3 + (L : Int) := IntWalk.i64_in _ (by omega)
        by_cases h3 : n < k + 3 + L
        · have hD : Hid (Pcs bs 0 l k false) := by
            have := hT.out.pcs (.half (k := k) (by have := Hn.out; omega) (by rw [HL.out]; omega) (by rw [HL.out]; have := Hn.out; omega))
            rwa [List.append_nil] at this
          have hW : Hid ((n : Int) - (k : Int) = (waitN bs k false : Int)) := by
            show _ = ((bs.length - k : Nat) : Int)
            have := Hn.out; omega
          have b3 : (n : Int) < (k : Int) + 3 + (L : Int) := by omega
          have iw1 : IntKind.i64.wrap ((n : Int) - (k : Int)) = (n : Int) - (k : Int) := IntWalk.i64_in _ (by omega)
          have HR1 := hide (HRw.out w1 hf1)
          have HF1 := hide hf01
          clear h2 h3 hf1 hf01
          go_wp2_with fail
          go_ret3
          exact ⟨l, k, false, B, m, d, g, by rw [← hW.out]; rfl, hD.out, HR1.out, HF1.out⟩
        · have b3 : ¬ (n : Int) < (k : Int) + 3 + (L : Int) := by omega
          have hdec := fun (o' c' : Nat) (hc1 : L ≤ c') (hc9 : c' ≤ 9223372036854775807) (h : Sl w1 1 (some ⟨b, o', none⟩) L ((bodyS bs k).map bn)) => rDecode_of w1 (bodyS bs k) (some ⟨b, o', none⟩) L c' (by unfold bodyS; rw [HL.out]; simp; have := Hn.out; omega) hc1 hc9 (body_bytes H256.out k) h (fun wx q h1 h2 => May_any wx q h1 h2)
          have hS1 := (HS3.out (by omega)).below hf1 (fun _ _ => id)
          have HF1 := hide hf1
          have HF01 := hide hf01
          have h3' : k + 3 + L ≤ n := by omega
          have h2' : L ≤ 512 := by omega
          clear h2 h3 hf1 hf01
          by_cases hz : c = k + 3
          · obtain rfl : L = 0 := by omega
            have hbz : bodyS bs k = [] := by unfold bodyS; rw [HL.out]; rfl
            have hdec := hdec o 0 (by omega) (by omega) (by rw [hbz]; exact Sl.nil_ _ _ _)
            obtain rfl : c = k + 3 := hz
            clear hS1
            go_wp2_with fail
            refine hdec.mono ?_
            intro v w2 hp
            obtain ⟨q, er, rfl, hV, hQ, hf2⟩ := hp.is
            clear hp hdec
            obtain ⟨w3, hw3⟩ : ∃ w3, (w2.alloc (.cells #[.int .i64 0, .int .i64 0, .string ⟨#[]⟩, .int .i64 0, .int .u64 0, .int .i64 0, .int .i64 0, .int .i64 0, .int .i64 0, .int .i64 0, .int .u64 0, .int .u64 0, .slice none 0 0, .int .i64 0, .int .i64 0, .int .i64 0, .int .i64 0, .int .i64 0, .int .i64 0, .int .u64 0, .int .u64 0, .int .u64 0, .int .i64 0, .slice none 0 0] tCm)).setRow w2.heap.size #[.int .i64 q.id, .int .i64 q.kind, .string (strOf q.name), .int .i64 q.to_, .int .u64 (q.co : Int), .int .i64 q.item, .int .i64 q.num, .int .i64 q.of_, .int .i64 q.e.acc, .int .i64 q.e.item, .int .u64 (q.e.co : Int), .int .u64 (q.e.pr : Int), .slice q.e.A q.e.n q.e.c, .int .i64 q.k.num, .int .i64 q.k.kind, .int .i64 q.k.by_, .int .i64 q.k.dl, .int .i64 q.k.to_, .int .i64 q.k.want, .int .u64 (q.k.pr : Int), .int .u64 (q.k.rs : Int), .int .u64 (q.k.st : Int), .int .i64 q.k.of_, .slice q.k.A q.k.n q.k.c] = w3 := ⟨_, rfl⟩
            have kp : In.storeIn Try.prog 31 (.pointer (some ⟨w2.heap.size, 0, none⟩)) (.agg #[.int .i64 q.id, .int .i64 q.kind, .string (strOf q.name), .int .i64 q.to_, .int .u64 (q.co : Int), .int .i64 q.item, .int .i64 q.num, .int .i64 q.of_, .int .i64 q.e.acc, .int .i64 q.e.item, .int .u64 (q.e.co : Int), .int .u64 (q.e.pr : Int), .slice q.e.A q.e.n q.e.c, .int .i64 q.k.num, .int .i64 q.k.kind, .int .i64 q.k.by_, .int .i64 q.k.dl, .int .i64 q.k.to_, .int .i64 q.k.want, .int .u64 (q.k.pr : Int), .int .u64 (q.k.rs : Int), .int .u64 (q.k.st : Int), .int .i64 q.k.of_, .slice q.k.A q.k.n q.k.c]) (w2.alloc (.cells #[.int .i64 0, .int .i64 0, .string ⟨#[]⟩, .int .i64 0, .int .u64 0, .int .i64 0, .int .i64 0, .int .i64 0, .int .i64 0, .int .i64 0, .int .u64 0, .int .u64 0, .slice none 0 0, .int .i64 0, .int .i64 0, .int .i64 0, .int .i64 0, .int .i64 0, .int .i64 0, .int .u64 0, .int .u64 0, .int .u64 0, .int .i64 0, .slice none 0 0] 31)) = .ok () w3 := by rw [← hw3]; exact putC (Bl.new w2 tCm #[.int .i64 0, .int .i64 0, .string ⟨#[]⟩, .int .i64 0, .int .u64 0, .int .i64 0, .int .i64 0, .int .i64 0, .int .i64 0, .int .i64 0, .int .u64 0, .int .u64 0, .slice none 0 0, .int .i64 0, .int .i64 0, .int .i64 0, .int .i64 0, .int .i64 0, .int .i64 0, .int .u64 0, .int .u64 0, .int .u64 0, .int .i64 0, .slice none 0 0]) rfl q
            have hC3 : Bl w3 w2.heap.size tCm (ccells q).toArray := by rw [← hw3]; exact (Bl.new w2 tCm #[.int .i64 0, .int .i64 0, .string ⟨#[]⟩, .int .i64 0, .int .u64 0, .int .i64 0, .int .i64 0, .int .i64 0, .int .i64 0, .int .i64 0, .int .u64 0, .int .u64 0, .slice none 0 0, .int .i64 0, .int .i64 0, .int .i64 0, .int .i64 0, .int .i64 0, .int .i64 0, .int .u64 0, .int .u64 0, .int .u64 0, .int .i64 0, .slice none 0 0]).setRow _
            have lc : In.loadIn Try.prog 31 (.pointer (some ⟨w2.heap.size, 0, none⟩)) w3 = .ok (.agg #[.int .i64 q.id, .int .i64 q.kind, .string (strOf q.name), .int .i64 q.to_, .int .u64 (q.co : Int), .int .i64 q.item, .int .i64 q.num, .int .i64 q.of_, .int .i64 q.e.acc, .int .i64 q.e.item, .int .u64 (q.e.co : Int), .int .u64 (q.e.pr : Int), .slice q.e.A q.e.n q.e.c, .int .i64 q.k.num, .int .i64 q.k.kind, .int .i64 q.k.by_, .int .i64 q.k.dl, .int .i64 q.k.to_, .int .i64 q.k.want, .int .u64 (q.k.pr : Int), .int .u64 (q.k.rs : Int), .int .u64 (q.k.st : Int), .int .i64 q.k.of_, .slice q.k.A q.k.n q.k.c]) w3 := getC hC3
            have hF3 : Fr (fun _ => False) w2 w3 := by rw [← hw3]; exact Fr.setRow ((Fr.refl _ _).alloc _) (.inr (Nat.le_refl _)) _
            have HF23 := hide hF3
            have hF13 := HF1.out.trans (hf2.trans hF3)
            have HR3 := hide (hR.out.quiet hF13)
            have HF3 := hide (HF01.out.trans (hf2.trans hF3))
            have hO3 := HR3.out.ow
            have hsz3 : wo.heap.size ≤ w3.heap.size := hF13.size
            clear hF3 hf2 hF13 hC3 hw3
            by_cases her : er = 0
            · subst her
              have hT3' := hT.out.one (by rw [HL.out]; omega) (by rw [HL.out]; have := Hn.out; omega) hV
              rw [HL.out] at hT3'
              have hT3 := hide hT3'
              clear hT3' hV
              go_wp2_with (at_builtin; go_loud (refine wpList_append_ow _ rfl _ _ 65 rfl tRp j0 (.agg #[.int .i64 0, .int .i64 0, .string ⟨#[]⟩, .int .i64 0, .int .u64 0, .int .i64 0, .int .i64 0, .int .i64 0, .int .i64 0, .int .i64 0, .int .u64 0, .int .u64 0, .slice none 0 0, .int .i64 0, .int .i64 0, .int .i64 0, .int .i64 0, .int .i64 0, .int .i64 0, .int .u64 0, .int .u64 0, .int .u64 0, .int .i64 0, .slice none 0 0, .int .i64 0]) 25 240 Try.underlying65 hj hj0 hj1 hj2 rfl (by decide) _ _ _ _ _ rfl (hO3.fr (S := fun _ => False) ((Fr.refl _ _).alloc _) (fun _ _ => id)) _ _ _ (pcells ⟨q, 0⟩) rfl (sl_pc _ ⟨q, 0⟩ _) (pcells_one ⟨q, 0⟩) (by unfold maxLen; omega) (by omega) ?_))
              intro A4 c4 w4 g4 hO4 hf4 hg4
              have hal : Fr (fun _ => False) w3 (w3.alloc (.cells (pcells ⟨q, 0⟩).toArray tRp)) := (Fr.refl _ _).alloc _
              have hR4 := Pcr.app (HR3.out.quiet hal) ((hQ.quiet HF23.out).quiet hal) hO4 hf4 (hg4.imp id fun ⟨x, e, h⟩ => ⟨x, e, by have := HF3.out.size; first | omega | (simp at h; omega)⟩) (by decide) (by decide)
              have hgn := HR3.out.new
              have HR4 := hide hR4
              have HF4 : Hid (Fr (fun _ => False) w w4) := (HF3.out.trans hal).comp hf4 fun i hi e => by have := hgn i e.symm; omega
              clear hO4 hf4 hg4 hR4 hal hO3 hgn
              go_wp2_with fail
              exact ⟨⟨k + 3 + 0, l ++ [⟨q, 0⟩], A4, m + 1, c4, g4, rfl, by first | rfl | (congr 1; done) | (congr 1; omega), h3', hT3, HR4, HF4⟩, by simp [intOf]; omega⟩
            · have hT3' := hT.out.bad (by rw [HL.out]; omega) (by rw [HL.out]; have := Hn.out; omega) hV her
              rw [HL.out] at hT3'
              have hT3 := hide hT3'
              have b4 : ¬ er = 0 := her
              clear hT3' hV her lc
              go_wp2_with (at_builtin; go_loud (refine wpList_append_ow _ rfl _ _ 65 rfl tRp j0 (.agg #[.int .i64 0, .int .i64 0, .string ⟨#[]⟩, .int .i64 0, .int .u64 0, .int .i64 0, .int .i64 0, .int .i64 0, .int .i64 0, .int .i64 0, .int .u64 0, .int .u64 0, .slice none 0 0, .int .i64 0, .int .i64 0, .int .i64 0, .int .i64 0, .int .i64 0, .int .i64 0, .int .u64 0, .int .u64 0, .int .u64 0, .int .i64 0, .slice none 0 0, .int .i64 0]) 25 240 Try.underlying65 hj hj0 hj1 hj2 rfl (by decide) _ _ _ _ _ rfl (hO3.fr (S := fun _ => False) ((Fr.refl _ _).alloc _) (fun _ _ => id)) _ _ _ (pcells PC.no) rfl (sl_pc _ PC.no _) (pcells_one PC.no) (by unfold maxLen; omega) (by omega) ?_))
              intro A4 c4 w4 g4 hO4 hf4 hg4
              have hal : Fr (fun _ => False) w3 (w3.alloc (.cells (pcells PC.no).toArray tRp)) := (Fr.refl _ _).alloc _
              have hR4 := Pcr.app (HR3.out.quiet hal) (zeroC_T _) hO4 hf4 (hg4.imp id fun ⟨x, e, h⟩ => ⟨x, e, by have := HF3.out.size; first | omega | (simp at h; omega)⟩) (by decide) (by decide)
              have hgn := HR3.out.new
              have HR4 := hide hR4
              have HF4 : Hid (Fr (fun _ => False) w w4) := (HF3.out.trans hal).comp hf4 fun i hi e => by have := hgn i e.symm; omega
              clear hO4 hf4 hg4 hR4 hal hO3 hgn
              go_wp2_with fail
              exact ⟨⟨k + 3 + 0, l ++ [PC.no], A4, m + 1, c4, g4, rfl, by first | rfl | (congr 1; done) | (congr 1; omega), h3', hT3, HR4, HF4⟩, by simp [intOf]; omega⟩
          · have hz2 : ¬ (c : Int) = (k : Int) + 3 := by omega
            have hdec := hdec (o + (k + 3)) (c - (k + 3)) (by omega) (by omega) hS1
            clear hS1
            go_wp2_with fail
            refine hdec.mono ?_
            intro v w2 hp
            obtain ⟨q, er, rfl, hV, hQ, hf2⟩ := hp.is
            clear hp hdec
            obtain ⟨w3, hw3⟩ : ∃ w3, (w2.alloc (.cells #[.int .i64 0, .int .i64 0, .string ⟨#[]⟩, .int .i64 0, .int .u64 0, .int .i64 0, .int .i64 0, .int .i64 0, .int .i64 0, .int .i64 0, .int .u64 0, .int .u64 0, .slice none 0 0, .int .i64 0, .int .i64 0, .int .i64 0, .int .i64 0, .int .i64 0, .int .i64 0, .int .u64 0, .int .u64 0, .int .u64 0, .int .i64 0, .slice none 0 0] tCm)).setRow w2.heap.size #[.int .i64 q.id, .int .i64 q.kind, .string (strOf q.name), .int .i64 q.to_, .int .u64 (q.co : Int), .int .i64 q.item, .int .i64 q.num, .int .i64 q.of_, .int .i64 q.e.acc, .int .i64 q.e.item, .int .u64 (q.e.co : Int), .int .u64 (q.e.pr : Int), .slice q.e.A q.e.n q.e.c, .int .i64 q.k.num, .int .i64 q.k.kind, .int .i64 q.k.by_, .int .i64 q.k.dl, .int .i64 q.k.to_, .int .i64 q.k.want, .int .u64 (q.k.pr : Int), .int .u64 (q.k.rs : Int), .int .u64 (q.k.st : Int), .int .i64 q.k.of_, .slice q.k.A q.k.n q.k.c] = w3 := ⟨_, rfl⟩
            have kp : In.storeIn Try.prog 31 (.pointer (some ⟨w2.heap.size, 0, none⟩)) (.agg #[.int .i64 q.id, .int .i64 q.kind, .string (strOf q.name), .int .i64 q.to_, .int .u64 (q.co : Int), .int .i64 q.item, .int .i64 q.num, .int .i64 q.of_, .int .i64 q.e.acc, .int .i64 q.e.item, .int .u64 (q.e.co : Int), .int .u64 (q.e.pr : Int), .slice q.e.A q.e.n q.e.c, .int .i64 q.k.num, .int .i64 q.k.kind, .int .i64 q.k.by_, .int .i64 q.k.dl, .int .i64 q.k.to_, .int .i64 q.k.want, .int .u64 (q.k.pr : Int), .int .u64 (q.k.rs : Int), .int .u64 (q.k.st : Int), .int .i64 q.k.of_, .slice q.k.A q.k.n q.k.c]) (w2.alloc (.cells #[.int .i64 0, .int .i64 0, .string ⟨#[]⟩, .int .i64 0, .int .u64 0, .int .i64 0, .int .i64 0, .int .i64 0, .int .i64 0, .int .i64 0, .int .u64 0, .int .u64 0, .slice none 0 0, .int .i64 0, .int .i64 0, .int .i64 0, .int .i64 0, .int .i64 0, .int .i64 0, .int .u64 0, .int .u64 0, .int .u64 0, .int .i64 0, .slice none 0 0] 31)) = .ok () w3 := by rw [← hw3]; exact putC (Bl.new w2 tCm #[.int .i64 0, .int .i64 0, .string ⟨#[]⟩, .int .i64 0, .int .u64 0, .int .i64 0, .int .i64 0, .int .i64 0, .int .i64 0, .int .i64 0, .int .u64 0, .int .u64 0, .slice none 0 0, .int .i64 0, .int .i64 0, .int .i64 0, .int .i64 0, .int .i64 0, .int .i64 0, .int .u64 0, .int .u64 0, .int .u64 0, .int .i64 0, .slice none 0 0]) rfl q
            have hC3 : Bl w3 w2.heap.size tCm (ccells q).toArray := by rw [← hw3]; exact (Bl.new w2 tCm #[.int .i64 0, .int .i64 0, .string ⟨#[]⟩, .int .i64 0, .int .u64 0, .int .i64 0, .int .i64 0, .int .i64 0, .int .i64 0, .int .i64 0, .int .u64 0, .int .u64 0, .slice none 0 0, .int .i64 0, .int .i64 0, .int .i64 0, .int .i64 0, .int .i64 0, .int .i64 0, .int .u64 0, .int .u64 0, .int .u64 0, .int .i64 0, .slice none 0 0]).setRow _
            have lc : In.loadIn Try.prog 31 (.pointer (some ⟨w2.heap.size, 0, none⟩)) w3 = .ok (.agg #[.int .i64 q.id, .int .i64 q.kind, .string (strOf q.name), .int .i64 q.to_, .int .u64 (q.co : Int), .int .i64 q.item, .int .i64 q.num, .int .i64 q.of_, .int .i64 q.e.acc, .int .i64 q.e.item, .int .u64 (q.e.co : Int), .int .u64 (q.e.pr : Int), .slice q.e.A q.e.n q.e.c, .int .i64 q.k.num, .int .i64 q.k.kind, .int .i64 q.k.by_, .int .i64 q.k.dl, .int .i64 q.k.to_, .int .i64 q.k.want, .int .u64 (q.k.pr : Int), .int .u64 (q.k.rs : Int), .int .u64 (q.k.st : Int), .int .i64 q.k.of_, .slice q.k.A q.k.n q.k.c]) w3 := getC hC3
            have hF3 : Fr (fun _ => False) w2 w3 := by rw [← hw3]; exact Fr.setRow ((Fr.refl _ _).alloc _) (.inr (Nat.le_refl _)) _
            have HF23 := hide hF3
            have hF13 := HF1.out.trans (hf2.trans hF3)
            have HR3 := hide (hR.out.quiet hF13)
            have HF3 := hide (HF01.out.trans (hf2.trans hF3))
            have hO3 := HR3.out.ow
            have hsz3 : wo.heap.size ≤ w3.heap.size := hF13.size
            clear hF3 hf2 hF13 hC3 hw3
            by_cases her : er = 0
            · subst her
              have hT3' := hT.out.one (by rw [HL.out]; omega) (by rw [HL.out]; have := Hn.out; omega) hV
              rw [HL.out] at hT3'
              have hT3 := hide hT3'
              clear hT3' hV
              go_wp2_with (at_builtin; go_loud (refine wpList_append_ow _ rfl _ _ 65 rfl tRp j0 (.agg #[.int .i64 0, .int .i64 0, .string ⟨#[]⟩, .int .i64 0, .int .u64 0, .int .i64 0, .int .i64 0, .int .i64 0, .int .i64 0, .int .i64 0, .int .u64 0, .int .u64 0, .slice none 0 0, .int .i64 0, .int .i64 0, .int .i64 0, .int .i64 0, .int .i64 0, .int .i64 0, .int .u64 0, .int .u64 0, .int .u64 0, .int .i64 0, .slice none 0 0, .int .i64 0]) 25 240 Try.underlying65 hj hj0 hj1 hj2 rfl (by decide) _ _ _ _ _ rfl (hO3.fr (S := fun _ => False) ((Fr.refl _ _).alloc _) (fun _ _ => id)) _ _ _ (pcells ⟨q, 0⟩) rfl (sl_pc _ ⟨q, 0⟩ _) (pcells_one ⟨q, 0⟩) (by unfold maxLen; omega) (by omega) ?_))
              intro A4 c4 w4 g4 hO4 hf4 hg4
              have hal : Fr (fun _ => False) w3 (w3.alloc (.cells (pcells ⟨q, 0⟩).toArray tRp)) := (Fr.refl _ _).alloc _
              have hR4 := Pcr.app (HR3.out.quiet hal) ((hQ.quiet HF23.out).quiet hal) hO4 hf4 (hg4.imp id fun ⟨x, e, h⟩ => ⟨x, e, by have := HF3.out.size; first | omega | (simp at h; omega)⟩) (by decide) (by decide)
              have hgn := HR3.out.new
              have HR4 := hide hR4
              have HF4 : Hid (Fr (fun _ => False) w w4) := (HF3.out.trans hal).comp hf4 fun i hi e => by have := hgn i e.symm; omega
              clear hO4 hf4 hg4 hR4 hal hO3 hgn
              go_wp2_with fail
              exact ⟨⟨k + 3 + L, l ++ [⟨q, 0⟩], A4, m + 1, c4, g4, rfl, by first | rfl | (congr 1; done) | (congr 1; omega), h3', hT3, HR4, HF4⟩, by simp [intOf]; omega⟩
            · have hT3' := hT.out.bad (by rw [HL.out]; omega) (by rw [HL.out]; have := Hn.out; omega) hV her
              rw [HL.out] at hT3'
              have hT3 := hide hT3'
              have b4 : ¬ er = 0 := her
              clear hT3' hV her lc
              go_wp2_with (at_builtin; go_loud (refine wpList_append_ow _ rfl _ _ 65 rfl tRp j0 (.agg #[.int .i64 0, .int .i64 0, .string ⟨#[]⟩, .int .i64 0, .int .u64 0, .int .i64 0, .int .i64 0, .int .i64 0, .int .i64 0, .int .i64 0, .int .u64 0, .int .u64 0, .slice none 0 0, .int .i64 0, .int .i64 0, .int .i64 0, .int .i64 0, .int .i64 0, .int .i64 0, .int .u64 0, .int .u64 0, .int .u64 0, .int .i64 0, .slice none 0 0, .int .i64 0]) 25 240 Try.underlying65 hj hj0 hj1 hj2 rfl (by decide) _ _ _ _ _ rfl (hO3.fr (S := fun _ => False) ((Fr.refl _ _).alloc _) (fun _ _ => id)) _ _ _ (pcells PC.no) rfl (sl_pc _ PC.no _) (pcells_one PC.no) (by unfold maxLen; omega) (by omega) ?_))
              intro A4 c4 w4 g4 hO4 hf4 hg4
              have hal : Fr (fun _ => False) w3 (w3.alloc (.cells (pcells PC.no).toArray tRp)) := (Fr.refl _ _).alloc _
              have hR4 := Pcr.app (HR3.out.quiet hal) (zeroC_T _) hO4 hf4 (hg4.imp id fun ⟨x, e, h⟩ => ⟨x, e, by have := HF3.out.size; first | omega | (simp at h; omega)⟩) (by decide) (by decide)
              have hgn := HR3.out.new
              have HR4 := hide hR4
              have HF4 : Hid (Fr (fun _ => False) w w4) := (HF3.out.trans hal).comp hf4 fun i hi e => by have := hgn i e.symm; omega
              clear hO4 hf4 hg4 hR4 hal hO3 hgn
              go_wp2_with fail
              exact ⟨⟨k + 3 + L, l ++ [PC.no], A4, m + 1, c4, g4, rfl, by first | rfl | (congr 1; done) | (congr 1; omega), h3', hT3, HR4, HF4⟩, by simp [intOf]; omega⟩
end Go.Proofs.Ytlcjhbemgagchaa
end
