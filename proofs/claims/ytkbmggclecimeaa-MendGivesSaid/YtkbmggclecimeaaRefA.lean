/- The document's May and Has: walks. -/
import Derived.Test.YtkbmggclecimeaaRefP
namespace Go.Proofs.Ytkbmggclecimeaa
open Go.RowKit Sh
set_option linter.unusedVariables false

structure SBox (p : Prop) : Prop where
  out : p
theorem sb_step {P : Program} {ops : Array Oper} {w : World} {Q : Act → Prop} {a : Act} {o : Oper} {rest : List Oper} (h : ∀ K : Act → Prop, (∀ a, SBox (wpStill P ops w Q rest a) → K a) → if Region.wanted o (yielded ops a.tmps) then o.still P a w K else K (a.put o.dst undef)) : SBox (wpStill P ops w Q (o :: rest) a) :=
  ⟨wpStill_step fun K hK => h K fun a h => hK a h.out⟩
theorem sb_nil {P : Program} {ops : Array Oper} {w : World} {Q : Act → Prop} {a : Act} (h : Q a) : SBox (wpStill P ops w Q [] a) := ⟨wpStill_nil h⟩
theorem sb_lit {P : Program} {id : Nat} {Q : Exit → Act → World → Prop} {a : Act} {w : World} {l : List Oper} (hm : P.follows .mixedOrders = true) (hB : Region.lexB .any l.toArray = true)
    (h : SBox (wpStill P l.toArray w.drew (fun a' => Q .normal a' w.drew) l a)) : (Code.region id l.toArray true).wp P Q a w :=
  wp_region_still_lit hm hB h.out
theorem sb_tail {P : Program} {id : Nat} {Q : Exit → Act → World → Prop} {a : Act} {w : World} {l : List Oper} (n : Nat) (hm : P.follows .mixedOrders = true) (hB : Region.lexTailB .any l.toArray n = true)
    (h : SBox (wpStill P l.toArray w.drew (fun a' => wpList P l.toArray Q (l.drop n) a' w.drew) (l.take n) a)) : (Code.region id l.toArray true).wp P Q a w :=
  wp_region_still_tail n hm hB h.out

theorem okTo_more {l : List Sp} {i : Nat} (h : OkTo l i) (h1 : (sp l i).f ≤ (sp l i).t) (h2 : (sp l i).t < 18446744073709551615) (h3 : 0 < i → (sp l (i - 1)).t + 2 ≤ (sp l i).f) : OkTo l (i + 1) := by
  intro j hj
  by_cases e : j = i
  · subst e; exact ⟨h1, h2, h3⟩
  · exact h j (by omega)

set_option maxRecDepth 100000 in
set_option maxHeartbeats 2000000 in
theorem rmay_any (v : Value) (l : List Sp) (w : World) (h : IsL w v l) (hr : Rng l) :
    Calls Try.prog 25 #[v] w fun e w' => e = .returned (.bool (okB l)) ∧ Keep (fun _ => False) w w' := by
  obtain ⟨A, cp, rfl, hcp, hlen, hA⟩ := h.ex
  have HA := Lib.hid hA
  have HR := Lib.hid hr
  clear hA h hr
  go_enter Try.func25, Try.ntmps25
  go_wp2
  go_loopg [3] l.length (fun q u wr => ∃ i : Nat, i + q = l.length ∧ u = .int .i64 i ∧ OkTo l i ∧ Keep (fun _ => False) w wr)
  case atStart => exact ⟨0, by omega, rfl, fun j hj => by omega, Keep.refl _ w⟩
  case round =>
    obtain ⟨i, hq, rfl, hO, hK⟩ := hrel
    have HO := Lib.hid hO
    have HK := Lib.hid hK
    have HQ := Lib.hid hq
    clear hO hK hq
    by_cases hlt : i < l.length
    · obtain ⟨g, o, rfl, hc⟩ := HA.out (by omega)
      obtain ⟨c0, c1⟩ := hc i hlt
      have c0 := HK.out.cell c0
      have c1 := HK.out.cell c1
      have hrr := HR.out i hlt
      obtain ⟨f, hf⟩ : ∃ f, f = (sp l i).f := ⟨_, rfl⟩
      obtain ⟨t, ht⟩ : ∃ t, t = (sp l i).t := ⟨_, rfl⟩
      rw [← hf] at c0 hrr
      rw [← ht] at c1 hrr
      have HF := Lib.hid hf
      have HT := Lib.hid ht
      obtain ⟨r0, r1, r2, r3⟩ := hrr
      have HC := Lib.hid hc
      clear hc hf ht
      go_upto_region 4 with fail
      by_cases h1 : t < f
      · have t1 : decide (t < f) = true := decide_eq_true h1
        have hN : okB l = false := okB_false (fun h => by have := h i hlt; rw [← HF.out, ← HT.out] at this; omega)
        have HN := Lib.hid hN
        clear hN
        refine sb_lit (by kernel_rfl) (by kernel_rfl) ?_
        repeat (refine sb_step (fun K hK => ?_); go_simp; refine hK _ ?_; clear hK K)
        refine sb_nil ?_
        go_wp2
        go_ret
        exact ⟨by rw [HN.out]; rfl, HK.out.drew⟩
      · have t1 : decide (t < f) = false := decide_eq_false h1
        by_cases h2 : t = 18446744073709551615
        · have hN : okB l = false := okB_false (fun h => by have := h i hlt; rw [← HF.out, ← HT.out] at this; omega)
          have HN := Lib.hid hN
          subst h2
          clear hN
          refine sb_lit (by kernel_rfl) (by kernel_rfl) ?_
          repeat (refine sb_step (fun K hK => ?_); go_simp; refine hK _ ?_; clear hK K)
          refine sb_nil ?_
          go_wp2
          go_ret
          exact ⟨by rw [HN.out]; rfl, HK.out.drew⟩
        · have t2 : (t == 18446744073709551615) = false := by rw [beq_eq_false_iff_ne]; exact h2
          by_cases hi0 : i = 0
          · have k6 : decide ((0 : Int) < (i : Int)) = false := decide_eq_false (by omega)
            have k5 : ¬ 0 < i := by omega
            have k9 : decide (0 < i) = false := decide_eq_false k5
            have HO1 : Hid (OkTo l (i + 1)) := okTo_more HO.out (by rw [← HF.out, ← HT.out]; omega) (by rw [← HT.out]; omega) (fun h => by omega)
            clear hi0
            refine sb_lit (by kernel_rfl) (by kernel_rfl) ?_
            repeat (refine sb_step (fun K hK => ?_); go_simp; refine hK _ ?_; clear hK K)
            refine sb_nil ?_
            go_wp2
            go_roundg (l.length - (i + 1))
            case measure => have := HQ.out; omega
            case rel => exact ⟨i + 1, by omega, by go_num, HO1.out, HK.out.drew⟩
          · obtain ⟨j, hj⟩ : ∃ j, i = j + 1 := ⟨i - 1, by omega⟩
            obtain ⟨_, d1⟩ := HC.out j (by omega)
            have d1 := HK.out.cell d1
            have hpr := HR.out j (by omega)
            have hpo := HO.out j (by omega)
            obtain ⟨p, hp⟩ : ∃ p, p = (sp l j).t := ⟨_, rfl⟩
            rw [← hp] at d1 hpr hpo
            have HP := Lib.hid hp
            obtain ⟨_, _, p2, p3⟩ := hpr
            have p4 := hpo.2.1
            clear hp hpo
            have k3 : IntKind.i64.wrap ((i : Int) - 1) = (j : Int) := (IntWalk.i64_in _ (by omega)).trans (by omega)
            have k4 : (j : Int) < (l.length : Int) := by omega
            have k5 : (0 : Int) < (i : Int) := by omega
            have k6 : decide ((0 : Int) < (i : Int)) = true := decide_eq_true k5
            have k7 : j < l.length := by omega
            have k9 : 0 < i := by omega
            have k10 : decide (0 < i) = true := decide_eq_true k9
            have k8 : 0 ≤ (j : Int) := by omega
            have u1 : IntKind.u64.wrap (p + 1) = p + 1 := by rw [IntKind.wrap_u64]; omega
            have HJ := Lib.hid hj
            clear hj hi0
            by_cases h3 : f ≤ p
            · have t3 : decide (f ≤ p) = true := decide_eq_true h3
              have hN : okB l = false := okB_false (fun h => by have := (h i hlt).2.2 (by have := HJ.out; omega); rw [← HF.out, show i - 1 = j by have := HJ.out; omega, ← HP.out] at this; omega)
              have HN := Lib.hid hN
              clear hN
              refine sb_lit (by kernel_rfl) (by kernel_rfl) ?_
              repeat (refine sb_step (fun K hK => ?_); go_simp; refine hK _ ?_; clear hK K)
              refine sb_nil ?_
              go_wp2
              go_ret
              exact ⟨by rw [HN.out]; rfl, HK.out.drew⟩
            · have t3 : decide (f ≤ p) = false := decide_eq_false h3
              by_cases h4 : f = p + 1
              · have t4 : (f == p + 1) = true := by rw [beq_iff_eq]; exact h4
                have hN : okB l = false := okB_false (fun h => by have := (h i hlt).2.2 (by have := HJ.out; omega); rw [← HF.out, show i - 1 = j by have := HJ.out; omega, ← HP.out] at this; omega)
                have HN := Lib.hid hN
                clear hN
                subst h4
                refine sb_lit (by kernel_rfl) (by kernel_rfl) ?_
                repeat (refine sb_step (fun K hK => ?_); go_simp; refine hK _ ?_; clear hK K)
                refine sb_nil ?_
                go_wp2
                go_ret
                exact ⟨by rw [HN.out]; rfl, HK.out.drew⟩
              · have t4 : (f == p + 1) = false := by rw [beq_eq_false_iff_ne]; exact h4
                have HO1 : Hid (OkTo l (i + 1)) := okTo_more HO.out (by rw [← HF.out, ← HT.out]; omega) (by rw [← HT.out]; omega) (fun h => by rw [show i - 1 = j by have := HJ.out; omega, ← HP.out, ← HF.out]; omega)
                refine sb_lit (by kernel_rfl) (by kernel_rfl) ?_
                repeat (refine sb_step (fun K hK => ?_); go_simp; refine hK _ ?_; clear hK K)
                refine sb_nil ?_
                go_wp2
                go_roundg (l.length - (i + 1))
                case measure => have := HQ.out; omega
                case rel => exact ⟨i + 1, by omega, by go_num, HO1.out, HK.out.drew⟩
    · obtain rfl : i = l.length := by have := HQ.out; omega
      have hob : okB l = true := okB_true HO.out
      have HN := Lib.hid hob
      clear hob
      go_wp2
      go_ret
      exact ⟨by rw [HN.out]; rfl, HK.out⟩

end Go.Proofs.Ytkbmggclecimeaa
