/- Walks of spans: the two ways of keeping; Clone; Many; Reach. -/
import Derived.Test.YtkbmggclecimeaaSpanD
namespace Go.Proofs.Ytkbmggclecimeaa
open Go.RowKit Sh
set_option linter.unusedVariables false

set_option maxHeartbeats 400000 in
theorem or_any (x y : Bool) (w : World) : Calls Try.prog 53 #[.bool x, .bool y] w fun e w' => e = .returned (.bool (x || y)) ∧ w = w' := by
  cases x <;> cases y
  all_goals
    go_enter Try.func53, Try.ntmps53
    go_wp2
    go_ret
    exact ⟨rfl, rfl⟩

set_option maxHeartbeats 400000 in
theorem andnot_any (x y : Bool) (w : World) : Calls Try.prog 54 #[.bool x, .bool y] w fun e w' => e = .returned (.bool (x && !y)) ∧ w = w' := by
  cases x <;> cases y
  all_goals
    go_enter Try.func54, Try.ntmps54
    go_wp2
    go_ret
    exact ⟨rfl, rfl⟩

/-- how many numbers the first i spans have. -/
def cnt (l : List Sp) : Nat → Int
  | 0 => 0
  | i + 1 => cnt l i + ((sp l i).t - (sp l i).f + 1)
theorem cnt_le {l : List Sp} (hO : Ok l) (hr : Rng l) : ∀ i, i ≤ l.length → 0 ≤ cnt l i ∧ (0 < i → cnt l i ≤ (sp l (i - 1)).t + 1) := by
  intro i
  induction i with
  | zero => intro _; simp [cnt]
  | succ i ih =>
    intro hi
    obtain ⟨h0, h1⟩ := ih (by omega)
    have ho := hO i hi
    have := hr i hi
    simp only [cnt, Nat.add_sub_cancel]
    refine ⟨by omega, fun _ => ?_⟩
    by_cases e : i = 0
    · subst e; simp [cnt]; omega
    · have := h1 (by omega)
      have := ho.2.2 (by omega)
      omega
noncomputable def manyL (l : List Sp) : Int := if okB l = true then cnt l l.length else 0

set_option maxHeartbeats 1000000 in
theorem many_any (v : Value) (l : List Sp) (w : World) (h : IsL w v l) (hr : Rng l) :
    Calls Try.prog 34 #[v] w fun e w' => e = .returned (.int .u64 (manyL l)) ∧ Keep (fun _ => False) w w' := by
  by_cases hO : Ok l
  · have hob := okB_true hO
    have hml : manyL l = cnt l l.length := by rw [manyL, if_pos hob]
    have H := Lib.hid h
    have HR := Lib.hid hr
    have HOB := Lib.hid hob
    have HO := Lib.hid hO
    have HML := Lib.hid hml
    clear hob hO h hr hml
    go_enter Try.func34, Try.ntmps34
    go_wp2_with fail
    refine (may_any v l _ H.out HR.out).mono ?_
    rintro e w1 ⟨rfl, hK1⟩
    rw [HOB.out]
    obtain ⟨A, cp, rfl, hcp, hlen, hA⟩ := H.out.ex
    have HA := Lib.hid hA
    have HK1 := Lib.hid hK1
    clear hK1 hA
    go_wp2_with fail
    go_loopg [2, 10] l.length (fun q v u wr => ∃ i : Nat, i + q = l.length ∧ v = .int .u64 (cnt l i) ∧ u = .int .i64 i ∧ Keep (fun _ => False) w wr)
    case atStart => exact ⟨0, by omega, rfl, rfl, HK1.out⟩
    case round =>
      obtain ⟨i, hq, rfl, rfl, hK⟩ := hrel
      have HK := Lib.hid hK
      have HQ := Lib.hid hq
      clear hK hq
      by_cases hlt : i < l.length
      · obtain ⟨g, o, rfl, hc⟩ := HA.out (by omega)
        obtain ⟨c0, c1⟩ := hc i hlt
        have c0 := HK.out.cell c0
        have c1 := HK.out.cell c1
        obtain ⟨b0, b1⟩ := cnt_le HO.out HR.out i (by omega)
        obtain ⟨b2, b3⟩ := cnt_le HO.out HR.out (i + 1) (by omega)
        have b3 := b3 (by omega)
        simp only [Nat.add_sub_cancel] at b3
        have ho := HO.out i hlt
        have hrr := HR.out i hlt
        have hc1 : cnt l (i + 1) = cnt l i + ((sp l i).t - (sp l i).f + 1) := rfl
        obtain ⟨C, hC⟩ : ∃ C, C = cnt l i := ⟨_, rfl⟩
        rw [← hC] at hc1 b0 ⊢
        have HC1 := Lib.hid hc1
        rw [hc1] at b2 b3
        obtain ⟨f, hf⟩ : ∃ f, f = (sp l i).f := ⟨_, rfl⟩
        obtain ⟨t, ht⟩ : ∃ t, t = (sp l i).t := ⟨_, rfl⟩
        rw [← hf] at c0 hrr ho b2 b3
        rw [← ht] at c1 hrr ho b2 b3
        obtain ⟨r0, r1, r2, r3⟩ := hrr
        obtain ⟨o1, o2, _⟩ := ho
        have Hf := Lib.hid hf
        have Ht := Lib.hid ht
        clear hc hc1 hC hf ht b1
        go_wp2
        go_roundg (l.length - (i + 1))
        case measure => have := HQ.out; omega
        case rel =>
          refine ⟨i + 1, by omega, ?_, by go_num, HK.out.alloc _⟩
          rw [HC1.out, ← Hf.out, ← Ht.out]
      · obtain rfl : l.length = i := by have := HQ.out; omega
        go_wp2
        go_ret
        exact ⟨by rw [HML.out]; rfl, HK.out⟩
  · have hob := okB_false hO
    have hml : manyL l = 0 := by rw [manyL, if_neg (by rw [hob]; simp)]
    have H := Lib.hid h
    have HR := Lib.hid hr
    have HOB := Lib.hid hob
    have HML := Lib.hid hml
    clear hob hO h hr hml
    go_enter Try.func34, Try.ntmps34
    go_wp2_with fail
    refine (may_any v l _ H.out HR.out).mono ?_
    rintro e w1 ⟨rfl, hK1⟩
    rw [HOB.out]
    have HK1 := Lib.hid hK1
    clear hK1
    go_wp2
    go_ret
    exact ⟨by rw [HML.out]; rfl, HK1.out⟩

/-- up to where all is reached. -/
def IsReach (l : List Sp) (n r : Int) : Prop :=
  (¬ Ok l ∧ r = 0) ∨ (Ok l ∧ ∃ k, k < l.length ∧ (sp l k).f ≤ n + 1 ∧ n + 1 ≤ (sp l k).t ∧ r = (sp l k).t) ∨ (Ok l ∧ ¬ mem l (n + 1) ∧ r = n)

set_option maxHeartbeats 1000000 in
theorem reach_span (v : Value) (l : List Sp) (n : Int) (w : World) (h : IsL w v l) (hr : Rng l) (n0 : 0 ≤ n) (n1 : n < 18446744073709551616) :
    Calls Try.prog 39 #[v, .int .u64 n] w fun e w' => (∃ r, e = .returned (.int .u64 r) ∧ IsReach l n r) ∧ Keep (fun _ => False) w w' := by
  have H := Lib.hid h
  have HR := Lib.hid hr
  clear h hr
  by_cases hO : Ok l
  · have hob := okB_true hO
    have HOB := Lib.hid hob
    have HO := Lib.hid hO
    clear hob hO
    by_cases hM : n < 18446744073709551615
    · by_cases hm : mem l (n + 1)
      · have hh : hasLB l (n + 1) = true := hasLB_true ⟨HO.out, hm⟩
        have HH := Lib.hid hh
        have HM := Lib.hid hm
        clear hh hm
        go_enter Try.func39, Try.ntmps39
        go_wp2_with fail
        refine (may_any v l _ H.out HR.out).mono ?_
        rintro e w1 ⟨rfl, hK1⟩
        rw [HOB.out]
        have HK1 := Lib.hid hK1
        clear hK1
        go_wp2_with fail
        refine (has_span v l (n + 1) _ (H.out.keep HK1.out) HR.out).mono ?_
        rintro e w2 ⟨rfl, hK2⟩
        rw [HH.out]
        have HK2 := Lib.hid (HK1.out.step hK2)
        clear hK2
        go_wp2_with fail
        refine (at_span v l (n + 1) _ (H.out.keep HK2.out) HO.out).mono ?_
        rintro e w3 ⟨⟨r, rfl, hat⟩, hK3⟩
        obtain ⟨hrl, hrf⟩ := (hat.mem HO.out).1 HM.out
        have htt := hat.hi r (Nat.le_refl _) hrl
        have HK3 := Lib.hid (HK2.out.step hK3)
        have hI2 := H.out.keep HK3.out
        obtain ⟨A, cp, rfl, hcp, hlen, hA⟩ := hI2.ex
        obtain ⟨g, o, rfl, hc⟩ := hA (by omega)
        obtain ⟨c0, c1⟩ := hc r hrl
        have HF := Lib.hid hrf
        have HT := Lib.hid htt
        clear hat hK3 hI2 hc hrf htt hA
        go_wp2
        go_ret
        exact ⟨⟨(sp l r).t, rfl, .inr (.inl ⟨HO.out, r, hrl, HF.out, HT.out, rfl⟩)⟩, HK3.out⟩
      · have hh : hasLB l (n + 1) = false := hasLB_false (fun h => hm h.2)
        have HH := Lib.hid hh
        have HM := Lib.hid hm
        clear hh hm
        go_enter Try.func39, Try.ntmps39
        go_wp2_with fail
        refine (may_any v l _ H.out HR.out).mono ?_
        rintro e w1 ⟨rfl, hK1⟩
        rw [HOB.out]
        have HK1 := Lib.hid hK1
        clear hK1
        go_wp2_with fail
        refine (has_span v l (n + 1) _ (H.out.keep HK1.out) HR.out).mono ?_
        rintro e w2 ⟨rfl, hK2⟩
        rw [HH.out]
        have HK2 := Lib.hid (HK1.out.step hK2)
        clear hK2
        go_wp2
        go_ret
        exact ⟨⟨n, rfl, .inr (.inr ⟨HO.out, HM.out, rfl⟩)⟩, HK2.out⟩
    · have hm : ¬ mem l (n + 1) := by
        rintro ⟨k, hk, m1, m2⟩
        have := (HO.out k hk).2.1
        omega
      have HM := Lib.hid hm
      clear hm
      go_enter Try.func39, Try.ntmps39
      go_wp2_with fail
      refine (may_any v l _ H.out HR.out).mono ?_
      rintro e w1 ⟨rfl, hK1⟩
      rw [HOB.out]
      have HK1 := Lib.hid hK1
      clear hK1
      go_wp2
      go_ret
      exact ⟨⟨n, rfl, .inr (.inr ⟨HO.out, HM.out, rfl⟩)⟩, HK1.out⟩
  · have hob := okB_false hO
    have HOB := Lib.hid hob
    have HO := Lib.hid hO
    clear hob hO
    go_enter Try.func39, Try.ntmps39
    go_wp2_with fail
    refine (may_any v l _ H.out HR.out).mono ?_
    rintro e w1 ⟨rfl, hK1⟩
    rw [HOB.out]
    have HK1 := Lib.hid hK1
    clear hK1
    go_wp2
    go_ret
    exact ⟨⟨0, rfl, .inl ⟨HO.out, rfl⟩⟩, HK1.out⟩

end Go.Proofs.Ytkbmggclecimeaa
