/- SpanTells: the walk of the law. -/
import Derived.Test.YtkbmggclecimeaaTellE
namespace Go.Proofs.Ytkbmggclecimeaa
open Go.RowKit Sh
set_option linter.unusedVariables false

theorem isl_shape {w : World} {v : Value} {l : List Sp} (h : IsL w v l) : ∃ A n c, v = .slice A n c := by
  obtain ⟨A, c, rfl, _⟩ := h.ex
  exact ⟨A, _, c, rfl⟩
theorem same_eq {w : World} {va vb : Value} {a : List Sp} (ha : IsL w va a) (hb : IsL w vb a) :
    Calls Try.prog 28 #[va, vb] w fun e w' => e = .returned (.bool true) ∧ Keep (fun _ => False) w w' := by
  refine (same_any va vb a a w ha hb).mono ?_
  rintro e w' ⟨rfl, hk⟩
  exact ⟨by rw [decide_eq_true rfl], hk⟩

set_option maxRecDepth 100000 in
set_option maxHeartbeats 4000000 in
theorem tells_walk {w : World} {va vb : Value} {a b : List Sp} (ha : IsL w va a) (hb : IsL w vb b) (ra : Rng a) (rb : Rng b) (n : Int) (n0 : 0 ≤ n) (n1 : n < 18446744073709551616) :
    Calls Try.prog 9 #[va, vb, .int .u64 n] w fun e w' => e = .returned (.bool true) ∧ Keep (fun _ => False) w w' := by
  have HA := Lib.hid ha
  have HB := Lib.hid hb
  have RA := Lib.hid ra
  have RB := Lib.hid rb
  obtain ⟨Aa, ca, rfl, _, _, _⟩ := ha.ex
  obtain ⟨Ab, cb, rfl, _, _, _⟩ := hb.ex
  clear ha hb ra rb
  by_cases hs : a.length ≤ 100 ∧ b.length ≤ 100
  · obtain ⟨hs1, hs2⟩ := hs
    have d1 : decide ((100 : Int) < (a.length : Int)) = false := by simp; omega
    have d2 : ¬ (100 : Int) < (a.length : Int) := by omega
    have d3 : decide ((100 : Int) < (b.length : Int)) = false := by simp; omega
    have d4 : ¬ (100 : Int) < (b.length : Int) := by omega
    go_enter Try.func9, Try.ntmps9
    go_wp2_with fail
    refine (shown12 w).mono ?_
    rintro e w1 ⟨rfl, hk1⟩
    have HK1 := Lib.hid hk1
    clear hk1 d1 d2 d3 d4
    go_wp2_with fail
    refine (add_gen (HA.out.keep HK1.out) RA.out (by omega) n n0 n1).mono ?_
    rintro e w2 ⟨⟨x, X, p, rfl, hx, ax⟩, hk2⟩
    have HK2 := Lib.hid (HK1.out.step hk2)
    have HX := Lib.hid hx
    have AX := Lib.hid ax
    obtain ⟨Ax, nx, cx, rfl⟩ := isl_shape hx
    clear hk2 hx ax
    go_wp2_with fail
    refine (radd_gen (HA.out.keep HK2.out) RA.out (by omega) n n0 n1).mono ?_
    rintro e w3 ⟨⟨y, Y, q, rfl, hy, ay⟩, hk3⟩
    have HK3 := Lib.hid (HK2.out.step hk3)
    have HX3 := Lib.hid (HX.out.keep hk3)
    obtain ⟨rfl, rfl⟩ := AX.out.uniq ay
    have HY := Lib.hid hy
    obtain ⟨Ay, ny, cy, rfl⟩ := isl_shape hy
    clear hk3 hy ay AX HX
    go_wp2_with fail
    refine (may_any _ a _ (HA.out.keep HK3.out) RA.out).mono ?_
    rintro e w4 ⟨rfl, hk4⟩
    have HK4 := Lib.hid (HK3.out.step hk4)
    have HX4 := Lib.hid (HX3.out.keep hk4)
    have HY4 := Lib.hid (HY.out.keep hk4)
    clear hk4
    go_wp2_with fail
    refine (rmay_any _ a _ (HA.out.keep HK4.out) RA.out).mono ?_
    rintro e w5 ⟨rfl, hk5⟩
    have HK5 := Lib.hid (HK4.out.step hk5)
    have HX5 := Lib.hid (HX4.out.keep hk5)
    have HY5 := Lib.hid (HY4.out.keep hk5)
    clear hk5
    go_wp2_with fail
    refine (has_span _ a n _ (HA.out.keep HK5.out) RA.out).mono ?_
    rintro e w6 ⟨rfl, hk6⟩
    have HK6 := Lib.hid (HK5.out.step hk6)
    have HX6 := Lib.hid (HX5.out.keep hk6)
    have HY6 := Lib.hid (HY5.out.keep hk6)
    clear hk6
    go_wp2_with fail
    refine (rhas_any _ a n _ (HA.out.keep HK6.out) RA.out).mono ?_
    rintro e w7 ⟨rfl, hk7⟩
    have HK7 := Lib.hid (HK6.out.step hk7)
    have HX7 := Lib.hid (HX6.out.keep hk7)
    have HY7 := Lib.hid (HY6.out.keep hk7)
    clear hk7
    go_wp2_with fail
    refine (many_any _ a _ (HA.out.keep HK7.out) RA.out).mono ?_
    rintro e w8 ⟨rfl, hk8⟩
    have HK8 := Lib.hid (HK7.out.step hk8)
    have HX8 := Lib.hid (HX7.out.keep hk8)
    have HY8 := Lib.hid (HY7.out.keep hk8)
    clear hk8
    go_wp2_with fail
    refine (rmany_gen _ a _ (HA.out.keep HK8.out) RA.out).mono ?_
    rintro e w9 ⟨rfl, hk9⟩
    have HK9 := Lib.hid (HK8.out.step hk9)
    have HX9 := Lib.hid (HX8.out.keep hk9)
    have HY9 := Lib.hid (HY8.out.keep hk9)
    clear hk9
    go_wp2_with fail
    refine (same_eq HX9.out HY9.out).mono ?_
    rintro e w10 ⟨rfl, hk10⟩
    have HK10 := Lib.hid (HK9.out.step hk10)
    clear hk10
    go_wp2_with fail
    refine (join_gen (HA.out.keep HK10.out) (HB.out.keep HK10.out) RA.out RB.out (by omega)).mono ?_
    rintro e w11 ⟨⟨j, J, rfl, hj, bj⟩, hk11⟩
    have HK11 := Lib.hid (HK10.out.step hk11)
    have HJ := Lib.hid hj
    have BJ := Lib.hid bj
    clear hk11 hj bj
    go_wp2_with fail
    refine (rjoin_gen (HA.out.keep HK11.out) (HB.out.keep HK11.out) RA.out RB.out (by omega)).mono ?_
    rintro e w12 ⟨⟨j2, J2, rfl, hj, bj⟩, hk12⟩
    have HK12 := Lib.hid (HK11.out.step hk12)
    have HJ1 := Lib.hid (HJ.out.keep hk12)
    obtain rfl := BJ.out.uniq bj
    have HJ2 := Lib.hid hj
    clear hk12 hj bj BJ HJ
    go_wp2_with fail
    refine (same_eq HJ1.out HJ2.out).mono ?_
    rintro e w13 ⟨rfl, hk13⟩
    have HK13 := Lib.hid (HK12.out.step hk13)
    clear hk13
    go_wp2_with fail
    refine (minus_gen (HA.out.keep HK13.out) (HB.out.keep HK13.out) RA.out RB.out (by omega)).mono ?_
    rintro e w14 ⟨⟨m, M, rfl, hj, bj⟩, hk14⟩
    have HK14 := Lib.hid (HK13.out.step hk14)
    have HM := Lib.hid hj
    have BM := Lib.hid bj
    clear hk14 hj bj
    go_wp2_with fail
    refine (rminus_gen (HA.out.keep HK14.out) (HB.out.keep HK14.out) RA.out RB.out (by omega) (by omega)).mono ?_
    rintro e w15 ⟨⟨m2, M2, rfl, hj, bj⟩, hk15⟩
    have HK15 := Lib.hid (HK14.out.step hk15)
    have HM1 := Lib.hid (HM.out.keep hk15)
    obtain rfl := BM.out.uniq bj
    have HM2 := Lib.hid hj
    clear hk15 hj bj BM HM
    go_wp2_with fail
    refine (same_eq HM1.out HM2.out).mono ?_
    rintro e w16 ⟨rfl, hk16⟩
    have HK16 := Lib.hid (HK15.out.step hk16)
    clear hk16
    go_wp2_with fail
    refine (reach_span _ a n _ (HA.out.keep HK16.out) RA.out n0 n1).mono ?_
    rintro e w17 ⟨⟨r, rfl, hr⟩, hk17⟩
    have HK17 := Lib.hid (HK16.out.step hk17)
    have HRR := Lib.hid hr
    clear hk17 hr
    go_wp2_with fail
    refine (rreach_gen _ a n _ (HA.out.keep HK17.out) RA.out n0 n1).mono ?_
    rintro e w18 ⟨⟨r2, rfl, hr⟩, hk18⟩
    have HK18 := Lib.hid (HK17.out.step hk18)
    obtain rfl := reach_uniq HRR.out hr
    clear hk18 hr
    go_wp2_with fail
    refine (first_all _ a n _ (HA.out.keep HK18.out) RA.out n0 n1 (by omega)).mono ?_
    rintro e w19 ⟨⟨f, F, rfl, hf, bf⟩, hk19⟩
    have HK19 := Lib.hid (HK18.out.step hk19)
    have HF := Lib.hid hf
    have BF := Lib.hid bf
    clear hk19 hf bf
    go_wp2_with fail
    refine (rfirst_gen _ a n _ (HA.out.keep HK19.out) RA.out n0 n1 (by omega)).mono ?_
    rintro e w20 ⟨⟨f2, F2, rfl, hf, bf⟩, hk20⟩
    have HK20 := Lib.hid (HK19.out.step hk20)
    have HF1 := Lib.hid (HF.out.keep hk20)
    obtain rfl := BF.out.uniq RA.out bf
    have HF2 := Lib.hid hf
    clear hk20 hf bf BF HF
    go_wp2_with fail
    refine (same_eq HF1.out HF2.out).mono ?_
    rintro e w21 ⟨rfl, hk21⟩
    have HK21 := Lib.hid (HK20.out.step hk21)
    clear hk21
    go_wp2
    go_ret
    exact ⟨rfl, HK21.out⟩
  · by_cases h1 : 100 < a.length
    · have d1 : decide ((100 : Int) < (a.length : Int)) = true := by simp; omega
      have d2 : (100 : Int) < (a.length : Int) := by omega
      clear hs
      go_enter Try.func9, Try.ntmps9
      go_wp2_with fail
      refine (shown12 w).mono ?_
      rintro e w1 ⟨rfl, hk1⟩
      have HK1 := Lib.hid hk1
      clear hk1
      go_wp2
      go_ret
      exact ⟨rfl, HK1.out⟩
    · have d1 : decide ((100 : Int) < (a.length : Int)) = false := by simp; omega
      have d2 : ¬ (100 : Int) < (a.length : Int) := by omega
      have d3 : decide ((100 : Int) < (b.length : Int)) = true := by simp; omega
      have d4 : (100 : Int) < (b.length : Int) := by omega
      clear hs
      go_enter Try.func9, Try.ntmps9
      go_wp2_with fail
      refine (shown12 w).mono ?_
      rintro e w1 ⟨rfl, hk1⟩
      have HK1 := Lib.hid hk1
      clear hk1
      go_wp2
      go_ret
      exact ⟨rfl, HK1.out⟩

end Go.Proofs.Ytkbmggclecimeaa
