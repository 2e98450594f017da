/- The law SpanBoth, walked. -/
import Derived.Test.YtkbmggclecimeaaSpanG
namespace Go.Proofs.Ytkbmggclecimeaa
open Go.RowKit Sh
set_option linter.unusedVariables false

set_option maxRecDepth 100000 in
set_option maxHeartbeats 2000000 in
theorem both_law {w : World} {va vb vc : Value} {a b c : List Int} (ha : IsB w va a) (hb : IsB w vb b) (hc : IsB w vc c) :
    Calls Try.prog 6 #[va, vb, vc] w fun e w' => e = .returned (.bool true) ∧ Keep (fun _ => False) w w' := by
  have HA := Lib.hid ha
  have HB := Lib.hid hb
  have HC := Lib.hid hc
  have SA := Lib.hid (KB_small ha)
  have SB := Lib.hid (KB_small hb)
  have SC := Lib.hid (KB_small hc)
  obtain ⟨A, ca, rfl, _, _, _⟩ := ha.ex
  obtain ⟨B, cb, rfl, _, _, _⟩ := hb.ex
  obtain ⟨C, cc, rfl, _, _, _⟩ := hc.ex
  clear ha hb hc
  by_cases hs : a.length ≤ 60 ∧ b.length ≤ 60 ∧ c.length ≤ 60
  · have d1 : decide ((60 : Int) < (a.length : Int)) = false := by simp; omega
    have d2 : decide ((60 : Int) < (b.length : Int)) = false := by simp; omega
    have d3 : decide ((60 : Int) < (c.length : Int)) = false := by simp; omega
    have f1 : ¬ (60 : Int) < (a.length : Int) := by omega
    have f2 : ¬ (60 : Int) < (b.length : Int) := by omega
    have f3 : ¬ (60 : Int) < (c.length : Int) := by omega
    clear hs
    go_enter Try.func6, Try.ntmps6
    go_wp2_with fail
    refine (shown12 w).mono ?_
    rintro e w1 ⟨rfl, hk1⟩
    have HK1 := Lib.hid hk1
    clear hk1 d1 d2 d3 f1 f2 f3
    go_wp2_with fail
    refine (made_set (HA.out.keep HK1.out)).mono ?_
    rintro e w2 ⟨⟨x, rfl, hx⟩, hk2⟩
    have HK2 := Lib.hid (HK1.out.step hk2)
    have HX := Lib.hid hx
    clear hk2 hx
    go_wp2_with fail
    refine (made_set (HB.out.keep HK2.out)).mono ?_
    rintro e w3 ⟨⟨y, rfl, hy⟩, hk3⟩
    have HK3 := Lib.hid (HK2.out.step hk3)
    have HY := Lib.hid hy
    have HX3 := Lib.hid (HX.out.keep hk3)
    clear hk3 hy HX
    go_wp2_with fail
    refine (made_set (HC.out.keep HK3.out)).mono ?_
    rintro e w4 ⟨⟨z, rfl, hz⟩, hk4⟩
    have hk := HK3.out.step hk4
    obtain ⟨wb, hwb⟩ : ∃ wb, wb = w4 := ⟨_, rfl⟩
    have HX4 := Lib.hid (HX3.out.keep hk4)
    have HY4 := Lib.hid (HY.out.keep hk4)
    rw [← hwb] at HX4 HY4 hz hk ⊢
    have HZ4 := Lib.hid hz
    have HK4 := Lib.hid hk
    clear hk4 hz hk hwb HX3 HY HK1 HK2 HK3
    go_wp2_with fail
    refine (join_set HX4.out HY4.out SA.out SB.out).mono ?_
    rintro e w5 ⟨⟨v1, rfl, h1⟩, hk5⟩
    have V1 := Lib.hid h1
    have HK5 := Lib.hid hk5
    clear h1 hk5
    go_wp2_with fail
    refine (join_set V1.out (HZ4.out.keep HK5.out) (SA.out.or SB.out) SC.out).mono ?_
    rintro e w6 ⟨⟨v2, rfl, h2⟩, hk6⟩
    have V2 := Lib.hid h2
    have HK6 := Lib.hid (HK5.out.step hk6)
    clear h2 hk6
    go_wp2_with fail
    refine (join_set (HY4.out.keep HK6.out) (HZ4.out.keep HK6.out) SB.out SC.out).mono ?_
    rintro e w7 ⟨⟨v3, rfl, h3⟩, hk7⟩
    have V3 := Lib.hid h3
    have V2b := Lib.hid (V2.out.keep hk7)
    have HK7 := Lib.hid (HK6.out.step hk7)
    clear h3 hk7 V2
    go_wp2_with fail
    refine (join_set (HX4.out.keep HK7.out) V3.out SA.out (SB.out.or SC.out)).mono ?_
    rintro e w8 ⟨⟨v4, rfl, h4⟩, hk8⟩
    have V4 := Lib.hid h4
    have V2c := Lib.hid (V2b.out.keep hk8)
    have HK8 := Lib.hid (HK7.out.step hk8)
    clear h4 hk8 V2b
    go_wp2_with fail
    refine (same_set V2c.out V4.out (fun x => by rw [Bool.or_assoc])).mono ?_
    rintro e w9 ⟨rfl, hk9⟩
    have HK9 := Lib.hid (HK8.out.step hk9)
    clear hk9 V1 V2c V3 V4 HK5 HK6 HK7 HK8
    go_wp2_with fail
    refine (join_set (HX4.out.keep HK9.out) (HY4.out.keep HK9.out) SA.out SB.out).mono ?_
    rintro e w10 ⟨⟨v1, rfl, h1⟩, hk5⟩
    have V1 := Lib.hid h1
    have HK10 := Lib.hid (HK9.out.step hk5)
    clear h1 hk5
    go_wp2_with fail
    refine (join_set (HY4.out.keep HK10.out) (HX4.out.keep HK10.out) SB.out SA.out).mono ?_
    rintro e w11 ⟨⟨v2, rfl, h2⟩, hk6⟩
    have V2 := Lib.hid h2
    have V1b := Lib.hid (V1.out.keep hk6)
    have HK11 := Lib.hid (HK10.out.step hk6)
    clear h2 hk6
    go_wp2_with fail
    refine (same_set V1b.out V2.out (fun x => Bool.or_comm _ _)).mono ?_
    rintro e w12 ⟨rfl, hk9⟩
    have HK12 := Lib.hid (HK11.out.step hk9)
    clear hk9 V1 V2 V1b HK9 HK10 HK11
    go_wp2_with fail
    refine (minus_set (HX4.out.keep HK12.out) (HY4.out.keep HK12.out) SA.out SB.out).mono ?_
    rintro e w13 ⟨⟨v1, rfl, h1⟩, hk5⟩
    have V1 := Lib.hid h1
    have HK13 := Lib.hid (HK12.out.step hk5)
    clear h1 hk5
    go_wp2_with fail
    refine (minus_set V1.out (HZ4.out.keep HK13.out) (SA.out.minus _) SC.out).mono ?_
    rintro e w14 ⟨⟨v2, rfl, h2⟩, hk6⟩
    have V2 := Lib.hid h2
    have HK14 := Lib.hid (HK13.out.step hk6)
    clear h2 hk6
    go_wp2_with fail
    refine (join_set (HY4.out.keep HK14.out) (HZ4.out.keep HK14.out) SB.out SC.out).mono ?_
    rintro e w15 ⟨⟨v3, rfl, h3⟩, hk7⟩
    have V3 := Lib.hid h3
    have V2b := Lib.hid (V2.out.keep hk7)
    have HK15 := Lib.hid (HK14.out.step hk7)
    clear h3 hk7 V2
    go_wp2_with fail
    refine (minus_set (HX4.out.keep HK15.out) V3.out SA.out (SB.out.or SC.out)).mono ?_
    rintro e w16 ⟨⟨v4, rfl, h4⟩, hk8⟩
    have V4 := Lib.hid h4
    have V2c := Lib.hid (V2b.out.keep hk8)
    have HK16 := Lib.hid (HK15.out.step hk8)
    clear h4 hk8 V2b
    go_wp2_with fail
    refine (same_set V2c.out V4.out (fun x => by rw [Bool.not_or, Bool.and_assoc])).mono ?_
    rintro e w17 ⟨rfl, hk9⟩
    have HK17 := Lib.hid (HK16.out.step hk9)
    clear hk9 V1 V2c V3 V4 HK12 HK13 HK14 HK15 HK16
    go_wp2_with fail
    refine (minus_set (HX4.out.keep HK17.out) (HX4.out.keep HK17.out) SA.out SA.out).mono ?_
    rintro e w18 ⟨⟨v1, rfl, h1⟩, hk5⟩
    have V1 := Lib.hid h1
    have HK18 := Lib.hid (HK17.out.step hk5)
    clear h1 hk5
    go_wp2_with fail
    refine (same_set V1.out (IsSet.nil _) (fun x => by simp)).mono ?_
    rintro e w19 ⟨rfl, hk9⟩
    have HK19 := Lib.hid (HK18.out.step hk9)
    clear hk9 V1 HK17 HK18
    go_wp2_with fail
    refine (join_set (HX4.out.keep HK19.out) (HX4.out.keep HK19.out) SA.out SA.out).mono ?_
    rintro e w20 ⟨⟨v1, rfl, h1⟩, hk5⟩
    have V1 := Lib.hid h1
    have HK20 := Lib.hid (HK19.out.step hk5)
    clear h1 hk5
    go_wp2_with fail
    refine (same_set V1.out (HX4.out.keep HK20.out) (fun x => by simp)).mono ?_
    rintro e w21 ⟨rfl, hk9⟩
    have HK21 := Lib.hid (HK4.out.trans (HK20.out.step hk9) (fun i h _ => h))
    clear hk9 V1 HK19 HK20
    go_wp2
    go_ret
    exact ⟨rfl, HK21.out⟩
  · have big : (60 : Int) < (a.length : Int) ∨ (¬ (60 : Int) < (a.length : Int) ∧ (60 : Int) < (b.length : Int)) ∨ (¬ (60 : Int) < (a.length : Int) ∧ ¬ (60 : Int) < (b.length : Int) ∧ (60 : Int) < (c.length : Int)) := by omega
    clear hs
    rcases big with h1 | ⟨h1, h2⟩ | ⟨h1, h2, h3⟩
    all_goals
      go_enter Try.func6, Try.ntmps6
      go_wp2_with fail
      refine (shown12 w).mono ?_
      rintro e w1 ⟨rfl, hk1⟩
      have HK1 := Lib.hid hk1
      clear hk1
      go_wp2
      go_ret
      exact ⟨rfl, HK1.out⟩

end Go.Proofs.Ytkbmggclecimeaa
