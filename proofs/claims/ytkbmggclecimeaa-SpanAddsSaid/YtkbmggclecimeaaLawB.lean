/- The law SpanAdds, walked. -/
import Derived.Test.YtkbmggclecimeaaSpanG
namespace Go.Proofs.Ytkbmggclecimeaa
open Go.RowKit Sh
set_option linter.unusedVariables false

set_option maxRecDepth 100000 in
set_option maxHeartbeats 2000000 in
theorem adds_law {w : World} {va : Value} {a : List Int} (ha : IsB w va a) (n : Int) (n0 : 0 ≤ n) (n1 : n ≤ 255) :
    Calls Try.prog 8 #[va, .int .u8 n] w fun e w' => e = .returned (.bool true) ∧ Keep (fun _ => False) w w' := by
  have HA := Lib.hid ha
  have SA := Lib.hid (KB_small ha)
  have SN : Hid (Small (fun x => decide (x = n))) := fun x hx => by simp at hx; omega
  obtain ⟨A, ca, rfl, _, _, _⟩ := ha.ex
  clear ha
  by_cases hs : a.length ≤ 100
  · have d1 : decide ((100 : Int) < (a.length : Int)) = false := by simp; omega
    have f1 : ¬ (100 : Int) < (a.length : Int) := by omega
    clear hs
    go_enter Try.func8, Try.ntmps8
    go_wp2_with fail
    refine (shown12 w).mono ?_
    rintro e w1 ⟨rfl, hk1⟩
    have HK1 := Lib.hid hk1
    clear hk1 d1 f1
    go_wp2_with fail
    refine (made_set (HA.out.keep HK1.out)).mono ?_
    rintro e w2 ⟨⟨x, rfl, hx⟩, hk2⟩
    have HK2 := Lib.hid (HK1.out.step hk2)
    have HX := Lib.hid hx
    clear hk2 hx
    go_wp2_with fail
    refine (add_set HX.out SA.out n (by omega) (by omega)).mono ?_
    rintro e w3 ⟨⟨y, rfl, hy⟩, hk3⟩
    have HK3 := Lib.hid (HK2.out.step hk3)
    have HY := Lib.hid hy
    have HX3 := Lib.hid (HX.out.keep hk3)
    clear hk3 hy HX
    go_wp2_with fail
    refine (add_set HY.out (SA.out.or SN.out) n (by omega) (by omega)).mono ?_
    rintro e w4 ⟨⟨z, rfl, hz⟩, hk4⟩
    have HK4 := Lib.hid (HK3.out.step hk4)
    have HZ := Lib.hid (hz.of (K' := fun x => KB a x || decide (x = n)) (fun x => by simp))
    have HX4 := Lib.hid (HX3.out.keep hk4)
    have HY4 := Lib.hid (HY.out.keep hk4)
    have hag : (!(KB a n || decide (n = n))) = false := by simp
    rw [hag]
    clear hk4 hz HX3 HY hag
    go_wp2_with fail
    refine (in_any _ a n _ (HA.out.keep HK4.out)).mono ?_
    rintro e w5 ⟨rfl, rfl⟩
    obtain ⟨k, hk⟩ : ∃ k, k = KB a n := ⟨_, rfl⟩
    have hdk : decide (n ∈ a) = k := by rw [hk]; rfl
    rw [hdk, ← hk]
    have HKK := Lib.hid hk
    clear hdk hk
    cases k
    case false =>
      go_wp2_with fail
      refine (same_set HY4.out HZ.out (fun x => rfl)).mono ?_
      rintro e w6 ⟨rfl, hk6⟩
      have HK6 := Lib.hid (HK4.out.step hk6)
      have HX6 := Lib.hid (HX4.out.keep hk6)
      have HY6 := Lib.hid (HY4.out.keep hk6)
      clear hk6 HX4 HY4 HZ
      go_wp2_with fail
      refine (may_set HY6.out).mono ?_
      rintro e w7 ⟨rfl, hk7⟩
      have HK7 := Lib.hid (HK6.out.step hk7)
      have HX7 := Lib.hid (HX6.out.keep hk7)
      have HY7 := Lib.hid (HY6.out.keep hk7)
      clear hk7 HX6 HY6
      go_wp2_with fail
      refine (many_set HY7.out (SA.out.or SN.out)).mono ?_
      rintro e w8 ⟨rfl, hk8⟩
      have HK8 := Lib.hid (HK7.out.step hk8)
      have HX8 := Lib.hid (HX7.out.keep hk8)
      have HY8 := Lib.hid (HY7.out.keep hk8)
      clear hk8 HX7 HY7
      go_wp2_with fail
      refine (many_set HX8.out SA.out).mono ?_
      rintro e w9 ⟨rfl, hk9⟩
      have HK9 := Lib.hid (HK8.out.step hk9)
      have HX9 := Lib.hid (HX8.out.keep hk9)
      have HY9 := Lib.hid (HY8.out.keep hk9)
      clear hk9 HX8 HY8
      have hca := cK_add (KB a) n (by omega) 256
      have hcr := cK_rng (KB a) 256
      rw [← HKK.out] at hca
      obtain ⟨c0, hc0⟩ : ∃ c, c = cK (KB a) 256 := ⟨_, rfl⟩
      obtain ⟨c1, hc1⟩ : ∃ c, c = cK (fun x => KB a x || decide (x = n)) 256 := ⟨_, rfl⟩
      rw [← hc0] at hca hcr
      rw [← hc1] at hca
      rw [← hc0, ← hc1]
      have HCA := Lib.hid hca
      have HCR := Lib.hid hcr
      clear hca hcr hc0 hc1
      have hd0 : IntKind.u64.wrap (c0 + 1) = c0 + 1 := by rw [IntKind.wrap_u64]; have := HCR.out; omega
      have hd1 : IntKind.u64.wrap c0 = c0 := by rw [IntKind.wrap_u64]; have := HCR.out; omega
      have heq : (c1 == c0 + 1) = true := by
       have h := HCA.out
       rw [decide_eq_true (by omega)] at h
       rw [beq_iff_eq]; exact h
      go_wp2_with fail
      refine (has_set HY9.out n).mono ?_
      rintro e w10 ⟨rfl, hk10⟩
      have hh : (KB a n || decide (n = n)) = true := by simp
      rw [hh]
      have HK10 := Lib.hid (HK9.out.step hk10)
      have HX10 := Lib.hid (HX9.out.keep hk10)
      have HY10 := Lib.hid (HY9.out.keep hk10)
      clear hk10 HX9 HY9 hh
      go_wp2_with fail
      refine (minus_set HX10.out HY10.out SA.out (SA.out.or SN.out)).mono ?_
      rintro e w11 ⟨⟨v, rfl, hv⟩, hk11⟩
      obtain ⟨A', c', rfl⟩ := hv.none (fun x => by cases hh : KB a x <;> simp)
      have HK11 := Lib.hid (HK10.out.step hk11)
      clear hk11 hv
      go_wp2
      go_ret
      exact ⟨rfl, HK11.out⟩
    case true =>
      go_wp2_with fail
      refine (same_set HY4.out HZ.out (fun x => rfl)).mono ?_
      rintro e w6 ⟨rfl, hk6⟩
      have HK6 := Lib.hid (HK4.out.step hk6)
      have HX6 := Lib.hid (HX4.out.keep hk6)
      have HY6 := Lib.hid (HY4.out.keep hk6)
      clear hk6 HX4 HY4 HZ
      go_wp2_with fail
      refine (may_set HY6.out).mono ?_
      rintro e w7 ⟨rfl, hk7⟩
      have HK7 := Lib.hid (HK6.out.step hk7)
      have HX7 := Lib.hid (HX6.out.keep hk7)
      have HY7 := Lib.hid (HY6.out.keep hk7)
      clear hk7 HX6 HY6
      go_wp2_with fail
      refine (many_set HY7.out (SA.out.or SN.out)).mono ?_
      rintro e w8 ⟨rfl, hk8⟩
      have HK8 := Lib.hid (HK7.out.step hk8)
      have HX8 := Lib.hid (HX7.out.keep hk8)
      have HY8 := Lib.hid (HY7.out.keep hk8)
      clear hk8 HX7 HY7
      go_wp2_with fail
      refine (many_set HX8.out SA.out).mono ?_
      rintro e w9 ⟨rfl, hk9⟩
      have HK9 := Lib.hid (HK8.out.step hk9)
      have HX9 := Lib.hid (HX8.out.keep hk9)
      have HY9 := Lib.hid (HY8.out.keep hk9)
      clear hk9 HX8 HY8
      have hca := cK_add (KB a) n (by omega) 256
      have hcr := cK_rng (KB a) 256
      rw [← HKK.out] at hca
      obtain ⟨c0, hc0⟩ : ∃ c, c = cK (KB a) 256 := ⟨_, rfl⟩
      obtain ⟨c1, hc1⟩ : ∃ c, c = cK (fun x => KB a x || decide (x = n)) 256 := ⟨_, rfl⟩
      rw [← hc0] at hca hcr
      rw [← hc1] at hca
      rw [← hc0, ← hc1]
      have HCA := Lib.hid hca
      have HCR := Lib.hid hcr
      clear hca hcr hc0 hc1
      have hd0 : IntKind.u64.wrap (c0 + 1) = c0 + 1 := by rw [IntKind.wrap_u64]; have := HCR.out; omega
      have hd1 : IntKind.u64.wrap c0 = c0 := by rw [IntKind.wrap_u64]; have := HCR.out; omega
      have heq : (c1 == c0) = true := by
       have h := HCA.out
       simp at h
       rw [beq_iff_eq]; omega
      go_wp2_with fail
      refine (has_set HY9.out n).mono ?_
      rintro e w10 ⟨rfl, hk10⟩
      have hh : (KB a n || decide (n = n)) = true := by simp
      rw [hh]
      have HK10 := Lib.hid (HK9.out.step hk10)
      have HX10 := Lib.hid (HX9.out.keep hk10)
      have HY10 := Lib.hid (HY9.out.keep hk10)
      clear hk10 HX9 HY9 hh
      go_wp2_with fail
      refine (minus_set HX10.out HY10.out SA.out (SA.out.or SN.out)).mono ?_
      rintro e w11 ⟨⟨v, rfl, hv⟩, hk11⟩
      obtain ⟨A', c', rfl⟩ := hv.none (fun x => by cases hh : KB a x <;> simp)
      have HK11 := Lib.hid (HK10.out.step hk11)
      clear hk11 hv
      go_wp2
      go_ret
      exact ⟨rfl, HK11.out⟩
  · have h1 : (100 : Int) < (a.length : Int) := by omega
    clear hs
    go_enter Try.func8, Try.ntmps8
    go_wp2_with fail
    refine (shown12 w).mono ?_
    rintro e w1 ⟨rfl, hk1⟩
    have HK1 := Lib.hid hk1
    clear hk1
    go_wp2
    go_ret
    exact ⟨rfl, HK1.out⟩

end Go.Proofs.Ytkbmggclecimeaa
