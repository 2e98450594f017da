/- MendLack: the walk of the law. -/
import Derived.Test.YtmficjbgpcbhoaaDoorFirst
namespace Go.Proofs.YtmficjbgpcbhoaaDoor
open Go.RowKit Sh
set_option linter.unusedVariables false

theorem cnt_set {l : List Sp} (h2 : Ok l) (h3 : Rng l) {K : Int → Bool} (h4 : ∀ x, memB l x = K x) (s : Small K) : cnt l l.length = cK K 256 := by
  rw [← cK_congr h4, cK_ov h2 h3, ov_all h2]
  intro k hk
  exact s _ (by rw [← h4, memB_iff]; exact ⟨k, hk, (h2 k hk).1, by omega⟩)
theorem first_set2 {w : World} {v : Value} {K : Int → Bool} (h : IsSet w v K) (s : Small K) (n : Int) (n0 : 0 ≤ n) (n1 : n ≤ 255) :
    Calls Tryd.prog 13 #[v, .int .u64 n] w fun e w' => (∃ u B, e = .returned u ∧ IsSet w' u (fun z => K z && decide (z < B)) ∧ cK (fun z => K z && decide (z < B)) 256 = min n (cK K 256)) ∧ Keep (fun _ => False) w w' := by
  obtain ⟨l, h1, h2, h3, h4⟩ := h.ex
  refine (first_any v l n w h1 h3 h2 n0 n1 (len_small h2 h3 h4 s)).mono ?_
  rintro e w' ⟨⟨u, F, rfl, g1, g2, g3, ⟨B, g4⟩, g5⟩, hk⟩
  have hm : ∀ z, memB F z = (K z && decide (z < B)) := fun z => by rw [g4, h4]
  have hs : Small (fun z => K z && decide (z < B)) := fun z hz => s z (by simp at hz; exact hz.1)
  exact ⟨⟨u, B, rfl, ⟨F, g1, g2, g3, hm⟩, by rw [← cnt_set g2 g3 hm hs, g5, cnt_set h2 h3 h4 s]⟩, hk⟩

theorem cK_cut (K : Int → Bool) (B : Int) : ∀ N : Nat, (N : Int) ≤ B → cK (fun z => K z && decide (z < B)) N = cK K N
  | 0, _ => rfl
  | n + 1, h => by
    simp only [cK]
    rw [cK_cut K B n (by omega), decide_eq_true (show (n : Int) < B by omega), Bool.and_true]
theorem cK_stop (K : Int → Bool) (B : Int) (k : Nat) (hk : B ≤ k) : ∀ d : Nat, cK (fun z => K z && decide (z < B)) (k + d) = cK (fun z => K z && decide (z < B)) k
  | 0 => rfl
  | d + 1 => by
    rw [← Nat.add_assoc]
    simp only [cK]
    rw [cK_stop K B k hk d, decide_eq_false (show ¬ ((k + d : Nat) : Int) < B by omega), Bool.and_false]
    simp
theorem cK_le (K L : Int → Bool) (h : ∀ z, K z = true → L z = true) : ∀ N : Nat, cK K N ≤ cK L N
  | 0 => Int.le_refl _
  | n + 1 => by
    simp only [cK]
    have := cK_le K L h n
    cases e : K n
    · cases L n <;> simp only [cond_true, cond_false] <;> omega
    · rw [h _ e]; simp only [cond_true]; omega
theorem cK_mono (K : Int → Bool) (k : Nat) : ∀ d : Nat, cK K k ≤ cK K (k + d)
  | 0 => Int.le_refl _
  | d + 1 => by
    have := cK_mono K k d
    rw [← Nat.add_assoc]
    simp only [cK]
    cases K ((k + d : Nat) : Int) <;> simp only [cond_true, cond_false] <;> omega
/-- of the first n, a number is one if fewer than n lie below it. -/
theorem first_is {K : Int → Bool} {B n : Int} (hc : cK (fun z => K z && decide (z < B)) 256 = min n (cK K 256)) (k : Nat) (hk : k < 256) (hK : K k = true) : decide ((k : Int) < B) = decide (cK K k < n) := by
  have e256 : k + 1 + (255 - k) = 256 := by omega
  have h1 := cK_mono K (k + 1) (255 - k)
  rw [e256] at h1
  have h2 : cK K (k + 1) = cK K k + 1 := by simp only [cK]; rw [hK]; rfl
  by_cases c : (k : Int) < B
  · rw [decide_eq_true c]
    have h3 := cK_cut K B (k + 1) (by omega)
    have h4 := cK_mono (fun z => K z && decide (z < B)) (k + 1) (255 - k)
    rw [e256] at h4
    exact (decide_eq_true (by omega)).symm
  · rw [decide_eq_false c]
    have h3 := cK_stop K B k (by omega) (256 - k)
    rw [show k + (256 - k) = 256 by omega] at h3
    have h4 := cK_le (fun z => K z && decide (z < B)) K (fun z hz => by simp at hz; exact hz.1) k
    exact (decide_eq_false (by omega)).symm

set_option maxHeartbeats 1000000 in
theorem lack_set {w : World} {va vb : Value} {Ka Kb : Int → Bool} (ha : IsSet w va Ka) (hb : IsSet w vb Kb) (sa : Small Ka) (sb : Small Kb) (n : Int) (n0 : 0 ≤ n) (n1 : n ≤ 255) :
    Calls Tryd.prog 8 #[va, vb, .int .u64 n] w fun e w' => (∃ u B, e = .returned u ∧ IsSet w' u (fun z => (Kb z && !Ka z) && decide (z < B)) ∧ cK (fun z => (Kb z && !Ka z) && decide (z < B)) 256 = min n (cK (fun z => Kb z && !Ka z) 256)) ∧ Keep (fun _ => False) w w' := by
  have HA := Lib.hid ha
  have HB := Lib.hid hb
  have SA := Lib.hid sa
  have SB := Lib.hid sb
  clear ha hb sa sb
  go_enter Tryd.func8, Tryd.ntmps8
  go_wp2_with fail
  refine (minus_set HB.out HA.out SB.out SA.out).mono ?_
  rintro e w1 ⟨⟨v, rfl, hv⟩, hk1⟩
  have HV := Lib.hid hv
  have HK1 := Lib.hid hk1
  clear hv hk1
  go_wp2_with fail
  refine (first_set2 HV.out (SB.out.minus _) n n0 n1).mono ?_
  rintro e w2 ⟨⟨u, B, rfl, hu, hc⟩, hk2⟩
  have HU := Lib.hid hu
  have HC := Lib.hid hc
  have HK2 := Lib.hid (HK1.out.step hk2)
  clear hu hc hk2
  go_wp2
  go_ret
  exact ⟨⟨u, B, rfl, HU.out, HC.out⟩, HK2.out⟩

set_option maxHeartbeats 1000000 in
theorem shown14 (w : World) : Calls Tryd.prog 4 #[] w fun e w' => e = .returned (.bool true) ∧ Keep (fun _ => False) w w' := by
  have hA := one_set (heap_alloc_new w (.cells #[.int .u64 1, .int .u64 2] 36)) (by omega) (by omega) (by omega)
  have hB := one_set (heap_alloc_new (w.alloc (.cells #[.int .u64 1, .int .u64 2] 36)) (.cells #[.int .u64 1, .int .u64 5] 36)) (by omega) (by omega) (by omega)
  have HA := Lib.hid (hA.keep ((Keep.refl _ _).alloc (.cells #[.int .u64 1, .int .u64 5] 36)))
  have e1 : (w.alloc (.cells #[.int .u64 1, .int .u64 2] 36)).heap.size = w.heap.size + 1 := by simp
  rw [e1] at hB
  have HB := Lib.hid hB
  clear hA hB e1
  go_enter Tryd.func4, Tryd.ntmps4
  go_wp2_with fail
  refine (lack_set HA.out HB.out (by intro x hx; simp at hx; omega) (by intro x hx; simp at hx; omega) 9 (by omega) (by omega)).mono ?_
  rintro e w1 ⟨⟨u, B, rfl, hu, hc⟩, hk1⟩
  have hb : (5 : Int) < B := by
    have h := first_is hc 5 (by omega) (by rfl)
    have h2 := (cK_rng (fun z => decide (1 ≤ z ∧ z ≤ 5) && !decide (1 ≤ z ∧ z ≤ 2)) 5).2
    rw [decide_eq_true (show cK (fun z => decide (1 ≤ z ∧ z ≤ 5) && !decide (1 ≤ z ∧ z ≤ 2)) 5 < 9 by omega)] at h
    have h3 := of_decide_eq_true h
    omega
  have hk : Keep (fun _ => False) w w1 := (((Keep.refl _ w).alloc _).alloc _).step hk1
  have HU := Lib.hid hu
  have HBB := Lib.hid hb
  have HK1 := Lib.hid hk
  have H2 := Lib.hid (one_set (heap_alloc_new w1 (.cells #[.int .u64 3, .int .u64 5] 36)) (by omega) (by omega) (by omega))
  clear hu hc hk1 hk hb
  go_wp2_with fail
  refine (same_set (HU.out.keep ((Keep.refl _ w1).alloc _)) H2.out (fun x => ?c)).mono ?_
  case c => have := HBB.out; rw [Bool.eq_iff_iff]; simp; omega
  rintro e w2 ⟨rfl, hk2⟩
  have HK2 := Lib.hid ((HK1.out.alloc (.cells #[.int .u64 3, .int .u64 5] 36)).step hk2)
  clear hk2
  go_wp2
  go_ret
  exact ⟨rfl, HK2.out⟩

end Go.Proofs.YtmficjbgpcbhoaaDoor
