/- The stable sort of edges: insertion. -/
import Derived.Test.YtmficjbgpcbhoaaDoorSortA
namespace Go.Proofs.YtmficjbgpcbhoaaDoor
open Go.RowKit Sh
set_option linter.unusedVariables false
attribute [local irreducible] Go.wpStill

abbrev cmpF : Value := .func (.func 24) #[] #[]

set_option maxHeartbeats 1000000 in
theorem insertion_any (g n cap : Nat) (d : Nat → Edge) (a b : Nat) (w : World) (h : IsE w g n d) (hc : n ≤ cap) (hm : n ≤ 4611686018427387904) (hab : a ≤ b) (hb : b ≤ n) :
    Calls Tryd.prog 26 #[.slice (some ⟨g, 0, none⟩) n cap, .int .i64 a, .int .i64 b, cmpF] w fun e w' => e = .returned (.tuple #[]) ∧ (∃ d', IsE w' g n d' ∧ PermOn a b d d' ∧ SortedOn d' a b) ∧ Keep (fun j => j = g) w w' := by
  have HI := Lib.hid h
  clear h
  go_enter Tryd.func26, Tryd.ntmps26
  go_wp2
  go_loopg [8] (b - a) (fun q v wr => ∃ (i : Nat) (D : Nat → Edge), (i + q = b + 1 ∨ (q = 0 ∧ b ≤ i)) ∧ a + 1 ≤ i ∧ v = .int .i64 i ∧ IsE wr g n D ∧ PermOn a b d D ∧ SortedOn D a (min i b) ∧ Keep (fun j => j = g) w wr)
  case atStart => exact ⟨a + 1, d, by omega, by omega, by go_num, HI.out, PermOn.refl _ _ _, fun x y h1 h2 h3 => by omega, Keep.refl _ w⟩
  case round =>
    obtain ⟨i, D, hj, hai, rfl, hI, hP, hS, hK⟩ := hrel
    have HII := Lib.hid hI
    have HP := Lib.hid hP
    have HS := Lib.hid hS
    have HK := Lib.hid hK
    have HJ := Lib.hid hj
    clear hI hP hS hK hj
    by_cases hlt : i < b
    · go_wp2
      obtain ⟨wo, rfl⟩ : ∃ wo : World, wo = wr := ⟨_, rfl⟩
      go_loopg [9] (i - a) (fun q v wi => ∃ (j : Nat) (D' : Nat → Edge), j = a + q ∧ v = .int .i64 j ∧ IsE wi g n D' ∧ PermOn a b d D' ∧ Ins D' a i j ∧ Keep (fun j => j = g) w wi)
      case atStart => exact ⟨i, D, by omega, rfl, HII.out, HP.out, Ins.start (by have := HS.out; rwa [Nat.min_eq_left (by omega)] at this) (by omega), HK.out⟩
      case round =>
        obtain ⟨j, D', hq, rfl, hI, hP', hN, hK'⟩ := hrel
        have HII' := Lib.hid hI
        have HP' := Lib.hid hP'
        have HN := Lib.hid hN
        have HK' := Lib.hid hK'
        have HQ := Lib.hid hq
        have hji := hN.hi
        clear hP' hN hK' hq
        by_cases hgt : a < j
        · obtain ⟨m, rfl⟩ : ∃ m, j = m + 1 := ⟨j - 1, by omega⟩
          obtain ⟨x0, x1, x2⟩ := hI.at_ (m + 1) (by omega)
          obtain ⟨y0, y1, y2⟩ := hI.at_ m (by omega)
          have hb0 : 0 ≤ (m : Int) + 1 := by omega
          have hb1 : (m : Int) + 1 < (n : Int) := by omega
          have hb2 : 0 ≤ (m : Int) := by omega
          have hb3 : (m : Int) < (n : Int) := by omega
          have hw0 : IntKind.i64.wrap (m : Int) = m := IntWalk.i64_in _ (by omega)
          have hgd : decide ((a : Int) < (m : Int) + 1) = true := by simp; omega
          by_cases hl : (D' (m + 1)).p < (D' m).p
          · have hcmp : cmpV (D' (m + 1)) (D' m) = -1 := by simp [cmpV, hl]
            have HC := Lib.hid hcmp
            have n00 : ¬ (m + 1) * 3 = m * 3 := by omega
            have m00 : ¬ m * 3 = (m + 1) * 3 := by omega
            have n01 : ¬ (m + 1) * 3 = m * 3 + 1 := by omega
            have m01 : ¬ m * 3 + 1 = (m + 1) * 3 := by omega
            have n02 : ¬ (m + 1) * 3 = m * 3 + 2 := by omega
            have m02 : ¬ m * 3 + 2 = (m + 1) * 3 := by omega
            have n10 : ¬ (m + 1) * 3 + 1 = m * 3 := by omega
            have m10 : ¬ m * 3 = (m + 1) * 3 + 1 := by omega
            have n11 : ¬ (m + 1) * 3 + 1 = m * 3 + 1 := by omega
            have m11 : ¬ m * 3 + 1 = (m + 1) * 3 + 1 := by omega
            have n12 : ¬ (m + 1) * 3 + 1 = m * 3 + 2 := by omega
            have m12 : ¬ m * 3 + 2 = (m + 1) * 3 + 1 := by omega
            have n20 : ¬ (m + 1) * 3 + 2 = m * 3 := by omega
            have m20 : ¬ m * 3 = (m + 1) * 3 + 2 := by omega
            have n21 : ¬ (m + 1) * 3 + 2 = m * 3 + 1 := by omega
            have m21 : ¬ m * 3 + 1 = (m + 1) * 3 + 2 := by omega
            have n22 : ¬ (m + 1) * 3 + 2 = m * 3 + 2 := by omega
            have m22 : ¬ m * 3 + 2 = (m + 1) * 3 + 2 := by omega
            have HL := Lib.hid hl
            clear hcmp hI hl
            go_wp2_with fail
            refine still_tail 14 (by kernel_rfl) (by kernel_rfl) ?_
            simp only [List.take_succ_cons, List.take_zero, List.drop_succ_cons, List.drop_zero]
            repeat still_step
            try refine wpStill_nil ?_
            go_wp2_with fail
            refine (cmp_any (D' (m + 1)) (D' m) _).mono ?_
            rintro e w1 ⟨rfl, hK0⟩
            have hK1 := (Keep.refl (fun _ => False) wr).drew.step hK0
            clear hK0
            rw [HC.out]
            have hI1 := HII'.out.keepF hK1
            have HI1 := Lib.hid hI1
            have HK1 := Lib.hid (HK'.out.step (hK1.mono fun _ h _ => h.elim))
            obtain ⟨x0, x1, x2⟩ := hI1.at_ (m + 1) (by omega)
            obtain ⟨y0, y1, y2⟩ := hI1.at_ m (by omega)
            have f0 := hI1.free ((m + 1) * 3)
            have f1 := hI1.free ((m + 1) * 3 + 1)
            have f2 := hI1.free ((m + 1) * 3 + 2)
            have e0 := hI1.free (m * 3)
            have e1 := hI1.free (m * 3 + 1)
            have e2 := hI1.free (m * 3 + 2)
            clear hI1 hK1
            clear hw0 hgd
            go_wp2
            go_region
            go_wp2
            go_roundg (m - a)
            case measure => have := HQ.out; omega
            case rel =>
              refine ⟨m, swp D' (m + 1) m, by omega, by go_num, ?_, HP'.out.trans (PermOn.swap a b D' (m + 1) m (by omega) (by omega)), HN.out.step (by omega) HL.out, ?_⟩
              · rw [← upd_swap D' (m + 1) m (by omega)]
                exact ((HI1.out.put (m + 1) (by omega) (D' m)).put m (by omega) (D' (m + 1))).keep ((Keep.refl (fun _ => False) _).drew) id
              · exact (((((((HK1.out.setAt _ _).setAt _ _).setAt _ _).setAt _ _).setAt _ _).setAt _ _)).drew
          · obtain ⟨c, hc⟩ : ∃ c, c = cmpV (D' (m + 1)) (D' m) := ⟨_, rfl⟩
            have hc0 : 0 ≤ c := by rw [hc]; unfold cmpV; rw [if_neg hl]; split <;> omega
            have HC := Lib.hid hc
            clear hc hI
            go_wp2_with fail
            refine still_tail 14 (by kernel_rfl) (by kernel_rfl) ?_
            simp only [List.take_succ_cons, List.take_zero, List.drop_succ_cons, List.drop_zero]
            repeat still_step
            try refine wpStill_nil ?_
            go_wp2_with fail
            refine (cmp_any (D' (m + 1)) (D' m) _).mono ?_
            rintro e w1 ⟨rfl, hK0⟩
            have hK1 := (Keep.refl (fun _ => False) wr).drew.step hK0
            clear hK0
            rw [← HC.out]
            have HI1 := Lib.hid (HII'.out.keepF hK1)
            have HK1 := Lib.hid (HK'.out.step (hK1.mono fun _ h _ => h.elim))
            clear hK1 hgd hw0
            go_wp2
            go_roundg (b - i)
            case measure => have := HJ.out; omega
            case rel =>
              refine ⟨i + 1, D', by omega, by omega, by go_num, HI1.out, HP'.out, ?_, HK1.out⟩
              rw [Nat.min_eq_left (by omega)]
              exact HN.out.done (.inr ⟨m, rfl, by omega⟩)
        · have hja := HN.out.lo
          obtain rfl : j = a := by omega
          have hgd : decide ((j : Int) < (j : Int)) = false := by simp
          clear hI
          go_wp2_with fail
          refine still_tail 14 (by kernel_rfl) (by kernel_rfl) ?_
          simp only [List.take_succ_cons, List.take_zero, List.drop_succ_cons, List.drop_zero]
          repeat still_step
          try refine wpStill_nil ?_
          clear hgd
          go_wp2
          go_roundg (b - i)
          case measure => have := HJ.out; omega
          case rel =>
            refine ⟨i + 1, D', by omega, by omega, by go_num, HII'.out.keep ((Keep.refl (fun _ => False) _).drew) id, HP'.out, ?_, HK'.out.drew⟩
            rw [Nat.min_eq_left (by omega)]
            exact HN.out.done (.inl rfl)
    · go_wp2
      go_end0
      refine ⟨rfl, ⟨D, HII.out, HP.out, ?_⟩, HK.out⟩
      have := HS.out
      rwa [Nat.min_eq_right (by omega)] at this

end Go.Proofs.YtmficjbgpcbhoaaDoor
