/- The stable sort of edges: a merge of one element with a run. -/
import Derived.Test.YtmficjbgpcbhoaaDoorSortC
namespace Go.Proofs.YtmficjbgpcbhoaaDoor
open Go.RowKit Sh
set_option linter.unusedVariables false
attribute [local irreducible] Go.wpStill

set_option maxRecDepth 100000 in
set_option maxHeartbeats 1000000 in
theorem sym_one (g n cap : Nat) (d : Nat → Edge) (a b : Nat) (w : World) (h : IsE w g n d) (hc : n ≤ cap) (hm : n ≤ 4611686018427387904) (h2 : a + 1 < b) (hb : b ≤ n) (hS : SortedOn d (a + 1) b) :
    Calls Tryd.prog 27 #[.slice (some ⟨g, 0, none⟩) n cap, .int .i64 a, .int .i64 ((a + 1 : Nat) : Int), .int .i64 b, cmpF] w fun e w' => e = .returned (.tuple #[]) ∧ (∃ d', IsE w' g n d' ∧ PermOn a b d d' ∧ SortedOn d' a b) ∧ Keep (fun j => j = g) w w' := by
  have HI := Lib.hid h
  have HS := Lib.hid hS
  clear h hS
  have e1 : ((a : Int) + 1 - (a : Int) == 1) = true := by simp; omega
  go_enter Tryd.func27, Tryd.ntmps27
  go_wp2_with fail
  go_loopg [10, 11] (b - a) (fun q v u wr => ∃ (i j : Nat), i + q = j + 1 ∧ a + 1 ≤ i ∧ i ≤ j ∧ j ≤ b ∧ v = .int .i64 i ∧ u = .int .i64 j ∧ IsE wr g n d ∧ (∀ y, a + 1 ≤ y → y < i → (d y).p < (d a).p) ∧ (∀ y, j ≤ y → y < b → (d a).p ≤ (d y).p) ∧ Keep (fun j => j = g) w wr)
  case atStart => exact ⟨a + 1, b, by omega, by omega, by omega, by omega, by go_num, rfl, HI.out, fun y g1 g2 => by omega, fun y g1 g2 => by omega, Keep.refl _ w⟩
  case round =>
    obtain ⟨i, j, hq, hi, hij, hjb, rfl, rfl, hI, hl, hg, hK⟩ := hrel
    have HII := Lib.hid hI
    have HL := Lib.hid hl
    have HG := Lib.hid hg
    have HK := Lib.hid hK
    have HQ := Lib.hid hq
    clear hI hl hg hK hq
    by_cases hlt : i < j
    · obtain ⟨c, hc'⟩ : ∃ c : Nat, ((i : Int) + (j : Int)) / 2 = (c : Int) := ⟨(i + j) / 2, by omega⟩
      have hic : i ≤ c := by omega
      have hcj : c < j := by omega
      have HCC := Lib.hid hc'
      clear hc'
      go_wp2_with fail
      rw [HCC.out]
      have hI := HII.out
      have hb0 : 0 ≤ (c : Int) := by omega
      have hb1 : (c : Int) < (n : Int) := by omega
      have hb2 : 0 ≤ (a : Int) := by omega
      have hb3 : (a : Int) < (n : Int) := by omega
      obtain ⟨x0, x1, x2⟩ := hI.at_ c (by omega)
      obtain ⟨y0, y1, y2⟩ := hI.at_ a (by omega)
      clear hI
      refine still_tail 9 (by kernel_rfl) (by kernel_rfl) ?_
      simp only [List.take_succ_cons, List.take_zero, List.drop_succ_cons, List.drop_zero]
      repeat still_step
      try refine wpStill_nil ?_
      go_wp2_with fail
      refine (cmp_any (d c) (d a) _).mono ?_
      rintro e w1 ⟨rfl, hK0⟩
      have hK1 := (Keep.refl (fun _ => False) wr).drew.step hK0
      clear hK0
      have HI1 := Lib.hid (HII.out.keepF hK1)
      have HK1 := Lib.hid (HK.out.step (hK1.mono fun _ h _ => h.elim))
      clear hK1 hb0 hb1 hb2 hb3 x0 x1 x2 y0 y1 y2
      by_cases hl : (d c).p < (d a).p
      · have hcmp : cmpV (d c) (d a) = -1 := by simp [cmpV, hl]
        rw [hcmp]
        have HLL := Lib.hid hl
        clear hcmp hl
        go_wp2
        go_roundg (j + 1 - (c + 1))
        case measure => have := HQ.out; omega
        case rel => exact ⟨c + 1, j, by omega, by omega, by omega, hjb, by go_num, rfl, HI1.out, fun y g1 g2 => Int.lt_of_le_of_lt (HS.out.le g1 (by omega : y ≤ c) (by omega)) HLL.out, HG.out, HK1.out⟩
      · obtain ⟨v, hv⟩ : ∃ v, v = cmpV (d c) (d a) := ⟨_, rfl⟩
        have hv0 : 0 ≤ v := by rw [hv]; unfold cmpV; rw [if_neg hl]; split <;> omega
        rw [← hv]
        have hle : (d a).p ≤ (d c).p := by omega
        have HLL := Lib.hid hle
        clear hv hl hle
        go_wp2
        go_roundg (c + 1 - i)
        case measure => have := HQ.out; omega
        case rel => exact ⟨i, c, by omega, hi, hic, by omega, rfl, by go_num, HI1.out, HL.out, fun y g1 g2 => Int.le_trans HLL.out (HS.out.le (by omega) g1 g2), HK1.out⟩
    · obtain rfl : j = i := by omega
      go_wp2_with fail
      go_loopg [13] (j - 1 - a) (fun q v wr => ∃ k : Nat, a ≤ k ∧ k + 1 ≤ j ∧ k + q = j - 1 ∧ v = .int .i64 k ∧ IsE wr g n (rot d a (a + 1) (k + 1)) ∧ Keep (fun j => j = g) w wr)
      case atStart => exact ⟨a, by omega, by omega, by omega, rfl, by rw [rot_one]; exact HII.out, HK.out⟩
      case round =>
        clear HII HK
        obtain ⟨k, hak, hkj, hkq, rfl, hI, hK⟩ := hrel
        obtain ⟨D, hD⟩ : ∃ D, D = rot d a (a + 1) (k + 1) := ⟨_, rfl⟩
        rw [← hD] at hI
        have HD := Lib.hid hD
        have HII := Lib.hid hI
        have HK := Lib.hid hK
        have HKQ := Lib.hid hkq
        clear hK hD hkq
        by_cases hlt2 : k + 1 < j
        · have hb0 : 0 ≤ (k : Int) + 1 := by omega
          have hb1 : (k : Int) + 1 < (n : Int) := by omega
          have hb2 : 0 ≤ (k : Int) := by omega
          have hb3 : (k : Int) < (n : Int) := by omega
          obtain ⟨x0, x1, x2⟩ := hI.at_ k (by omega)
          have fx0 := hI.free (k * 3)
          have fx1 := hI.free (k * 3 + 1)
          have fx2 := hI.free (k * 3 + 2)
          obtain ⟨y0, y1, y2⟩ := hI.at_ (k + 1) (by omega)
          have fy0 := hI.free ((k + 1) * 3)
          have fy1 := hI.free ((k + 1) * 3 + 1)
          have fy2 := hI.free ((k + 1) * 3 + 2)
          have n00 : ¬ k * 3 = (k + 1) * 3 := by omega
          have m00 : ¬ (k + 1) * 3 = k * 3 := by omega
          have n01 : ¬ k * 3 = (k + 1) * 3 + 1 := by omega
          have m01 : ¬ (k + 1) * 3 + 1 = k * 3 := by omega
          have n02 : ¬ k * 3 = (k + 1) * 3 + 2 := by omega
          have m02 : ¬ (k + 1) * 3 + 2 = k * 3 := by omega
          have n10 : ¬ k * 3 + 1 = (k + 1) * 3 := by omega
          have m10 : ¬ (k + 1) * 3 = k * 3 + 1 := by omega
          have n11 : ¬ k * 3 + 1 = (k + 1) * 3 + 1 := by omega
          have m11 : ¬ (k + 1) * 3 + 1 = k * 3 + 1 := by omega
          have n12 : ¬ k * 3 + 1 = (k + 1) * 3 + 2 := by omega
          have m12 : ¬ (k + 1) * 3 + 2 = k * 3 + 1 := by omega
          have n20 : ¬ k * 3 + 2 = (k + 1) * 3 := by omega
          have m20 : ¬ (k + 1) * 3 = k * 3 + 2 := by omega
          have n21 : ¬ k * 3 + 2 = (k + 1) * 3 + 1 := by omega
          have m21 : ¬ (k + 1) * 3 + 1 = k * 3 + 2 := by omega
          have n22 : ¬ k * 3 + 2 = (k + 1) * 3 + 2 := by omega
          have m22 : ¬ (k + 1) * 3 + 2 = k * 3 + 2 := by omega
          clear hI
          go_wp2
          go_region
          go_wp2
          go_roundg (j - 1 - (k + 1))
          case measure => have := HKQ.out; omega
          case rel =>
            refine ⟨k + 1, by omega, by omega, by omega, by go_num, ?_, ?_⟩
            · rw [← rot_snoc d a k hak, ← HD.out, ← upd_swap D k (k + 1) (by omega)]
              exact ((HII.out.put k (by omega) (D (k + 1))).put (k + 1) (by omega) (D k)).keep ((Keep.refl (fun _ => False) _).drew) id
            · exact (((((((HK.out.setAt _ _).setAt _ _).setAt _ _).setAt _ _).setAt _ _).setAt _ _)).drew
        · obtain rfl : j = k + 1 := by omega
          clear hI
          go_wp2
          refine bodyPost_ret (results_none rfl _ _ _) rfl ?_
          exact ⟨rfl, ⟨_, HII.out, by rw [HD.out]; exact (PermOn.rot d a (a + 1) (k + 1) (by omega) (by omega)).mono (Nat.le_refl _) (by omega), by rw [HD.out]; exact sorted_one d a b (k + 1) HS.out (by omega) (by omega) HL.out HG.out⟩, HK.out⟩

end Go.Proofs.YtmficjbgpcbhoaaDoor
