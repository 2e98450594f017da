/- The stable sort of edges: the comparison, swaps, insertion. -/
import Derived.Test.YtmficjbgpcbhoaaDoorKit
import Derived.Test.YtmficjbgpcbhoaaDoorSortM
import Derived.BigRegion
namespace Go.Proofs.YtmficjbgpcbhoaaDoor
open Go.RowKit Sh
set_option linter.unusedVariables false
attribute [local irreducible] Go.wpStill

set_option maxHeartbeats 400000 in
theorem cmp_any (x y : Edge) (w : World) :
    Calls Tryd.prog 24 #[.agg #[.int .u64 x.p, .bool x.a, .bool x.i], .agg #[.int .u64 y.p, .bool y.a, .bool y.i]] w fun e w' => e = .returned (.int .i64 (cmpV x y)) ∧ Keep (fun _ => False) w w' := by
  by_cases h1 : x.p < y.p
  · have e : cmpV x y = -1 := by simp [cmpV, h1]
    have E := Lib.hid e
    clear e
    go_enter Tryd.func24, Tryd.ntmps24
    go_wp2
    go_ret
    exact ⟨by rw [E.out]; rfl, ((Keep.refl _ w).alloc _).alloc _⟩
  · by_cases h2 : y.p < x.p
    · have e : cmpV x y = 1 := by simp [cmpV, h1, h2]
      have E := Lib.hid e
      clear e
      go_enter Tryd.func24, Tryd.ntmps24
      go_wp2
      go_ret
      exact ⟨by rw [E.out]; rfl, ((Keep.refl _ w).alloc _).alloc _⟩
    · have e : cmpV x y = 0 := by simp [cmpV, h1, h2]
      have E := Lib.hid e
      clear e
      go_enter Tryd.func24, Tryd.ntmps24
      go_wp2
      go_ret
      exact ⟨by rw [E.out]; rfl, ((Keep.refl _ w).alloc _).alloc _⟩

set_option maxHeartbeats 1000000 in
theorem swapRange_any (g n cap : Nat) (d : Nat → Edge) (a b k : Nat) (w : World) (h : IsE w g n d) (hc : n ≤ cap) (hm : n ≤ 4611686018427387904) (hb : b + k ≤ n) (hab : a + k ≤ b) (F : Value) :
    Calls Tryd.prog 29 #[.slice (some ⟨g, 0, none⟩) n cap, .int .i64 a, .int .i64 b, .int .i64 k, F] w fun e w' => e = .returned (.tuple #[]) ∧ IsE w' g n (swr d a b k) ∧ Keep (fun j => j = g) w w' := by
  have HI := Lib.hid h
  clear h
  go_enter Tryd.func29, Tryd.ntmps29
  go_wp2
  go_loopg [10] k (fun q v wr => ∃ j : Nat, j + q = k ∧ v = .int .i64 j ∧ IsE wr g n (swr d a b j) ∧ Keep (fun j => j = g) w wr)
  case atStart => exact ⟨0, by omega, rfl, by rw [swr_zero]; exact HI.out, Keep.refl _ w⟩
  case round =>
    obtain ⟨j, hj, rfl, hI, hK⟩ := hrel
    by_cases hlt : j < k
    · obtain ⟨D, hD⟩ : ∃ D, D = swr d a b j := ⟨_, rfl⟩
      rw [← hD] at hI
      obtain ⟨x0, x1, x2⟩ := hI.at_ (a + j) (by omega)
      obtain ⟨y0, y1, y2⟩ := hI.at_ (b + j) (by omega)
      have f0 := hI.free ((a + j) * 3)
      have f1 := hI.free ((a + j) * 3 + 1)
      have f2 := hI.free ((a + j) * 3 + 2)
      have e0 := hI.free ((b + j) * 3)
      have e1 := hI.free ((b + j) * 3 + 1)
      have e2 := hI.free ((b + j) * 3 + 2)
      have n00 : ¬ (a + j) * 3 = (b + j) * 3 := by omega
      have m00 : ¬ (b + j) * 3 = (a + j) * 3 := by omega
      have n01 : ¬ (a + j) * 3 = (b + j) * 3 + 1 := by omega
      have m01 : ¬ (b + j) * 3 + 1 = (a + j) * 3 := by omega
      have n02 : ¬ (a + j) * 3 = (b + j) * 3 + 2 := by omega
      have m02 : ¬ (b + j) * 3 + 2 = (a + j) * 3 := by omega
      have n10 : ¬ (a + j) * 3 + 1 = (b + j) * 3 := by omega
      have m10 : ¬ (b + j) * 3 = (a + j) * 3 + 1 := by omega
      have n11 : ¬ (a + j) * 3 + 1 = (b + j) * 3 + 1 := by omega
      have m11 : ¬ (b + j) * 3 + 1 = (a + j) * 3 + 1 := by omega
      have n12 : ¬ (a + j) * 3 + 1 = (b + j) * 3 + 2 := by omega
      have m12 : ¬ (b + j) * 3 + 2 = (a + j) * 3 + 1 := by omega
      have n20 : ¬ (a + j) * 3 + 2 = (b + j) * 3 := by omega
      have m20 : ¬ (b + j) * 3 = (a + j) * 3 + 2 := by omega
      have n21 : ¬ (a + j) * 3 + 2 = (b + j) * 3 + 1 := by omega
      have m21 : ¬ (b + j) * 3 + 1 = (a + j) * 3 + 2 := by omega
      have n22 : ¬ (a + j) * 3 + 2 = (b + j) * 3 + 2 := by omega
      have m22 : ¬ (b + j) * 3 + 2 = (a + j) * 3 + 2 := by omega
      have hne : a + j ≠ b + j := by omega
      have HS := Lib.hid ((swr_succ d a b j (by omega)).symm.trans (by rw [← hD]))
      have HU := Lib.hid (upd_swap D (a + j) (b + j) hne)
      have HII := Lib.hid hI
      have HJ := Lib.hid hj
      have HK := Lib.hid hK
      clear hI hj hD hne hK
      go_wp2
      go_region
      go_wp2
      go_roundg (k - (j + 1))
      case measure => have := HJ.out; omega
      case rel =>
        refine ⟨j + 1, by omega, by go_num, ?_, ?_⟩
        · rw [HS.out, ← HU.out]
          exact ((HII.out.put (a + j) (by omega) (D (b + j))).put (b + j) (by omega) (D (a + j))).keep ((Keep.refl (fun _ => False) _).drew) id
        · exact (((((((HK.out.setAt _ _).setAt _ _).setAt _ _).setAt _ _).setAt _ _).setAt _ _)).drew
    · obtain rfl : k = j := by omega
      have HII := Lib.hid hI
      have HK := Lib.hid hK
      clear hI hj hK
      go_wp2
      go_end0
      exact ⟨rfl, HII.out, HK.out⟩

end Go.Proofs.YtmficjbgpcbhoaaDoor
