/- The stable sort of edges: rotation. -/
import Derived.Test.YtmficjbgpcbhoaaDoorSortB
import Derived.Test.YtmficjbgpcbhoaaDoorSortN
namespace Go.Proofs.YtmficjbgpcbhoaaDoor
open Go.RowKit Sh
set_option linter.unusedVariables false

set_option maxHeartbeats 1000000 in
theorem rotate_any (g n cap : Nat) (d : Nat → Edge) (a m b : Nat) (w : World) (h : IsE w g n d) (hc : n ≤ cap) (hm : n ≤ 4611686018427387904) (h1 : a < m) (h2 : m < b) (hb : b ≤ n) :
    Calls Tryd.prog 28 #[.slice (some ⟨g, 0, none⟩) n cap, .int .i64 a, .int .i64 m, .int .i64 b, cmpF] w fun e w' => e = .returned (.tuple #[]) ∧ IsE w' g n (rot d a m b) ∧ Keep (fun j => j = g) w w' := by
  have HI := Lib.hid h
  clear h
  go_enter Tryd.func28, Tryd.ntmps28
  go_wp2
  go_loopg [10, 11] (b - a) (fun q v u wr => ∃ (i j : Nat) (D : Nat → Edge), i + j = q ∧ 0 < i ∧ 0 < j ∧ a + i ≤ m ∧ m + j ≤ b ∧ v = .int .i64 i ∧ u = .int .i64 j ∧ IsE wr g n D ∧ rot D (m - i) m (m + j) = rot d a m b ∧ Keep (fun j => j = g) w wr)
  case atStart => exact ⟨m - a, b - m, d, by omega, by omega, by omega, by omega, by omega, by go_num, by go_num, HI.out, by rw [show m - (m - a) = a by omega, show m + (b - m) = b by omega], Keep.refl _ w⟩
  case round =>
    obtain ⟨i, j, D, hq, hi, hj, hai, hjb, rfl, rfl, hI, hR, hK⟩ := hrel
    have HII := Lib.hid hI
    have HR := Lib.hid hR
    have HK := Lib.hid hK
    have HQ := Lib.hid hq
    clear hI hR hK hq
    by_cases hne : i = j
    · subst hne
      have eb : ((i : Int) != (i : Int)) = false := by simp
      go_wp2_with fail
      rw [show ((m : Int) - (i : Int)) = ((m - i : Nat) : Int) by omega]
      refine (swapRange_any g n cap D (m - i) m i _ HII.out hc hm (by omega) (by omega) cmpF).mono ?_
      rintro e w1 ⟨rfl, hI1, hK1⟩
      have HI1 := Lib.hid hI1
      have HK1 := Lib.hid (HK.out.step hK1)
      clear hI1 hK1
      go_wp2
      go_end0
      exact ⟨rfl, by rw [← HR.out, ← rot_eq D m i (by omega)]; exact HI1.out, HK1.out⟩
    · have eb : ((i : Int) != (j : Int)) = true := by rw [bne_iff_ne]; omega
      by_cases hgt : j < i
      · go_wp2_with fail
        rw [show ((m : Int) - (i : Int)) = ((m - i : Nat) : Int) by omega]
        refine (swapRange_any g n cap D (m - i) m j _ HII.out hc hm (by omega) (by omega) cmpF).mono ?_
        rintro e w1 ⟨rfl, hI1, hK1⟩
        have HI1 := Lib.hid hI1
        have HK1 := Lib.hid (HK.out.step hK1)
        clear hI1 hK1
        go_wp2
        go_roundg (i - j + j)
        case measure => have := HQ.out; omega
        case rel => exact ⟨i - j, j, _, rfl, by omega, hj, by omega, hjb, by congr 1; omega, rfl, HI1.out, (rot_gt D m i j hgt (by omega)).trans HR.out, HK1.out⟩
      · go_wp2_with fail
        rw [show ((m : Int) - (i : Int)) = ((m - i : Nat) : Int) by omega, show ((m : Int) + (j : Int) - (i : Int)) = ((m + j - i : Nat) : Int) by omega]
        refine (swapRange_any g n cap D (m - i) (m + j - i) i _ HII.out hc hm (by omega) (by omega) cmpF).mono ?_
        rintro e w1 ⟨rfl, hI1, hK1⟩
        have HI1 := Lib.hid hI1
        have HK1 := Lib.hid (HK.out.step hK1)
        clear hI1 hK1
        go_wp2
        go_roundg (i + (j - i))
        case measure => have := HQ.out; omega
        case rel => exact ⟨i, j - i, _, rfl, hi, by omega, hai, by omega, rfl, by congr 1; omega, HI1.out, (rot_lt D m i j (by omega) (by omega)).trans HR.out, HK1.out⟩

end Go.Proofs.YtmficjbgpcbhoaaDoor
