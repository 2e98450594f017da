/- The document's list is the program's. -/
import Derived.Test.YtmficjbgpcbhoaaDoorStab
namespace Go.Proofs.YtmficjbgpcbhoaaDoor
open Go.RowKit Sh
set_option linter.unusedVariables false
theorem hasP_nat (B n : Nat) (hB : B < 18446744073709551616) (hn : n < 64) : hasP (B : Int) (n : Int) = B.testBit n := by
  have hb : bitP (n : Int) = ((2 ^ n : Nat) : Int) := by
    rw [bitP, if_pos ⟨by omega, by omega⟩]
    push_cast
    rfl
  have hp : (2 : Nat) ^ n ≤ 2 ^ 63 := Nat.pow_le_pow_right (by omega) (by omega)
  unfold hasP
  rw [hb, bits_and_u64_nat B (2 ^ n) (by omega) (by omega)]
  have := and_pow_ne B n
  cases h : B.testBit n
  · rw [h] at this
    have h2 : B &&& 2 ^ n = 0 := by
      by_cases z : B &&& 2 ^ n = 0
      · exact z
      · exact absurd (this.1 z) (by simp)
    rw [h2]; rfl
  · have h2 := this.2 h
    simp only [bne_iff_ne, ne_eq]
    omega
theorem gs_list (x : Nat) (hx : x < 18446744073709551616) : ∀ i, i ≤ 64 → (gs x i).map (·.1) = listP (x : Int) i
  | 0, _ => rfl
  | i + 1, h => by
    have ih := gs_list x hx i (by omega)
    rw [listP_succ, hasP_nat x i hx (by omega)]
    cases hb : x.testBit i
    · rw [gs_no hb, ih]; simp
    · rw [gs_yes (by omega) hb, List.map_append, ih]; rfl
theorem nC_natC (L : List N63) : nC L = natC (L.map (·.1)) := by simp [nC, natC]
theorem list_len (x : Nat) (hx : x < 18446744073709551616) : (listP (x : Int) 64).length = (gs x 64).length := by rw [← gs_list x hx 64 (by omega), List.length_map]
theorem natC_gs (x : Nat) (hx : x < 18446744073709551616) : natC (listP (x : Int) 64) = nC (gs x 64) := by rw [nC_natC, gs_list x hx 64 (by omega)]
/-- ref05.List, in the program's words. -/
theorem rlist_gs (x : Nat) (hx : x < 18446744073709551616) (w : World) :
    Calls Tryd.prog 6 #[.int .u64 (x : Int)] w fun e w' => ∃ v, e = .returned v ∧ w'.ownsRow w.heap.size 3 1 v (gs x 64).length (nC (gs x 64)) ∧ Keep (fun _ => False) w w' := by
  refine (rlist_any (x : Int) w (by omega) (by omega)).mono ?_
  rintro e w' ⟨g, c, rfl, ho, hk⟩
  refine ⟨_, rfl, ?_, hk⟩
  rw [list_len x hx, natC_gs x hx] at ho
  rw [list_len x hx]
  exact ho
end Go.Proofs.YtmficjbgpcbhoaaDoor
