/- Walks of real.Bits and rumor.Cap. -/
import Derived.Test.YtacfigociobgmaaLeaf
import Derived.Shelf.Small.Bits
import Derived.Shelf.Lay
import Derived.Ground.NamesProg
namespace Go.Proofs.Ytacfigociobgmaa
open Go.RowKit Sh Go.Shelf
set_option linter.unusedVariables false
shelf_lay Lays.n125 Nm 125 at Try as Try.bitsLen

theorem len_any (n : Int) (w : World) (h0 : 0 ≤ n) (h1 : n < 18446744073709551616) : Calls Try.prog 23 #[.int .u64 n] w fun e w' => e = .returned (.int .i64 (Lib.bitLen n.toNat : Nat)) ∧ w = w' :=
  (Any.bits_Len Try.bitsLen n w h0 (by omega)).mono fun _ _ ⟨he, hw⟩ => ⟨he, hw.symm⟩

def bitsI (n : Int) : Nat := Lib.bitLen (max n 0).toNat
def capI (n : Int) : Int := max 1 (3 * (bitsI n : Int))
theorem bits_any (n : Int) (w : World) (h0 : -9223372036854775808 ≤ n) (h1 : n < 9223372036854775808) : Calls Try.prog 15 #[.int .i64 n] w fun e w' => e = .returned (.int .i64 (bitsI n)) ∧ w = w' := by
  unfold bitsI
  have e1 : IntKind.u64.wrap (max n 0) = max n 0 := by rw [IntKind.wrap_u64]; omega
  have e0 : (max n 0) < 18446744073709551616 := by omega
  have e2 : 0 ≤ max n 0 := by omega
  go_enter Try.func15, Try.ntmps15
  go_wp2_with fail
  refine (len_any _ _ e2 e0).mono ?_
  rintro e w' ⟨rfl, rfl⟩
  go_wp2
  go_ret
  exact ⟨rfl, rfl⟩
theorem bits_le (n : Int) (h1 : n < 9223372036854775808) : bitsI n ≤ 64 := Lib.bitLen_le _ 64 (by omega) (by omega)
theorem capI_pos (n : Int) : 1 ≤ capI n := by unfold capI; omega
theorem capI_le (n : Int) (h1 : n < 9223372036854775808) : capI n ≤ 192 := by have := bits_le n h1; unfold capI; omega
theorem cap_any (n : Int) (w : World) (h0 : -9223372036854775808 ≤ n) (h1 : n < 9223372036854775808) : Calls Try.prog 10 #[.int .i64 n] w fun e w' => e = .returned (.int .i64 (capI n)) ∧ w = w' := by
  unfold capI
  have hb := bits_le n h1
  have B := Lib.hid (bits_any n w h0 h1)
  generalize bitsI n = b at hb B ⊢
  have e1 : IntKind.i64.wrap (3 * (b : Int)) = 3 * b := by rw [IntKind.wrap_i64]; omega
  go_enter Try.func10, Try.ntmps10
  go_wp2_with fail
  refine B.out.mono ?_
  rintro e w' ⟨rfl, rfl⟩
  go_wp2
  go_ret
  exact ⟨rfl, rfl⟩

end Go.Proofs.Ytacfigociobgmaa
