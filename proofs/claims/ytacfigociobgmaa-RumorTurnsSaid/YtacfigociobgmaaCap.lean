/- Walks of real.Bits and rumor.Cap. -/
import Derived.Test.YtacfigociobgmaaLeaf
import Derived.Shelf.Small.Bits
import Derived.Shelf.Lays
namespace Go.Proofs.Ytacfigociobgmaa
open Go.RowKit Sh Go.Shelf
set_option linter.unusedVariables false
def Try.bitsLen_ren : Go.Shelf.Ren := ⟨fun | 125 => 23 | 128 => 27 | 129 => 28 | n => n, fun | 46 => 60 | 3 => 3 | 51 => 66 | 53 => 31 | 4 => 4 | 5 => 5 | 9 => 9 | n => n, fun | n => n⟩
theorem Try.bitsLen : Go.Proofs.Lays.n125 Try.prog Try.bitsLen_ren := {
  mixed := by kernel_rfl
  f125 := Try.func23.trans (congrArg some (by kernel_rfl))
  f128 := Try.func27.trans (congrArg some (by kernel_rfl))
  f129 := Try.func28.trans (congrArg some (by kernel_rfl))
  t3 := Try.underlying3
  a3 := Try.isAgg3
  z3 := Try.sizeOf3
  v3 := Try.zeroValue3
  t4 := Try.underlying4
  a4 := Try.isAgg4
  z4 := Try.sizeOf4
  v4 := Try.zeroValue4
  t5 := Try.underlying5
  a5 := Try.isAgg5
  z5 := Try.sizeOf5
  v5 := Try.zeroValue5
  t9 := Try.underlying9
  a9 := Try.isAgg9
  z9 := Try.sizeOf9
  v9 := Try.zeroValue9
  t46 := Try.underlying60
  a46 := Try.isAgg60
  z46 := Try.sizeOf60
  v46 := Try.zeroValue60
  t51 := Try.underlying66
  a51 := Try.isAgg66
  z51 := Try.sizeOf66
  v51 := Try.zeroValue66
  t53 := Try.underlying31
  a53 := Try.isAgg31
  z53 := Try.sizeOf31
  v53 := Try.zeroValue31 }

theorem len_any (n : Int) (w : World) (h0 : 0 ≤ n) (h1 : n < 18446744073709551616) : Calls Try.prog 23 #[.int .u64 n] w fun e w' => e = .returned (.int .i64 (Lib.bitLen n.toNat : Nat)) ∧ w = w' :=
  (Any.bits_Len Try.bitsLen n w h0 (by omega)).mono fun _ _ ⟨he, hw⟩ => ⟨he, hw.symm⟩

def bitsI (n : Int) : Nat := Lib.bitLen (max n 0).toNat
def capI (n : Int) : Int := max 1 (3 * (bitsI n : Int))
theorem bits_any (n : Int) (w : World) (h0 : -9223372036854775808 ≤ n) (h1 : n < 9223372036854775808) : Calls Try.prog 15 #[.int .i64 n] w fun e w' => e = .returned (.int .i64 (bitsI n)) ∧ w = w' := by
  unfold bitsI
  have e1 : IntKind.u64.wrap (max n 0) = max n 0 := by rw [IntKind.wrap_u64]; omega
  have e0 : (max n 0) < 18446744073709551616 := by omega
  have e2 : 0 ≤ max n 0 := by omega
  go_enter Try.func15, Try.ntmps15
  go_wp2_with fail
  refine (len_any _ _ e2 e0).mono ?_
  rintro e w' ⟨rfl, rfl⟩
  go_wp2
  go_ret
  exact ⟨rfl, rfl⟩
theorem bits_le (n : Int) (h1 : n < 9223372036854775808) : bitsI n ≤ 64 := Lib.bitLen_le _ 64 (by omega) (by omega)
theorem capI_pos (n : Int) : 1 ≤ capI n := by unfold capI; omega
theorem capI_le (n : Int) (h1 : n < 9223372036854775808) : capI n ≤ 192 := by have := bits_le n h1; unfold capI; omega
theorem cap_any (n : Int) (w : World) (h0 : -9223372036854775808 ≤ n) (h1 : n < 9223372036854775808) : Calls Try.prog 10 #[.int .i64 n] w fun e w' => e = .returned (.int .i64 (capI n)) ∧ w = w' := by
  unfold capI
  have hb := bits_le n h1
  have B := Lib.hid (bits_any n w h0 h1)
  generalize bitsI n = b at hb B ⊢
  have e1 : IntKind.i64.wrap (3 * (b : Int)) = 3 * b := by rw [IntKind.wrap_i64]; omega
  go_enter Try.func10, Try.ntmps10
  go_wp2_with fail
  refine B.out.mono ?_
  rintro e w' ⟨rfl, rfl⟩
  go_wp2
  go_ret
  exact ⟨rfl, rfl⟩

end Go.Proofs.Ytacfigociobgmaa
