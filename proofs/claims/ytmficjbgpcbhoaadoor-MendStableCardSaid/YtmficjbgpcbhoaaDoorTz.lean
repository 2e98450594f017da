/- TrailingZeros64 of Go's library, at this program's numbers; its table. -/
import Derived.Test.YtmficjbgpcbhoaaDoorKit
import Derived.Test.YtmficjbgpcbhoaaDoorShelfM
import Derived.Shelf.Spec.TrailingZeros
import Derived.Lib.LaidTab
namespace Go.Proofs.YtmficjbgpcbhoaaDoor
open Go.RowKit Sh Go.Shelf
set_option linter.unusedVariables false
def Tryd.tz64_ren : Go.Shelf.Ren := ⟨fun | 29 => 21 | n => n, fun | 22 => 22 | 3 => 3 | 4 => 4 | 25 => 58 | 54 => 57 | 0 => 0 | 5 => 5 | n => n, fun | 1 => 0 | n => n⟩
theorem Tryd.tz64 : Go.Proofs.Lays7.n29 Tryd.prog Tryd.tz64_ren := {
  mixed := by kernel_rfl
  f29 := Tryd.func21.trans (congrArg some (by kernel_rfl))
  t0 := Tryd.underlying0
  a0 := Tryd.isAgg0
  z0 := Tryd.sizeOf0
  v0 := Tryd.zeroValue0
  i0 := by kernel_rfl
  t3 := Tryd.underlying3
  a3 := Tryd.isAgg3
  z3 := Tryd.sizeOf3
  v3 := Tryd.zeroValue3
  i3 := by kernel_rfl
  t4 := Tryd.underlying4
  a4 := Tryd.isAgg4
  z4 := Tryd.sizeOf4
  v4 := Tryd.zeroValue4
  i4 := by kernel_rfl
  t5 := Tryd.underlying5
  a5 := Tryd.isAgg5
  z5 := Tryd.sizeOf5
  v5 := Tryd.zeroValue5
  i5 := by kernel_rfl
  t22 := Tryd.underlying22
  a22 := Tryd.isAgg22
  z22 := Tryd.sizeOf22
  v22 := Tryd.zeroValue22
  i22 := by kernel_rfl
  t25 := Tryd.underlying58
  a25 := Tryd.isAgg58
  z25 := Tryd.sizeOf58
  v25 := Tryd.zeroValue58
  i25 := by kernel_rfl
  t54 := Tryd.underlying57
  a54 := Tryd.isAgg57
  z54 := Tryd.sizeOf57
  g1 := by kernel_rfl }

abbrev tabS : List Nat := Lib.deBruijn64tab
theorem tz_any (x : Nat) (hx : x < 18446744073709551616) (w : World) (hT : TabAt 0 tabS w) : Calls Tryd.prog 21 #[.int .u64 x] w fun e w' => e = .returned (.int .i64 (Lib.ctz 64 x)) ∧ w = w' :=
  (Any7.bits_TrailingZeros64 Tryd.tz64 x hx w (fun _ => hT)).mono fun _ _ ⟨he, hw⟩ => ⟨he, hw.symm⟩
theorem tab_keep {S : Nat → Prop} {w w' : World} (h : TabAt 0 tabS w) (k : Keep S w w') (hn : ¬ S 0) : TabAt 0 tabS w' := fun j hj => by
  have := h j hj
  have hb := World.block_lt_of_cell? w _ this
  exact (World.cell?_of_block (k.block 0 hb hn)).trans this
theorem tab_of_laid {W : World} (h : laidMet Tryd.prog [("math/bits.deBruijn64tab", Rows.laid_math_bits_deBruijn64tab)] W) : TabAt 0 tabS W := by
  have h1 := Lib.tabIs_of_head (k := .u8) (zs := tabS.map fun (n : Nat) => (n : Int)) (rest := []) (g := 0) (t := 57) (e := 5) (n := 64) (by kernel_rfl) (by kernel_rfl) Tryd.underlying57 Tryd.underlying5 (by kernel_rfl) (by kernel_rfl) h
  intro j hj
  have := h1.cell (g := 0) (by kernel_rfl) j (by simpa using hj)
  rw [this]
  simp [List.getD, hj]
end Go.Proofs.YtmficjbgpcbhoaaDoor
