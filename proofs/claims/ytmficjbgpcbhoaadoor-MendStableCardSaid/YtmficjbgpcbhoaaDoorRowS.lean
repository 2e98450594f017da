/- MendStable: the walk, as the row wants it. -/
import Derived.Test.YtmficjbgpcbhoaaDoorLawM
namespace Go.Proofs.YtmficjbgpcbhoaaDoor
open Go.RowKit Sh
theorem stable_row (a0 : Int) (a1 : Option Addr) (len1 cap1 : Nat) (z1 : List Int) (a2 : Option Addr) (len2 cap2 : Nat) (z2 : List Int) (w : World)
    (w0 : (Lit.int .u64 a0).wf = true) (w1 : IsRow .u8 w a1 len1 cap1 z1) (y1 : len1 * 1 ≤ 140737488351232) (w2 : IsRow .u16 w a2 len2 cap2 z2) (y2 : len2 * 2 ≤ 140737488351232)
    (hL : laidMet Tryd.prog [("math/bits.deBruijn64tab", Rows.laid_math_bits_deBruijn64tab)] w) :
    Calls Tryd.prog 3 #[.int .u64 a0, .slice a1 len1 cap1, .slice a2 len2 cap2] w fun e w' => e = .returned (.bool true) ∧ Below w.heap.size w w' := by
  obtain ⟨b1, h1⟩ := IsI.ofRow (fun _ h => wf_u8 h) w1 (by omega)
  obtain ⟨b2, h2⟩ := IsI.ofRow (fun _ h => wf_u16 h) w2 (by omega)
  obtain ⟨p0, p1⟩ := wf_u64 w0
  obtain ⟨of, rfl⟩ := Int.eq_ofNat_of_zero_le p0
  refine (stable_law of (by omega) h1 h2 (tab_of_laid hL)).mono ?_
  rintro e w' ⟨rfl, hk⟩
  exact ⟨rfl, hk.below⟩
end Go.Proofs.YtmficjbgpcbhoaaDoor
