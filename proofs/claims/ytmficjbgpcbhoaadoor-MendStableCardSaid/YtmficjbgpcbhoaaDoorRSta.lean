/- The document's Stable (ref14): the walk. -/
import Derived.Test.YtmficjbgpcbhoaaDoorStaM
import Derived.Test.YtmficjbgpcbhoaaDoorGsL
namespace Go.Proofs.YtmficjbgpcbhoaaDoor
open Go.RowKit Go.Shelf Sh
open Go.ChangeMaps (setBlock)
set_option linter.unusedVariables false

set_option maxRecDepth 100000 in
set_option maxHeartbeats 1000000 in
theorem rstable_any (x : Nat) (hx : x < 18446744073709551616) {w : World} {B : Nat} {m : Int → Option Int} (hm : IsFn iV uV w B m) :
    Calls Tryd.prog 7 #[.int .u64 (x : Int), .map (some B)] w fun e w' => e = .returned (.int .u64 (stab m (gs x 64) 0 0)) ∧ Keep (fun _ => False) w w' := by
  have HM := Lib.hid hm
  have HL := Lib.hid (rlist_gs x hx w)
  have hlen := gs_len x 64
  clear hm
  generalize gs x 64 = L at *
  go_enter Tryd.func7, Tryd.ntmps7
  go_wp2_with fail
  refine HL.out.mono ?_
  rintro e w2 ⟨v, rfl, ho, hk⟩
  have hN := IsN.of_own ho
  have HK := Lib.hid hk
  have HN := Lib.hid hN
  have HM2 := Lib.hid (HM.out.keep hk id)
  obtain ⟨A, c, rfl, _⟩ := hN.ex
  clear hN ho hk HL HM
  go_wp2_with fail
  go_loopg [6, 7, 8, 9] L.length (fun q v6 v7 v8 v9 wr => ∃ (i : Nat) (least : Int), i + q = L.length ∧ v7 = .int .i64 i ∧ v6 = .int .u64 least ∧ Hid (stab m L 0 0 = stab m (L.drop i) i least) ∧ wr = w2)
  case atStart => exact ⟨0, 0, by omega, rfl, rfl, Lib.hid (by rw [List.drop_zero]), rfl⟩
  case round =>
    obtain ⟨i, least, hq, rfl, rfl, HV, rfl⟩ := hrel
    have HQ := Lib.hid hq
    clear hq
    by_cases hlt : i < L.length
    · obtain ⟨A', c', hform, h2⟩ := HN.out.ex
      injection hform with e1 e2 e3
      subst e1; subst e3
      clear e2
      obtain ⟨g, rfl, h3⟩ := h2 (by omega)
      obtain ⟨h4, _⟩ := h3 i hlt
      have e4 : L.drop i = L[i] :: L.drop (i + 1) := List.drop_eq_getElem_cons hlt
      have HD : Hid (stab m L 0 0 = match m ((L[i]).1 : Int) with | none => 0 | some v => stab m (L.drop (i + 1)) (i + 1) (if i = 0 then v else min least v)) := Lib.hid (by rw [HV.out, e4, stab_cons]; rfl)
      have d1 : decide ((i : Int) < (L.length : Int)) = true := decide_eq_true (by omega)
      have d2 : (i : Int) < (L.length : Int) := by omega
      have d3 : (0 : Int) ≤ (i : Int) := by omega
      have wi : IntKind.i64.wrap ((i : Int) + 1) = (i : Int) + 1 := IntWalk.i64_in _ (by omega)
      generalize (L[i]).1 = nd at h4 HD
      have lk := look_26 HM2.out (nd : Int)
      clear e4 h2 h3 HV
      cases hmn : m (nd : Int) with
      | none =>
        rw [hmn] at lk HD
        simp only [Option.getD_none, Option.isSome_none] at lk HD
        have HU := Lib.hid HD.out
        clear hmn HD
        go_wp2_with fail
        go_ret
        exact ⟨by rw [HU.out]; rfl, HK.out⟩
      | some v =>
        rw [hmn] at lk HD
        simp only [Option.getD_some, Option.isSome_some] at lk HD
        clear hmn
        by_cases hi0 : i = 0
        · subst hi0
          rw [if_pos rfl] at HD
          have HU := Lib.hid HD.out
          clear HD
          go_wp2_with fail
          go_roundg (L.length - (0 + 1))
          case measure => have := HQ.out; omega
          case rel => exact ⟨0 + 1, v, by omega, by go_num, rfl, HU, rfl⟩
        · have t1 : ((i : Int) == 0) = false := by simp; omega
          rw [if_neg hi0] at HD
          by_cases hvl : v < least
          · have t2 : decide (v < least) = true := decide_eq_true hvl
            rw [Int.min_eq_right (by omega)] at HD
            have HU := Lib.hid HD.out
            clear HD
            go_wp2_with fail
            go_roundg (L.length - (i + 1))
            case measure => have := HQ.out; omega
            case rel => exact ⟨i + 1, v, by omega, by go_num, rfl, HU, rfl⟩
          · have t2 : decide (v < least) = false := decide_eq_false hvl
            rw [Int.min_eq_left (by omega)] at HD
            have HU := Lib.hid HD.out
            clear HD
            go_wp2_with fail
            go_roundg (L.length - (i + 1))
            case measure => have := HQ.out; omega
            case rel => exact ⟨i + 1, least, by omega, by go_num, rfl, HU, rfl⟩
    · have hd : L.drop i = [] := List.drop_eq_nil_of_le (by omega)
      have HU : Hid (stab m L 0 0 = least) := Lib.hid (by rw [HV.out, hd]; rfl)
      have d1 : decide ((i : Int) < (L.length : Int)) = false := decide_eq_false (by omega)
      have d2 : ¬ (i : Int) < (L.length : Int) := by omega
      clear hd HV
      go_wp2_with fail
      go_ret
      exact ⟨by rw [HU.out]; rfl, HK.out⟩
end Go.Proofs.YtmficjbgpcbhoaaDoor
