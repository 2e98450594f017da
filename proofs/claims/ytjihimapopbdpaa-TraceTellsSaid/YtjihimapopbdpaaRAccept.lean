/- The document's Accept (ref19, ref21). -/
import Derived.Test.YtjihimapopbdpaaRViews
import Derived.Test.YtjihimapopbdpaaROnce
import Derived.Test.YtjihimapopbdpaaRAlike
import Derived.Test.YtjihimapopbdpaaRTheirs
namespace Go.Proofs.Ytjihimapopbdpaa
open Go.RowKit Sh
open Go.ChangeMaps (setBlock)
set_option linter.unusedVariables false

theorem LOk.take {L : List Ent} (h : LOk L) (i : Nat) : LOk (L.take i) := ⟨fun k hk => by
  rw [List.length_take] at hk
  have := h.out k (by omega)
  have e : (L.take i).getD k default = L.getD k default := by
    have h1 : k < L.length := by omega
    have h2 : k < i := by omega
    simp [List.getD, List.getElem?_take_of_lt h2]
  rw [e]; exact this⟩
theorem views12_any {w : World} {v : Value} {L : List Ent} (hL : IsEs w v L) (hok : LOk L) :
    Calls Try.prog 12 #[v] w fun r w' => r = .returned (.int .i64 (refV L)) ∧ Keep (fun _ => False) w w' := by
  have H := Lib.hid (rviews_any hL hok)
  clear hL hok
  go_enter Try.func12, Try.ntmps12
  go_wp2_with fail
  refine H.out.mono ?_
  rintro r w' ⟨rfl, hk⟩
  have HK := Lib.hid hk
  clear hk
  go_wp2
  go_ret
  exact ⟨rfl, HK.out⟩
theorem order14_any {w : World} {v : Value} {L : List Ent} (hL : IsEs w v L) (hok : LOk L) :
    Calls Try.prog 14 #[v] w fun r w' => r = .returned (.int .i64 (refO L)) ∧ Keep (fun _ => False) w w' := by
  have H := Lib.hid (rorder_any hL hok)
  clear hL hok
  go_enter Try.func14, Try.ntmps14
  go_wp2_with fail
  refine H.out.mono ?_
  rintro r w' ⟨rfl, hk⟩
  have HK := Lib.hid hk
  clear hk
  go_wp2
  go_ret
  exact ⟨rfl, HK.out⟩
theorem once16_any {w : World} {v : Value} {L : List Ent} (hL : IsEs w v L) (hok : LOk L) :
    Calls Try.prog 16 #[v] w fun r w' => r = .returned (.int .i64 (refN L)) ∧ Keep (fun _ => False) w w' := by
  have H := Lib.hid (ronce_any hL hok)
  clear hL hok
  go_enter Try.func16, Try.ntmps16
  go_wp2_with fail
  refine H.out.mono ?_
  rintro r w' ⟨rfl, hk⟩
  have HK := Lib.hid hk
  clear hk
  go_wp2
  go_ret
  exact ⟨rfl, HK.out⟩
theorem alike18_any {w : World} {v : Value} {L : List Ent} (hL : IsEs w v L) (hok : LOk L) :
    Calls Try.prog 18 #[v] w fun r w' => r = .returned (.int .i64 (refA L)) ∧ Keep (fun _ => False) w w' := by
  have H := Lib.hid (ralike_any hL hok)
  clear hL hok
  go_enter Try.func18, Try.ntmps18
  go_wp2_with fail
  refine H.out.mono ?_
  rintro r w' ⟨rfl, hk⟩
  have HK := Lib.hid hk
  clear hk
  go_wp2
  go_ret
  exact ⟨rfl, HK.out⟩

def refW (L : List Ent) : Int := if refV L ≠ 0 then refV L else if refO L ≠ 0 then refO L else if refN L ≠ 0 then refN L else refA L
theorem rwrong_any {w : World} {v : Value} {L : List Ent} (hL : IsEs w v L) (hok : LOk L) :
    Calls Try.prog 35 #[v] w fun r w' => r = .returned (.int .i64 (refW L)) ∧ Keep (fun _ => False) w w' := by
  have HL := Lib.hid hL
  have HOK := Lib.hid hok
  have HW : Hid (refW L = if refV L ≠ 0 then refV L else if refO L ≠ 0 then refO L else if refN L ≠ 0 then refN L else refA L) := Lib.hid rfl
  have CV := Lib.hid (fun w' (k : Keep (fun _ => False) w w') => rviews_any (HL.out.keep k) HOK.out)
  have CO := Lib.hid (fun w' (k : Keep (fun _ => False) w w') => rorder_any (HL.out.keep k) HOK.out)
  have CN := Lib.hid (fun w' (k : Keep (fun _ => False) w w') => ronce_any (HL.out.keep k) HOK.out)
  have CA := Lib.hid (fun w' (k : Keep (fun _ => False) w w') => ralike_any (HL.out.keep k) HOK.out)
  clear hL hok
  generalize refW L = rw at HW ⊢
  generalize refV L = rv at HW CV
  generalize refO L = ro at HW CO
  generalize refN L = rn at HW CN
  generalize refA L = ra at HW CA
  go_enter Try.func35, Try.ntmps35
  go_wp2_with fail
  refine (CV.out _ (Keep.refl _ _)).mono ?_
  rintro r w1 ⟨rfl, hk1⟩
  have K1 := Lib.hid hk1
  clear hk1
  by_cases hv : rv = 0
  · subst hv
    go_wp2_with fail
    refine (CO.out _ K1.out).mono ?_
    rintro r w2 ⟨rfl, hk2⟩
    have K2 := Lib.hid (K1.out.step hk2)
    clear hk2
    by_cases ho : ro = 0
    · subst ho
      go_wp2_with fail
      refine (CN.out _ K2.out).mono ?_
      rintro r w3 ⟨rfl, hk3⟩
      have K3 := Lib.hid (K2.out.step hk3)
      clear hk3
      by_cases hn : rn = 0
      · subst hn
        go_wp2_with fail
        refine (CA.out _ K3.out).mono ?_
        rintro r w4 ⟨rfl, hk4⟩
        have K4 := Lib.hid (K3.out.step hk4)
        clear hk4
        go_wp2
        go_ret
        exact ⟨by rw [HW.out]; rfl, K4.out⟩
      · have d1 : (rn == 0) = false := by simpa using hn
        have HX := Lib.hid hn
        clear hn
        go_wp2
        go_ret
        exact ⟨by rw [HW.out, if_neg (by simp), if_neg (by simp), if_pos HX.out]; rfl, K3.out⟩
    · have d1 : (ro == 0) = false := by simpa using ho
      have HX := Lib.hid ho
      clear ho
      go_wp2
      go_ret
      exact ⟨by rw [HW.out, if_neg (by simp), if_pos HX.out]; rfl, K2.out⟩
  · have d1 : (rv == 0) = false := by simpa using hv
    have HX := Lib.hid hv
    clear hv
    go_wp2
    go_ret
    exact ⟨by rw [HW.out, if_pos HX.out]; rfl, K1.out⟩
def accRGo (L : List Ent) : Nat → Nat → Int × Int
  | _, 0 => (L.length, 0)
  | i, q + 1 => if refW (L.take i) = 0 then accRGo L (i + 1) q else (i - 1, refW (L.take i))
def accR (L : List Ent) : Int × Int := accRGo L 0 (L.length + 1)
theorem accRGo_succ (L : List Ent) (i q : Nat) : accRGo L i (q + 1) = if refW (L.take i) = 0 then accRGo L (i + 1) q else ((i : Int) - 1, refW (L.take i)) := rfl
set_option maxRecDepth 100000 in
set_option maxHeartbeats 1000000 in
theorem raccept_any {w : World} {v : Value} {L : List Ent} (hL : IsEs w v L) (hok : LOk L) :
    Calls Try.prog 19 #[v] w fun r w' => r = .returned (.tuple #[.int .i64 (accR L).1, .int .i64 (accR L).2]) ∧ Keep (fun _ => False) w w' := by
  have HL := Lib.hid hL
  have HOK := Lib.hid hok
  obtain ⟨A, c, rfl, hc1, hle, hA⟩ := hL.ex
  have HC1 := Lib.hid hc1
  clear hL hok hc1 hA
  have HA0 : Hid (accR L = accRGo L 0 (L.length + 1 - 0)) := Lib.hid rfl
  go_enter Try.func19, Try.ntmps19
  go_wp2_with fail
  go_loopg [4] (L.length + 1) (fun q u wr => ∃ (i : Nat), i + q = L.length + 1 ∧ u = .int .i64 i ∧ Hid (accR L = accRGo L i (L.length + 1 - i)) ∧ Keep (fun _ => False) w wr)
  case atStart => exact ⟨0, by omega, rfl, HA0, Keep.refl _ _⟩
  case round =>
    obtain ⟨i, hq, rfl, HV, hK⟩ := hrel
    have HQ := Lib.hid hq
    have HK := Lib.hid hK
    clear hq hK
    by_cases hlt : i < L.length + 1
    · have d1 : decide ((i : Int) ≤ (L.length : Int)) = true := decide_eq_true (by omega)
      have d2 : (i : Int) ≤ (L.length : Int) := by omega
      have d3 : (0 : Int) ≤ (i : Int) := by omega
      have x1 : (i : Int) ≤ (c : Int) := by have := HC1.out; omega
      have wi1 : IntKind.i64.wrap ((i : Int) + 1) = (i : Int) + 1 := IntWalk.i64_in _ (by omega)
      have wm : IntKind.i64.wrap ((i : Int) - 1) = (i : Int) - 1 := IntWalk.i64_in _ (by omega)
      have HR : Hid (accR L = _) := Lib.hid (HV.out.trans ((congrArg (fun q => accRGo L i q) (show L.length + 1 - i = (L.length + 1 - (i + 1)) + 1 by omega)).trans (accRGo_succ L i _)))
      have CW := Lib.hid (rwrong_any ((HL.out.keep HK.out).take i (by omega)) (HOK.out.take i))
      clear HV
      generalize refW (L.take i) = e at CW HR
      go_wp2_with fail
      refine CW.out.mono ?_
      rintro r w1 ⟨rfl, hk1⟩
      have K1 := Lib.hid (HK.out.step hk1)
      clear hk1
      by_cases hz : e = 0
      · subst hz
        have HU : Hid (accR L = accRGo L (i + 1) (L.length + 1 - (i + 1))) := Lib.hid (by rw [HR.out, if_pos rfl])
        clear HR
        go_wp2_with fail
        go_roundg (L.length + 1 - (i + 1))
        case measure => have := HQ.out; omega
        case rel => exact ⟨i + 1, by omega, by go_num, HU, K1.out⟩
      · have HU : Hid (accR L = ((i : Int) - 1, e)) := Lib.hid (by rw [HR.out, if_neg hz])
        have d4 : (e != 0) = true := by simpa using hz
        clear HR hz
        go_wp2_with fail
        go_ret2
        exact ⟨by rw [HU.out]; rfl, K1.out⟩
    · have hz : L.length + 1 - i = 0 := by omega
      have d1 : decide ((i : Int) ≤ (L.length : Int)) = false := decide_eq_false (by omega)
      have d2 : ¬ (i : Int) ≤ (L.length : Int) := by omega
      have HU : Hid (accR L = ((L.length : Int), 0)) := Lib.hid (by rw [HV.out, hz]; rfl)
      clear hz HV
      go_wp2_with fail
      go_ret2
      exact ⟨by rw [HU.out]; rfl, HK.out⟩
theorem accept10_any {w : World} {v : Value} {L : List Ent} (hL : IsEs w v L) (hok : LOk L) :
    Calls Try.prog 10 #[v] w fun r w' => r = .returned (.tuple #[.int .i64 (accR L).1, .int .i64 (accR L).2]) ∧ Keep (fun _ => False) w w' := by
  have H := Lib.hid (raccept_any hL hok)
  clear hL hok
  go_enter Try.func10, Try.ntmps10
  go_wp2_with fail
  refine H.out.mono ?_
  rintro r w' ⟨rfl, hk⟩
  have HK := Lib.hid hk
  clear hk
  go_wp2
  go_ret2
  exact ⟨rfl, HK.out⟩
end Go.Proofs.Ytjihimapopbdpaa
