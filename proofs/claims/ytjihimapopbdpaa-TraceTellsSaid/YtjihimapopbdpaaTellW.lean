/- TraceTells: the walk, and as the row asks for it. -/
import Derived.Test.YtjihimapopbdpaaTellA
import Derived.Test.YtjihimapopbdpaaRTheirs
namespace Go.Proofs.Ytjihimapopbdpaa
open Go.RowKit Sh
open Go.ChangeMaps (setBlock)
set_option linter.unusedVariables false

set_option maxRecDepth 100000 in
set_option maxHeartbeats 1000000 in
theorem tells_walk {w : World} {v : Value} {L : List Ent} (hL : IsEs w v L) (hok : LOk L) :
    Calls Try.prog 3 #[v] w fun r w' => r = .returned (.bool true) ∧ Keep (fun _ => False) w w' := by
  have HL := Lib.hid hL
  obtain ⟨A, c, rfl, hc1, hle, hA⟩ := hL.ex
  by_cases hb : 40 < L.length
  · clear hL hok hc1 hA
    have d1 : decide ((40 : Int) < (L.length : Int)) = true := decide_eq_true (by omega)
    have d2 : (40 : Int) < (L.length : Int) := by omega
    go_enter Try.func3, Try.ntmps3
    go_wp2_with fail
    refine (shown_any w).mono ?_
    rintro r w1 ⟨rfl, hk1⟩
    have HK := Lib.hid hk1
    clear hk1
    go_wp2
    go_ret
    exact ⟨rfl, HK.out⟩
  · have d1 : decide ((40 : Int) < (L.length : Int)) = false := decide_eq_false (by omega)
    have d2 : ¬ (40 : Int) < (L.length : Int) := by omega
    have hlen : L.length ≤ 1000 := by omega
    have CT := Lib.hid (fun w' (k : Keep (fun _ => False) w w') => theirs_any (HL.out.keep k) hlen)
    have EA := acc_eq hok hlen
    have e0 : runT vstep v0 L = refV L := views_eq hok
    have e1 : runT ostep o0 L = refO L := order_eq hok hlen
    have e2 : runT nstep t0 L = refN L := once_eq hok hlen
    have e3 : runT astep a0 L = refA L := alike_eq hlen
    have PA := Lib.hid (fun w' (k : Keep (fun _ => False) w w') => accept_any (HL.out.keep k))
    have PV := Lib.hid (fun w' (k : Keep (fun _ => False) w w') => views_any (HL.out.keep k))
    have PO := Lib.hid (fun w' (k : Keep (fun _ => False) w w') => order_any (HL.out.keep k))
    have PN := Lib.hid (fun w' (k : Keep (fun _ => False) w w') => once_any (HL.out.keep k))
    have PL := Lib.hid (fun w' (k : Keep (fun _ => False) w w') => alike_any (HL.out.keep k))
    rw [EA] at PA
    rw [e0] at PV
    rw [e1] at PO
    rw [e2] at PN
    rw [e3] at PL
    have RA := Lib.hid (fun w' u (h : IsEs w' u L) => accept10_any h hok)
    have RV := Lib.hid (fun w' u (h : IsEs w' u L) => views12_any h hok)
    have RO := Lib.hid (fun w' u (h : IsEs w' u L) => order14_any h hok)
    have RN := Lib.hid (fun w' u (h : IsEs w' u L) => once16_any h hok)
    have RL := Lib.hid (fun w' u (h : IsEs w' u L) => alike18_any h hok)
    generalize (accR L).1 = an at PA RA
    generalize (accR L).2 = ae at PA RA
    generalize refV L = rv at PV RV
    generalize refO L = ro at PO RO
    generalize refN L = rn at PN RN
    generalize refA L = ra at PL RL
    clear hL hok hc1 hA EA e0 e1 e2 e3 hb hlen
    go_enter Try.func3, Try.ntmps3
    go_wp2_with fail
    refine (shown_any w).mono ?_
    rintro r w1 ⟨rfl, hk1⟩
    have K1 := Lib.hid hk1
    clear hk1
    go_wp2_with fail
    refine (CT.out _ K1.out).mono ?_
    rintro r w2 ⟨u, rfl, hu, hk2⟩
    have HU := Lib.hid hu
    have K2 := Lib.hid (K1.out.step hk2)
    clear hu hk2
    go_wp2_with fail
    refine (PA.out _ K2.out).mono ?_
    rintro r w3 ⟨rfl, hk3⟩
    have K3 := Lib.hid (K2.out.step hk3)
    have U3 := Lib.hid (HU.out.keep hk3)
    clear hk3 HU
    go_wp2_with fail
    refine (RA.out _ _ U3.out).mono ?_
    rintro r w4 ⟨rfl, hk4⟩
    have K4 := Lib.hid (K3.out.step hk4)
    have U4 := Lib.hid (U3.out.keep hk4)
    clear hk4 U3
    go_wp2_with fail
    refine (PV.out _ K4.out).mono ?_
    rintro r w5 ⟨rfl, hk5⟩
    have K5 := Lib.hid (K4.out.step hk5)
    have U5 := Lib.hid (U4.out.keep hk5)
    clear hk5 U4
    go_wp2_with fail
    refine (RV.out _ _ U5.out).mono ?_
    rintro r w6 ⟨rfl, hk6⟩
    have K6 := Lib.hid (K5.out.step hk6)
    have U6 := Lib.hid (U5.out.keep hk6)
    clear hk6 U5
    go_wp2_with fail
    refine (PO.out _ K6.out).mono ?_
    rintro r w7 ⟨rfl, hk7⟩
    have K7 := Lib.hid (K6.out.step hk7)
    have U7 := Lib.hid (U6.out.keep hk7)
    clear hk7 U6
    go_wp2_with fail
    refine (RO.out _ _ U7.out).mono ?_
    rintro r w8 ⟨rfl, hk8⟩
    have K8 := Lib.hid (K7.out.step hk8)
    have U8 := Lib.hid (U7.out.keep hk8)
    clear hk8 U7
    go_wp2_with fail
    refine (PN.out _ K8.out).mono ?_
    rintro r w9 ⟨rfl, hk9⟩
    have K9 := Lib.hid (K8.out.step hk9)
    have U9 := Lib.hid (U8.out.keep hk9)
    clear hk9 U8
    go_wp2_with fail
    refine (RN.out _ _ U9.out).mono ?_
    rintro r w10 ⟨rfl, hk10⟩
    have K10 := Lib.hid (K9.out.step hk10)
    have U10 := Lib.hid (U9.out.keep hk10)
    clear hk10 U9
    go_wp2_with fail
    refine (PL.out _ K10.out).mono ?_
    rintro r w11 ⟨rfl, hk11⟩
    have K11 := Lib.hid (K10.out.step hk11)
    have U11 := Lib.hid (U10.out.keep hk11)
    clear hk11 U10
    go_wp2_with fail
    refine (RL.out _ _ U11.out).mono ?_
    rintro r w12 ⟨rfl, hk12⟩
    have K12 := Lib.hid (K11.out.step hk12)
    clear hk12 U11
    go_wp2
    go_ret
    exact ⟨rfl, K12.out⟩
theorem tells_row (a0 : Option Addr) (len0 cap0 : Nat) (z0 : List Ent) (w : World) (w0 : IsEs w (.slice a0 len0 cap0) z0) (y0 : ∀ e ∈ z0, EOk e) :
    Calls Try.prog 3 #[.slice a0 len0 cap0] w fun e w' => e = .returned (.bool true) ∧ Below w.heap.size w w' := by
  refine (tells_walk w0 (LOk.of y0)).mono ?_
  rintro e w' ⟨rfl, hk⟩
  exact ⟨rfl, hk.below⟩
end Go.Proofs.Ytjihimapopbdpaa
