/- Walk of the law DetectCalm. DetectCalm: the walk, as the row wants it. -/
import Derived.Test.YtofonfohaocclaaGreatDoorH03
import Derived.Test.YtofonfohaocclaaGreatDoorH01
import Derived.Test.YtofonfohaocclaaGreatDoorG34
import Derived.Test.YtofonfohaocclaaGreatDoorG36
namespace Go.Proofs.YtofonfohaocclaaGreatDoor
open Go.RowKit Sh
open Go.ChangeMaps (setBlock)
set_option linter.unusedVariables false
set_option linter.unusedSimpArgs false

theorem begK_ni : ∀ (l : List Nat) {n : Nat} {d : Det}, NI n d → NI n (begK d l)
  | [], _, _, h => h
  | k :: l, _, _, h => begK_ni l (take_ni h [] in0 _)
theorem beg_ni {n k : Nat} (hk : k < 64) : NI 0 (begP n k) := begK_ni _ (new_ni (by omega))
theorem mod20 {r : Int} (h : 0 ≤ r ∧ r ≤ 255) : ∃ R : Nat, R < 20 ∧ (wrap64 r).tmod 20 = (R : Int) := by
  have e : wrap64 r = r := by unfold wrap64; omega
  rw [e, Int.tmod_eq_emod_of_nonneg h.1]
  exact ⟨(r % 20).toNat, by omega, by omega⟩
theorem two7 {r : Int} (h : 0 ≤ r ∧ r ≤ 255) : ∃ n : Nat, 2 ≤ n ∧ n ≤ 8 ∧ wrap64 (2 + (wrap64 r).tmod 7) = (n : Int) := by
  have e : wrap64 r = r := by unfold wrap64; omega
  rw [e, Int.tmod_eq_emod_of_nonneg h.1]
  refine ⟨(2 + r % 7).toNat, by omega, by omega, ?_⟩
  unfold wrap64
  omega
/-- Between two ticks. -/
structure CLp (w wr : World) (xl t n : Nat) (vp : Value) (bs : List Nat) : Prop where
  ex : ∃ ds L, GSt w wr xl t vp bs ds L ∧ CAll n ds
theorem CLp.keep0 {w wr w' : World} {xl t n : Nat} {vp : Value} {bs : List Nat} (h : CLp w wr xl t n vp bs) (k : Keep (fun _ => False) wr w') : CLp w w' xl t n vp bs := by
  obtain ⟨ds, L, h1, h2⟩ := h.ex
  exact ⟨ds, L, h1.keep0 k, h2⟩
theorem CLp.le {w wr : World} {xl t t' n : Nat} {vp : Value} {bs : List Nat} (h : CLp w wr xl t n vp bs) (ht : t ≤ t') : CLp w wr xl t' n vp bs := by
  obtain ⟨ds, L, h1, h2⟩ := h.ex
  exact ⟨ds, L, h1.le ht, h2⟩
theorem wrap_le {x n : Nat} (h : n ≤ 64) (hx : x < n) : wrap64 ((x : Int) + 1) = (x : Int) + 1 := wrap_succ x (by omega)
theorem pos_of {x n : Nat} (hx : x < n) : 0 < n := by omega
theorem ilt {x n : Nat} (hx : x < n) : (x : Int) < (n : Int) := by omega
theorem nilt {x n : Nat} (hx : ¬ x < n) : ¬ (x : Int) < (n : Int) := by omega
theorem ilt_true {x n : Nat} (hx : x < n) : decide ((x : Int) < (n : Int)) = true := decide_eq_true (by omega)
theorem ilt_false {x n : Nat} (hx : ¬ x < n) : decide ((x : Int) < (n : Int)) = false := decide_eq_false (by omega)
theorem inn (x : Nat) : ¬ ((x : Int) < 0) := by omega
theorem le_of {x z n : Nat} (h : x + z = n) : x ≤ n := by omega
theorem cl_meas {i z n : Nat} (h : i + z = n) (hi : i < n) : n - (i + 1) < z := by omega
theorem cl_rel {i n : Nat} (hi : i < n) : i + 1 + (n - (i + 1)) = n := by omega
set_option maxRecDepth 100000 in
set_option maxHeartbeats 4000000 in
theorem calm_law {w : World} {nd rd : Int} {lv : Value} {LL : List Int} (h1 : 0 ≤ nd ∧ nd ≤ 255) (h2 : 0 ≤ rd ∧ rd ≤ 255) (hL : WArg w lv LL) (hT : TabAt 0 B.tabS w) (hw : 0 < w.heap.size) :
    Calls Tryz.prog 3 #[.int .u8 nd, .int .u8 rd, lv] w fun e w' => e = .returned (.bool true) ∧ Keep (fun _ => False) w w' := by
  obtain ⟨A1, c1, hv1, hc1⟩ := hL.ex
  subst hv1
  have HSH : Hid (∀ W, Keep (fun _ => False) w W → Calls Tryz.prog 8 #[] W fun e w' => e = .returned (.bool true) ∧ Keep (fun _ => False) w w') := Lib.hid (fun W k => (shown_any (B.tab_keep hT k id) (by have := k.size; omega)).mono (by
    rintro e w' ⟨rfl, hk⟩
    exact ⟨rfl, k.step hk⟩))
  have HL := Lib.hid hL
  have HT := Lib.hid hT
  have HW := Lib.hid hw
  obtain ⟨R, hR, hRe⟩ := mod20 h2
  obtain ⟨n, hn2, hn8, hne⟩ := two7 h1
  have HR := Lib.hid hR
  have HN2 := Lib.hid hn2
  have HN8 := Lib.hid hn8
  clear hL hT hw hc1 h1 h2 hR hn2 hn8
  by_cases h6 : 600 < LL.length
  · have d1 : decide ((600 : Int) < (LL.length : Int)) = true := decide_eq_true (by omega)
    clear h6
    go_enter Tryz.func3, Tryz.ntmps3
    go_wp2_with fail
    refine (HSH.out _ (Keep.refl _ _)).mono ?_
    rintro e w1 ⟨rfl, hk⟩
    have HK := Lib.hid hk
    clear hk
    go_wp2_with fail
    go_ret
    exact ⟨rfl, HK.out⟩
  · have d1 : decide ((600 : Int) < (LL.length : Int)) = false := decide_eq_false (by omega)
    have HL6 := Lib.hid (Nat.not_lt.1 h6)
    clear h6
    go_enter Tryz.func3, Tryz.ntmps3
    go_wp2_with fail
    refine (HSH.out _ (Keep.refl _ _)).mono ?_
    rintro e w1 ⟨rfl, hk1⟩
    have HK1 := Lib.hid hk1
    clear hk1 HSH
    go_wp2_with fail
    refine (began_any n (by have := HN8.out; omega) (B.tab_keep HT.out HK1.out id) (by have := HK1.out.size; have := HW.out; omega)).mono ?_
    rintro e w2 ⟨vp, bs, rfl, hptr, hgrp, hk2⟩
    obtain ⟨Av, cv, hvp, hvc⟩ := hptr.ex
    have hbl : bs.length = n := by rw [hgrp.len, List.length_map, List.length_range]
    rw [hbl] at hvp
    subst hvp
    have HBL := Lib.hid hbl
    have HPT := Lib.hid hptr
    have HG := Lib.hid hgrp
    have HK2 := Lib.hid hk2
    have HLN := Lib.hid (lotnew_arg (HL.out.keep (HK1.out.step hk2)) (by have := HL6.out; omega))
    clear hptr hgrp hk2 hvc hbl
    go_wp2_with fail
    refine HLN.out.mono ?_
    rintro e w3 ⟨xl, rfl, hx3, hl3, hk3⟩
    have HST : Hid (CLp w w3 xl 0 n (.slice Av n cv) bs) := Lib.hid (by
      have u1 := HK1.out.size
      have u2 := HK2.out.size
      refine ⟨_, LL, ⟨?_, hl3, ?_, fun d hd => ?_, (HK1.out.step HK2.out).step hk3, by omega, HW.out, HT.out⟩, beg_all HN8.out⟩
      · exact (HG.out.keep0 hk3).mono u1
      · exact (HPT.out.keep0 hk3).mono u1
      · obtain ⟨k, hk, rfl⟩ := List.mem_map.1 hd
        exact beg_ni (by have := List.mem_range.1 hk; have := HN8.out; omega))
    clear HLN hl3 hk3 hx3 HPT HG HK2 HK1 HL HL6 d1
    go_wp2_with fail
    go_loopg [10, 11, 12, 13, 14] R (fun z v10 v11 v12 v13 v14 wr => ∃ i : Nat, i + z = R ∧ v10 = .int .i64 (i : Int) ∧ CLp w wr xl (64 * i) n (.slice Av n cv) bs)
    case atStart => exact ⟨0, Nat.zero_add _, rfl, HST.out⟩
    case round =>
      obtain ⟨i, hz, rfl, hlp⟩ := hrel
      have HLP := Lib.hid hlp
      have HZ := Lib.hid hz
      have hi1 : i ≤ R := by omega
      clear hlp hz HST
      by_cases hi : i < R
      · have HI := Lib.hid hi
        have s1 : decide ((i : Int) < (R : Int)) = true := decide_eq_true (by omega)
        have s2 : (i : Int) < (R : Int) := by omega
        have w1i := wrap_succ i (by have := HR.out; omega)
        clear hi hi1
        go_wp2_with fail
        go_loopg [11, 12, 13, 14] n (fun z v11 v12 v13 v14 wr => ∃ k : Nat, k + z = n ∧ v11 = .int .i64 (k : Int) ∧ CLp w wr xl (64 * i + k) n (.slice Av n cv) bs)
        case atStart => exact ⟨0, Nat.zero_add _, rfl, HLP.out⟩
        case round =>
          obtain ⟨k, hz, rfl, hkp⟩ := hrel
          have HKP := Lib.hid hkp
          have HZK := Lib.hid hz
          have hk1 : k ≤ n := by omega
          clear hkp hz HLP
          by_cases hk : k < n
          · have HKN := Lib.hid hk
            have t1 : decide ((k : Int) < (n : Int)) = true := decide_eq_true (by omega)
            have t2 : (k : Int) < (n : Int) := by omega
            have t3 : ¬ ((k : Int) < 0) := by omega
            have w1k := wrap_succ k (by have := HN8.out; omega)
            obtain ⟨ds, L, hg, hc⟩ := HKP.out.ex
            obtain ⟨d, hd⟩ : ∃ d, ds[k]? = some d := ⟨ds[k]'(by rw [hc.len]; exact hk), List.getElem?_eq_getElem _⟩
            obtain ⟨b, p, g, o, c, hb, hdet, hv, hcell⟩ := hg.at hd
            rw [HBL.out] at hv
            injection hv with e1 e2 e3
            subst e1
            subst e3
            have htk := hg.tick hd hb (by have := HR.out; have := HI.out; have := HN8.out; omega)
            obtain ⟨ds', L', hcr, hca⟩ := calm_round hc HN2.out HN8.out hd L
            have hnt := (tick_ng (hg.ni d (List.mem_of_getElem? hd)) L).nt
            have hnl : (d.tick L).2.2.length ≤ 1 := by
              have := LE.tick_len d L
              rw [hc.ws k d hd] at this
              simpa using this
            have HTK := Lib.hid htk
            have HCR := Lib.hid hcr
            have HCA := Lib.hid hca
            have HNT := Lib.hid hnt
            have HNL := Lib.hid hnl
            clear hg hc hd hdet htk hcr hca hnt hnl hb hk hk1 HKP
            go_wp2_with fail
            refine HTK.out.mono ?_
            rintro e w4 ⟨v4, rfl, hg4, hq4⟩
            have HSE := Lib.hid (hg4.settle (up := 255) hq4 HNT.out (by have := HNL.out; omega) (by decide) (by have := HR.out; have := HI.out; have := HN8.out; have := HKN.out; omega) (by have := HBL.out; have := HN8.out; omega))
            rw [HCR.out] at HSE
            clear hg4 hq4 HTK HNT HNL HCR
            go_wp2_with fail
            refine HSE.out.mono ?_
            rintro e w5 ⟨rfl, hg5⟩
            have HL5 : Hid (CLp w w5 xl (64 * i + (k + 1)) n (.slice (some ⟨g, o, none⟩) n cv) bs) := Lib.hid ⟨ds', L', hg5, HCA.out⟩
            clear hg5 HCA HSE
            go_wp2_with fail
            go_loopg [12, 13, 14] n (fun z v12 v13 v14 wr => ∃ j : Nat, j + z = n ∧ v12 = .int .i64 (j : Int) ∧ Keep (fun _ => False) w5 wr)
            case atStart => exact ⟨0, Nat.zero_add _, rfl, Keep.refl _ _⟩
            case round =>
              obtain ⟨j, hz, rfl, hkj⟩ := hrel
              have HKJ := Lib.hid hkj
              have HZJ := Lib.hid hz
              have hj1 : j ≤ n := by omega
              clear hkj hz
              by_cases hj : j < n
              · have HJN := Lib.hid hj
                have r1 : decide ((j : Int) < (n : Int)) = true := decide_eq_true (by omega)
                have r2 : (j : Int) < (n : Int) := by omega
                have r3 : ¬ ((j : Int) < 0) := by omega
                have w1j := wrap_succ j (by have := HN8.out; omega)
                obtain ⟨ds, L, hg, hc⟩ := (HL5.out.keep0 HKJ.out).ex
                obtain ⟨d, hd⟩ : ∃ d, ds[j]? = some d := ⟨ds[j]'(by rw [hc.len]; exact hj), List.getElem?_eq_getElem _⟩
                obtain ⟨b, p, g', o', c', hb, hdet, hv, hcell⟩ := hg.at hd
                rw [HBL.out] at hv
                injection hv with e1 e2 e3
                injection e1 with e1
                injection e1 with e1 e4
                subst e1
                subst e4
                clear e2 e3
                have hrok := (hg.ni d (List.mem_of_getElem? hd)).ko.ok.r
                have hcal := (hc.calm j d hd)
                have c0 := hdet.c0
                have hmn : ((bMany d.r.live : Nat) : Int) = (n : Int) := by rw [hcal.r.many hcal.n64]
                have HRL := Lib.hid (rlive_any hdet.rol hrok hg.tabr)
                have HMN := Lib.hid (fun W => rmany_any d.r.live (live_lt d.r) W)
                rw [hmn] at HMN
                have HAL := Lib.hid (fun W (kk : Keep (fun _ => False) wr W) => rall_any (hdet.rol.keep0 kk) hrok (B.tab_keep hg.tabr kk id))
                have HCM := Lib.hid (hcal.r.all_calm hcal.n64)
                have hln : d.r.all.length ≤ 64 := all_len d.r
                have HLN := Lib.hid hln
                clear hg hc hd hb hdet hrok hcal hmn hj hj1 hln
                generalize d.r.all = U at *
                generalize ((d.r.live : Nat) : Int) = lvv at *
                go_wp2_with fail
                refine HRL.out.mono ?_
                rintro e w6 ⟨rfl, hk6⟩
                have HK6 := Lib.hid hk6
                have c0' := hk6.cell c0
                have hcell' := hk6.cell hcell
                clear hk6 HRL
                go_wp2_with fail
                refine (HMN.out _).mono ?_
                rintro e w7 ⟨rfl, hk7⟩
                have HK7 := Lib.hid (HK6.out.step hk7)
                have c7 := hk7.cell c0'
                have hcell7 := hk7.cell hcell'
                clear hk7 HMN HK6 c0 c0' hcell hcell'
                go_wp2_with fail
                refine (HAL.out _ HK7.out).mono ?_
                rintro e w8 ⟨v8, rfl, hu8⟩
                have HK8 := Lib.hid ((HKJ.out.step HK7.out).step hu8.keep)
                obtain ⟨A8, c8, rfl⟩ := own_shape hu8.own
                have HRW := Lib.hid (Row.of_own hu8.own)
                clear hu8 HAL c7 hcell7 HK7
                go_wp2_with fail
                go_loopg [14] U.length (fun z v14 wr => ∃ x : Nat, x + z = U.length ∧ v14 = .int .i64 (x : Int) ∧ Keep (fun _ => False) w8 wr)
                case atStart => exact ⟨0, Nat.zero_add _, rfl, Keep.refl _ _⟩
                case round =>
                  obtain ⟨x, hz, rfl, hkx⟩ := hrel
                  have HKX := Lib.hid hkx
                  have HZX := Lib.hid hz
                  have hx1 := le_of hz
                  clear hkx hz
                  by_cases hx : x < U.length
                  · have HXN := Lib.hid hx
                    have x1 := ilt_true hx
                    have x2 := ilt hx
                    have x3 := inn x
                    have w1x := wrap_le HLN.out hx
                    obtain ⟨ga, oa, ca, csa, hva, _⟩ := HRW.out.pos (pos_of hx)
                    injection hva with ea1 ea2 ea3
                    subst ea1
                    clear ea2 ea3
                    obtain ⟨m0, m1, m2⟩ := (HRW.out.keep0 HKX.out).up_at x hx
                    have n1 := (HCM.out _ (List.getElem_mem hx)).1
                    have n2 := (HCM.out _ (List.getElem_mem hx)).2
                    rw [n1] at m2
                    rw [n2] at m1
                    clear hx hx1 n1 n2 m0
                    go_wp2_with fail
                    go_roundg (U.length - (x + 1))
                    case measure => exact cl_meas HZX.out HXN.out
                    case rel => exact ⟨x + 1, cl_rel HXN.out, rfl, HKX.out⟩
                  · have x1 := ilt_false hx
                    have x2 := nilt hx
                    have HNX := Lib.hid (HK8.out.step HKX.out)
                    clear hx hx1
                    go_wp2_with fail
                    go_roundg (n - (j + 1))
                    case measure => exact cl_meas HZJ.out HJN.out
                    case rel => exact ⟨j + 1, cl_rel HJN.out, rfl, HNX.out⟩
              · obtain rfl : j = n := by omega
                have r1 : decide ((j : Int) < (j : Int)) = false := decide_eq_false (by omega)
                have HNX := Lib.hid (HL5.out.keep0 HKJ.out)
                clear hj hj1
                go_wp2_with fail
                go_roundg (j - (k + 1))
                case measure => exact cl_meas HZK.out HKN.out
                case rel => exact ⟨k + 1, cl_rel HKN.out, bg_next w1k, HNX.out⟩
          · obtain rfl : k = n := by omega
            have t1 : decide ((k : Int) < (k : Int)) = false := decide_eq_false (by omega)
            have HNX : Hid (CLp w wr xl (64 * (i + 1)) k (.slice Av k cv) bs) := Lib.hid (HKP.out.le (by have := HN8.out; omega))
            clear hk hk1
            go_wp2_with fail
            go_roundg (R - (i + 1))
            case measure => exact cl_meas HZ.out HI.out
            case rel => exact ⟨i + 1, cl_rel HI.out, bg_next w1i, HNX.out⟩
      · obtain rfl : i = R := by omega
        have s1 : decide ((i : Int) < (i : Int)) = false := decide_eq_false (by omega)
        have HF : Hid (Keep (fun _ => False) w wr) := Lib.hid (by
          obtain ⟨ds, L, h1, _⟩ := HLP.out.ex
          exact h1.keep)
        clear hi hi1
        go_wp2_with fail
        go_ret
        exact ⟨rfl, HF.out⟩
end Go.Proofs.YtofonfohaocclaaGreatDoor

namespace Go.Proofs.YtofonfohaocclaaGreatDoor
open Go.RowKit Sh
set_option linter.unusedVariables false
theorem calm_row (a0 a1 : Int) (a2 : Option Addr) (len2 cap2 : Nat) (z2 : List Int) (w : World)
    (w0 : (Lit.int .u8 a0).wf = true) (w1 : (Lit.int .u8 a1).wf = true) (w2 : IsRow .u64 w a2 len2 cap2 z2) (y2 : len2 * 8 ≤ 140737488351232)
    (hL : laidMet Tryz.prog [("math/bits.deBruijn64tab", Rows.laid_math_bits_deBruijn64tab)] w) :
    Calls Tryz.prog 3 #[.int .u8 a0, .int .u8 a1, .slice a2 len2 cap2] w fun e w' => e = .returned (.bool true) ∧ Below w.heap.size w w' := by
  obtain ⟨L, h1⟩ := WArg.ofRow w2
  have hT := B.tab_of_laid hL
  refine (calm_law (u8_of_wf w0) (u8_of_wf w1) h1 hT (World.block_lt_of_cell? w _ (hT 0 (by decide)))).mono ?_
  rintro e w' ⟨rfl, hk⟩
  exact ⟨rfl, hk.below⟩
end Go.Proofs.YtofonfohaocclaaGreatDoor
