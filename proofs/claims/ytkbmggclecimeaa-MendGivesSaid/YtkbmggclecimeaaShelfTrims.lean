/- ShelfTrims: the walk of the law. -/
import Derived.Test.YtkbmggclecimeaaShelfP
namespace Go.Proofs.Ytkbmggclecimeaa
open Go.RowKit Sh
set_option linter.unusedVariables false

set_option maxHeartbeats 400000 in
theorem shown13 (w : World) :
    Calls Try.prog 15 #[] w fun e w' => e = .returned (.bool true) ∧ Keep (fun _ => False) w w' := by
  have s0 : IsShelf (w.alloc (.cells Try.zeroCells32 32)) w.heap.size Sh.fresh := fresh_alloc w
  have H0 := Lib.hid s0
  have ok0 : St.ok Sh.fresh := ⟨by decide, by decide⟩
  let st1 := Sh.fresh.set 1 ⟨1, 3, 9, ⟨#[120]⟩⟩
  have ok1 : St.ok st1 := ⟨by decide, by decide⟩
  have h1 : hasB st1 1 = true := by rfl
  have h2 : hasB st1 2 = false := by rfl
  have h3 : hasB Sh.fresh 1 = false := by rfl
  have P1 := Lib.hid h1
  have P2 := Lib.hid h2
  have P3 := Lib.hid h3
  have OK0 := Lib.hid ok0
  have OK1 := Lib.hid ok1
  have K0 := Lib.hid ((Keep.refl (fun _ => False) w).alloc (.cells Try.zeroCells32 32))
  clear h1 h2 h3 s0 ok0 ok1
  go_enter Try.func15, Try.ntmps15
  go_wp2_with fail
  refine (put_ok _ Sh.fresh 1 3 9 ⟨#[120]⟩ _ H0.out OK0.out (by omega) (by omega) (by decide) (by decide) P3.out (by decide)).mono ?_
  rintro e w1 ⟨rfl, hS, hK⟩
  have HS : Hid (IsShelf w1 w.heap.size st1) := hS
  have HK := Lib.hid hK
  clear hS hK
  go_wp2_with fail
  refine (get_ok _ st1 1 _ HS.out OK1.out (by omega) (by decide) P1.out).mono ?_
  rintro e w2 ⟨rfl, hK2⟩
  have HK2 := Lib.hid hK2
  clear hK2
  go_wp2_with fail
  refine (reach_any _ st1 1 _ (HS.out.keep (HK2.out.alloc _) id) OK1.out (by decide) (fun k hk => ?c1) P2.out).mono ?_
  case c1 =>
    obtain rfl : k = 0 := by omega
    exact P1.out
  rintro e w3 ⟨rfl, rfl⟩
  go_wp2
  go_ret
  exact ⟨rfl, ((K0.out.trans HK.out (by rintro i rfl hi; exact absurd hi (by omega))).trans HK2.out (fun _ h _ => h)).alloc _⟩

theorem fill_has (j : Nat) (hj : j < 64) : hasB (fillN j) ((j : Int) + 1) = false := by
  have h := (fillN_is j (by omega)).has (j + 1) (by omega) (by omega)
  have e : (((j + 1 : Nat) : Int)) = (j : Int) + 1 := by omega
  rw [← e, h]; simp

set_option maxHeartbeats 2000000 in
theorem trims_walk (a0 : Int) (a1 : Int) (w0 : (Lit.int .u8 a0).wf = true) (w1 : (Lit.int .u8 a1).wf = true) (w : World) :
    Calls Try.prog 4 #[.int .u8 a0, .int .u8 a1] w fun e w' => e = .returned (.bool true) ∧ Keep (fun _ => False) w w' := by
  obtain ⟨a00, a01⟩ := bounds_u8 w0
  obtain ⟨a10, a11⟩ := bounds_u8 w1
  obtain ⟨n, hn, hn'⟩ : ∃ n : Nat, a0 % 65 ≤ n ∧ (n : Int) ≤ a0 % 65 := ⟨(a0 % 65).toNat, by omega, by omega⟩
  obtain ⟨k, hk, hk'⟩ : ∃ k : Nat, a1 % 70 ≤ k ∧ (k : Int) ≤ a1 % 70 := ⟨(a1 % 70).toNat, by omega, by omega⟩
  have n64 : n ≤ 64 := by omega
  have k69 : k ≤ 69 := by omega
  clear w0 w1
  have H0 := Lib.hid (fresh_alloc w)
  have K0 := Lib.hid ((Keep.refl (fun _ => False) w).alloc (.cells Try.zeroCells32 32))
  go_enter Try.func4, Try.ntmps4
  go_wp2_with fail
  go_loopg [7] n (fun g v wr => ∃ j : Nat, j + g = n ∧ v = .int .i64 ((j : Int) + 1) ∧ IsShelf wr w.heap.size (fillN j) ∧ Keep (fun _ => False) w wr)
  case atStart => exact ⟨0, by omega, rfl, H0.out, K0.out⟩
  case round =>
    obtain ⟨j, hj, rfl, hI, hK⟩ := hrel
    have HI := Lib.hid hI
    have HK := Lib.hid hK
    clear hI hK
    by_cases hlt : j < n
    · have HF := Lib.hid (fill_has j (by omega))
      go_wp2_with fail
      refine (put_ok _ (fillN j) _ _ _ _ _ HI.out ((fillN_is j (by omega)).ok (by omega)) (by omega) (by omega) (by decide) (by rw [fillN_low]; omega) HF.out (by rw [fillN_low]; omega)).mono ?_
      rintro e w1 ⟨rfl, hS, hK1⟩
      have HS := Lib.hid hS
      have HK1 := Lib.hid hK1
      clear hS hK1
      go_wp2
      go_roundg (n - (j + 1))
      case measure => omega
      case rel => exact ⟨j + 1, by omega, by go_num, HS.out, HK.out.trans HK1.out (by rintro i rfl hi; omega)⟩
    · obtain rfl : j = n := by omega
      by_cases hkn : k ≤ j
      · have hF := (fillN_is j (by omega))
        have HFn : ∀ q : Nat, q < j → hasB (fillN j) ((fillN j).low + q + 1) = true := by
          intro q hq
          have := hF.has (q + 1) (by omega) (by omega)
          have e : (((q + 1 : Nat) : Int)) = (fillN j).low + q + 1 := by rw [fillN_low]; omega
          rw [← e, this]; simp; omega
        have HFe : hasB (fillN j) ((fillN j).low + j + 1) = false := by
          rw [fillN_low]
          by_cases e64 : j = 64
          · exact has_far _ _ (by rw [fillN_low]; omega)
          · have e : (0 : Int) + j + 1 = (j : Int) + 1 := by omega
            rw [e]; exact fill_has j (by omega)
        have hI2 : Is2 (trimN (fillN j) k) k j := trimN_is _ _ _ hF (by omega)
        have hlow : (trimN (fillN j) k).low ≤ (a1 % 70) := by rw [hI2.lo]; omega
        have hlow' : (a1 % 70) ≤ (trimN (fillN j) k).low := by rw [hI2.lo]; omega
        have hFok := hF.ok (by omega)
        have h2ok := hI2.ok (by omega)
        have hFl := fillN_low j
        have XhF := Lib.hid hF
        have XHFn := Lib.hid HFn
        have XHFe := Lib.hid HFe
        have XhI2 := Lib.hid hI2
        have XhFok := Lib.hid hFok
        have Xh2ok := Lib.hid h2ok
        have XhFl := Lib.hid hFl
        clear hF HFn HFe hI2 hFok h2ok hFl
        go_wp2_with fail
        refine (trim_ok _ (fillN j) j k _ _ HI.out XhFok.out (by rw [XhFl.out]; omega) XHFn.out XHFe.out (by omega) (by rw [XhFl.out]; omega) (by rw [XhFl.out]; omega)).mono ?_
        rintro e w1 ⟨rfl, hS, hK1⟩
        have hS2 : Hid (IsShelf w1 w.heap.size (trimN (fillN j) k)) := hS
        have hKw := Lib.hid (HK.out.trans hK1 (by rintro i rfl hi; omega))
        clear hS hK1
        go_wp2_with fail
        refine (shown13 _).mono ?_
        rintro e w2 ⟨rfl, hK2⟩
        have hS3 := Lib.hid (hS2.out.keep hK2 id)
        have hKw2 := Lib.hid (hKw.out.step hK2)
        clear hK2
        go_wp2_with fail
        go_loopg [11] j (fun g v wr => ∃ q : Nat, q + g = j ∧ v = .int .i64 ((q : Int) + 1) ∧ IsShelf wr w.heap.size (trimN (fillN j) k) ∧ Keep (fun _ => False) w wr)
        case atStart => exact ⟨0, by omega, rfl, hS3.out, hKw2.out⟩
        case round =>
          clear HI HK hS2 hS3 hKw hKw2
          obtain ⟨q, hq, rfl, hI, hK⟩ := hrel
          have HI := Lib.hid hI
          have HK := Lib.hid hK
          clear hI hK
          by_cases hlt : q < j
          · have hqj : q + 1 ≤ 64 := by omega
            have HQ := Lib.hid hq
            clear hq
            by_cases hold : q < k
            · go_wp2_with fail
              refine (get_old _ (trimN (fillN j) k) _ _ HI.out Xh2ok.out (by omega) (by omega)).mono ?_
              rintro e w3 ⟨rfl, hK3⟩
              have HK3 := Lib.hid hK3
              clear hK3
              go_wp2
              go_roundg (j - (q + 1))
              case measure => have := HQ.out; omega
              case rel => exact ⟨q + 1, by omega, by go_num, HI.out.keep (HK3.out.alloc _) id, HK.out.step (HK3.out.alloc _)⟩
            · have hhas : hasB (trimN (fillN j) k) ((q : Int) + 1) = true := by
                have := XhI2.out.has (q + 1) (by omega) (by omega)
                have e : (((q + 1 : Nat) : Int)) = (q : Int) + 1 := by omega
                rw [← e, this]; simp; omega
              have hnum : ((trimN (fillN j) k).ring (((q : Int) + 1) % 64).toNat).num = (q : Int) + 1 := by
                have := XhI2.out.rg (q + 1) (by omega) (by omega)
                have e : (((q : Int) + 1) % 64).toNat = (q + 1) % 64 := by omega
                rw [e, this, if_pos (by omega)]; rfl
              have HH := Lib.hid hhas
              clear hhas
              go_wp2_with fail
              refine (get_ok _ (trimN (fillN j) k) _ _ HI.out Xh2ok.out (by omega) (by omega) HH.out).mono ?_
              rintro e w3 ⟨rfl, hK3⟩
              have HK3 := Lib.hid hK3
              clear hK3
              go_wp2
              go_roundg (j - (q + 1))
              case measure => have := HQ.out; omega
              case rel => exact ⟨q + 1, by omega, by go_num, HI.out.keep (HK3.out.alloc _) id, HK.out.step (HK3.out.alloc _)⟩
          · obtain rfl : j = q := by omega
            go_wp2_with fail
            refine (put_full _ (trimN (fillN j) k) _ _ _ _ _ HI.out Xh2ok.out (by omega) (by omega) (by omega) (by omega) (by decide) (by omega) (by omega)).mono ?_
            rintro e w3 ⟨rfl, hK3⟩
            have HI3 := Lib.hid (HI.out.keep hK3 id)
            have HK3 := Lib.hid (HK.out.step hK3)
            clear hK3 HI HK
            have hlast := XhI2.out.hasLast (by omega) (by omega)
            have elast : (((k : Nat) : Int) + 64) = (a1 % 70) + 64 := by omega
            rw [elast] at hlast
            clear elast
            by_cases hb : k = 0 ∧ j = 64
            · have hl2 : hasB (trimN (fillN j) k) ((a1 % 70) + 64) = true := by rw [hlast]; exact decide_eq_true hb
              have HL2 := Lib.hid hl2
              clear hl2 hlast
              obtain ⟨r, hr1, hr2, hr3⟩ := reach_ex (trimN (fillN j) k)
              have hge : (j : Int) ≤ (trimN (fillN j) k).low + r := by
                apply Classical.byContradiction
                intro hc
                have := XhI2.out.has (k + r + 1) (by omega) (by have := XhI2.out.lo; omega)
                have e : (((k + r + 1 : Nat) : Int)) = (trimN (fillN j) k).low + r + 1 := by rw [XhI2.out.lo]; omega
                rw [e, hr3] at this
                have := of_decide_eq_false this.symm
                have := XhI2.out.lo
                omega
              have HR2 := Lib.hid hr2
              have HR3 := Lib.hid hr3
              clear hr2 hr3
              have heq : ((trimN (fillN j) k).low == (a1 % 70)) = true := by simp; omega
              have hgeI : a0 % 65 ≤ (trimN (fillN j) k).low + r := by omega
              have hltI : ¬ a0 % 65 < (a1 % 70) + 64 := by omega
              clear hb
              go_wp2_with fail
              refine (put_twice _ (trimN (fillN j) k) _ _ _ _ _ HI3.out Xh2ok.out (by omega) (by omega) (by omega) (by omega) (by decide) (by omega) HL2.out).mono ?_
              rintro e w4 ⟨rfl, hK4⟩
              have HI4 := Lib.hid (HI3.out.keep hK4 id)
              have HK4 := Lib.hid (HK3.out.step hK4)
              clear hK4 HI3 HK3
              go_wp2_with fail
              refine (reach_any _ (trimN (fillN j) k) r _ HI4.out Xh2ok.out (by omega) HR2.out HR3.out).mono ?_
              rintro e w5 ⟨rfl, rfl⟩
              go_wp2_with fail
              refine (low_any _ (trimN (fillN j) k) _ HI4.out).mono ?_
              rintro e w5 ⟨rfl, rfl⟩
              go_wp2
              all_goals (go_ret; exact ⟨by first | rfl | (simp; omega), HK4.out⟩)
            · have hl2 : hasB (trimN (fillN j) k) ((a1 % 70) + 64) = false := by rw [hlast]; exact decide_eq_false hb
              have HL2 := Lib.hid hl2
              clear hl2 hlast
              obtain ⟨st3, hst3⟩ : ∃ st3, st3 = ((trimN (fillN j) k).set (((a1 % 70) + 64) % 64).toNat ⟨(a1 % 70) + 64, 0, 0, ⟨#[]⟩⟩) := ⟨_, rfl⟩
              have hlow3 : st3.low = (trimN (fillN j) k).low := by rw [hst3]; rfl
              have ok3 : St.ok st3 := by rw [hst3]; exact ⟨Xh2ok.out.l0, Xh2ok.out.l1⟩
              have HST := Lib.hid hst3
              have OK3 := Lib.hid ok3
              obtain ⟨r, hr1, hr2, hr3⟩ := reach_ex st3
              have elast : (((k : Nat) : Int) + 64) = (a1 % 70) + 64 := by omega
              have hge : (j : Int) ≤ st3.low + r := by
                apply Classical.byContradiction
                intro hc
                have hlo := XhI2.out.lo
                have := XhI2.out.hasPut (by omega) (by omega) hb ⟨(a1 % 70) + 64, 0, 0, ⟨#[]⟩⟩ (k + r + 1) (by omega) (by rw [hlow3] at hc; omega)
                rw [elast, ← hst3] at this
                have e : (((k + r + 1 : Nat) : Int)) = st3.low + r + 1 := by rw [hlow3, hlo]; omega
                rw [e, hr3] at this
                cases this
              have HR2 := Lib.hid hr2
              have HR3 := Lib.hid hr3
              clear hr2 hr3 elast ok3 hst3
              have heq : (st3.low == (a1 % 70)) = true := by rw [hlow3]; simp; omega
              have hgeI : a0 % 65 ≤ st3.low + r := by omega
              have hltI : a0 % 65 < (a1 % 70) + 64 := by omega
              have hl31 : st3.low ≤ (a1 % 70) := by rw [hlow3]; omega
              have him : (((a1 % 70) + 64) % 64).toNat < 64 := by omega
              clear hb hlow3
              go_wp2_with fail
              refine (put_ok _ (trimN (fillN j) k) _ _ _ _ _ HI3.out Xh2ok.out (by omega) (by omega) (by decide) (by omega) HL2.out (by omega)).mono ?_
              rintro e w4 ⟨rfl, hS4, hK4⟩
              have HI4 : Hid (IsShelf w4 w.heap.size st3) := by rw [HST.out]; exact hS4
              have HK4 := Lib.hid (HK3.out.trans hK4 (by rintro i rfl hi; omega))
              clear hK4 hS4 HI3 HK3
              go_wp2_with fail
              refine (reach_any _ st3 r _ HI4.out OK3.out (by omega) HR2.out HR3.out).mono ?_
              rintro e w5 ⟨rfl, rfl⟩
              go_wp2_with fail
              refine (low_any _ st3 _ HI4.out).mono ?_
              rintro e w5 ⟨rfl, rfl⟩
              go_wp2
              all_goals (go_ret; exact ⟨by first | rfl | (simp; omega), HK4.out⟩)
      · have hF := (fillN_is j (by omega))
        have HFn : ∀ q : Nat, q < j → hasB (fillN j) ((fillN j).low + q + 1) = true := by
          intro q hq
          have := hF.has (q + 1) (by omega) (by omega)
          have e : (((q + 1 : Nat) : Int)) = (fillN j).low + q + 1 := by rw [fillN_low]; omega
          rw [← e, this]; simp; omega
        have HFe : hasB (fillN j) ((fillN j).low + j + 1) = false := by
          rw [fillN_low]
          by_cases e64 : j = 64
          · exact has_far _ _ (by rw [fillN_low]; omega)
          · have e : (0 : Int) + j + 1 = (j : Int) + 1 := by omega
            rw [e]; exact fill_has j (by omega)
        have hI2 : Is2 (fillN j) 0 j := hF
        have hlow : (fillN j).low ≤ 0 := by rw [hI2.lo]; omega
        have hlow' : 0 ≤ (fillN j).low := by rw [hI2.lo]; omega
        have hFok := hF.ok (by omega)
        have h2ok := hI2.ok (by omega)
        have hFl := fillN_low j
        have XhF := Lib.hid hF
        have XHFn := Lib.hid HFn
        have XHFe := Lib.hid HFe
        have XhI2 := Lib.hid hI2
        have XhFok := Lib.hid hFok
        have Xh2ok := Lib.hid h2ok
        have XhFl := Lib.hid hFl
        clear hF HFn HFe hI2 hFok h2ok hFl
        go_wp2_with fail
        refine (trim_arg _ (fillN j) j _ _ HI.out XhFok.out (by rw [XhFl.out]; omega) XHFn.out XHFe.out (by rw [XhFl.out]; omega)).mono ?_
        rintro e w1 ⟨rfl, rfl⟩
        have hS := HI.out
        have hK1 := Keep.refl (fun k => k = w.heap.size) wr
        have hS2 : Hid (IsShelf wr w.heap.size (fillN j)) := hS
        have hKw := Lib.hid (HK.out.trans hK1 (by rintro i rfl hi; omega))
        clear hS hK1
        go_wp2_with fail
        refine (shown13 _).mono ?_
        rintro e w2 ⟨rfl, hK2⟩
        have hS3 := Lib.hid (hS2.out.keep hK2 id)
        have hKw2 := Lib.hid (hKw.out.step hK2)
        clear hK2
        go_wp2_with fail
        go_loopg [11] j (fun g v wr => ∃ q : Nat, q + g = j ∧ v = .int .i64 ((q : Int) + 1) ∧ IsShelf wr w.heap.size (fillN j) ∧ Keep (fun _ => False) w wr)
        case atStart => exact ⟨0, by omega, rfl, hS3.out, hKw2.out⟩
        case round =>
          clear HI HK hS2 hS3 hKw hKw2
          obtain ⟨q, hq, rfl, hI, hK⟩ := hrel
          have HI := Lib.hid hI
          have HK := Lib.hid hK
          clear hI hK
          by_cases hlt : q < j
          · have hqj : q + 1 ≤ 64 := by omega
            have HQ := Lib.hid hq
            clear hq
            by_cases hold : q < 0
            · omega
            · have hhas : hasB (fillN j) ((q : Int) + 1) = true := by
                have := XhI2.out.has (q + 1) (by omega) (by omega)
                have e : (((q + 1 : Nat) : Int)) = (q : Int) + 1 := by omega
                rw [← e, this]; simp; omega
              have hnum : ((fillN j).ring (((q : Int) + 1) % 64).toNat).num = (q : Int) + 1 := by
                have := XhI2.out.rg (q + 1) (by omega) (by omega)
                have e : (((q : Int) + 1) % 64).toNat = (q + 1) % 64 := by omega
                rw [e, this, if_pos (by omega)]; rfl
              have HH := Lib.hid hhas
              clear hhas
              go_wp2_with fail
              refine (get_ok _ (fillN j) _ _ HI.out Xh2ok.out (by omega) (by omega) HH.out).mono ?_
              rintro e w3 ⟨rfl, hK3⟩
              have HK3 := Lib.hid hK3
              clear hK3
              go_wp2
              go_roundg (j - (q + 1))
              case measure => have := HQ.out; omega
              case rel => exact ⟨q + 1, by omega, by go_num, HI.out.keep (HK3.out.alloc _) id, HK.out.step (HK3.out.alloc _)⟩
          · obtain rfl : j = q := by omega
            go_wp2_with fail
            refine (put_full _ (fillN j) _ _ _ _ _ HI.out Xh2ok.out (by omega) (by omega) (by omega) (by omega) (by decide) (by omega) (by omega)).mono ?_
            rintro e w3 ⟨rfl, hK3⟩
            have HI3 := Lib.hid (HI.out.keep hK3 id)
            have HK3 := Lib.hid (HK.out.step hK3)
            clear hK3 HI HK
            have hlast := XhI2.out.hasLast (by omega) (by omega)
            have elast : (((0 : Nat) : Int) + 64) = 0 + 64 := by omega
            rw [elast] at hlast
            clear elast
            by_cases hb : 0 = 0 ∧ j = 64
            · have hl2 : hasB (fillN j) ((0 : Int) + 64) = true := by rw [hlast]; exact decide_eq_true hb
              have HL2 := Lib.hid hl2
              clear hl2 hlast
              obtain ⟨r, hr1, hr2, hr3⟩ := reach_ex (fillN j)
              have hge : (j : Int) ≤ (fillN j).low + r := by
                apply Classical.byContradiction
                intro hc
                have := XhI2.out.has (0 + r + 1) (by omega) (by have := XhI2.out.lo; omega)
                have e : (((0 + r + 1 : Nat) : Int)) = (fillN j).low + r + 1 := by rw [XhI2.out.lo]; omega
                rw [e, hr3] at this
                have := of_decide_eq_false this.symm
                have := XhI2.out.lo
                omega
              have HR2 := Lib.hid hr2
              have HR3 := Lib.hid hr3
              clear hr2 hr3
              have heq : ((fillN j).low == 0) = true := by simp; omega
              have hgeI : a0 % 65 ≤ (fillN j).low + r := by omega
              have hltI : ¬ a0 % 65 < 0 + 64 := by omega
              clear hb
              go_wp2_with fail
              refine (put_twice _ (fillN j) _ _ _ _ _ HI3.out Xh2ok.out (by omega) (by omega) (by omega) (by omega) (by decide) (by omega) HL2.out).mono ?_
              rintro e w4 ⟨rfl, hK4⟩
              have HI4 := Lib.hid (HI3.out.keep hK4 id)
              have HK4 := Lib.hid (HK3.out.step hK4)
              clear hK4 HI3 HK3
              go_wp2_with fail
              refine (reach_any _ (fillN j) r _ HI4.out Xh2ok.out (by omega) HR2.out HR3.out).mono ?_
              rintro e w5 ⟨rfl, rfl⟩
              go_wp2_with fail
              refine (low_any _ (fillN j) _ HI4.out).mono ?_
              rintro e w5 ⟨rfl, rfl⟩
              go_wp2
              all_goals (go_ret; exact ⟨by first | rfl | (simp; omega), HK4.out⟩)
            · have hl2 : hasB (fillN j) ((0 : Int) + 64) = false := by rw [hlast]; exact decide_eq_false hb
              have HL2 := Lib.hid hl2
              clear hl2 hlast
              obtain ⟨st3, hst3⟩ : ∃ st3, st3 = ((fillN j).set (((0 : Int) + 64) % 64).toNat ⟨(0 : Int) + 64, 0, 0, ⟨#[]⟩⟩) := ⟨_, rfl⟩
              have hlow3 : st3.low = (fillN j).low := by rw [hst3]; rfl
              have ok3 : St.ok st3 := by rw [hst3]; exact ⟨Xh2ok.out.l0, Xh2ok.out.l1⟩
              have HST := Lib.hid hst3
              have OK3 := Lib.hid ok3
              obtain ⟨r, hr1, hr2, hr3⟩ := reach_ex st3
              have elast : (((0 : Nat) : Int) + 64) = 0 + 64 := by omega
              have hge : (j : Int) ≤ st3.low + r := by
                apply Classical.byContradiction
                intro hc
                have hlo := XhI2.out.lo
                have := XhI2.out.hasPut (by omega) (by omega) hb ⟨(0 : Int) + 64, 0, 0, ⟨#[]⟩⟩ (0 + r + 1) (by omega) (by rw [hlow3] at hc; omega)
                rw [elast, ← hst3] at this
                have e : (((0 + r + 1 : Nat) : Int)) = st3.low + r + 1 := by rw [hlow3, hlo]; omega
                rw [e, hr3] at this
                cases this
              have HR2 := Lib.hid hr2
              have HR3 := Lib.hid hr3
              clear hr2 hr3 elast ok3 hst3
              have heq : (st3.low == 0) = true := by rw [hlow3]; simp; omega
              have hgeI : a0 % 65 ≤ st3.low + r := by omega
              have hltI : a0 % 65 < 0 + 64 := by omega
              have hl31 : st3.low ≤ 0 := by rw [hlow3]; omega
              have him : (((0 : Int) + 64) % 64).toNat < 64 := by omega
              clear hb hlow3
              go_wp2_with fail
              refine (put_ok _ (fillN j) _ _ _ _ _ HI3.out Xh2ok.out (by omega) (by omega) (by decide) (by omega) HL2.out (by omega)).mono ?_
              rintro e w4 ⟨rfl, hS4, hK4⟩
              have HI4 : Hid (IsShelf w4 w.heap.size st3) := by rw [HST.out]; exact hS4
              have HK4 := Lib.hid (HK3.out.trans hK4 (by rintro i rfl hi; omega))
              clear hK4 hS4 HI3 HK3
              go_wp2_with fail
              refine (reach_any _ st3 r _ HI4.out OK3.out (by omega) HR2.out HR3.out).mono ?_
              rintro e w5 ⟨rfl, rfl⟩
              go_wp2_with fail
              refine (low_any _ st3 _ HI4.out).mono ?_
              rintro e w5 ⟨rfl, rfl⟩
              go_wp2
              all_goals (go_ret; exact ⟨by first | rfl | (simp; omega), HK4.out⟩)

theorem trims_law (a0 : Int) (a1 : Int) (w0 : (Lit.int .u8 a0).wf = true) (w1 : (Lit.int .u8 a1).wf = true) (w : World) :
    Calls Try.prog 4 #[.int .u8 a0, .int .u8 a1] w fun e w' => e = .returned (.bool true) ∧ Below w.heap.size w w' :=
  (trims_walk a0 a1 w0 w1 w).mono fun _ _ ⟨h1, h2⟩ => ⟨h1, h2.below⟩

end Go.Proofs.Ytkbmggclecimeaa
