/- The document's test Views (ref19). -/
import Derived.Test.YtjihimapopbdpaaRComm
namespace Go.Proofs.Ytjihimapopbdpaa
open Go.RowKit Sh
open Go.ChangeMaps (setBlock)
set_option linter.unusedVariables false

def vbadR (L : List Ent) (i : Nat) : Bool := !hasP (L.getD i default).mem (L.getD i default).node || (decide (0 ≤ viewP L (L.getD i default).node i) && decide ((L.getD i default).id ≤ (L.getD (viewP L (L.getD i default).node i).toNat default).id))
def vclash (L : List Ent) (e : Ent) : Nat → Bool
  | 0 => false
  | k + 1 => vclash L e k || ((L.getD k default).inst && ((L.getD k default).id == e.id) && ((L.getD k default).mem != e.mem))
def vfew (L : List Ent) (e : Ent) : Nat → Bool
  | 0 => false
  | k + 1 => vfew L e k || ((L.getD k default).inst && (minorP ⟨(L.getD k default).id, (L.getD k default).mem⟩ ⟨e.id, e.mem⟩ || minorP ⟨e.id, e.mem⟩ ⟨(L.getD k default).id, (L.getD k default).mem⟩))
def vErr (L : List Ent) (i : Nat) : Int :=
  if (L.getD i default).inst = false then 0 else if vbadR L i then 170 else if vclash L (L.getD i default) i then 170 else if vfew L (L.getD i default) i then 161 else 0
def refV (L : List Ent) : Int := firstE (vErr L) L.length 0
theorem vclash_mono (L : List Ent) (e : Ent) (k : Nat) (h : vclash L e k = true) : ∀ n, k ≤ n → vclash L e n = true
  | 0, hn => by obtain rfl : k = 0 := by omega
                exact h
  | n + 1, hn => by
    by_cases c : k = n + 1
    · rw [← c]; exact h
    · rw [vclash, vclash_mono L e k h n (by omega)]; rfl
theorem vclash_succ (L : List Ent) (e : Ent) (k : Nat) : vclash L e (k + 1) = (vclash L e k || ((L.getD k default).inst && ((L.getD k default).id == e.id) && ((L.getD k default).mem != e.mem))) := rfl
theorem vfew_succ (L : List Ent) (e : Ent) (k : Nat) : vfew L e (k + 1) = (vfew L e k || ((L.getD k default).inst && (minorP ⟨(L.getD k default).id, (L.getD k default).mem⟩ ⟨e.id, e.mem⟩ || minorP ⟨e.id, e.mem⟩ ⟨(L.getD k default).id, (L.getD k default).mem⟩))) := rfl
theorem minor_all {a b : Vw} (ha : VOk a) (hb : VOk b) (w : World) : Calls Try.prog 41 #[.agg #[.int .u64 a.id, .int .u64 a.mem], .agg #[.int .u64 b.id, .int .u64 b.mem]] w fun r w' => r = .returned (.bool (minorP a b)) ∧ Keep (fun _ => False) w w' := rminor_any a b w ha hb
set_option maxRecDepth 100000 in
set_option maxHeartbeats 8000000 in
theorem rviews_any {w : World} {v : Value} {L : List Ent} (hL : IsEs w v L) (hok : LOk L) :
    Calls Try.prog 26 #[v] w fun r w' => r = .returned (.int .i64 (refV L)) ∧ Keep (fun _ => False) w w' := by
  obtain ⟨A, c, rfl, hc1, hle, hA⟩ := hL.ex
  have HL := Lib.hid hL
  have HOK := Lib.hid hok
  clear hL hok hc1 hA
  have HV0 : Hid (refV L = firstE (vErr L) (L.length - 0) 0) := Lib.hid rfl
  go_enter Try.func26, Try.ntmps26
  go_wp2_with fail
  go_loopg [3] L.length (fun q u wr => ∃ (i : Nat), i + q = L.length ∧ u = .int .i64 i ∧ Hid (refV L = firstE (vErr L) (L.length - i) i) ∧ Keep (fun _ => False) w wr)
  case atStart => exact ⟨0, by omega, rfl, HV0, Keep.refl _ _⟩
  case round =>
    obtain ⟨i, hq, rfl, HV, hK⟩ := hrel
    obtain ⟨wi, hwi⟩ : ∃ wi : World, wi = wr := ⟨_, rfl⟩
    rw [← hwi] at hK ⊢
    clear hwi HV0
    have HQ0 := Lib.hid hq
    have HK := Lib.hid hK
    clear hq hK
    by_cases hlt : i < L.length
    · obtain ⟨g, o, c', hform, hcc⟩ := HL.out.form (by omega)
      injection hform with e1 e2 e3
      subst e1; subst e3
      clear e2 hcc
      have il2 : (i : Int) < (L.length : Int) := by omega
      have d0 : decide ((i : Int) < (L.length : Int)) = true := decide_eq_true il2
      have i0 : (0 : Int) ≤ (i : Int) := by omega
      have wi1 : IntKind.i64.wrap ((i : Int) + 1) = (i : Int) + 1 := IntWalk.i64_in _ (by omega)
      have HE := Lib.hid ((HL.out.keep HK.out).ec i hlt)
      have HS := Lib.hid (HV.out.trans (firstE_succ (vErr L) L.length i hlt))
      have OK := HOK.out.out i hlt
      clear HV
      have HVE : Hid (vErr L i = if (L.getD i default).inst = false then 0 else if vbadR L i then 170 else if vclash L (L.getD i default) i then 170 else if vfew L (L.getD i default) i then 161 else 0) := Lib.hid rfl
      have HBAD : Hid (vbadR L i = (!hasP (L.getD i default).mem (L.getD i default).node || (decide (0 ≤ viewP L (L.getD i default).node i) && decide ((L.getD i default).id ≤ (L.getD (viewP L (L.getD i default).node i).toNat default).id)))) := Lib.hid rfl
      have CV : Hid (∀ w', Keep (fun _ => False) w w' → Calls Try.prog 39 #[.slice (some ⟨g, o, none⟩) L.length c, .int .i64 i] w' fun r w'' => r = .returned (.int .i64 (viewP L (L.getD i default).node i)) ∧ Keep (fun _ => False) w' w'') := Lib.hid (fun w' k => rview_any (HL.out.keep k) i hlt)
      generalize L.getD i default = e at HE HVE CV OK HBAD
      have CI := Lib.hid (rinst_any e)
      simp only [entV_eq] at CI
      have HOE := Lib.hid OK
      clear OK
      cases hin : e.inst
      · rw [hin] at CI
        have HU : Hid (refV L = firstE (vErr L) (L.length - (i + 1)) (i + 1)) := Lib.hid (by rw [HS.out, HVE.out, hin]; simp)
        clear hin HS HVE CV HBAD
        have e0 := HE.out.c0
        have e1 := HE.out.c1
        have e2 := HE.out.c2
        have e3 := HE.out.c3
        have e4 := HE.out.c4
        have e5 := HE.out.c5
        have e6 := HE.out.c6
        have e7 := HE.out.c7
        have e8 := HE.out.c8
        go_wp2_with fail
        refine (CI.out _).mono ?_
        rintro r w3 ⟨rfl, hk3⟩
        have K3 := Lib.hid (HK.out.step hk3)
        have HE3 := Lib.hid (HE.out.keep hk3)
        clear e0 e1 e2 e3 e4 e5 e6 e7 e8 hk3
        go_wp2_with fail
        go_roundg (L.length - (i + 1))
        case measure => have := HQ0.out; omega
        case rel => exact ⟨i + 1, by omega, by go_num, HU, K3.out⟩
      · rw [hin] at CI
        have HVE1 : Hid (vErr L i = if vbadR L i then 170 else if vclash L e i then 170 else if vfew L e i then 161 else 0) := Lib.hid (by rw [HVE.out, hin]; simp)
        clear hin HVE
        have e0 := HE.out.c0
        have e1 := HE.out.c1
        have e2 := HE.out.c2
        have e3 := HE.out.c3
        have e4 := HE.out.c4
        have e5 := HE.out.c5
        have e6 := HE.out.c6
        have e7 := HE.out.c7
        have e8 := HE.out.c8
        go_wp2_with fail
        refine (CI.out _).mono ?_
        rintro r w3 ⟨rfl, hk3⟩
        have K3 := Lib.hid (HK.out.step hk3)
        have HE3 := Lib.hid (HE.out.keep hk3)
        clear e0 e1 e2 e3 e4 e5 e6 e7 e8 hk3
        have e0 := HE3.out.c0
        have e1 := HE3.out.c1
        have e2 := HE3.out.c2
        have e3 := HE3.out.c3
        have e4 := HE3.out.c4
        have e5 := HE3.out.c5
        have e6 := HE3.out.c6
        have e7 := HE3.out.c7
        have e8 := HE3.out.c8
        go_wp2_with fail
        refine (CV.out _ (K3.out.alloc _)).mono ?_
        rintro r w4 ⟨rfl, hk4⟩
        have K4 := Lib.hid ((K3.out.alloc _).step hk4)
        have HE4 := Lib.hid (HE3.out.keep (((Keep.refl _ _).alloc _).step hk4))
        have HVB := Lib.hid ((VB.new w3 e.id e.mem 36).keep hk4)
        clear e0 e1 e2 e3 e4 e5 e6 e7 e8 hk4 CV CI
        go_upto_region 7 with fail
        go_cut [5, 54] (fun v5 v wx => v5 = .int .i64 (viewP L e.node i) ∧ v = .bool (vbadR L i) ∧ Keep (fun _ => False) w4 wx)
        case first =>
          cases hp : hasP e.mem e.node
          · have HB : Hid (vbadR L i = true) := Lib.hid (by rw [HBAD.out, hp]; rfl)
            have MH := Lib.hid (has_in (w0 := w4) HOE.out.mem.1 HOE.out.mem.2 hp)
            clear hp
            refine wp_region_quiet (C := fun W => Keep (fun _ => False) w4 W) (by kernel_rfl) (by kernel_rfl) ((Keep.refl _ w4).drew) ?_
            refine hq_start ?_
            repeat (refine hq_step (fun K hK => ?_); go_simp; first | (refine quiet_val (hK _ ?_); clear hK K) | (with_reducible refine quiet_call MH.out (hK _ ?_); clear hK K) | (refine hK _ ?_; clear hK K) | (apply Exists.intro; refine ⟨fun W hW => ?_, hK _ ?_⟩; (have q0 := (HE4.out.keep hW).c0; have q1 := (HE4.out.keep hW).c1; have q2 := (HE4.out.keep hW).c2; have q3 := (HE4.out.keep hW).c3; have q4 := (HE4.out.keep hW).c4; have q5 := (HE4.out.keep hW).c5; have q6 := (HE4.out.keep hW).c6; have q7 := (HE4.out.keep hW).c7; have q8 := (HE4.out.keep hW).c8; have q9 := hW.cell HVB.out.c0; have q10 := hW.cell HVB.out.c1; go_simp; exact rfl); clear hK K))
            refine hq_nil ?_
            intro W hW
            have HW := Lib.hid hW
            clear hW
            go_wp2_with fail
            go_meet
            exact ⟨rfl, by rw [HB.out], HW.out⟩
          · have MH := Lib.hid (has_in (w0 := w4) HOE.out.mem.1 HOE.out.mem.2 hp)
            rcases viewP_form L e.node i with hv | ⟨j, hj, hv, _, _⟩
            · have HB : Hid (vbadR L i = false) := Lib.hid (by rw [HBAD.out, hp, hv]; rfl)
              rw [hv]
              have HVW := Lib.hid hv
              clear hp hv
              refine wp_region_quiet (C := fun W => Keep (fun _ => False) w4 W) (by kernel_rfl) (by kernel_rfl) ((Keep.refl _ w4).drew) ?_
              refine hq_start ?_
              repeat (refine hq_step (fun K hK => ?_); go_simp; first | (refine quiet_val (hK _ ?_); clear hK K) | (with_reducible refine quiet_call MH.out (hK _ ?_); clear hK K) | (refine hK _ ?_; clear hK K) | (apply Exists.intro; refine ⟨fun W hW => ?_, hK _ ?_⟩; (have q0 := (HE4.out.keep hW).c0; have q1 := (HE4.out.keep hW).c1; have q2 := (HE4.out.keep hW).c2; have q3 := (HE4.out.keep hW).c3; have q4 := (HE4.out.keep hW).c4; have q5 := (HE4.out.keep hW).c5; have q6 := (HE4.out.keep hW).c6; have q7 := (HE4.out.keep hW).c7; have q8 := (HE4.out.keep hW).c8; have q9 := hW.cell HVB.out.c0; have q10 := hW.cell HVB.out.c1; go_simp; exact rfl); clear hK K))
              refine hq_nil ?_
              intro W hW
              have HW := Lib.hid hW
              clear hW
              go_wp2_with fail
              go_meet
              exact ⟨by rw [HVW.out], by rw [HB.out], HW.out⟩
            · have HB : Hid (vbadR L i = decide (e.id ≤ (L.getD j default).id)) := Lib.hid (by rw [HBAD.out, hp, hv]; simp)
              rw [hv]
              have jl : j < L.length := by omega
              have jl2 : (j : Int) < (L.length : Int) := by omega
              have j0 : (0 : Int) ≤ (j : Int) := by omega
              have dj : decide ((0 : Int) ≤ (j : Int)) = true := decide_eq_true j0
              have HJ := Lib.hid ((HL.out.keep K4.out).ec j jl)
              generalize L.getD j default = f at HJ HB
              have HVW := Lib.hid hv
              clear hp hv
              cases hle2 : decide (e.id ≤ f.id)
              all_goals
                rw [hle2] at HB
                refine wp_region_quiet (C := fun W => Keep (fun _ => False) w4 W) (by kernel_rfl) (by kernel_rfl) ((Keep.refl _ w4).drew) ?_
                refine hq_start ?_
                repeat (refine hq_step (fun K hK => ?_); go_simp; first | (refine quiet_val (hK _ ?_); clear hK K) | (with_reducible refine quiet_call MH.out (hK _ ?_); clear hK K) | (refine hK _ ?_; clear hK K) | (apply Exists.intro; refine ⟨fun W hW => ?_, hK _ ?_⟩; (have q0 := (HE4.out.keep hW).c0; have q1 := (HE4.out.keep hW).c1; have q2 := (HE4.out.keep hW).c2; have q3 := (HE4.out.keep hW).c3; have q4 := (HE4.out.keep hW).c4; have q5 := (HE4.out.keep hW).c5; have q6 := (HE4.out.keep hW).c6; have q7 := (HE4.out.keep hW).c7; have q8 := (HE4.out.keep hW).c8; have q9 := hW.cell HVB.out.c0; have q10 := hW.cell HVB.out.c1; have q11 := (HJ.out.keep hW).c0; have q12 := (HJ.out.keep hW).c1; have q13 := (HJ.out.keep hW).c2; have q14 := (HJ.out.keep hW).c3; have q15 := (HJ.out.keep hW).c4; have q16 := (HJ.out.keep hW).c5; have q17 := (HJ.out.keep hW).c6; have q18 := (HJ.out.keep hW).c7; have q19 := (HJ.out.keep hW).c8; go_simp; exact rfl); clear hK K))
                refine hq_nil ?_
                intro W hW
                have HW := Lib.hid hW
                clear hW
                go_wp2_with fail
                go_meet
                exact ⟨by rw [HVW.out], by rw [HB.out], HW.out⟩
        case rest =>
          obtain ⟨rfl, rfl, kc⟩ := hcut
          obtain ⟨w5, hw5⟩ : ∃ w5, w5 = wc := ⟨_, rfl⟩
          rw [← hw5] at kc ⊢
          clear hw5
          have K5 := Lib.hid (K4.out.step kc)
          have HVB5 := Lib.hid (HVB.out.keep kc)
          clear kc HBAD HE4 HVB
          cases hb : vbadR L i
          · have HVE2 : Hid (vErr L i = if vclash L e i then 170 else if vfew L e i then 161 else 0) := Lib.hid (by rw [HVE1.out, hb]; simp)
            clear hb HVE1
            go_wp2_with fail
            go_loopg [6, 7] i (fun q v6 v7 wr => ∃ (k : Nat), k + q = i ∧ v7 = .int .i64 k ∧ v6 = .bool (vfew L e k) ∧ Hid (vclash L e k = false) ∧ Keep (fun _ => False) w5 wr)
            case atStart => exact ⟨0, by omega, rfl, rfl, Lib.hid rfl, Keep.refl _ _⟩
            case round =>
              obtain ⟨k, hq, rfl, rfl, HCL, hK⟩ := hrel
              have HQ := Lib.hid hq
              have KR := Lib.hid hK
              clear hq hK
              obtain ⟨wk, hwk⟩ : ∃ wk : World, wk = wr := ⟨_, rfl⟩
              rw [← hwk] at KR ⊢
              clear hwk
              by_cases hki : k < i
              · have d1 : decide ((k : Int) < (i : Int)) = true := decide_eq_true (by omega)
                have d2 : (k : Int) < (i : Int) := by omega
                have wk1 : IntKind.i64.wrap ((k : Int) + 1) = (k : Int) + 1 := IntWalk.i64_in _ (by omega)
                have kl : k < L.length := by omega
                have kl2 : (k : Int) < (L.length : Int) := by omega
                have k0 : (0 : Int) ≤ (k : Int) := by omega
                have HF := Lib.hid ((HL.out.keep (K5.out.step KR.out)).ec k kl)
                have HVBk := Lib.hid (HVB5.out.keep KR.out)
                have HC1 := Lib.hid (vclash_succ L e k)
                have HF1 := Lib.hid (vfew_succ L e k)
                have OKF := HOK.out.out k kl
                generalize L.getD k default = f at HF HC1 HF1 OKF
                have CF := Lib.hid (rinst_any f)
                simp only [entV_eq] at CF
                cases hfi : f.inst
                · rw [hfi] at CF
                  have HUc : Hid (vclash L e (k + 1) = false) := Lib.hid (by rw [HC1.out, hfi, HCL.out]; rfl)
                  have HUf : Hid (vfew L e (k + 1) = vfew L e k) := Lib.hid (by rw [HF1.out, hfi]; simp)
                  clear hfi HC1 HF1 OKF
                  have f0 := HF.out.c0
                  have f1 := HF.out.c1
                  have f2 := HF.out.c2
                  have f3 := HF.out.c3
                  have f4 := HF.out.c4
                  have f5 := HF.out.c5
                  have f6 := HF.out.c6
                  have f7 := HF.out.c7
                  have f8 := HF.out.c8
                  go_wp2_with fail
                  refine (CF.out _).mono ?_
                  rintro r w6 ⟨rfl, hk6⟩
                  have K6 := Lib.hid (KR.out.step hk6)
                  have HF6 := Lib.hid (HF.out.keep hk6)
                  clear f0 f1 f2 f3 f4 f5 f6 f7 f8
                  clear hk6
                  go_wp2_with fail
                  go_roundg (i - (k + 1))
                  case measure => have := HQ.out; omega
                  case rel => exact ⟨k + 1, by omega, by go_num, by rw [HUf.out], HUc, K6.out⟩
                · rw [hfi] at CF
                  have HCL2 : Hid (vclash L e (k + 1) = ((f.id == e.id) && (f.mem != e.mem))) := Lib.hid (by rw [HC1.out, hfi, HCL.out]; simp)
                  have HF2 : Hid (vfew L e (k + 1) = (vfew L e k || (minorP ⟨f.id, f.mem⟩ ⟨e.id, e.mem⟩ || minorP ⟨e.id, e.mem⟩ ⟨f.id, f.mem⟩))) := Lib.hid (by rw [HF1.out, hfi]; simp)
                  have MA := Lib.hid (minor_all OKF.vok HOE.out.vok)
                  have MB := Lib.hid (minor_all HOE.out.vok OKF.vok)
                  clear hfi HC1 HF1 OKF
                  have f0 := HF.out.c0
                  have f1 := HF.out.c1
                  have f2 := HF.out.c2
                  have f3 := HF.out.c3
                  have f4 := HF.out.c4
                  have f5 := HF.out.c5
                  have f6 := HF.out.c6
                  have f7 := HF.out.c7
                  have f8 := HF.out.c8
                  go_wp2_with fail
                  refine (CF.out _).mono ?_
                  rintro r w6 ⟨rfl, hk6⟩
                  have K6 := Lib.hid (KR.out.step hk6)
                  have HF6 := Lib.hid (HF.out.keep hk6)
                  clear f0 f1 f2 f3 f4 f5 f6 f7 f8
                  have f0 := HF6.out.c0
                  have f1 := HF6.out.c1
                  have f2 := HF6.out.c2
                  have f3 := HF6.out.c3
                  have f4 := HF6.out.c4
                  have f5 := HF6.out.c5
                  have f6 := HF6.out.c6
                  have f7 := HF6.out.c7
                  have f8 := HF6.out.c8
                  have HVB6 := Lib.hid (HVBk.out.keep hk6)
                  clear hk6
                  have K7 : Hid (Keep (fun _ => False) w5 (w6.alloc (.cells #[.int .u64 f.id, .int .u64 f.mem] 36))) := Lib.hid (K6.out.alloc _)
                  have HVB7 := Lib.hid (HVB6.out.keep ((Keep.refl _ _).alloc (.cells #[.int .u64 f.id, .int .u64 f.mem] 36)))
                  have v0 := HVB7.out.c0
                  have v1 := HVB7.out.c1
                  have HNB := Lib.hid (VB.new w6 f.id f.mem 36)
                  go_upto_region 15 with fail
                  go_cut [83] (fun v wx => v = .bool ((f.id == e.id) && (f.mem != e.mem)) ∧ wx = w6.alloc (.cells #[.int .u64 f.id, .int .u64 f.mem] 36))
                  case first =>
                    cases h1 : (f.id == e.id)
                    · go_wp2_with fail
                      go_meet
                      exact ⟨by rw [h1]; rfl, rfl⟩
                    · cases h2 : (f.mem != e.mem)
                      all_goals
                        go_wp2_with fail
                        go_meet
                        exact ⟨by rw [h1, h2]; rfl, rfl⟩
                  case rest =>
                    obtain ⟨rfl, rfl⟩ := hcut
                    cases hcl : ((f.id == e.id) && (f.mem != e.mem))
                    · have HUc : Hid (vclash L e (k + 1) = false) := Lib.hid (by rw [HCL2.out, hcl])
                      clear hcl HCL2
                      cases hfw : vfew L e k
                      · cases hm1 : minorP ⟨f.id, f.mem⟩ ⟨e.id, e.mem⟩
                        · cases hm2 : minorP ⟨e.id, e.mem⟩ ⟨f.id, f.mem⟩
                          all_goals
                            rw [hm1] at MA
                            rw [hm2] at MB
                            have HUf : Hid (vfew L e (k + 1) = _) := Lib.hid (HF2.out.trans (by rw [hfw, hm1, hm2]))
                            simp only [Bool.or_false, Bool.or_true] at HUf
                            clear hfw hm1 hm2 HF2
                            go_wp2_with fail
                            refine (MA.out _).mono ?_
                            rintro r w8 ⟨rfl, hk8⟩
                            have v0' := (HVB7.out.keep hk8).c0
                            have v1' := (HVB7.out.keep hk8).c1
                            have n0' := (HNB.out.keep hk8).c0
                            have n1' := (HNB.out.keep hk8).c1
                            have K8 := Lib.hid (K7.out.step hk8)
                            clear hk8
                            go_wp2_with fail
                            refine (MB.out _).mono ?_
                            rintro r w9 ⟨rfl, hk9⟩
                            have K9 := Lib.hid (K8.out.step hk9)
                            clear hk9
                            go_wp2_with fail
                            go_roundg (i - (k + 1))
                            case measure => have := HQ.out; omega
                            case rel => exact ⟨k + 1, by omega, by go_num, by rw [HUf.out], HUc, K9.out⟩
                        · rw [hm1] at MA
                          have HUf : Hid (vfew L e (k + 1) = true) := Lib.hid (by rw [HF2.out, hm1]; simp)
                          clear hfw hm1 HF2
                          go_wp2_with fail
                          refine (MA.out _).mono ?_
                          rintro r w8 ⟨rfl, hk8⟩
                          have K8 := Lib.hid (K7.out.step hk8)
                          clear hk8
                          go_wp2_with fail
                          go_roundg (i - (k + 1))
                          case measure => have := HQ.out; omega
                          case rel => exact ⟨k + 1, by omega, by go_num, by rw [HUf.out], HUc, K8.out⟩
                      · have HUf : Hid (vfew L e (k + 1) = true) := Lib.hid (by rw [HF2.out, hfw]; simp)
                        clear hfw HF2
                        go_wp2_with fail
                        go_roundg (i - (k + 1))
                        case measure => have := HQ.out; omega
                        case rel => exact ⟨k + 1, by omega, by go_num, by rw [HUf.out], HUc, K7.out⟩
                    · have HU : Hid (refV L = 170) := Lib.hid (by rw [HS.out, HVE2.out, vclash_mono L e (k + 1) (by rw [HCL2.out, hcl]) i (by omega)]; simp)
                      clear hcl HCL2
                      go_wp2_with fail
                      go_ret
                      exact ⟨by rw [HU.out]; rfl, K5.out.step K7.out⟩
              · have hk : k = i := by have := HQ.out; omega
                subst hk
                have dk : decide ((k : Int) < (k : Int)) = false := decide_eq_false (by omega)
                cases hfw : vfew L e k
                · have HU : Hid (refV L = firstE (vErr L) (L.length - (k + 1)) (k + 1)) := Lib.hid (by rw [HS.out, HVE2.out, HCL.out, hfw]; simp)
                  clear hfw
                  go_wp2_with fail
                  go_roundg (L.length - (k + 1))
                  case measure => have := HQ0.out; omega
                  case rel => exact ⟨k + 1, by omega, by go_num, HU, K5.out.step KR.out⟩
                · have HU : Hid (refV L = 161) := Lib.hid (by rw [HS.out, HVE2.out, HCL.out, hfw]; simp)
                  clear hfw
                  go_wp2_with fail
                  go_ret
                  exact ⟨by rw [HU.out]; rfl, K5.out.step KR.out⟩
          · have HU : Hid (refV L = 170) := Lib.hid (by rw [HS.out, HVE1.out, hb]; simp)
            clear hb
            go_wp2_with fail
            go_ret
            exact ⟨by rw [HU.out]; rfl, K5.out⟩
    · have hk : L.length - i = 0 := by have := HQ0.out; omega
      have HU : Hid (refV L = 0) := Lib.hid (by rw [HV.out, hk]; rfl)
      have kl2 : ¬ (i : Int) < (L.length : Int) := by omega
      have d1 : decide ((i : Int) < (L.length : Int)) = false := decide_eq_false kl2
      clear hk HV
      go_wp2_with fail
      go_ret
      exact ⟨by rw [HU.out]; rfl, HK.out⟩
end Go.Proofs.Ytjihimapopbdpaa
