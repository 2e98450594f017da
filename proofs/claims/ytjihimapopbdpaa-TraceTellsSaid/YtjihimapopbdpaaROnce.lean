/- The document's test Once (ref19). -/
import Derived.Test.YtjihimapopbdpaaROrder
namespace Go.Proofs.Ytjihimapopbdpaa
open Go.RowKit Sh
open Go.ChangeMaps (setBlock)
set_option linter.unusedVariables false

def nsent (L : List Ent) (e : Ent) : Nat → Bool
  | 0 => false
  | k + 1 => nsent L e k || ((L.getD k default).sent && ((L.getD k default).node == e.snd) && decide ((L.getD k default).m = e.m))
def nhit (f e : Ent) : Bool := f.dlv && (f.node == e.node) && (f.snd == e.snd) && decide (e.num ≤ f.num)
def ngone (f e : Ent) : Bool := f.out && (f.node == e.node)
def nagain (L : List Ent) (e : Ent) : Nat → Bool
  | 0 => false
  | k + 1 => (!ngone (L.getD k default) e && nagain L e k) || nhit (L.getD k default) e
theorem nsent_succ (L : List Ent) (e : Ent) (k : Nat) : nsent L e (k + 1) = (nsent L e k || ((L.getD k default).sent && ((L.getD k default).node == e.snd) && decide ((L.getD k default).m = e.m))) := rfl
theorem nagain_succ (L : List Ent) (e : Ent) (k : Nat) : nagain L e (k + 1) = ((!ngone (L.getD k default) e && nagain L e k) || nhit (L.getD k default) e) := rfl
def nErr (L : List Ent) (i : Nat) : Int :=
  if (L.getD i default).dlv = false then 0 else if !nsent L (L.getD i default) i || !hasP (L.getD i default).mem (L.getD i default).snd then 3 else if nagain L (L.getD i default) i then 4 else 0
def refN (L : List Ent) : Int := firstE (nErr L) L.length 0
set_option maxRecDepth 100000 in
set_option maxHeartbeats 8000000 in
theorem ronce_any {w : World} {v : Value} {L : List Ent} (hL : IsEs w v L) (hok : LOk L) :
    Calls Try.prog 32 #[v] w fun r w' => r = .returned (.int .i64 (refN L)) ∧ Keep (fun _ => False) w w' := by
  obtain ⟨A, c, rfl, hc1, hle, hA⟩ := hL.ex
  have HL := Lib.hid hL
  have HOK := Lib.hid hok
  clear hL hok hc1 hA
  have HV0 : Hid (refN L = firstE (nErr L) (L.length - 0) 0) := Lib.hid rfl
  go_enter Try.func32, Try.ntmps32
  go_wp2_with fail
  go_loopg [3] L.length (fun q u wr => ∃ (i : Nat), i + q = L.length ∧ u = .int .i64 i ∧ Hid (refN L = firstE (nErr L) (L.length - i) i) ∧ Keep (fun _ => False) w wr)
  case atStart => exact ⟨0, by omega, rfl, HV0, Keep.refl _ _⟩
  case round =>
    obtain ⟨i, hq, rfl, HV, hK⟩ := hrel
    obtain ⟨wi, hwi⟩ : ∃ wi : World, wi = wr := ⟨_, rfl⟩
    rw [← hwi] at hK ⊢
    clear hwi HV0
    have HQ0 := Lib.hid hq
    have HK := Lib.hid hK
    clear hq hK
    by_cases hlt : i < L.length
    · obtain ⟨g, o, c', hform, hcc⟩ := HL.out.form (by omega)
      injection hform with e1 e2 e3
      subst e1; subst e3
      clear e2 hcc
      have il2 : (i : Int) < (L.length : Int) := by omega
      have d0 : decide ((i : Int) < (L.length : Int)) = true := decide_eq_true il2
      have i0 : (0 : Int) ≤ (i : Int) := by omega
      have wi1 : IntKind.i64.wrap ((i : Int) + 1) = (i : Int) + 1 := IntWalk.i64_in _ (by omega)
      have HE := Lib.hid ((HL.out.keep HK.out).ec i hlt)
      have HS := Lib.hid (HV.out.trans (firstE_succ (nErr L) L.length i hlt))
      have OK := HOK.out.out i hlt
      clear HV
      have HVE : Hid (nErr L i = if (L.getD i default).dlv = false then 0 else if !nsent L (L.getD i default) i || !hasP (L.getD i default).mem (L.getD i default).snd then 3 else if nagain L (L.getD i default) i then 4 else 0) := Lib.hid rfl
      generalize L.getD i default = e at HE HVE OK
      have CI := Lib.hid (rdlv_any e)
      simp only [entV_eq] at CI
      have HOE := Lib.hid OK
      clear OK
      cases hin : e.dlv
      · rw [hin] at CI
        have HU : Hid (refN L = firstE (nErr L) (L.length - (i + 1)) (i + 1)) := Lib.hid (by rw [HS.out, HVE.out, hin]; simp)
        clear hin HS HVE
        have e0 := HE.out.c0
        have e1 := HE.out.c1
        have e2 := HE.out.c2
        have e3 := HE.out.c3
        have e4 := HE.out.c4
        have e5 := HE.out.c5
        have e6 := HE.out.c6
        have e7 := HE.out.c7
        have e8 := HE.out.c8
        go_wp2_with fail
        refine (CI.out _).mono ?_
        rintro r w3 ⟨rfl, hk3⟩
        have K3 := Lib.hid (HK.out.step hk3)
        have HE3 := Lib.hid (HE.out.keep hk3)
        clear e0 e1 e2 e3 e4 e5 e6 e7 e8 hk3
        go_wp2_with fail
        go_roundg (L.length - (i + 1))
        case measure => have := HQ0.out; omega
        case rel => exact ⟨i + 1, by omega, by go_num, HU, K3.out⟩
      · rw [hin] at CI
        have HVE1 : Hid (nErr L i = if !nsent L e i || !hasP e.mem e.snd then 3 else if nagain L e i then 4 else 0) := Lib.hid (by rw [HVE.out, hin]; simp)
        clear hin HVE
        have e0 := HE.out.c0
        have e1 := HE.out.c1
        have e2 := HE.out.c2
        have e3 := HE.out.c3
        have e4 := HE.out.c4
        have e5 := HE.out.c5
        have e6 := HE.out.c6
        have e7 := HE.out.c7
        have e8 := HE.out.c8
        go_wp2_with fail
        refine (CI.out _).mono ?_
        rintro r w3 ⟨rfl, hk3⟩
        have K3 := Lib.hid (HK.out.step hk3)
        have HE3 := Lib.hid (HE.out.keep hk3)
        clear e0 e1 e2 e3 e4 e5 e6 e7 e8 hk3
        have e0 := HE3.out.c0
        have e1 := HE3.out.c1
        have e2 := HE3.out.c2
        have e3 := HE3.out.c3
        have e4 := HE3.out.c4
        have e5 := HE3.out.c5
        have e6 := HE3.out.c6
        have e7 := HE3.out.c7
        have e8 := HE3.out.c8
        have HMB := Lib.hid (MB.new w3 e 38)
        have HE4 := Lib.hid (HE3.out.keep ((Keep.refl _ w3).alloc (.cells #[.int .i64 e.snd, .int .u64 e.num, .string e.text] 38)))
        have K4 : Hid (Keep (fun _ => False) w (w3.alloc (.cells #[.int .i64 e.snd, .int .u64 e.num, .string e.text] 38))) := Lib.hid (K3.out.alloc _)
        go_wp2_with fail
        clear e0 e1 e2 e3 e4 e5 e6 e7 e8 CI
        obtain ⟨b4, hb4⟩ : ∃ b4, b4 = w3.heap.size := ⟨_, rfl⟩
        obtain ⟨w4, hw4⟩ : ∃ w4, w4 = w3.alloc (.cells #[.int .i64 e.snd, .int .u64 e.num, .string e.text] 38) := ⟨_, rfl⟩
        rw [← hb4, ← hw4] at HMB
        rw [← hw4] at HE4 K4
        rw [← hb4, ← hw4]
        clear hb4 hw4 HE3 K3
        go_loopg [5, 6, 7] i (fun q v5 v6 v7 wr => ∃ (k : Nat), k + q = i ∧ v7 = .int .i64 k ∧ v5 = .bool (nsent L e k) ∧ v6 = .bool (nagain L e k) ∧ Keep (fun _ => False) w4 wr)
        case atStart => exact ⟨0, by omega, rfl, rfl, rfl, Keep.refl _ _⟩
        case round =>
          obtain ⟨k, hq, rfl, rfl, rfl, hK⟩ := hrel
          have HQ := Lib.hid hq
          have KR := Lib.hid hK
          clear hq hK
          obtain ⟨wk, hwk⟩ : ∃ wk : World, wk = wr := ⟨_, rfl⟩
          rw [← hwk] at KR ⊢
          clear hwk
          by_cases hki : k < i
          · have d1 : decide ((k : Int) < (i : Int)) = true := decide_eq_true (by omega)
            have d2 : (k : Int) < (i : Int) := by omega
            have wk1 : IntKind.i64.wrap ((k : Int) + 1) = (k : Int) + 1 := IntWalk.i64_in _ (by omega)
            have kl : k < L.length := by omega
            have kl2 : (k : Int) < (L.length : Int) := by omega
            have k0 : (0 : Int) ≤ (k : Int) := by omega
            have HF := Lib.hid ((HL.out.keep (K4.out.step KR.out)).ec k kl)
            have HEk := Lib.hid (HE4.out.keep KR.out)
            have HMk := Lib.hid (HMB.out.keep KR.out)
            have HC1 := Lib.hid (nsent_succ L e k)
            have HC2 := Lib.hid (nagain_succ L e k)
            generalize L.getD k default = f at HF HC1 HC2
            have MOA : Hid (∀ w0, ∀ W, Keep (fun _ => False) w0 W → Calls Try.prog 44 #[entV f] W (fun r W' => r = .returned (.bool f.out) ∧ Keep (fun _ => False) w0 W')) := Lib.hid (fun w0 => out_in (w0 := w0) (e := f) rfl)
            have MDA : Hid (∀ w0, ∀ W, Keep (fun _ => False) w0 W → Calls Try.prog 42 #[entV f] W (fun r W' => r = .returned (.bool f.dlv) ∧ Keep (fun _ => False) w0 W')) := Lib.hid (fun w0 => dlv_in (w0 := w0) (e := f) rfl)
            simp only [entV_eq] at MOA MDA
            generalize nsent L e k = se at HC1 ⊢
            generalize nagain L e k = ag at HC2 ⊢
            go_upto_region 11 with fail
            go_cut [48] (fun v wx => v = .bool (ngone f e) ∧ Keep (fun _ => False) wk wx)
            case first => as_aux_lemma =>
              have HG : Hid (ngone f e = (f.out && (f.node == e.node))) := Lib.hid rfl
              cases hou : f.out
              · rw [hou] at MOA HG
                refine wp_region_quiet (C := fun W => Keep (fun _ => False) wk W) (by kernel_rfl) (by kernel_rfl) ((Keep.refl _ wk).drew) ?_
                refine hq_start ?_
                repeat (refine hq_step (fun K hK => ?_); go_simp; first | (refine quiet_val (hK _ ?_); clear hK K) | (with_reducible refine quiet_call (MOA.out _) (hK _ ?_); clear hK K) | (refine hK _ ?_; clear hK K) | (apply Exists.intro; refine ⟨fun W hW => ?_, hK _ ?_⟩; (have q0 := (HF.out.keep hW).c0; have q1 := (HF.out.keep hW).c1; have q2 := (HF.out.keep hW).c2; have q3 := (HF.out.keep hW).c3; have q4 := (HF.out.keep hW).c4; have q5 := (HF.out.keep hW).c5; have q6 := (HF.out.keep hW).c6; have q7 := (HF.out.keep hW).c7; have q8 := (HF.out.keep hW).c8; have q9 := (HEk.out.keep hW).c0; go_simp; exact rfl); clear hK K))
                refine hq_nil ?_
                intro W hW
                have HW := Lib.hid hW
                clear hW
                go_wp2_with fail
                go_meet
                exact ⟨by rw [HG.out]; simp, HW.out⟩
              · rw [hou] at MOA HG
                cases hnn : (f.node == e.node)
                all_goals
                  rw [hnn] at HG
                  refine wp_region_quiet (C := fun W => Keep (fun _ => False) wk W) (by kernel_rfl) (by kernel_rfl) ((Keep.refl _ wk).drew) ?_
                  refine hq_start ?_
                  repeat (refine hq_step (fun K hK => ?_); go_simp; first | (refine quiet_val (hK _ ?_); clear hK K) | (with_reducible refine quiet_call (MOA.out _) (hK _ ?_); clear hK K) | (refine hK _ ?_; clear hK K) | (apply Exists.intro; refine ⟨fun W hW => ?_, hK _ ?_⟩; (have q0 := (HF.out.keep hW).c0; have q1 := (HF.out.keep hW).c1; have q2 := (HF.out.keep hW).c2; have q3 := (HF.out.keep hW).c3; have q4 := (HF.out.keep hW).c4; have q5 := (HF.out.keep hW).c5; have q6 := (HF.out.keep hW).c6; have q7 := (HF.out.keep hW).c7; have q8 := (HF.out.keep hW).c8; have q9 := (HEk.out.keep hW).c0; go_simp; exact rfl); clear hK K))
                  refine hq_nil ?_
                  intro W hW
                  have HW := Lib.hid hW
                  clear hW
                  go_wp2_with fail
                  go_meet
                  exact ⟨by rw [HG.out]; simp, HW.out⟩
            case rest => as_aux_lemma =>
              obtain ⟨rfl, kc⟩ := hcut
              obtain ⟨w5, hw5⟩ : ∃ w5, w5 = wc := ⟨_, rfl⟩
              rw [← hw5] at kc ⊢
              clear hw5
              have K5 := Lib.hid (KR.out.step kc)
              have HF5 := Lib.hid (HF.out.keep kc)
              have HE5 := Lib.hid (HEk.out.keep kc)
              have HM5 := Lib.hid (HMk.out.keep kc)
              clear kc HF HEk HMk MOA
              go_upto_if 48 with fail
              go_cut [6] (fun v wx => v = .bool (!ngone f e && ag) ∧ wx = w5)
              case first => as_aux_lemma =>
                cases hgn : ngone f e
                all_goals
                  go_wp2_with fail
                  go_meet
                  exact ⟨by rw [hgn]; rfl, rfl⟩
              case rest => as_aux_lemma =>
                obtain ⟨rfl, hwc⟩ := hcut
                rw [hwc]
                clear hwc
                generalize (!ngone f e && ag) = ag1 at HC2 ⊢
                go_upto_region 13 with fail
                go_cut [5] (fun v wx => v = .bool (se || (f.sent && (f.node == e.snd) && decide (f.m = e.m))) ∧ Keep (fun _ => False) w5 wx)
                case first => as_aux_lemma =>
                  cases hse : se
                  · cases hst : f.sent
                    · skip
                      refine wp_region_quiet (C := fun W => Keep (fun _ => False) w5 W) (by kernel_rfl) (by kernel_rfl) ((Keep.refl _ w5).drew) ?_
                      refine hq_start ?_
                      repeat (refine hq_step (fun K hK => ?_); go_simp; first | (refine quiet_val (hK _ ?_); clear hK K) | (refine hK _ ?_; clear hK K) | (apply Exists.intro; refine ⟨fun W hW => ?_, hK _ ?_⟩; (have q0 := (HF5.out.keep hW).c0; have q1 := (HF5.out.keep hW).c1; have q2 := (HF5.out.keep hW).c6; have q3 := (HF5.out.keep hW).c7; have q4 := (HF5.out.keep hW).c8; have q5 := hW.cell HM5.out.c0; have q6 := hW.cell HM5.out.c1; have q7 := hW.cell HM5.out.c2; go_simp; exact rfl); clear hK K))
                      refine hq_nil ?_
                      intro W hW
                      have HW := Lib.hid hW
                      clear hW
                      go_wp2_with fail
                      go_meet
                      exact ⟨by rw [hse, hst]; simp, HW.out⟩
                    · cases hnd : (f.node == e.snd)
                      · skip
                        refine wp_region_quiet (C := fun W => Keep (fun _ => False) w5 W) (by kernel_rfl) (by kernel_rfl) ((Keep.refl _ w5).drew) ?_
                        refine hq_start ?_
                        repeat (refine hq_step (fun K hK => ?_); go_simp; first | (refine quiet_val (hK _ ?_); clear hK K) | (refine hK _ ?_; clear hK K) | (apply Exists.intro; refine ⟨fun W hW => ?_, hK _ ?_⟩; (have q0 := (HF5.out.keep hW).c0; have q1 := (HF5.out.keep hW).c1; have q2 := (HF5.out.keep hW).c6; have q3 := (HF5.out.keep hW).c7; have q4 := (HF5.out.keep hW).c8; have q5 := hW.cell HM5.out.c0; have q6 := hW.cell HM5.out.c1; have q7 := hW.cell HM5.out.c2; go_simp; exact rfl); clear hK K))
                        refine hq_nil ?_
                        intro W hW
                        have HW := Lib.hid hW
                        clear hW
                        go_wp2_with fail
                        go_meet
                        exact ⟨by rw [hse, hst, hnd]; simp, HW.out⟩
                      · cases hme : decide (f.m = e.m)
                        all_goals
                          have hnq := eql38_in hme
                          refine wp_region_quiet (C := fun W => Keep (fun _ => False) w5 W) (by kernel_rfl) (by kernel_rfl) ((Keep.refl _ w5).drew) ?_
                          refine hq_start ?_
                          repeat (refine hq_step (fun K hK => ?_); go_simp; first | (refine quiet_val (hK _ ?_); clear hK K) | (refine hK _ ?_; clear hK K) | (apply Exists.intro; refine ⟨fun W hW => ?_, hK _ ?_⟩; (have q0 := (HF5.out.keep hW).c0; have q1 := (HF5.out.keep hW).c1; have q2 := (HF5.out.keep hW).c6; have q3 := (HF5.out.keep hW).c7; have q4 := (HF5.out.keep hW).c8; have q5 := hW.cell HM5.out.c0; have q6 := hW.cell HM5.out.c1; have q7 := hW.cell HM5.out.c2; go_simp; exact rfl); clear hK K))
                          refine hq_nil ?_
                          intro W hW
                          have HW := Lib.hid hW
                          clear hW
                          go_wp2_with fail
                          go_meet
                          exact ⟨by rw [hse, hst, hnd, hme]; simp, HW.out⟩
                  · skip
                    refine wp_region_quiet (C := fun W => Keep (fun _ => False) w5 W) (by kernel_rfl) (by kernel_rfl) ((Keep.refl _ w5).drew) ?_
                    refine hq_start ?_
                    repeat (refine hq_step (fun K hK => ?_); go_simp; first | (refine quiet_val (hK _ ?_); clear hK K) | (refine hK _ ?_; clear hK K) | (apply Exists.intro; refine ⟨fun W hW => ?_, hK _ ?_⟩; (have q0 := (HF5.out.keep hW).c0; have q1 := (HF5.out.keep hW).c1; have q2 := (HF5.out.keep hW).c6; have q3 := (HF5.out.keep hW).c7; have q4 := (HF5.out.keep hW).c8; have q5 := hW.cell HM5.out.c0; have q6 := hW.cell HM5.out.c1; have q7 := hW.cell HM5.out.c2; go_simp; exact rfl); clear hK K))
                    refine hq_nil ?_
                    intro W hW
                    have HW := Lib.hid hW
                    clear hW
                    go_wp2_with fail
                    go_meet
                    exact ⟨by rw [hse]; simp, HW.out⟩
                case rest => as_aux_lemma =>
                  obtain ⟨rfl, kc⟩ := hcut
                  obtain ⟨w6, hw6⟩ : ∃ w6, w6 = wc := ⟨_, rfl⟩
                  rw [← hw6] at kc ⊢
                  clear hw6
                  have K6 := Lib.hid (K5.out.step kc)
                  have HF6 := Lib.hid (HF5.out.keep kc)
                  have HE6 := Lib.hid (HE5.out.keep kc)
                  have HM6 := Lib.hid (HM5.out.keep kc)
                  clear kc HF5 HE5 HM5
                  all_goals
                    go_wp2_with fail
                    have HH : Hid (nhit f e = (f.dlv && (f.node == e.node) && (f.snd == e.snd) && decide (e.num ≤ f.num))) := Lib.hid rfl
                    have HN : Hid (nagain L e (k + 1) = _) := Lib.hid (HC2.out.trans (by rw [HH.out]))
                    clear HC2 HH
                    cases hag : ag1
                    · cases hfd : f.dlv
                      · rw [hfd] at MDA
                        refine wp_region_quiet (C := fun W => Keep (fun _ => False) w6 W) (by kernel_rfl) (by kernel_rfl) ((Keep.refl _ w6).drew) ?_
                        refine hq_start ?_
                        repeat (refine hq_step (fun K hK => ?_); go_simp; first | (refine quiet_val (hK _ ?_); clear hK K) | (with_reducible refine quiet_call (MDA.out _) (hK _ ?_); clear hK K) | (refine hK _ ?_; clear hK K) | (apply Exists.intro; refine ⟨fun W hW => ?_, hK _ ?_⟩; (have q0 := (HF6.out.keep hW).c0; have q1 := (HF6.out.keep hW).c1; have q2 := (HF6.out.keep hW).c2; have q3 := (HF6.out.keep hW).c3; have q4 := (HF6.out.keep hW).c4; have q5 := (HF6.out.keep hW).c5; have q6 := (HF6.out.keep hW).c6; have q7 := (HF6.out.keep hW).c7; have q8 := (HF6.out.keep hW).c8; have q9 := (HE6.out.keep hW).c0; have q10 := hW.cell HM6.out.c0; have q11 := hW.cell HM6.out.c1; go_simp; exact rfl); clear hK K))
                        refine hq_nil ?_
                        intro W hW
                        have HW := Lib.hid (K6.out.step hW)
                        clear hW
                        go_wp2_with fail
                        go_roundg (i - (k + 1))
                        case measure => have := HQ.out; omega
                        case rel => exact ⟨k + 1, by omega, by go_num, by rw [HC1.out], by rw [HN.out, hag, hfd]; simp, HW.out⟩
                      · rw [hfd] at MDA
                        cases hnn : (f.node == e.node)
                        · skip
                          refine wp_region_quiet (C := fun W => Keep (fun _ => False) w6 W) (by kernel_rfl) (by kernel_rfl) ((Keep.refl _ w6).drew) ?_
                          refine hq_start ?_
                          repeat (refine hq_step (fun K hK => ?_); go_simp; first | (refine quiet_val (hK _ ?_); clear hK K) | (with_reducible refine quiet_call (MDA.out _) (hK _ ?_); clear hK K) | (refine hK _ ?_; clear hK K) | (apply Exists.intro; refine ⟨fun W hW => ?_, hK _ ?_⟩; (have q0 := (HF6.out.keep hW).c0; have q1 := (HF6.out.keep hW).c1; have q2 := (HF6.out.keep hW).c2; have q3 := (HF6.out.keep hW).c3; have q4 := (HF6.out.keep hW).c4; have q5 := (HF6.out.keep hW).c5; have q6 := (HF6.out.keep hW).c6; have q7 := (HF6.out.keep hW).c7; have q8 := (HF6.out.keep hW).c8; have q9 := (HE6.out.keep hW).c0; have q10 := hW.cell HM6.out.c0; have q11 := hW.cell HM6.out.c1; go_simp; exact rfl); clear hK K))
                          refine hq_nil ?_
                          intro W hW
                          have HW := Lib.hid (K6.out.step hW)
                          clear hW
                          go_wp2_with fail
                          go_roundg (i - (k + 1))
                          case measure => have := HQ.out; omega
                          case rel => exact ⟨k + 1, by omega, by go_num, by rw [HC1.out], by rw [HN.out, hag, hfd, hnn]; simp, HW.out⟩
                        · cases hns : (f.snd == e.snd)
                          · skip
                            refine wp_region_quiet (C := fun W => Keep (fun _ => False) w6 W) (by kernel_rfl) (by kernel_rfl) ((Keep.refl _ w6).drew) ?_
                            refine hq_start ?_
                            repeat (refine hq_step (fun K hK => ?_); go_simp; first | (refine quiet_val (hK _ ?_); clear hK K) | (with_reducible refine quiet_call (MDA.out _) (hK _ ?_); clear hK K) | (refine hK _ ?_; clear hK K) | (apply Exists.intro; refine ⟨fun W hW => ?_, hK _ ?_⟩; (have q0 := (HF6.out.keep hW).c0; have q1 := (HF6.out.keep hW).c1; have q2 := (HF6.out.keep hW).c2; have q3 := (HF6.out.keep hW).c3; have q4 := (HF6.out.keep hW).c4; have q5 := (HF6.out.keep hW).c5; have q6 := (HF6.out.keep hW).c6; have q7 := (HF6.out.keep hW).c7; have q8 := (HF6.out.keep hW).c8; have q9 := (HE6.out.keep hW).c0; have q10 := hW.cell HM6.out.c0; have q11 := hW.cell HM6.out.c1; go_simp; exact rfl); clear hK K))
                            refine hq_nil ?_
                            intro W hW
                            have HW := Lib.hid (K6.out.step hW)
                            clear hW
                            go_wp2_with fail
                            go_roundg (i - (k + 1))
                            case measure => have := HQ.out; omega
                            case rel => exact ⟨k + 1, by omega, by go_num, by rw [HC1.out], by rw [HN.out, hag, hfd, hnn, hns]; simp, HW.out⟩
                          · cases hnu : decide (e.num ≤ f.num)
                            all_goals
                              skip
                              refine wp_region_quiet (C := fun W => Keep (fun _ => False) w6 W) (by kernel_rfl) (by kernel_rfl) ((Keep.refl _ w6).drew) ?_
                              refine hq_start ?_
                              repeat (refine hq_step (fun K hK => ?_); go_simp; first | (refine quiet_val (hK _ ?_); clear hK K) | (with_reducible refine quiet_call (MDA.out _) (hK _ ?_); clear hK K) | (refine hK _ ?_; clear hK K) | (apply Exists.intro; refine ⟨fun W hW => ?_, hK _ ?_⟩; (have q0 := (HF6.out.keep hW).c0; have q1 := (HF6.out.keep hW).c1; have q2 := (HF6.out.keep hW).c2; have q3 := (HF6.out.keep hW).c3; have q4 := (HF6.out.keep hW).c4; have q5 := (HF6.out.keep hW).c5; have q6 := (HF6.out.keep hW).c6; have q7 := (HF6.out.keep hW).c7; have q8 := (HF6.out.keep hW).c8; have q9 := (HE6.out.keep hW).c0; have q10 := hW.cell HM6.out.c0; have q11 := hW.cell HM6.out.c1; go_simp; exact rfl); clear hK K))
                              refine hq_nil ?_
                              intro W hW
                              have HW := Lib.hid (K6.out.step hW)
                              clear hW
                              go_wp2_with fail
                              go_roundg (i - (k + 1))
                              case measure => have := HQ.out; omega
                              case rel => exact ⟨k + 1, by omega, by go_num, by rw [HC1.out], by rw [HN.out, hag, hfd, hnn, hns, hnu]; simp, HW.out⟩
                    · skip
                      refine wp_region_quiet (C := fun W => Keep (fun _ => False) w6 W) (by kernel_rfl) (by kernel_rfl) ((Keep.refl _ w6).drew) ?_
                      refine hq_start ?_
                      repeat (refine hq_step (fun K hK => ?_); go_simp; first | (refine quiet_val (hK _ ?_); clear hK K) | (with_reducible refine quiet_call (MDA.out _) (hK _ ?_); clear hK K) | (refine hK _ ?_; clear hK K) | (apply Exists.intro; refine ⟨fun W hW => ?_, hK _ ?_⟩; (have q0 := (HF6.out.keep hW).c0; have q1 := (HF6.out.keep hW).c1; have q2 := (HF6.out.keep hW).c2; have q3 := (HF6.out.keep hW).c3; have q4 := (HF6.out.keep hW).c4; have q5 := (HF6.out.keep hW).c5; have q6 := (HF6.out.keep hW).c6; have q7 := (HF6.out.keep hW).c7; have q8 := (HF6.out.keep hW).c8; have q9 := (HE6.out.keep hW).c0; have q10 := hW.cell HM6.out.c0; have q11 := hW.cell HM6.out.c1; go_simp; exact rfl); clear hK K))
                      refine hq_nil ?_
                      intro W hW
                      have HW := Lib.hid (K6.out.step hW)
                      clear hW
                      go_wp2_with fail
                      go_roundg (i - (k + 1))
                      case measure => have := HQ.out; omega
                      case rel => exact ⟨k + 1, by omega, by go_num, by rw [HC1.out], by rw [HN.out, hag]; simp, HW.out⟩
          · have hk : k = i := by have := HQ.out; omega
            subst hk
            have dk : decide ((k : Int) < (k : Int)) = false := decide_eq_false (by omega)
            have HE5 := Lib.hid (HE4.out.keep KR.out)
            have HM5 := Lib.hid (HMB.out.keep KR.out)
            have K5 := Lib.hid (K4.out.step KR.out)
            cases hse : nsent L e k
            · have HU : Hid (refN L = 3) := Lib.hid (by rw [HS.out, HVE1.out, hse]; simp)
              clear hse
              go_wp2_with fail
              refine wp_region_quiet (C := fun W => Keep (fun _ => False) wk W) (by kernel_rfl) (by kernel_rfl) ((Keep.refl _ wk).drew) ?_
              refine hq_start ?_
              repeat (refine hq_step (fun K hK => ?_); go_simp; first | (refine quiet_val (hK _ ?_); clear hK K) | (refine hK _ ?_; clear hK K) | (apply Exists.intro; refine ⟨fun W hW => ?_, hK _ ?_⟩; (have q0 := (HE5.out.keep hW).c4; have q1 := hW.cell HM5.out.c0; go_simp; exact rfl); clear hK K))
              refine hq_nil ?_
              intro W hW
              have HW := Lib.hid hW
              clear hW
              go_wp2_with fail
              go_ret
              exact ⟨by rw [HU.out]; rfl, K5.out.step HW.out⟩
            · cases hp : hasP e.mem e.snd
              · have HU : Hid (refN L = 3) := Lib.hid (by rw [HS.out, HVE1.out, hp]; simp)
                have MH := Lib.hid (has_in (w0 := wk) HOE.out.mem.1 HOE.out.mem.2 hp)
                clear hse hp
                go_wp2_with fail
                refine wp_region_quiet (C := fun W => Keep (fun _ => False) wk W) (by kernel_rfl) (by kernel_rfl) ((Keep.refl _ wk).drew) ?_
                refine hq_start ?_
                repeat (refine hq_step (fun K hK => ?_); go_simp; first | (refine quiet_val (hK _ ?_); clear hK K) | (with_reducible refine quiet_call MH.out (hK _ ?_); clear hK K) | (refine hK _ ?_; clear hK K) | (apply Exists.intro; refine ⟨fun W hW => ?_, hK _ ?_⟩; (have q0 := (HE5.out.keep hW).c4; have q1 := hW.cell HM5.out.c0; go_simp; exact rfl); clear hK K))
                refine hq_nil ?_
                intro W hW
                have HW := Lib.hid hW
                clear hW
                go_wp2_with fail
                go_ret
                exact ⟨by rw [HU.out]; rfl, K5.out.step HW.out⟩
              · have MH := Lib.hid (has_in (w0 := wk) HOE.out.mem.1 HOE.out.mem.2 hp)
                cases hag : nagain L e k
                · have HU : Hid (refN L = firstE (nErr L) (L.length - (k + 1)) (k + 1)) := Lib.hid (by rw [HS.out, HVE1.out, hse, hp, hag]; simp)
                  clear hse hp hag
                  go_wp2_with fail
                  refine wp_region_quiet (C := fun W => Keep (fun _ => False) wk W) (by kernel_rfl) (by kernel_rfl) ((Keep.refl _ wk).drew) ?_
                  refine hq_start ?_
                  repeat (refine hq_step (fun K hK => ?_); go_simp; first | (refine quiet_val (hK _ ?_); clear hK K) | (with_reducible refine quiet_call MH.out (hK _ ?_); clear hK K) | (refine hK _ ?_; clear hK K) | (apply Exists.intro; refine ⟨fun W hW => ?_, hK _ ?_⟩; (have q0 := (HE5.out.keep hW).c4; have q1 := hW.cell HM5.out.c0; go_simp; exact rfl); clear hK K))
                  refine hq_nil ?_
                  intro W hW
                  have HW := Lib.hid hW
                  clear hW
                  go_wp2_with fail
                  go_roundg (L.length - (k + 1))
                  case measure => have := HQ0.out; omega
                  case rel => exact ⟨k + 1, by omega, by go_num, HU, K5.out.step HW.out⟩
                · have HU : Hid (refN L = 4) := Lib.hid (by rw [HS.out, HVE1.out, hse, hp, hag]; simp)
                  clear hse hp hag
                  go_wp2_with fail
                  refine wp_region_quiet (C := fun W => Keep (fun _ => False) wk W) (by kernel_rfl) (by kernel_rfl) ((Keep.refl _ wk).drew) ?_
                  refine hq_start ?_
                  repeat (refine hq_step (fun K hK => ?_); go_simp; first | (refine quiet_val (hK _ ?_); clear hK K) | (with_reducible refine quiet_call MH.out (hK _ ?_); clear hK K) | (refine hK _ ?_; clear hK K) | (apply Exists.intro; refine ⟨fun W hW => ?_, hK _ ?_⟩; (have q0 := (HE5.out.keep hW).c4; have q1 := hW.cell HM5.out.c0; go_simp; exact rfl); clear hK K))
                  refine hq_nil ?_
                  intro W hW
                  have HW := Lib.hid hW
                  clear hW
                  go_wp2_with fail
                  go_ret
                  exact ⟨by rw [HU.out]; rfl, K5.out.step HW.out⟩
    · have hk : L.length - i = 0 := by have := HQ0.out; omega
      have HU : Hid (refN L = 0) := Lib.hid (by rw [HV.out, hk]; rfl)
      have kl2 : ¬ (i : Int) < (L.length : Int) := by omega
      have d1 : decide ((i : Int) < (L.length : Int)) = false := decide_eq_false kl2
      clear hk HV
      go_wp2_with fail
      go_ret
      exact ⟨by rw [HU.out]; rfl, HK.out⟩
end Go.Proofs.Ytjihimapopbdpaa
