/- The document's test Alike (ref19). -/
import Derived.Test.YtjihimapopbdpaaROrder
namespace Go.Proofs.Ytjihimapopbdpaa
open Go.RowKit Sh
open Go.ChangeMaps (setBlock)
set_option linter.unusedVariables false

theorem nextGo_form (L : List Ent) (nd : Int) : ∀ (q k n : Nat), k + q ≤ L.length → ((nextGo L nd q k n).1 = -1 ∨ ∃ j : Nat, k ≤ j ∧ j < L.length ∧ (nextGo L nd q k n).1 = (j : Int)) ∧ (nextGo L nd q k n).2 ≤ n + q
  | 0, k, n, _ => ⟨.inl rfl, Nat.le_refl _⟩
  | q + 1, k, n, h => by
    rw [nextGo_succ]
    split
    · obtain ⟨h1, h2⟩ := nextGo_form L nd q (k + 1) n (by omega)
      refine ⟨?_, by omega⟩
      rcases h1 with h1 | ⟨j, a, b, c⟩
      · exact .inl h1
      · exact .inr ⟨j, by omega, b, c⟩
    · split
      · exact ⟨.inl rfl, by show n ≤ _; omega⟩
      · split
        · exact ⟨.inr ⟨k, Nat.le_refl _, by omega, rfl⟩, by show n ≤ _; omega⟩
        · split
          · obtain ⟨h1, h2⟩ := nextGo_form L nd q (k + 1) (n + 1) (by omega)
            refine ⟨?_, by omega⟩
            rcases h1 with h1 | ⟨j, a, b, c⟩
            · exact .inl h1
            · exact .inr ⟨j, by omega, b, c⟩
          · obtain ⟨h1, h2⟩ := nextGo_form L nd q (k + 1) n (by omega)
            refine ⟨?_, by omega⟩
            rcases h1 with h1 | ⟨j, a, b, c⟩
            · exact .inl h1
            · exact .inr ⟨j, by omega, b, c⟩
theorem nextP_form (L : List Ent) (i : Nat) (hi : i < L.length) : ((nextP L i).1 = -1 ∨ ∃ j : Nat, i < j ∧ j < L.length ∧ (nextP L i).1 = (j : Int)) ∧ (nextP L i).2 ≤ L.length := by
  obtain ⟨h1, h2⟩ := nextGo_form L (L.getD i default).node (L.length - (i + 1)) (i + 1) 0 (by omega)
  refine ⟨?_, by show _ ≤ _; unfold nextP; omega⟩
  rcases h1 with h1 | ⟨j, a, b, c⟩
  · exact .inl h1
  · exact .inr ⟨j, by omega, b, c⟩
def asame (L : List Ent) (i k : Nat) : Bool := (L.getD i default).inst && (L.getD k default).inst && decide ((L.getD i default).v = (L.getD k default).v)
def aoff (L : List Ent) (i k : Nat) : Bool := decide (0 ≤ (nextP L i).1) && decide (0 ≤ (nextP L k).1) && decide ((L.getD (nextP L i).1.toNat default).v = (L.getD (nextP L k).1.toNat default).v) && ((nextP L i).2 != (nextP L k).2)
def ahit (L : List Ent) (i : Nat) : Nat → Bool
  | 0 => false
  | k + 1 => ahit L i k || (asame L i k && aoff L i k)
theorem ahit_succ (L : List Ent) (i k : Nat) : ahit L i (k + 1) = (ahit L i k || (asame L i k && aoff L i k)) := rfl
theorem ahit_mono (L : List Ent) (i : Nat) (k : Nat) (h : ahit L i k = true) : ∀ n, k ≤ n → ahit L i n = true
  | 0, hn => by obtain rfl : k = 0 := by omega
                exact h
  | n + 1, hn => by
    by_cases c : k = n + 1
    · rw [← c]; exact h
    · rw [ahit, ahit_mono L i k h n (by omega)]; rfl
def aErr (L : List Ent) (i : Nat) : Int := if ahit L i i then 5 else 0
def refA (L : List Ent) : Int := firstE (aErr L) L.length 0
theorem rnext_all {w : World} {v : Value} {L : List Ent} (hL : IsEs w v L) (i : Nat) (hi : i < L.length) {a n : Int} (ha : (nextP L i).1 = a) (hn : ((nextP L i).2 : Int) = n) :
    ∀ w', Keep (fun _ => False) w w' → Calls Try.prog 45 #[v, .int .i64 i] w' fun r w'' => r = .returned (.tuple #[.int .i64 a, .int .i64 n]) ∧ Keep (fun _ => False) w' w'' := fun w' k => by
  rw [← ha, ← hn]
  exact rnext_any (hL.keep k) i hi
set_option maxRecDepth 100000 in
set_option maxHeartbeats 8000000 in
theorem ralike_any {w : World} {v : Value} {L : List Ent} (hL : IsEs w v L) (hok : LOk L) :
    Calls Try.prog 34 #[v] w fun r w' => r = .returned (.int .i64 (refA L)) ∧ Keep (fun _ => False) w w' := by
  obtain ⟨A, c, rfl, hc1, hle, hA⟩ := hL.ex
  have HL := Lib.hid hL
  have HOK := Lib.hid hok
  clear hL hok hc1 hA
  have HV0 : Hid (refA L = firstE (aErr L) (L.length - 0) 0) := Lib.hid rfl
  go_enter Try.func34, Try.ntmps34
  go_wp2_with fail
  go_loopg [3] L.length (fun q u wr => ∃ (i : Nat), i + q = L.length ∧ u = .int .i64 i ∧ Hid (refA L = firstE (aErr L) (L.length - i) i) ∧ Keep (fun _ => False) w wr)
  case atStart => exact ⟨0, by omega, rfl, HV0, Keep.refl _ _⟩
  case round =>
    obtain ⟨i, hq, rfl, HV, hK⟩ := hrel
    obtain ⟨wi, hwi⟩ : ∃ wi : World, wi = wr := ⟨_, rfl⟩
    rw [← hwi] at hK ⊢
    clear hwi HV0
    have HQ0 := Lib.hid hq
    have HK := Lib.hid hK
    clear hq hK
    by_cases hlt : i < L.length
    · obtain ⟨g, o, c', hform, hcc⟩ := HL.out.form (by omega)
      injection hform with e1 e2 e3
      subst e1; subst e3
      clear e2 hcc
      have il2 : (i : Int) < (L.length : Int) := by omega
      have d0 : decide ((i : Int) < (L.length : Int)) = true := decide_eq_true il2
      have i0 : (0 : Int) ≤ (i : Int) := by omega
      have wi1 : IntKind.i64.wrap ((i : Int) + 1) = (i : Int) + 1 := IntWalk.i64_in _ (by omega)
      have HE := Lib.hid ((HL.out.keep HK.out).ec i hlt)
      have HS := Lib.hid (HV.out.trans (firstE_succ (aErr L) L.length i hlt))
      have OK := HOK.out.out i hlt
      clear HV
      have HVE : Hid (aErr L i = if ahit L i i then 5 else 0) := Lib.hid rfl
      clear OK HE
      go_wp2_with fail
      go_loopg [4] i (fun q v4 wr => ∃ (k : Nat), k + q = i ∧ v4 = .int .i64 k ∧ Hid (ahit L i k = false) ∧ Keep (fun _ => False) wi wr)
      case atStart => exact ⟨0, by omega, rfl, Lib.hid rfl, Keep.refl _ _⟩
      case round =>
        obtain ⟨k, hq, rfl, HCL, hK⟩ := hrel
        have HQ := Lib.hid hq
        have KR := Lib.hid hK
        clear hq hK
        obtain ⟨wk, hwk⟩ : ∃ wk : World, wk = wr := ⟨_, rfl⟩
        rw [← hwk] at KR ⊢
        clear hwk
        by_cases hki : k < i
        · have d1 : decide ((k : Int) < (i : Int)) = true := decide_eq_true (by omega)
          have d2 : (k : Int) < (i : Int) := by omega
          have wk1 : IntKind.i64.wrap ((k : Int) + 1) = (k : Int) + 1 := IntWalk.i64_in _ (by omega)
          have kl : k < L.length := by omega
          have kl2 : (k : Int) < (L.length : Int) := by omega
          have k0 : (0 : Int) ≤ (k : Int) := by omega
          have KW := Lib.hid (HK.out.step KR.out)
          have HE := Lib.hid ((HL.out.keep KW.out).ec i hlt)
          have HF := Lib.hid ((HL.out.keep KW.out).ec k kl)
          have HC1 := Lib.hid (ahit_succ L i k)
          have HSM : Hid (asame L i k = ((L.getD i default).inst && (L.getD k default).inst && decide ((L.getD i default).v = (L.getD k default).v))) := Lib.hid rfl
          generalize asame L i k = sm at HC1 HSM
          generalize L.getD i default = e at HE HSM
          generalize L.getD k default = f at HF HSM
          have MEA : Hid (∀ W, Keep (fun _ => False) wk W → Calls Try.prog 38 #[entV e] W (fun r W' => r = .returned (.bool e.inst) ∧ Keep (fun _ => False) wk W')) := Lib.hid (inst_in (w0 := wk) (e := e) rfl)
          have MFA : Hid (∀ W, Keep (fun _ => False) wk W → Calls Try.prog 38 #[entV f] W (fun r W' => r = .returned (.bool f.inst) ∧ Keep (fun _ => False) wk W')) := Lib.hid (inst_in (w0 := wk) (e := f) rfl)
          simp only [entV_eq] at MEA MFA
          go_upto_region 7 with fail
          go_cut [48] (fun v wx => v = .bool (!sm) ∧ Keep (fun _ => False) wk wx)
          case first =>
            cases hei : e.inst
            · rw [hei] at MEA
              refine wp_region_quiet (C := fun W => Keep (fun _ => False) wk W) (by kernel_rfl) (by kernel_rfl) ((Keep.refl _ wk).drew) ?_
              refine hq_start ?_
              repeat (refine hq_step (fun K hK => ?_); go_simp; first | (refine quiet_val (hK _ ?_); clear hK K) | (with_reducible refine quiet_call MEA.out (hK _ ?_); clear hK K) | (refine hK _ ?_; clear hK K) | (apply Exists.intro; refine ⟨fun W hW => ?_, hK _ ?_⟩; (have q0 := (HE.out.keep hW).c0; have q1 := (HE.out.keep hW).c1; have q2 := (HE.out.keep hW).c2; have q3 := (HE.out.keep hW).c3; have q4 := (HE.out.keep hW).c4; have q5 := (HE.out.keep hW).c5; have q6 := (HE.out.keep hW).c6; have q7 := (HE.out.keep hW).c7; have q8 := (HE.out.keep hW).c8; go_simp; exact rfl); clear hK K))
              refine hq_nil ?_
              intro W hW
              have HW := Lib.hid hW
              clear hW
              go_wp2_with fail
              go_meet
              exact ⟨by rw [HSM.out, hei]; rfl, HW.out⟩
            · rw [hei] at MEA
              cases hfi : f.inst
              · rw [hfi] at MFA
                refine wp_region_quiet (C := fun W => Keep (fun _ => False) wk W) (by kernel_rfl) (by kernel_rfl) ((Keep.refl _ wk).drew) ?_
                refine hq_start ?_
                repeat (refine hq_step (fun K hK => ?_); go_simp; first | (refine quiet_val (hK _ ?_); clear hK K) | (with_reducible refine quiet_call MEA.out (hK _ ?_); clear hK K) | (with_reducible refine quiet_call MFA.out (hK _ ?_); clear hK K) | (refine hK _ ?_; clear hK K) | (apply Exists.intro; refine ⟨fun W hW => ?_, hK _ ?_⟩; (have q0 := (HE.out.keep hW).c0; have q1 := (HE.out.keep hW).c1; have q2 := (HE.out.keep hW).c2; have q3 := (HE.out.keep hW).c3; have q4 := (HE.out.keep hW).c4; have q5 := (HE.out.keep hW).c5; have q6 := (HE.out.keep hW).c6; have q7 := (HE.out.keep hW).c7; have q8 := (HE.out.keep hW).c8; have q9 := (HF.out.keep hW).c0; have q10 := (HF.out.keep hW).c1; have q11 := (HF.out.keep hW).c2; have q12 := (HF.out.keep hW).c3; have q13 := (HF.out.keep hW).c4; have q14 := (HF.out.keep hW).c5; have q15 := (HF.out.keep hW).c6; have q16 := (HF.out.keep hW).c7; have q17 := (HF.out.keep hW).c8; go_simp; exact rfl); clear hK K))
                refine hq_nil ?_
                intro W hW
                have HW := Lib.hid hW
                clear hW
                go_wp2_with fail
                go_meet
                exact ⟨by rw [HSM.out, hei, hfi]; rfl, HW.out⟩
              · rw [hfi] at MFA
                cases hvv : decide (e.v = f.v)
                all_goals
                  have hnq := neq36_in (a := e.id) (b := e.mem) (c := f.id) (d := f.mem) hvv
                  refine wp_region_quiet (C := fun W => Keep (fun _ => False) wk W) (by kernel_rfl) (by kernel_rfl) ((Keep.refl _ wk).drew) ?_
                  refine hq_start ?_
                  repeat (refine hq_step (fun K hK => ?_); go_simp; first | (refine quiet_val (hK _ ?_); clear hK K) | (with_reducible refine quiet_call MEA.out (hK _ ?_); clear hK K) | (with_reducible refine quiet_call MFA.out (hK _ ?_); clear hK K) | (refine hK _ ?_; clear hK K) | (apply Exists.intro; refine ⟨fun W hW => ?_, hK _ ?_⟩; (have q0 := (HE.out.keep hW).c0; have q1 := (HE.out.keep hW).c1; have q2 := (HE.out.keep hW).c2; have q3 := (HE.out.keep hW).c3; have q4 := (HE.out.keep hW).c4; have q5 := (HE.out.keep hW).c5; have q6 := (HE.out.keep hW).c6; have q7 := (HE.out.keep hW).c7; have q8 := (HE.out.keep hW).c8; have q9 := (HF.out.keep hW).c0; have q10 := (HF.out.keep hW).c1; have q11 := (HF.out.keep hW).c2; have q12 := (HF.out.keep hW).c3; have q13 := (HF.out.keep hW).c4; have q14 := (HF.out.keep hW).c5; have q15 := (HF.out.keep hW).c6; have q16 := (HF.out.keep hW).c7; have q17 := (HF.out.keep hW).c8; go_simp; exact rfl); clear hK K))
                  refine hq_nil ?_
                  intro W hW
                  have HW := Lib.hid hW
                  clear hW
                  go_wp2_with fail
                  go_meet
                  exact ⟨by rw [HSM.out, hei, hfi, hvv]; rfl, HW.out⟩
          case rest =>
            obtain ⟨rfl, kc⟩ := hcut
            obtain ⟨w5, hw5⟩ : ∃ w5, w5 = wc := ⟨_, rfl⟩
            rw [← hw5] at kc ⊢
            clear hw5
            have K5 := Lib.hid (KR.out.step kc)
            clear kc HSM MEA MFA HE HF
            cases hsm : sm
            · have HUc : Hid (ahit L i (k + 1) = false) := Lib.hid (by rw [HC1.out, hsm, HCL.out]; rfl)
              clear hsm HC1
              go_wp2_with fail
              go_roundg (i - (k + 1))
              case measure => have := HQ.out; omega
              case rel => exact ⟨k + 1, by omega, by go_num, HUc, K5.out⟩
            · have HC2 : Hid (ahit L i (k + 1) = aoff L i k) := Lib.hid (by rw [HC1.out, hsm, HCL.out]; rfl)
              have HOF : Hid (aoff L i k = (decide (0 ≤ (nextP L i).1) && decide (0 ≤ (nextP L k).1) && decide ((L.getD (nextP L i).1.toNat default).v = (L.getD (nextP L k).1.toNat default).v) && ((nextP L i).2 != (nextP L k).2))) := Lib.hid rfl
              clear hsm HC1
              obtain ⟨fa, na⟩ := nextP_form L i hlt
              obtain ⟨fb, nb⟩ := nextP_form L k kl
              have CA := Lib.hid (rnext_all (HL.out) i hlt (a := (nextP L i).1) (n := (nextP L i).2) rfl rfl)
              have CB := Lib.hid (rnext_all (HL.out) k kl (a := (nextP L k).1) (n := (nextP L k).2) rfl rfl)
              rcases hna : nextP L i with ⟨a, n⟩
              rcases hmb : nextP L k with ⟨b, m⟩
              rw [hna] at CA HOF fa na
              rw [hmb] at CB HOF fb nb
              simp only at CA CB HOF fa fb na nb
              clear hna hmb
              go_wp2_with fail
              refine (CA.out _ (HK.out.step K5.out)).mono ?_
              rintro r w6 ⟨rfl, hk6⟩
              have K6 := Lib.hid (K5.out.step hk6)
              clear hk6
              go_wp2_with fail
              refine (CB.out _ (HK.out.step K6.out)).mono ?_
              rintro r w7 ⟨rfl, hk7⟩
              have K7 := Lib.hid (K6.out.step hk7)
              clear hk7 CA CB
              go_upto_region 10 with fail
              go_cut [86] (fun v wx => v = .bool (aoff L i k) ∧ Keep (fun _ => False) w7 wx)
              case first =>
                rcases fa with rfl | ⟨x, hx1, hx2, rfl⟩
                · skip
                  refine wp_region_quiet (C := fun W => Keep (fun _ => False) w7 W) (by kernel_rfl) (by kernel_rfl) ((Keep.refl _ w7).drew) ?_
                  refine hq_start ?_
                  repeat (refine hq_step (fun K hK => ?_); go_simp; first | (refine quiet_val (hK _ ?_); clear hK K) | (refine hK _ ?_; clear hK K) | (apply Exists.intro; refine ⟨fun W hW => ?_, hK _ ?_⟩; (go_simp; exact rfl); clear hK K))
                  refine hq_nil ?_
                  intro W hW
                  have HW := Lib.hid hW
                  clear hW
                  go_wp2_with fail
                  go_meet
                  exact ⟨by rw [HOF.out]; rfl, HW.out⟩
                · have dx : decide ((0 : Int) ≤ (x : Int)) = true := decide_eq_true (by omega)
                  have x0 : (0 : Int) ≤ (x : Int) := by omega
                  have xl : (x : Int) < (L.length : Int) := by omega
                  rcases fb with rfl | ⟨y, hy1, hy2, rfl⟩
                  · skip
                    refine wp_region_quiet (C := fun W => Keep (fun _ => False) w7 W) (by kernel_rfl) (by kernel_rfl) ((Keep.refl _ w7).drew) ?_
                    refine hq_start ?_
                    repeat (refine hq_step (fun K hK => ?_); go_simp; first | (refine quiet_val (hK _ ?_); clear hK K) | (refine hK _ ?_; clear hK K) | (apply Exists.intro; refine ⟨fun W hW => ?_, hK _ ?_⟩; (go_simp; exact rfl); clear hK K))
                    refine hq_nil ?_
                    intro W hW
                    have HW := Lib.hid hW
                    clear hW
                    go_wp2_with fail
                    go_meet
                    exact ⟨by rw [HOF.out, dx]; rfl, HW.out⟩
                  · have dy : decide ((0 : Int) ≤ (y : Int)) = true := decide_eq_true (by omega)
                    have y0 : (0 : Int) ≤ (y : Int) := by omega
                    have yl : (y : Int) < (L.length : Int) := by omega
                    have HX := Lib.hid ((HL.out.keep (HK.out.step K7.out)).ec x hx2)
                    have HY := Lib.hid ((HL.out.keep (HK.out.step K7.out)).ec y hy2)
                    rw [dx, dy, Int.toNat_natCast, Int.toNat_natCast] at HOF
                    generalize L.getD x default = s at HX HOF
                    generalize L.getD y default = t at HY HOF
                    cases hvv : decide (s.v = t.v)
                    · have hnq := eql36_in (a := s.id) (b := s.mem) (c := t.id) (d := t.mem) hvv
                      refine wp_region_quiet (C := fun W => Keep (fun _ => False) w7 W) (by kernel_rfl) (by kernel_rfl) ((Keep.refl _ w7).drew) ?_
                      refine hq_start ?_
                      repeat (refine hq_step (fun K hK => ?_); go_simp; first | (refine quiet_val (hK _ ?_); clear hK K) | (refine hK _ ?_; clear hK K) | (apply Exists.intro; refine ⟨fun W hW => ?_, hK _ ?_⟩; (have q0 := (HX.out.keep hW).c3; have q1 := (HX.out.keep hW).c4; have q2 := (HY.out.keep hW).c3; have q3 := (HY.out.keep hW).c4; go_simp; exact rfl); clear hK K))
                      refine hq_nil ?_
                      intro W hW
                      have HW := Lib.hid hW
                      clear hW
                      go_wp2_with fail
                      go_meet
                      exact ⟨by rw [HOF.out, hvv]; rfl, HW.out⟩
                    · have hnq := eql36_in (a := s.id) (b := s.mem) (c := t.id) (d := t.mem) hvv
                      have hnm : (((n : Nat) : Int) != ((m : Nat) : Int)) = (n != m) := by
                        rw [Bool.eq_iff_iff]; simp only [bne_iff_ne, ne_eq]; omega
                      cases hmm : (n != m)
                      all_goals
                        rw [hmm] at hnm
                        refine wp_region_quiet (C := fun W => Keep (fun _ => False) w7 W) (by kernel_rfl) (by kernel_rfl) ((Keep.refl _ w7).drew) ?_
                        refine hq_start ?_
                        repeat (refine hq_step (fun K hK => ?_); go_simp; first | (refine quiet_val (hK _ ?_); clear hK K) | (refine hK _ ?_; clear hK K) | (apply Exists.intro; refine ⟨fun W hW => ?_, hK _ ?_⟩; (have q0 := (HX.out.keep hW).c3; have q1 := (HX.out.keep hW).c4; have q2 := (HY.out.keep hW).c3; have q3 := (HY.out.keep hW).c4; go_simp; exact rfl); clear hK K))
                        refine hq_nil ?_
                        intro W hW
                        have HW := Lib.hid hW
                        clear hW
                        go_wp2_with fail
                        go_meet
                        exact ⟨by rw [HOF.out, hvv, hmm]; rfl, HW.out⟩
              case rest =>
                obtain ⟨rfl, kc⟩ := hcut
                obtain ⟨w8, hw8⟩ : ∃ w8, w8 = wc := ⟨_, rfl⟩
                rw [← hw8] at kc ⊢
                clear hw8
                have K8 := Lib.hid (K7.out.step kc)
                clear kc
                cases hof : aoff L i k
                · have HUc : Hid (ahit L i (k + 1) = false) := Lib.hid (by rw [HC2.out, hof])
                  clear hof HC2 HOF
                  go_wp2_with fail
                  go_roundg (i - (k + 1))
                  case measure => have := HQ.out; omega
                  case rel => exact ⟨k + 1, by omega, by go_num, HUc, K8.out⟩
                · have HU : Hid (refA L = 5) := Lib.hid (by rw [HS.out, HVE.out, ahit_mono L i (k + 1) (by rw [HC2.out, hof]) i (by omega)]; simp)
                  clear hof HC2 HOF
                  go_wp2_with fail
                  go_ret
                  exact ⟨by rw [HU.out]; rfl, HK.out.step K8.out⟩
        · have hk : k = i := by have := HQ.out; omega
          subst hk
          have dk : decide ((k : Int) < (k : Int)) = false := decide_eq_false (by omega)
          have HU : Hid (refA L = firstE (aErr L) (L.length - (k + 1)) (k + 1)) := Lib.hid (by rw [HS.out, HVE.out, HCL.out]; simp)
          go_wp2_with fail
          go_roundg (L.length - (k + 1))
          case measure => have := HQ0.out; omega
          case rel => exact ⟨k + 1, by omega, by go_num, HU, HK.out.step KR.out⟩
    · have hk : L.length - i = 0 := by have := HQ0.out; omega
      have HU : Hid (refA L = 0) := Lib.hid (by rw [HV.out, hk]; rfl)
      have kl2 : ¬ (i : Int) < (L.length : Int) := by omega
      have d1 : decide ((i : Int) < (L.length : Int)) = false := decide_eq_false kl2
      clear hk HV
      go_wp2_with fail
      go_ret
      exact ⟨by rw [HU.out]; rfl, HK.out⟩
end Go.Proofs.Ytjihimapopbdpaa
