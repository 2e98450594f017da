/- The document's seat of a node (ref19). -/
import Derived.Test.YtjihimapopbdpaaRView
namespace Go.Proofs.Ytjihimapopbdpaa
open Go.RowKit Sh
open Go.ChangeMaps (setBlock)
set_option linter.unusedVariables false

set_option maxRecDepth 100000 in
set_option maxHeartbeats 4000000 in
theorem rseat_any {w : World} {v : Value} {L : List Ent} (hL : IsEs w v L) (i : Nat) (hi : i < L.length) :
    Calls Try.prog 43 #[v, .int .i64 i] w fun r w' => r = .returned (.int .i64 (seatP L (L.getD i default).node i)) ∧ Keep (fun _ => False) w w' := by
  obtain ⟨g, o, c, rfl, hc⟩ := hL.form (by omega)
  have hle := hL.le
  have HL := Lib.hid hL
  clear hL
  obtain ⟨nd, hnd⟩ : ∃ nd, nd = (L.getD i default).node := ⟨_, rfl⟩
  rw [← hnd]
  have HN := Lib.hid hnd
  clear hnd
  go_enter Try.func43, Try.ntmps43
  go_wp2_with fail
  go_loopg [5, 6] i (fun q v5 v6 wr => ∃ (k : Nat), k + q = i ∧ v6 = .int .i64 k ∧ v5 = .int .i64 (seatP L nd k) ∧ Keep (fun _ => False) w wr)
  case atStart => exact ⟨0, by omega, rfl, rfl, Keep.refl _ _⟩
  case round =>
    obtain ⟨k, hq, rfl, rfl, hK⟩ := hrel
    have HQ := Lib.hid hq
    have HK := Lib.hid hK
    clear hq hK
    by_cases hlt : k < i
    · have d1 : decide ((k : Int) < (i : Int)) = true := decide_eq_true (by omega)
      have d2 : (k : Int) < (i : Int) := by omega
      have wk1 : IntKind.i64.wrap ((k : Int) + 1) = (k : Int) + 1 := IntWalk.i64_in _ (by omega)
      have kl : k < L.length := by omega
      have kl2 : (k : Int) < (L.length : Int) := by omega
      have il2 : (i : Int) < (L.length : Int) := by omega
      have k0 : (0 : Int) ≤ (k : Int) := by omega
      have i0 : (0 : Int) ≤ (i : Int) := by omega
      have HEK := Lib.hid ((HL.out.keep HK.out).ec k kl)
      have HEI := Lib.hid ((HL.out.keep HK.out).ec i hi)
      have HS := Lib.hid (seatP_succ L nd k)
      have HI0 : Hid (wr.cell? ⟨g, o + i * 9, none⟩ = some (.int .i64 nd)) := Lib.hid (by rw [HN.out]; exact HEI.out.c0)
      clear HEI
      generalize L.getD k default = e at HEK HS
      have MFA : Hid (∀ w0, ∀ W, Keep (fun _ => False) w0 W → Calls Try.prog 38 #[entV e] W (fun r W' => r = .returned (.bool e.inst) ∧ Keep (fun _ => False) w0 W')) := Lib.hid (fun w0 => inst_in (w0 := w0) (e := e) rfl)
      have MOA : Hid (∀ w0, ∀ W, Keep (fun _ => False) w0 W → Calls Try.prog 44 #[entV e] W (fun r W' => r = .returned (.bool e.out) ∧ Keep (fun _ => False) w0 W')) := Lib.hid (fun w0 => out_in (w0 := w0) (e := e) rfl)
      simp only [entV_eq] at MFA MOA
      cases hnd : (e.node == nd)
      · have hne : ¬ e.node = nd := by simpa using hnd
        have HNE := Lib.hid hne
        clear hne MFA MOA
        have HU : Hid (seatP L nd (k + 1) = seatP L nd k) := Lib.hid (by rw [HS.out, if_neg HNE.out])
        clear HS
        go_wp2_with fail
        refine wp_region_quiet (C := fun W => Keep (fun _ => False) wr W) (by kernel_rfl) (by kernel_rfl) ((Keep.refl _ wr).drew) ?_
        refine hq_start ?_
        repeat (refine hq_step (fun K hK => ?_); go_simp; first | (refine quiet_val (hK _ ?_); clear hK K) | (refine hK _ ?_; clear hK K) | (apply Exists.intro; refine ⟨fun W hW => ?_, hK _ ?_⟩; (have q0 := (HEK.out.keep hW).c0; have q1 := (HEK.out.keep hW).c1; have q2 := (HEK.out.keep hW).c2; have q3 := (HEK.out.keep hW).c3; have q4 := (HEK.out.keep hW).c4; have q5 := (HEK.out.keep hW).c5; have q6 := (HEK.out.keep hW).c6; have q7 := (HEK.out.keep hW).c7; have q8 := (HEK.out.keep hW).c8; have q9 := hW.cell HI0.out; go_simp; exact rfl); clear hK K))
        refine hq_nil ?_
        intro W hW
        obtain ⟨w2, hw2⟩ : ∃ w2, w2 = W := ⟨_, rfl⟩
        rw [← hw2] at hW ⊢
        clear hw2
        have HW := Lib.hid (HK.out.step hW)
        have HEK2 := Lib.hid (HEK.out.keep hW)
        have HI2 := Lib.hid (hW.cell HI0.out)
        clear hW
        go_wp2_with fail
        refine wp_region_quiet (C := fun W => Keep (fun _ => False) w2 W) (by kernel_rfl) (by kernel_rfl) ((Keep.refl _ w2).drew) ?_
        refine hq_start ?_
        repeat (refine hq_step (fun K hK => ?_); go_simp; first | (refine quiet_val (hK _ ?_); clear hK K) | (refine hK _ ?_; clear hK K) | (apply Exists.intro; refine ⟨fun W hW => ?_, hK _ ?_⟩; (have q0 := (HEK2.out.keep hW).c0; have q1 := (HEK2.out.keep hW).c1; have q2 := (HEK2.out.keep hW).c2; have q3 := (HEK2.out.keep hW).c3; have q4 := (HEK2.out.keep hW).c4; have q5 := (HEK2.out.keep hW).c5; have q6 := (HEK2.out.keep hW).c6; have q7 := (HEK2.out.keep hW).c7; have q8 := (HEK2.out.keep hW).c8; have q9 := hW.cell HI2.out; go_simp; exact rfl); clear hK K))
        refine hq_nil ?_
        intro W hW
        have HW2 := Lib.hid (HW.out.step hW)
        clear hW
        go_wp2_with fail
        go_roundg (i - (k + 1))
        case measure => have := HQ.out; omega
        case rel => exact ⟨k + 1, by omega, by go_num, by rw [HU.out], HW2.out⟩
      · have heq : e.node = nd := by simpa using hnd
        have HEQ := Lib.hid heq
        clear heq
        cases hin : e.inst
        · rw [hin] at MFA
          cases hou : e.out
          all_goals rw [hou] at MOA
          · have HIN := Lib.hid hin
            have HOU := Lib.hid hou
            clear hin hou
            have HU : Hid (seatP L nd (k + 1) = seatP L nd k) := Lib.hid (by rw [HS.out, if_pos HEQ.out, HIN.out, HOU.out]; simp)
            clear HS
            go_wp2_with fail
            refine wp_region_quiet (C := fun W => Keep (fun _ => False) wr W) (by kernel_rfl) (by kernel_rfl) ((Keep.refl _ wr).drew) ?_
            refine hq_start ?_
            repeat (refine hq_step (fun K hK => ?_); go_simp; first | (refine quiet_val (hK _ ?_); clear hK K) | (with_reducible refine quiet_call (MFA.out _) (hK _ ?_); clear hK K) | (with_reducible refine quiet_call (MOA.out _) (hK _ ?_); clear hK K) | (refine hK _ ?_; clear hK K) | (apply Exists.intro; refine ⟨fun W hW => ?_, hK _ ?_⟩; (have q0 := (HEK.out.keep hW).c0; have q1 := (HEK.out.keep hW).c1; have q2 := (HEK.out.keep hW).c2; have q3 := (HEK.out.keep hW).c3; have q4 := (HEK.out.keep hW).c4; have q5 := (HEK.out.keep hW).c5; have q6 := (HEK.out.keep hW).c6; have q7 := (HEK.out.keep hW).c7; have q8 := (HEK.out.keep hW).c8; have q9 := hW.cell HI0.out; go_simp; exact rfl); clear hK K))
            refine hq_nil ?_
            intro W hW
            obtain ⟨w2, hw2⟩ : ∃ w2, w2 = W := ⟨_, rfl⟩
            rw [← hw2] at hW ⊢
            clear hw2
            have HW := Lib.hid (HK.out.step hW)
            have HEK2 := Lib.hid (HEK.out.keep hW)
            have HI2 := Lib.hid (hW.cell HI0.out)
            clear hW
            go_wp2_with fail
            refine wp_region_quiet (C := fun W => Keep (fun _ => False) w2 W) (by kernel_rfl) (by kernel_rfl) ((Keep.refl _ w2).drew) ?_
            refine hq_start ?_
            repeat (refine hq_step (fun K hK => ?_); go_simp; first | (refine quiet_val (hK _ ?_); clear hK K) | (with_reducible refine quiet_call (MFA.out _) (hK _ ?_); clear hK K) | (with_reducible refine quiet_call (MOA.out _) (hK _ ?_); clear hK K) | (refine hK _ ?_; clear hK K) | (apply Exists.intro; refine ⟨fun W hW => ?_, hK _ ?_⟩; (have q0 := (HEK2.out.keep hW).c0; have q1 := (HEK2.out.keep hW).c1; have q2 := (HEK2.out.keep hW).c2; have q3 := (HEK2.out.keep hW).c3; have q4 := (HEK2.out.keep hW).c4; have q5 := (HEK2.out.keep hW).c5; have q6 := (HEK2.out.keep hW).c6; have q7 := (HEK2.out.keep hW).c7; have q8 := (HEK2.out.keep hW).c8; have q9 := hW.cell HI2.out; go_simp; exact rfl); clear hK K))
            refine hq_nil ?_
            intro W hW
            have HW2 := Lib.hid (HW.out.step hW)
            clear hW
            go_wp2_with fail
            go_roundg (i - (k + 1))
            case measure => have := HQ.out; omega
            case rel => exact ⟨k + 1, by omega, by go_num, by rw [HU.out], HW2.out⟩
          · have HIN := Lib.hid hin
            have HOU := Lib.hid hou
            clear hin hou
            have HU : Hid (seatP L nd (k + 1) = -1) := Lib.hid (by rw [HS.out, if_pos HEQ.out, HIN.out, HOU.out]; simp)
            clear HS
            go_wp2_with fail
            refine wp_region_quiet (C := fun W => Keep (fun _ => False) wr W) (by kernel_rfl) (by kernel_rfl) ((Keep.refl _ wr).drew) ?_
            refine hq_start ?_
            repeat (refine hq_step (fun K hK => ?_); go_simp; first | (refine quiet_val (hK _ ?_); clear hK K) | (with_reducible refine quiet_call (MFA.out _) (hK _ ?_); clear hK K) | (with_reducible refine quiet_call (MOA.out _) (hK _ ?_); clear hK K) | (refine hK _ ?_; clear hK K) | (apply Exists.intro; refine ⟨fun W hW => ?_, hK _ ?_⟩; (have q0 := (HEK.out.keep hW).c0; have q1 := (HEK.out.keep hW).c1; have q2 := (HEK.out.keep hW).c2; have q3 := (HEK.out.keep hW).c3; have q4 := (HEK.out.keep hW).c4; have q5 := (HEK.out.keep hW).c5; have q6 := (HEK.out.keep hW).c6; have q7 := (HEK.out.keep hW).c7; have q8 := (HEK.out.keep hW).c8; have q9 := hW.cell HI0.out; go_simp; exact rfl); clear hK K))
            refine hq_nil ?_
            intro W hW
            obtain ⟨w2, hw2⟩ : ∃ w2, w2 = W := ⟨_, rfl⟩
            rw [← hw2] at hW ⊢
            clear hw2
            have HW := Lib.hid (HK.out.step hW)
            have HEK2 := Lib.hid (HEK.out.keep hW)
            have HI2 := Lib.hid (hW.cell HI0.out)
            clear hW
            go_wp2_with fail
            refine wp_region_quiet (C := fun W => Keep (fun _ => False) w2 W) (by kernel_rfl) (by kernel_rfl) ((Keep.refl _ w2).drew) ?_
            refine hq_start ?_
            repeat (refine hq_step (fun K hK => ?_); go_simp; first | (refine quiet_val (hK _ ?_); clear hK K) | (with_reducible refine quiet_call (MFA.out _) (hK _ ?_); clear hK K) | (with_reducible refine quiet_call (MOA.out _) (hK _ ?_); clear hK K) | (refine hK _ ?_; clear hK K) | (apply Exists.intro; refine ⟨fun W hW => ?_, hK _ ?_⟩; (have q0 := (HEK2.out.keep hW).c0; have q1 := (HEK2.out.keep hW).c1; have q2 := (HEK2.out.keep hW).c2; have q3 := (HEK2.out.keep hW).c3; have q4 := (HEK2.out.keep hW).c4; have q5 := (HEK2.out.keep hW).c5; have q6 := (HEK2.out.keep hW).c6; have q7 := (HEK2.out.keep hW).c7; have q8 := (HEK2.out.keep hW).c8; have q9 := hW.cell HI2.out; go_simp; exact rfl); clear hK K))
            refine hq_nil ?_
            intro W hW
            have HW2 := Lib.hid (HW.out.step hW)
            clear hW
            go_wp2_with fail
            go_roundg (i - (k + 1))
            case measure => have := HQ.out; omega
            case rel => exact ⟨k + 1, by omega, by go_num, by rw [HU.out], HW2.out⟩
        · have hou := not_out_inst hin
          rw [hin] at MFA
          rw [hou] at MOA
          have HIN := Lib.hid hin
          have HOU := Lib.hid hou
          clear hin hou
          have HU : Hid (seatP L nd (k + 1) = k) := Lib.hid (by rw [HS.out, if_pos HEQ.out, HIN.out, HOU.out]; simp)
          clear HS
          go_wp2_with fail
          refine wp_region_quiet (C := fun W => Keep (fun _ => False) wr W) (by kernel_rfl) (by kernel_rfl) ((Keep.refl _ wr).drew) ?_
          refine hq_start ?_
          repeat (refine hq_step (fun K hK => ?_); go_simp; first | (refine quiet_val (hK _ ?_); clear hK K) | (with_reducible refine quiet_call (MFA.out _) (hK _ ?_); clear hK K) | (with_reducible refine quiet_call (MOA.out _) (hK _ ?_); clear hK K) | (refine hK _ ?_; clear hK K) | (apply Exists.intro; refine ⟨fun W hW => ?_, hK _ ?_⟩; (have q0 := (HEK.out.keep hW).c0; have q1 := (HEK.out.keep hW).c1; have q2 := (HEK.out.keep hW).c2; have q3 := (HEK.out.keep hW).c3; have q4 := (HEK.out.keep hW).c4; have q5 := (HEK.out.keep hW).c5; have q6 := (HEK.out.keep hW).c6; have q7 := (HEK.out.keep hW).c7; have q8 := (HEK.out.keep hW).c8; have q9 := hW.cell HI0.out; go_simp; exact rfl); clear hK K))
          refine hq_nil ?_
          intro W hW
          obtain ⟨w2, hw2⟩ : ∃ w2, w2 = W := ⟨_, rfl⟩
          rw [← hw2] at hW ⊢
          clear hw2
          have HW := Lib.hid (HK.out.step hW)
          have HEK2 := Lib.hid (HEK.out.keep hW)
          have HI2 := Lib.hid (hW.cell HI0.out)
          clear hW
          go_wp2_with fail
          refine wp_region_quiet (C := fun W => Keep (fun _ => False) w2 W) (by kernel_rfl) (by kernel_rfl) ((Keep.refl _ w2).drew) ?_
          refine hq_start ?_
          repeat (refine hq_step (fun K hK => ?_); go_simp; first | (refine quiet_val (hK _ ?_); clear hK K) | (with_reducible refine quiet_call (MFA.out _) (hK _ ?_); clear hK K) | (with_reducible refine quiet_call (MOA.out _) (hK _ ?_); clear hK K) | (refine hK _ ?_; clear hK K) | (apply Exists.intro; refine ⟨fun W hW => ?_, hK _ ?_⟩; (have q0 := (HEK2.out.keep hW).c0; have q1 := (HEK2.out.keep hW).c1; have q2 := (HEK2.out.keep hW).c2; have q3 := (HEK2.out.keep hW).c3; have q4 := (HEK2.out.keep hW).c4; have q5 := (HEK2.out.keep hW).c5; have q6 := (HEK2.out.keep hW).c6; have q7 := (HEK2.out.keep hW).c7; have q8 := (HEK2.out.keep hW).c8; have q9 := hW.cell HI2.out; go_simp; exact rfl); clear hK K))
          refine hq_nil ?_
          intro W hW
          have HW2 := Lib.hid (HW.out.step hW)
          clear hW
          go_wp2_with fail
          go_roundg (i - (k + 1))
          case measure => have := HQ.out; omega
          case rel => exact ⟨k + 1, by omega, by go_num, by rw [HU.out], HW2.out⟩
    · have hk : k = i := by have := HQ.out; omega
      subst hk
      go_wp2_with fail
      go_ret
      exact ⟨rfl, HK.out⟩
end Go.Proofs.Ytjihimapopbdpaa
