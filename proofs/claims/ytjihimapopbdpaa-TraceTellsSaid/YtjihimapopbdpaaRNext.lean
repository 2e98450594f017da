/- The document's next view of a node (ref19). -/
import Derived.Test.YtjihimapopbdpaaRSeat
namespace Go.Proofs.Ytjihimapopbdpaa
open Go.RowKit Sh
open Go.ChangeMaps (setBlock)
set_option linter.unusedVariables false

def nextGo (L : List Ent) (nd : Int) : Nat → Nat → Nat → Int × Nat
  | 0, _, n => (-1, n)
  | q + 1, k, n =>
    if (L.getD k default).node ≠ nd then nextGo L nd q (k + 1) n
    else if (L.getD k default).out then (-1, n)
    else if (L.getD k default).inst then (k, n)
    else if (L.getD k default).dlv then nextGo L nd q (k + 1) (n + 1)
    else nextGo L nd q (k + 1) n
theorem nextGo_succ (L : List Ent) (nd : Int) (q k n : Nat) : nextGo L nd (q + 1) k n = if (L.getD k default).node ≠ nd then nextGo L nd q (k + 1) n
    else if (L.getD k default).out then (-1, n)
    else if (L.getD k default).inst then ((k : Int), n)
    else if (L.getD k default).dlv then nextGo L nd q (k + 1) (n + 1)
    else nextGo L nd q (k + 1) n := rfl
def nextP (L : List Ent) (i : Nat) : Int × Nat := nextGo L (L.getD i default).node (L.length - (i + 1)) (i + 1) 0
set_option maxRecDepth 100000 in
set_option maxHeartbeats 4000000 in
theorem rnext_any {w : World} {v : Value} {L : List Ent} (hL : IsEs w v L) (i : Nat) (hi : i < L.length) :
    Calls Try.prog 45 #[v, .int .i64 i] w fun r w' => r = .returned (.tuple #[.int .i64 (nextP L i).1, .int .i64 (nextP L i).2]) ∧ Keep (fun _ => False) w w' := by
  obtain ⟨g, o, c, rfl, hc⟩ := hL.form (by omega)
  have hle := hL.le
  have HL := Lib.hid hL
  clear hL
  have HP : Hid (nextP L i = nextGo L (L.getD i default).node (L.length - (i + 1)) (i + 1) 0) := Lib.hid rfl
  obtain ⟨nd, hnd⟩ : ∃ nd, nd = (L.getD i default).node := ⟨_, rfl⟩
  rw [← hnd] at HP
  have HN := Lib.hid hnd
  clear hnd
  have wi : IntKind.i64.wrap ((i : Int) + 1) = (i : Int) + 1 := IntWalk.i64_in _ (by omega)
  go_enter Try.func45, Try.ntmps45
  go_wp2_with fail
  go_loopg [6, 7] (L.length - (i + 1)) (fun q v6 v7 wr => ∃ (k n : Nat), k + q = L.length ∧ i < k ∧ n ≤ k ∧ v7 = .int .i64 k ∧ v6 = .int .i64 n ∧ Hid (nextP L i = nextGo L nd (L.length - k) k n) ∧ Keep (fun _ => False) w wr)
  case atStart => exact ⟨i + 1, 0, by omega, by omega, by omega, by go_num, rfl, HP, Keep.refl _ _⟩
  case round =>
    obtain ⟨k, n, hq, hik, hnk, rfl, rfl, HV, hK⟩ := hrel
    have HQ := Lib.hid hq
    have HK := Lib.hid hK
    clear hq hK HP wi
    by_cases hlt : k < L.length
    · have kl2 : (k : Int) < (L.length : Int) := by omega
      have d1 : decide ((k : Int) < (L.length : Int)) = true := decide_eq_true kl2
      have il2 : (i : Int) < (L.length : Int) := by omega
      have k0 : (0 : Int) ≤ (k : Int) := by omega
      have i0 : (0 : Int) ≤ (i : Int) := by omega
      have wk : IntKind.i64.wrap ((k : Int) + 1) = (k : Int) + 1 := IntWalk.i64_in _ (by omega)
      have wn : IntKind.i64.wrap ((n : Int) + 1) = (n : Int) + 1 := IntWalk.i64_in _ (by omega)
      have HEK := Lib.hid ((HL.out.keep HK.out).ec k hlt)
      have HEI := Lib.hid ((HL.out.keep HK.out).ec i hi)
      have HI0 : Hid (wr.cell? ⟨g, o + i * 9, none⟩ = some (.int .i64 nd)) := Lib.hid (by rw [HN.out]; exact HEI.out.c0)
      have HS : Hid (nextP L i = _) := Lib.hid (HV.out.trans ((congrArg (fun q => nextGo L nd q k n) (show L.length - k = (L.length - (k + 1)) + 1 by omega)).trans (nextGo_succ L nd (L.length - (k + 1)) k n)))
      clear HEI HV
      generalize L.getD k default = e at HEK HS
      have CI := Lib.hid (rinst_any e)
      have CO := Lib.hid (rout_any e)
      have CD := Lib.hid (rdlv_any e)
      simp only [entV_eq] at CI CO CD
      cases hnd : (e.node == nd)
      · have hne : e.node ≠ nd := by simpa using hnd
        have HNE := Lib.hid hne
        clear hne CI CO CD
        have d3 : (e.node != nd) = true := by simp [bne, hnd]
        have HU : Hid (nextP L i = nextGo L nd (L.length - (k + 1)) (k + 1) n) := Lib.hid (by rw [HS.out, if_pos HNE.out])
        clear HS
        go_wp2_with fail
        refine wp_region_quiet (C := fun W => Keep (fun _ => False) wr W) (by kernel_rfl) (by kernel_rfl) ((Keep.refl _ wr).drew) ?_
        refine hq_start ?_
        repeat (refine hq_step (fun K hK => ?_); go_simp; first | (refine quiet_val (hK _ ?_); clear hK K) | (refine hK _ ?_; clear hK K) | (apply Exists.intro; refine ⟨fun W hW => ?_, hK _ ?_⟩; (have q0 := (HEK.out.keep hW).c0; have q1 := (HEK.out.keep hW).c1; have q2 := (HEK.out.keep hW).c2; have q3 := (HEK.out.keep hW).c3; have q4 := (HEK.out.keep hW).c4; have q5 := (HEK.out.keep hW).c5; have q6 := (HEK.out.keep hW).c6; have q7 := (HEK.out.keep hW).c7; have q8 := (HEK.out.keep hW).c8; have q9 := hW.cell HI0.out; go_simp; exact rfl); clear hK K))
        refine hq_nil ?_
        intro W hW
        have HW := Lib.hid (HK.out.step hW)
        clear hW
        go_wp2_with fail
        go_roundg (L.length - (k + 1))
        case measure => have := HQ.out; omega
        case rel => exact ⟨k + 1, n, by omega, by omega, by omega, by go_num, rfl, HU, HW.out⟩
      · have heq : ¬ e.node ≠ nd := by simpa using hnd
        have HEQ := Lib.hid heq
        clear heq
        have d3 : (e.node != nd) = false := by simp [bne, hnd]
        go_wp2_with fail
        refine wp_region_quiet (C := fun W => Keep (fun _ => False) wr W) (by kernel_rfl) (by kernel_rfl) ((Keep.refl _ wr).drew) ?_
        refine hq_start ?_
        repeat (refine hq_step (fun K hK => ?_); go_simp; first | (refine quiet_val (hK _ ?_); clear hK K) | (refine hK _ ?_; clear hK K) | (apply Exists.intro; refine ⟨fun W hW => ?_, hK _ ?_⟩; (have q0 := (HEK.out.keep hW).c0; have q1 := (HEK.out.keep hW).c1; have q2 := (HEK.out.keep hW).c2; have q3 := (HEK.out.keep hW).c3; have q4 := (HEK.out.keep hW).c4; have q5 := (HEK.out.keep hW).c5; have q6 := (HEK.out.keep hW).c6; have q7 := (HEK.out.keep hW).c7; have q8 := (HEK.out.keep hW).c8; have q9 := hW.cell HI0.out; go_simp; exact rfl); clear hK K))
        refine hq_nil ?_
        intro W hW
        obtain ⟨w2, hw2⟩ : ∃ w2, w2 = W := ⟨_, rfl⟩
        rw [← hw2] at hW ⊢
        clear hw2
        have HW := Lib.hid (HK.out.step hW)
        have HE2 := Lib.hid (HEK.out.keep hW)
        clear hW
        cases hou : e.out
        · rw [hou] at CO
          have e0 := HE2.out.c0
          have e1 := HE2.out.c1
          have e2 := HE2.out.c2
          have e3 := HE2.out.c3
          have e4 := HE2.out.c4
          have e5 := HE2.out.c5
          have e6 := HE2.out.c6
          have e7 := HE2.out.c7
          have e8 := HE2.out.c8
          go_wp2_with fail
          refine (CO.out _).mono ?_
          rintro r w3 ⟨rfl, hk3⟩
          have K3 := Lib.hid (HW.out.step hk3)
          have HE3 := Lib.hid (HE2.out.keep hk3)
          clear e0 e1 e2 e3 e4 e5 e6 e7 e8 hk3
          cases hin : e.inst
          · rw [hin] at CI
            have e0 := HE3.out.c0
            have e1 := HE3.out.c1
            have e2 := HE3.out.c2
            have e3 := HE3.out.c3
            have e4 := HE3.out.c4
            have e5 := HE3.out.c5
            have e6 := HE3.out.c6
            have e7 := HE3.out.c7
            have e8 := HE3.out.c8
            go_wp2_with fail
            refine (CI.out _).mono ?_
            rintro r w4 ⟨rfl, hk4⟩
            have K4 := Lib.hid (K3.out.step hk4)
            have HE4 := Lib.hid (HE3.out.keep hk4)
            clear e0 e1 e2 e3 e4 e5 e6 e7 e8 hk4
            cases hdl : e.dlv
            · rw [hdl] at CD
              have HU : Hid (nextP L i = nextGo L nd (L.length - (k + 1)) (k + 1) n) := Lib.hid (by rw [HS.out, if_neg HEQ.out, hou, hin, hdl]; simp)
              clear HS hou hin hdl
              have e0 := HE4.out.c0
              have e1 := HE4.out.c1
              have e2 := HE4.out.c2
              have e3 := HE4.out.c3
              have e4 := HE4.out.c4
              have e5 := HE4.out.c5
              have e6 := HE4.out.c6
              have e7 := HE4.out.c7
              have e8 := HE4.out.c8
              go_wp2_with fail
              refine (CD.out _).mono ?_
              rintro r w5 ⟨rfl, hk5⟩
              have K5 := Lib.hid (K4.out.step hk5)
              have HE5 := Lib.hid (HE4.out.keep hk5)
              clear e0 e1 e2 e3 e4 e5 e6 e7 e8 hk5
              go_wp2_with fail
              go_roundg (L.length - (k + 1))
              case measure => have := HQ.out; omega
              case rel => exact ⟨k + 1, n, by omega, by omega, by omega, by go_num, rfl, HU, K5.out⟩
            · rw [hdl] at CD
              have HU : Hid (nextP L i = nextGo L nd (L.length - (k + 1)) (k + 1) (n + 1)) := Lib.hid (by rw [HS.out, if_neg HEQ.out, hou, hin, hdl]; simp)
              clear HS hou hin hdl
              have e0 := HE4.out.c0
              have e1 := HE4.out.c1
              have e2 := HE4.out.c2
              have e3 := HE4.out.c3
              have e4 := HE4.out.c4
              have e5 := HE4.out.c5
              have e6 := HE4.out.c6
              have e7 := HE4.out.c7
              have e8 := HE4.out.c8
              go_wp2_with fail
              refine (CD.out _).mono ?_
              rintro r w5 ⟨rfl, hk5⟩
              have K5 := Lib.hid (K4.out.step hk5)
              have HE5 := Lib.hid (HE4.out.keep hk5)
              clear e0 e1 e2 e3 e4 e5 e6 e7 e8 hk5
              go_wp2_with fail
              go_roundg (L.length - (k + 1))
              case measure => have := HQ.out; omega
              case rel => exact ⟨k + 1, n + 1, by omega, by omega, by omega, by go_num, by go_num, HU, K5.out⟩
          · rw [hin] at CI
            have HU : Hid (nextP L i = ((k : Int), n)) := Lib.hid (by rw [HS.out, if_neg HEQ.out, hou, hin]; simp)
            clear HS hou hin
            have e0 := HE3.out.c0
            have e1 := HE3.out.c1
            have e2 := HE3.out.c2
            have e3 := HE3.out.c3
            have e4 := HE3.out.c4
            have e5 := HE3.out.c5
            have e6 := HE3.out.c6
            have e7 := HE3.out.c7
            have e8 := HE3.out.c8
            go_wp2_with fail
            refine (CI.out _).mono ?_
            rintro r w4 ⟨rfl, hk4⟩
            have K4 := Lib.hid (K3.out.step hk4)
            have HE4 := Lib.hid (HE3.out.keep hk4)
            clear e0 e1 e2 e3 e4 e5 e6 e7 e8 hk4
            go_wp2_with fail
            go_ret2
            exact ⟨by rw [HU.out]; rfl, K4.out⟩
        · rw [hou] at CO
          have HU : Hid (nextP L i = (-1, n)) := Lib.hid (by rw [HS.out, if_neg HEQ.out, hou]; simp)
          clear HS hou
          have e0 := HE2.out.c0
          have e1 := HE2.out.c1
          have e2 := HE2.out.c2
          have e3 := HE2.out.c3
          have e4 := HE2.out.c4
          have e5 := HE2.out.c5
          have e6 := HE2.out.c6
          have e7 := HE2.out.c7
          have e8 := HE2.out.c8
          go_wp2_with fail
          refine (CO.out _).mono ?_
          rintro r w3 ⟨rfl, hk3⟩
          have K3 := Lib.hid (HW.out.step hk3)
          have HE3 := Lib.hid (HE2.out.keep hk3)
          clear e0 e1 e2 e3 e4 e5 e6 e7 e8 hk3
          go_wp2_with fail
          go_ret2
          exact ⟨by rw [HU.out]; rfl, K3.out⟩
    · have hk : L.length - k = 0 := by have := HQ.out; omega
      have HU : Hid (nextP L i = (-1, n)) := Lib.hid (by rw [HV.out, hk]; rfl)
      have kl2 : ¬ (k : Int) < (L.length : Int) := by omega
      have d1 : decide ((k : Int) < (L.length : Int)) = false := decide_eq_false kl2
      clear hk HV
      go_wp2_with fail
      go_ret2
      exact ⟨by rw [HU.out]; rfl, HK.out⟩
end Go.Proofs.Ytjihimapopbdpaa
