/- The document's test Order (ref19). -/
import Derived.Test.YtjihimapopbdpaaRComm
namespace Go.Proofs.Ytjihimapopbdpaa
open Go.RowKit Sh
open Go.ChangeMaps (setBlock)
set_option linter.unusedVariables false

def ocnt (L : List Ent) (nd : Int) (a : Nat) : Nat → Nat
  | 0 => 0
  | t + 1 => ocnt L nd a t + if (L.getD (a + t) default).dlv && ((L.getD (a + t) default).node == nd) then 1 else 0
theorem ocnt_le (L : List Ent) (nd : Int) (a : Nat) : ∀ t, ocnt L nd a t ≤ t
  | 0 => Nat.le_refl _
  | t + 1 => by have := ocnt_le L nd a t; rw [ocnt]; split <;> omega
def oclash (L : List Ent) (e : Ent) : Nat → Bool
  | 0 => false
  | k + 1 => oclash L e k || ((L.getD k default).dlv && ((L.getD k default).id == e.id) && ((L.getD k default).n == e.n) && !decide ((L.getD k default).m = e.m))
theorem oclash_succ (L : List Ent) (e : Ent) (k : Nat) : oclash L e (k + 1) = (oclash L e k || ((L.getD k default).dlv && ((L.getD k default).id == e.id) && ((L.getD k default).n == e.n) && !decide ((L.getD k default).m = e.m))) := rfl
theorem oclash_mono (L : List Ent) (e : Ent) (k : Nat) (h : oclash L e k = true) : ∀ n, k ≤ n → oclash L e n = true
  | 0, hn => by obtain rfl : k = 0 := by omega
                exact h
  | n + 1, hn => by
    by_cases c : k = n + 1
    · rw [← c]; exact h
    · rw [oclash, oclash_mono L e k h n (by omega)]; rfl
def obad (L : List Ent) (i : Nat) : Bool := decide (seatP L (L.getD i default).node i < 0) || !decide ((L.getD (seatP L (L.getD i default).node i).toNat default).v = (L.getD i default).v)
def ocn (L : List Ent) (i : Nat) : Nat := ocnt L (L.getD i default).node (seatP L (L.getD i default).node i).toNat (i - (seatP L (L.getD i default).node i).toNat)
def oErr (L : List Ent) (i : Nat) : Int :=
  if (L.getD i default).dlv = false then 0 else if obad L i then 5 else if (L.getD i default).n ≠ (ocn L i : Int) + 1 then 5 else if oclash L (L.getD i default) i then 4 else 0
def refO (L : List Ent) : Int := firstE (oErr L) L.length 0
theorem neq36_in {a b c d : Int} {r : Bool} (h : decide ((⟨a, b⟩ : Vw) = ⟨c, d⟩) = r) : ∀ w, (binOp .neq 36 (.agg #[.int .u64 a, .int .u64 b]) (.agg #[.int .u64 c, .int .u64 d])).run Try.prog w = .ok (.bool !r) w := fun w => by
  have := neq_of (eqs36 9998 w ⟨a, b⟩ ⟨c, d⟩)
  rw [h] at this
  exact this
theorem eql_of {t : TypeId} {xs ys : Array Value} {r : Bool} {w : World} (h : (Op.equalIn 10000 t (.agg xs) (.agg ys)).run Try.prog w = .ok r w) : (binOp .eql t (.agg xs) (.agg ys)).run Try.prog w = .ok (.bool r) w := by
  simp only [binOp, Op.equal, Op.maxDepth, Sem.run_bind, h, Result.andThen_ok]
  rfl
theorem eql36_in {a b c d : Int} {r : Bool} (h : decide ((⟨a, b⟩ : Vw) = ⟨c, d⟩) = r) : ∀ w, (binOp .eql 36 (.agg #[.int .u64 a, .int .u64 b]) (.agg #[.int .u64 c, .int .u64 d])).run Try.prog w = .ok (.bool r) w := fun w => by
  have := eql_of (eqs36 9998 w ⟨a, b⟩ ⟨c, d⟩)
  rw [h] at this
  exact this
theorem neq38_in {e f : Ent} {r : Bool} (h : decide (e.m = f.m) = r) : ∀ w, (binOp .neq 38 (.agg #[.int .i64 e.snd, .int .u64 e.num, .string e.text]) (.agg #[.int .i64 f.snd, .int .u64 f.num, .string f.text])).run Try.prog w = .ok (.bool !r) w := fun w => by
  have := neq_of (eqs38 9998 w e.m f.m)
  rw [h] at this
  exact this
theorem eql38_in {e f : Ent} {r : Bool} (h : decide (e.m = f.m) = r) : ∀ w, (binOp .eql 38 (.agg #[.int .i64 e.snd, .int .u64 e.num, .string e.text]) (.agg #[.int .i64 f.snd, .int .u64 f.num, .string f.text])).run Try.prog w = .ok (.bool r) w := fun w => by
  have := eql_of (eqs38 9998 w e.m f.m)
  rw [h] at this
  exact this
set_option maxRecDepth 100000 in
set_option maxHeartbeats 8000000 in
theorem rorder_any {w : World} {v : Value} {L : List Ent} (hL : IsEs w v L) (hok : LOk L) :
    Calls Try.prog 30 #[v] w fun r w' => r = .returned (.int .i64 (refO L)) ∧ Keep (fun _ => False) w w' := by
  obtain ⟨A, c, rfl, hc1, hle, hA⟩ := hL.ex
  have HL := Lib.hid hL
  have HOK := Lib.hid hok
  clear hL hok hc1 hA
  have HV0 : Hid (refO L = firstE (oErr L) (L.length - 0) 0) := Lib.hid rfl
  go_enter Try.func30, Try.ntmps30
  go_wp2_with fail
  go_loopg [3] L.length (fun q u wr => ∃ (i : Nat), i + q = L.length ∧ u = .int .i64 i ∧ Hid (refO L = firstE (oErr L) (L.length - i) i) ∧ Keep (fun _ => False) w wr)
  case atStart => exact ⟨0, by omega, rfl, HV0, Keep.refl _ _⟩
  case round =>
    obtain ⟨i, hq, rfl, HV, hK⟩ := hrel
    obtain ⟨wi, hwi⟩ : ∃ wi : World, wi = wr := ⟨_, rfl⟩
    rw [← hwi] at hK ⊢
    clear hwi HV0
    have HQ0 := Lib.hid hq
    have HK := Lib.hid hK
    clear hq hK
    by_cases hlt : i < L.length
    · obtain ⟨g, o, c', hform, hcc⟩ := HL.out.form (by omega)
      injection hform with e1 e2 e3
      subst e1; subst e3
      clear e2 hcc
      have il2 : (i : Int) < (L.length : Int) := by omega
      have d0 : decide ((i : Int) < (L.length : Int)) = true := decide_eq_true il2
      have i0 : (0 : Int) ≤ (i : Int) := by omega
      have wi1 : IntKind.i64.wrap ((i : Int) + 1) = (i : Int) + 1 := IntWalk.i64_in _ (by omega)
      have HE := Lib.hid ((HL.out.keep HK.out).ec i hlt)
      have HS := Lib.hid (HV.out.trans (firstE_succ (oErr L) L.length i hlt))
      have OK := HOK.out.out i hlt
      clear HV
      have HVE : Hid (oErr L i = if (L.getD i default).dlv = false then 0 else if obad L i then 5 else if (L.getD i default).n ≠ (ocn L i : Int) + 1 then 5 else if oclash L (L.getD i default) i then 4 else 0) := Lib.hid rfl
      have HBAD : Hid (obad L i = (decide (seatP L (L.getD i default).node i < 0) || !decide ((L.getD (seatP L (L.getD i default).node i).toNat default).v = (L.getD i default).v))) := Lib.hid rfl
      have HOC : Hid (ocn L i = ocnt L (L.getD i default).node (seatP L (L.getD i default).node i).toNat (i - (seatP L (L.getD i default).node i).toNat)) := Lib.hid rfl
      have CV : Hid (∀ w', Keep (fun _ => False) w w' → Calls Try.prog 43 #[.slice (some ⟨g, o, none⟩) L.length c, .int .i64 i] w' fun r w'' => r = .returned (.int .i64 (seatP L (L.getD i default).node i)) ∧ Keep (fun _ => False) w' w'') := Lib.hid (fun w' k => rseat_any (HL.out.keep k) i hlt)
      generalize L.getD i default = e at HE HVE CV OK HBAD HOC
      have CI := Lib.hid (rdlv_any e)
      simp only [entV_eq] at CI
      have HOE := Lib.hid OK
      clear OK
      cases hin : e.dlv
      · rw [hin] at CI
        have HU : Hid (refO L = firstE (oErr L) (L.length - (i + 1)) (i + 1)) := Lib.hid (by rw [HS.out, HVE.out, hin]; simp)
        clear hin HS HVE CV HBAD HOC
        have e0 := HE.out.c0
        have e1 := HE.out.c1
        have e2 := HE.out.c2
        have e3 := HE.out.c3
        have e4 := HE.out.c4
        have e5 := HE.out.c5
        have e6 := HE.out.c6
        have e7 := HE.out.c7
        have e8 := HE.out.c8
        go_wp2_with fail
        refine (CI.out _).mono ?_
        rintro r w3 ⟨rfl, hk3⟩
        have K3 := Lib.hid (HK.out.step hk3)
        have HE3 := Lib.hid (HE.out.keep hk3)
        clear e0 e1 e2 e3 e4 e5 e6 e7 e8 hk3
        go_wp2_with fail
        go_roundg (L.length - (i + 1))
        case measure => have := HQ0.out; omega
        case rel => exact ⟨i + 1, by omega, by go_num, HU, K3.out⟩
      · rw [hin] at CI
        have HVE1 : Hid (oErr L i = if obad L i then 5 else if e.n ≠ (ocn L i : Int) + 1 then 5 else if oclash L e i then 4 else 0) := Lib.hid (by rw [HVE.out, hin]; simp)
        clear hin HVE
        have e0 := HE.out.c0
        have e1 := HE.out.c1
        have e2 := HE.out.c2
        have e3 := HE.out.c3
        have e4 := HE.out.c4
        have e5 := HE.out.c5
        have e6 := HE.out.c6
        have e7 := HE.out.c7
        have e8 := HE.out.c8
        go_wp2_with fail
        refine (CI.out _).mono ?_
        rintro r w3 ⟨rfl, hk3⟩
        have K3 := Lib.hid (HK.out.step hk3)
        have HE3 := Lib.hid (HE.out.keep hk3)
        clear e0 e1 e2 e3 e4 e5 e6 e7 e8 hk3
        go_wp2_with fail
        refine (CV.out _ K3.out).mono ?_
        rintro r w4 ⟨rfl, hk4⟩
        have K4 := Lib.hid (K3.out.step hk4)
        have HE4 := Lib.hid (HE3.out.keep hk4)
        clear hk4 CV CI
        go_upto_region 6 with fail
        go_cut [4, 39] (fun v4 v wx => v4 = .int .i64 (seatP L e.node i) ∧ v = .bool (obad L i) ∧ Keep (fun _ => False) w4 wx)
        case first =>
          rcases seatP_form L e.node i with hv | ⟨j, hj, hv, _, _⟩
          · have HB : Hid (obad L i = true) := Lib.hid (by rw [HBAD.out, hv]; rfl)
            rw [hv]
            have HVW := Lib.hid hv
            clear hv
            refine wp_region_quiet (C := fun W => Keep (fun _ => False) w4 W) (by kernel_rfl) (by kernel_rfl) ((Keep.refl _ w4).drew) ?_
            refine hq_start ?_
            repeat (refine hq_step (fun K hK => ?_); go_simp; first | (refine quiet_val (hK _ ?_); clear hK K) | (refine hK _ ?_; clear hK K) | (apply Exists.intro; refine ⟨fun W hW => ?_, hK _ ?_⟩; (have q0 := (HE4.out.keep hW).c0; have q1 := (HE4.out.keep hW).c1; have q2 := (HE4.out.keep hW).c2; have q3 := (HE4.out.keep hW).c3; have q4 := (HE4.out.keep hW).c4; have q5 := (HE4.out.keep hW).c5; have q6 := (HE4.out.keep hW).c6; have q7 := (HE4.out.keep hW).c7; have q8 := (HE4.out.keep hW).c8; go_simp; exact rfl); clear hK K))
            refine hq_nil ?_
            intro W hW
            have HW := Lib.hid hW
            clear hW
            go_wp2_with fail
            go_meet
            exact ⟨by rw [HVW.out], by rw [HB.out], HW.out⟩
          · have HB : Hid (obad L i = !decide ((L.getD j default).v = e.v)) := Lib.hid (by rw [HBAD.out, hv, decide_eq_false (by omega)]; simp)
            rw [hv]
            have jl : j < L.length := by omega
            have jl2 : (j : Int) < (L.length : Int) := by omega
            have j0 : (0 : Int) ≤ (j : Int) := by omega
            have dj : decide ((j : Int) < 0) = false := decide_eq_false (by omega)
            have HJ := Lib.hid ((HL.out.keep K4.out).ec j jl)
            generalize L.getD j default = f at HJ HB
            have HVW := Lib.hid hv
            clear hv
            cases hle2 : decide (f.v = e.v)
            all_goals
              rw [hle2] at HB
              have hnq := neq36_in (a := f.id) (b := f.mem) (c := e.id) (d := e.mem) hle2
              refine wp_region_quiet (C := fun W => Keep (fun _ => False) w4 W) (by kernel_rfl) (by kernel_rfl) ((Keep.refl _ w4).drew) ?_
              refine hq_start ?_
              repeat (refine hq_step (fun K hK => ?_); go_simp; first | (refine quiet_val (hK _ ?_); clear hK K) | (refine hK _ ?_; clear hK K) | (apply Exists.intro; refine ⟨fun W hW => ?_, hK _ ?_⟩; (have q0 := (HE4.out.keep hW).c0; have q1 := (HE4.out.keep hW).c1; have q2 := (HE4.out.keep hW).c2; have q3 := (HE4.out.keep hW).c3; have q4 := (HE4.out.keep hW).c4; have q5 := (HE4.out.keep hW).c5; have q6 := (HE4.out.keep hW).c6; have q7 := (HE4.out.keep hW).c7; have q8 := (HE4.out.keep hW).c8; have q9 := (HJ.out.keep hW).c0; have q10 := (HJ.out.keep hW).c1; have q11 := (HJ.out.keep hW).c2; have q12 := (HJ.out.keep hW).c3; have q13 := (HJ.out.keep hW).c4; have q14 := (HJ.out.keep hW).c5; have q15 := (HJ.out.keep hW).c6; have q16 := (HJ.out.keep hW).c7; have q17 := (HJ.out.keep hW).c8; go_simp; exact rfl); clear hK K))
              refine hq_nil ?_
              intro W hW
              have HW := Lib.hid hW
              clear hW
              go_wp2_with fail
              go_meet
              exact ⟨by rw [HVW.out], by rw [HB.out]; rfl, HW.out⟩
        case rest =>
          obtain ⟨rfl, rfl, kc⟩ := hcut
          obtain ⟨w5, hw5⟩ : ∃ w5, w5 = wc := ⟨_, rfl⟩
          rw [← hw5] at kc ⊢
          clear hw5
          have K5 := Lib.hid (K4.out.step kc)
          have HE5 := Lib.hid (HE4.out.keep kc)
          clear kc HE4
          cases hb : obad L i
          · have HVE2 : Hid (oErr L i = if e.n ≠ (ocn L i : Int) + 1 then 5 else if oclash L e i then 4 else 0) := Lib.hid (by rw [HVE1.out, hb]; simp)
            rcases seatP_form L e.node i with hv | ⟨a, ha, hv, _, _⟩
            · have := HBAD.out
              rw [hb, hv] at this
              exact absurd this (by simp)
            · have HOC2 : Hid (ocn L i = ocnt L e.node a (i - a)) := Lib.hid (by rw [HOC.out, hv]; rfl)
              rw [hv]
              clear hb hv HVE1 HBAD HOC
              go_wp2_with fail
              go_loopg [5, 6] (i - a) (fun q v5 v6 wr => ∃ (t : Nat), t + q = i - a ∧ v6 = .int .i64 ((a + t : Nat) : Int) ∧ v5 = .int .u64 (ocnt L e.node a t) ∧ Keep (fun _ => False) w5 wr)
              case atStart => exact ⟨0, by omega, rfl, rfl, Keep.refl _ _⟩
              case round =>
                obtain ⟨t, hq, rfl, rfl, hK⟩ := hrel
                have HQ := Lib.hid hq
                have KR := Lib.hid hK
                clear hq hK
                obtain ⟨wk, hwk⟩ : ∃ wk : World, wk = wr := ⟨_, rfl⟩
                rw [← hwk] at KR ⊢
                clear hwk
                obtain ⟨k, hk⟩ : ∃ k, k = a + t := ⟨_, rfl⟩
                rw [← hk]
                have HKT := Lib.hid hk
                have HQK : Hid (t + 1 + a = k + 1) := Lib.hid (by omega)
                clear hk
                have hcl := ocnt_le L e.node a t
                have tl : t ≤ L.length := by have := HQ.out; omega
                by_cases hki : k < i
                · have d1 : decide ((k : Int) < (i : Int)) = true := decide_eq_true (by omega)
                  have d2 : (k : Int) < (i : Int) := by omega
                  have wk1 : IntKind.i64.wrap ((k : Int) + 1) = (k : Int) + 1 := IntWalk.i64_in _ (by omega)
                  have kl : k < L.length := by omega
                  have kl2 : (k : Int) < (L.length : Int) := by omega
                  have k0 : (0 : Int) ≤ (k : Int) := by omega
                  have wn : IntKind.u64.wrap ((ocnt L e.node a t : Int) + 1) = (ocnt L e.node a t : Int) + 1 := by rw [IntKind.wrap_u64]; omega
                  have HF := Lib.hid ((HL.out.keep (K5.out.step KR.out)).ec k kl)
                  have HI0 : Hid (wk.cell? ⟨g, o + i * 9, none⟩ = some (.int .i64 e.node)) := Lib.hid (KR.out.cell (HE5.out.c0))
                  have HC1 : Hid (ocnt L e.node a (t + 1) = ocnt L e.node a t + if (L.getD k default).dlv && ((L.getD k default).node == e.node) then 1 else 0) := Lib.hid (by rw [HKT.out]; rfl)
                  generalize L.getD k default = f at HF HC1
                  cases hfd : f.dlv
                  · have MF := Lib.hid (dlv_in (w0 := wk) hfd)
                    simp only [entV_eq] at MF
                    have HUc : Hid (ocnt L e.node a (t + 1) = ocnt L e.node a t) := Lib.hid (by rw [HC1.out, hfd]; simp)
                    clear hfd HC1
                    go_wp2_with fail
                    refine wp_region_quiet (C := fun W => Keep (fun _ => False) wk W) (by kernel_rfl) (by kernel_rfl) ((Keep.refl _ wk).drew) ?_
                    refine hq_start ?_
                    repeat (refine hq_step (fun K hK => ?_); go_simp; first | (refine quiet_val (hK _ ?_); clear hK K) | (with_reducible refine quiet_call MF.out (hK _ ?_); clear hK K) | (refine hK _ ?_; clear hK K) | (apply Exists.intro; refine ⟨fun W hW => ?_, hK _ ?_⟩; (have q0 := (HF.out.keep hW).c0; have q1 := (HF.out.keep hW).c1; have q2 := (HF.out.keep hW).c2; have q3 := (HF.out.keep hW).c3; have q4 := (HF.out.keep hW).c4; have q5 := (HF.out.keep hW).c5; have q6 := (HF.out.keep hW).c6; have q7 := (HF.out.keep hW).c7; have q8 := (HF.out.keep hW).c8; have q9 := hW.cell HI0.out; go_simp; exact rfl); clear hK K))
                    refine hq_nil ?_
                    intro W hW
                    have HW := Lib.hid (KR.out.step hW)
                    clear hW
                    go_wp2_with fail
                    go_roundg (i - a - (t + 1))
                    case measure => have := HQ.out; have := HKT.out; omega
                    case rel => exact ⟨t + 1, by have := HQ.out; have := HKT.out; omega, by rw [show a + (t + 1) = k + 1 by have := HQK.out; omega]; go_num, by rw [HUc.out], HW.out⟩
                  · have MF := Lib.hid (dlv_in (w0 := wk) hfd)
                    simp only [entV_eq] at MF
                    cases hfn : (f.node == e.node)
                    · have HUc : Hid (ocnt L e.node a (t + 1) = ocnt L e.node a t) := Lib.hid (by rw [HC1.out, hfd, hfn]; simp)
                      clear hfd HC1
                      go_wp2_with fail
                      refine wp_region_quiet (C := fun W => Keep (fun _ => False) wk W) (by kernel_rfl) (by kernel_rfl) ((Keep.refl _ wk).drew) ?_
                      refine hq_start ?_
                      repeat (refine hq_step (fun K hK => ?_); go_simp; first | (refine quiet_val (hK _ ?_); clear hK K) | (with_reducible refine quiet_call MF.out (hK _ ?_); clear hK K) | (refine hK _ ?_; clear hK K) | (apply Exists.intro; refine ⟨fun W hW => ?_, hK _ ?_⟩; (have q0 := (HF.out.keep hW).c0; have q1 := (HF.out.keep hW).c1; have q2 := (HF.out.keep hW).c2; have q3 := (HF.out.keep hW).c3; have q4 := (HF.out.keep hW).c4; have q5 := (HF.out.keep hW).c5; have q6 := (HF.out.keep hW).c6; have q7 := (HF.out.keep hW).c7; have q8 := (HF.out.keep hW).c8; have q9 := hW.cell HI0.out; go_simp; exact rfl); clear hK K))
                      refine hq_nil ?_
                      intro W hW
                      have HW := Lib.hid (KR.out.step hW)
                      clear hW
                      go_wp2_with fail
                      go_roundg (i - a - (t + 1))
                      case measure => have := HQ.out; have := HKT.out; omega
                      case rel => exact ⟨t + 1, by have := HQ.out; have := HKT.out; omega, by rw [show a + (t + 1) = k + 1 by have := HQK.out; omega]; go_num, by rw [HUc.out], HW.out⟩
                    · have HUc : Hid (ocnt L e.node a (t + 1) = ocnt L e.node a t + 1) := Lib.hid (by rw [HC1.out, hfd, hfn]; simp)
                      clear hfd HC1
                      go_wp2_with fail
                      refine wp_region_quiet (C := fun W => Keep (fun _ => False) wk W) (by kernel_rfl) (by kernel_rfl) ((Keep.refl _ wk).drew) ?_
                      refine hq_start ?_
                      repeat (refine hq_step (fun K hK => ?_); go_simp; first | (refine quiet_val (hK _ ?_); clear hK K) | (with_reducible refine quiet_call MF.out (hK _ ?_); clear hK K) | (refine hK _ ?_; clear hK K) | (apply Exists.intro; refine ⟨fun W hW => ?_, hK _ ?_⟩; (have q0 := (HF.out.keep hW).c0; have q1 := (HF.out.keep hW).c1; have q2 := (HF.out.keep hW).c2; have q3 := (HF.out.keep hW).c3; have q4 := (HF.out.keep hW).c4; have q5 := (HF.out.keep hW).c5; have q6 := (HF.out.keep hW).c6; have q7 := (HF.out.keep hW).c7; have q8 := (HF.out.keep hW).c8; have q9 := hW.cell HI0.out; go_simp; exact rfl); clear hK K))
                      refine hq_nil ?_
                      intro W hW
                      have HW := Lib.hid (KR.out.step hW)
                      clear hW
                      go_wp2_with fail
                      go_roundg (i - a - (t + 1))
                      case measure => have := HQ.out; have := HKT.out; omega
                      case rel => exact ⟨t + 1, by have := HQ.out; have := HKT.out; omega, by rw [show a + (t + 1) = k + 1 by have := HQK.out; omega]; go_num, by rw [HUc.out]; go_num, HW.out⟩
                · have hti : t = i - a := by have := HQ.out; have := HKT.out; omega
                  have hk : k = i := by have := HQ.out; have := HKT.out; omega
                  subst hk
                  have dk : decide ((k : Int) < (k : Int)) = false := decide_eq_false (by omega)
                  have HN1 : Hid (ocn L k = ocnt L e.node a t) := Lib.hid (by rw [HOC2.out, hti])
                  have wn : IntKind.u64.wrap ((ocnt L e.node a t : Int) + 1) = (ocnt L e.node a t : Int) + 1 := by rw [IntKind.wrap_u64]; omega
                  have HE6 := Lib.hid (HE5.out.keep KR.out)
                  have K6 := Lib.hid (K5.out.step KR.out)
                  clear hti HOC2
                  cases hnn : (e.n != (ocnt L e.node a t : Int) + 1)
                  · have hnn2 : e.n = (ocnt L e.node a t : Int) + 1 := by simpa using hnn
                    have HVE3 : Hid (oErr L k = if oclash L e k then 4 else 0) := Lib.hid (by rw [HVE2.out, HN1.out, if_neg (by simp [hnn2])])
                    clear hnn2 HVE2 HN1
                    have e0 := HE6.out.c0
                    have e1 := HE6.out.c1
                    have e2 := HE6.out.c2
                    have e3 := HE6.out.c3
                    have e4 := HE6.out.c4
                    have e5 := HE6.out.c5
                    have e6 := HE6.out.c6
                    have e7 := HE6.out.c7
                    have e8 := HE6.out.c8
                    go_wp2_with fail
                    clear e0 e1 e2 e3 e4 e5 e6 e7 e8 hnn wn
                    go_loopg [7] k (fun q v7 wr => ∃ (j : Nat), j + q = k ∧ v7 = .int .i64 j ∧ Hid (oclash L e j = false) ∧ Keep (fun _ => False) wk wr)
                    case atStart => exact ⟨0, by omega, rfl, Lib.hid rfl, Keep.refl _ _⟩
                    case round =>
                      obtain ⟨j, hq, rfl, HCL, hK⟩ := hrel
                      have HQJ := Lib.hid hq
                      have KJ := Lib.hid hK
                      clear hq hK
                      obtain ⟨wj, hwj⟩ : ∃ wj : World, wj = wr := ⟨_, rfl⟩
                      rw [← hwj] at KJ ⊢
                      clear hwj
                      by_cases hjk : j < k
                      · have d1 : decide ((j : Int) < (k : Int)) = true := decide_eq_true (by omega)
                        have d2 : (j : Int) < (k : Int) := by omega
                        have wj1 : IntKind.i64.wrap ((j : Int) + 1) = (j : Int) + 1 := IntWalk.i64_in _ (by omega)
                        have jl : j < L.length := by omega
                        have jl2 : (j : Int) < (L.length : Int) := by omega
                        have j0 : (0 : Int) ≤ (j : Int) := by omega
                        have HF := Lib.hid ((HL.out.keep (K6.out.step KJ.out)).ec j jl)
                        have HEJ := Lib.hid (HE6.out.keep KJ.out)
                        have HC1 := Lib.hid (oclash_succ L e j)
                        generalize L.getD j default = f at HF HC1
                        have MFA : Hid (∀ W, Keep (fun _ => False) wj W → Calls Try.prog 42 #[entV f] W (fun r W' => r = .returned (.bool f.dlv) ∧ Keep (fun _ => False) wj W')) := Lib.hid (dlv_in (w0 := wj) (e := f) rfl)
                        simp only [entV_eq] at MFA
                        cases hfd : f.dlv
                        · rw [hfd] at MFA
                          have HUc : Hid (oclash L e (j + 1) = false) := Lib.hid (by rw [HC1.out, hfd, HCL.out]; simp)
                          clear hfd HC1
                          go_wp2_with fail
                          refine wp_region_quiet (C := fun W => Keep (fun _ => False) wj W) (by kernel_rfl) (by kernel_rfl) ((Keep.refl _ wj).drew) ?_
                          refine hq_start ?_
                          repeat (refine hq_step (fun K hK => ?_); go_simp; first | (refine quiet_val (hK _ ?_); clear hK K) | (with_reducible refine quiet_call MFA.out (hK _ ?_); clear hK K) | (refine hK _ ?_; clear hK K) | (apply Exists.intro; refine ⟨fun W hW => ?_, hK _ ?_⟩; (have q0 := (HF.out.keep hW).c0; have q1 := (HF.out.keep hW).c1; have q2 := (HF.out.keep hW).c2; have q3 := (HF.out.keep hW).c3; have q4 := (HF.out.keep hW).c4; have q5 := (HF.out.keep hW).c5; have q6 := (HF.out.keep hW).c6; have q7 := (HF.out.keep hW).c7; have q8 := (HF.out.keep hW).c8; have q9 := (HEJ.out.keep hW).c0; have q10 := (HEJ.out.keep hW).c1; have q11 := (HEJ.out.keep hW).c2; have q12 := (HEJ.out.keep hW).c3; have q13 := (HEJ.out.keep hW).c4; have q14 := (HEJ.out.keep hW).c5; have q15 := (HEJ.out.keep hW).c6; have q16 := (HEJ.out.keep hW).c7; have q17 := (HEJ.out.keep hW).c8; go_simp; exact rfl); clear hK K))
                          refine hq_nil ?_
                          intro W hW
                          have HW := Lib.hid (KJ.out.step hW)
                          clear hW
                          go_wp2_with fail
                          go_roundg (k - (j + 1))
                          case measure => have := HQJ.out; omega
                          case rel => exact ⟨j + 1, by omega, by go_num, HUc, HW.out⟩
                        · rw [hfd] at MFA
                          cases hf1 : (f.id == e.id)
                          · have HUc : Hid (oclash L e (j + 1) = false) := Lib.hid (by rw [HC1.out, hf1, HCL.out]; simp)
                            clear hfd HC1
                            go_wp2_with fail
                            refine wp_region_quiet (C := fun W => Keep (fun _ => False) wj W) (by kernel_rfl) (by kernel_rfl) ((Keep.refl _ wj).drew) ?_
                            refine hq_start ?_
                            repeat (refine hq_step (fun K hK => ?_); go_simp; first | (refine quiet_val (hK _ ?_); clear hK K) | (with_reducible refine quiet_call MFA.out (hK _ ?_); clear hK K) | (refine hK _ ?_; clear hK K) | (apply Exists.intro; refine ⟨fun W hW => ?_, hK _ ?_⟩; (have q0 := (HF.out.keep hW).c0; have q1 := (HF.out.keep hW).c1; have q2 := (HF.out.keep hW).c2; have q3 := (HF.out.keep hW).c3; have q4 := (HF.out.keep hW).c4; have q5 := (HF.out.keep hW).c5; have q6 := (HF.out.keep hW).c6; have q7 := (HF.out.keep hW).c7; have q8 := (HF.out.keep hW).c8; have q9 := (HEJ.out.keep hW).c0; have q10 := (HEJ.out.keep hW).c1; have q11 := (HEJ.out.keep hW).c2; have q12 := (HEJ.out.keep hW).c3; have q13 := (HEJ.out.keep hW).c4; have q14 := (HEJ.out.keep hW).c5; have q15 := (HEJ.out.keep hW).c6; have q16 := (HEJ.out.keep hW).c7; have q17 := (HEJ.out.keep hW).c8; go_simp; exact rfl); clear hK K))
                            refine hq_nil ?_
                            intro W hW
                            have HW := Lib.hid (KJ.out.step hW)
                            clear hW
                            go_wp2_with fail
                            go_roundg (k - (j + 1))
                            case measure => have := HQJ.out; omega
                            case rel => exact ⟨j + 1, by omega, by go_num, HUc, HW.out⟩
                          · cases hf2 : (f.n == e.n)
                            · have HUc : Hid (oclash L e (j + 1) = false) := Lib.hid (by rw [HC1.out, hf2, HCL.out]; simp)
                              clear hfd HC1
                              go_wp2_with fail
                              refine wp_region_quiet (C := fun W => Keep (fun _ => False) wj W) (by kernel_rfl) (by kernel_rfl) ((Keep.refl _ wj).drew) ?_
                              refine hq_start ?_
                              repeat (refine hq_step (fun K hK => ?_); go_simp; first | (refine quiet_val (hK _ ?_); clear hK K) | (with_reducible refine quiet_call MFA.out (hK _ ?_); clear hK K) | (refine hK _ ?_; clear hK K) | (apply Exists.intro; refine ⟨fun W hW => ?_, hK _ ?_⟩; (have q0 := (HF.out.keep hW).c0; have q1 := (HF.out.keep hW).c1; have q2 := (HF.out.keep hW).c2; have q3 := (HF.out.keep hW).c3; have q4 := (HF.out.keep hW).c4; have q5 := (HF.out.keep hW).c5; have q6 := (HF.out.keep hW).c6; have q7 := (HF.out.keep hW).c7; have q8 := (HF.out.keep hW).c8; have q9 := (HEJ.out.keep hW).c0; have q10 := (HEJ.out.keep hW).c1; have q11 := (HEJ.out.keep hW).c2; have q12 := (HEJ.out.keep hW).c3; have q13 := (HEJ.out.keep hW).c4; have q14 := (HEJ.out.keep hW).c5; have q15 := (HEJ.out.keep hW).c6; have q16 := (HEJ.out.keep hW).c7; have q17 := (HEJ.out.keep hW).c8; go_simp; exact rfl); clear hK K))
                              refine hq_nil ?_
                              intro W hW
                              have HW := Lib.hid (KJ.out.step hW)
                              clear hW
                              go_wp2_with fail
                              go_roundg (k - (j + 1))
                              case measure => have := HQJ.out; omega
                              case rel => exact ⟨j + 1, by omega, by go_num, HUc, HW.out⟩
                            · cases hf3 : decide (f.m = e.m)
                              · have HUc : Hid (oclash L e (j + 1) = true) := Lib.hid (by rw [HC1.out, hfd, hf1, hf2, hf3]; simp)
                                have HU : Hid (refO L = 4) := Lib.hid (by rw [HS.out, HVE3.out, oclash_mono L e (j + 1) HUc.out k (by omega)]; simp)
                                have hnq := neq38_in hf3
                                clear hfd HC1
                                go_wp2_with fail
                                refine wp_region_quiet (C := fun W => Keep (fun _ => False) wj W) (by kernel_rfl) (by kernel_rfl) ((Keep.refl _ wj).drew) ?_
                                refine hq_start ?_
                                repeat (refine hq_step (fun K hK => ?_); go_simp; first | (refine quiet_val (hK _ ?_); clear hK K) | (with_reducible refine quiet_call MFA.out (hK _ ?_); clear hK K) | (refine hK _ ?_; clear hK K) | (apply Exists.intro; refine ⟨fun W hW => ?_, hK _ ?_⟩; (have q0 := (HF.out.keep hW).c0; have q1 := (HF.out.keep hW).c1; have q2 := (HF.out.keep hW).c2; have q3 := (HF.out.keep hW).c3; have q4 := (HF.out.keep hW).c4; have q5 := (HF.out.keep hW).c5; have q6 := (HF.out.keep hW).c6; have q7 := (HF.out.keep hW).c7; have q8 := (HF.out.keep hW).c8; have q9 := (HEJ.out.keep hW).c0; have q10 := (HEJ.out.keep hW).c1; have q11 := (HEJ.out.keep hW).c2; have q12 := (HEJ.out.keep hW).c3; have q13 := (HEJ.out.keep hW).c4; have q14 := (HEJ.out.keep hW).c5; have q15 := (HEJ.out.keep hW).c6; have q16 := (HEJ.out.keep hW).c7; have q17 := (HEJ.out.keep hW).c8; go_simp; exact rfl); clear hK K))
                                refine hq_nil ?_
                                intro W hW
                                have HW := Lib.hid (KJ.out.step hW)
                                clear hW
                                go_wp2_with fail
                                go_ret
                                exact ⟨by rw [HU.out]; rfl, K6.out.step HW.out⟩
                              · have HUc : Hid (oclash L e (j + 1) = false) := Lib.hid (by rw [HC1.out, hf3, HCL.out]; simp)
                                have hnq := neq38_in hf3
                                clear hfd HC1
                                go_wp2_with fail
                                refine wp_region_quiet (C := fun W => Keep (fun _ => False) wj W) (by kernel_rfl) (by kernel_rfl) ((Keep.refl _ wj).drew) ?_
                                refine hq_start ?_
                                repeat (refine hq_step (fun K hK => ?_); go_simp; first | (refine quiet_val (hK _ ?_); clear hK K) | (with_reducible refine quiet_call MFA.out (hK _ ?_); clear hK K) | (refine hK _ ?_; clear hK K) | (apply Exists.intro; refine ⟨fun W hW => ?_, hK _ ?_⟩; (have q0 := (HF.out.keep hW).c0; have q1 := (HF.out.keep hW).c1; have q2 := (HF.out.keep hW).c2; have q3 := (HF.out.keep hW).c3; have q4 := (HF.out.keep hW).c4; have q5 := (HF.out.keep hW).c5; have q6 := (HF.out.keep hW).c6; have q7 := (HF.out.keep hW).c7; have q8 := (HF.out.keep hW).c8; have q9 := (HEJ.out.keep hW).c0; have q10 := (HEJ.out.keep hW).c1; have q11 := (HEJ.out.keep hW).c2; have q12 := (HEJ.out.keep hW).c3; have q13 := (HEJ.out.keep hW).c4; have q14 := (HEJ.out.keep hW).c5; have q15 := (HEJ.out.keep hW).c6; have q16 := (HEJ.out.keep hW).c7; have q17 := (HEJ.out.keep hW).c8; go_simp; exact rfl); clear hK K))
                                refine hq_nil ?_
                                intro W hW
                                have HW := Lib.hid (KJ.out.step hW)
                                clear hW
                                go_wp2_with fail
                                go_roundg (k - (j + 1))
                                case measure => have := HQJ.out; omega
                                case rel => exact ⟨j + 1, by omega, by go_num, HUc, HW.out⟩
                      · have hjk2 : j = k := by have := HQJ.out; omega
                        subst hjk2
                        have dj : decide ((j : Int) < (j : Int)) = false := decide_eq_false (by omega)
                        have HU : Hid (refO L = firstE (oErr L) (L.length - (j + 1)) (j + 1)) := Lib.hid (by rw [HS.out, HVE3.out, HCL.out]; simp)
                        go_wp2_with fail
                        go_roundg (L.length - (j + 1))
                        case measure => have := HQ0.out; omega
                        case rel => exact ⟨j + 1, by omega, by go_num, HU, K6.out.step KJ.out⟩
                  · have hnn2 : e.n ≠ (ocnt L e.node a t : Int) + 1 := by simpa using hnn
                    have HU : Hid (refO L = 5) := Lib.hid (by rw [HS.out, HVE2.out, HN1.out, if_pos hnn2]; simp)
                    clear hnn2 HVE2 HN1
                    have e0 := HE6.out.c0
                    have e1 := HE6.out.c1
                    have e2 := HE6.out.c2
                    have e3 := HE6.out.c3
                    have e4 := HE6.out.c4
                    have e5 := HE6.out.c5
                    have e6 := HE6.out.c6
                    have e7 := HE6.out.c7
                    have e8 := HE6.out.c8
                    go_wp2_with fail
                    go_ret
                    exact ⟨by rw [HU.out]; rfl, K6.out⟩
          · have HU : Hid (refO L = 5) := Lib.hid (by rw [HS.out, HVE1.out, hb]; simp)
            clear hb
            go_wp2_with fail
            go_ret
            exact ⟨by rw [HU.out]; rfl, K5.out⟩
    · have hk : L.length - i = 0 := by have := HQ0.out; omega
      have HU : Hid (refO L = 0) := Lib.hid (by rw [HV.out, hk]; rfl)
      have kl2 : ¬ (i : Int) < (L.length : Int) := by omega
      have d1 : decide ((i : Int) < (L.length : Int)) = false := decide_eq_false kl2
      clear hk HV
      go_wp2_with fail
      go_ret
      exact ⟨by rw [HU.out]; rfl, HK.out⟩
end Go.Proofs.Ytjihimapopbdpaa
