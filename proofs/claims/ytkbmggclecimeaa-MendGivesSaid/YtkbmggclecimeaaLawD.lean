/- The law SpanReach, walked. -/
import Derived.Test.YtkbmggclecimeaaFirst
import Derived.Deep.QuietTactic
namespace Go.Proofs.Ytkbmggclecimeaa
open Go.RowKit Sh
set_option linter.unusedVariables false

theorem reach_set {w : World} {v : Value} {K : Int → Bool} (h : IsSet w v K) (s : Small K) (n : Int) (n0 : 0 ≤ n) (n1 : n ≤ 255) :
    Calls Try.prog 39 #[v, .int .u64 n] w fun e w' => (∃ r, e = .returned (.int .u64 r) ∧ n ≤ r ∧ r ≤ 255 ∧ K (r + 1) = false ∧ ∀ i, n < i → i ≤ r → K i = true) ∧ Keep (fun _ => False) w w' := by
  obtain ⟨l, h1, h2, h3, h4⟩ := h.ex
  refine (reach_span v l n w h1 h3 n0 (by omega)).mono ?_
  rintro e w' ⟨⟨r, rfl, hr⟩, hk⟩
  refine ⟨⟨r, rfl, ?_⟩, hk⟩
  rcases hr with ⟨hn, _⟩ | ⟨_, k, hkl, g1, g2, rfl⟩ | ⟨_, hm, rfl⟩
  · exact absurd h2 hn
  · have ho := h2 k hkl
    have hmk : ∀ i, (sp l k).f ≤ i → i ≤ (sp l k).t → K i = true := fun i a b => by rw [← h4, memB_iff]; exact ⟨k, hkl, a, b⟩
    have := s _ (hmk (sp l k).t ho.1 (by omega))
    refine ⟨by omega, by omega, ?_, fun i a b => hmk i (by omega) b⟩
    rw [← h4, memB_false]
    rintro ⟨j, hj, m1, m2⟩
    by_cases e : j = k
    · subst e; omega
    · by_cases c : j < k
      · have := h2.rise j k c hkl; omega
      · have := h2.rise k j (by omega) hj; omega
  · exact ⟨by omega, n1, by rw [← h4, memB_false]; exact hm, fun i a b => by omega⟩
theorem manyL_set {l : List Sp} (h2 : Ok l) (h3 : Rng l) {K : Int → Bool} (h4 : ∀ x, memB l x = K x) (s : Small K) : cnt l l.length = cK K 256 := by
  rw [← cK_congr h4, cK_ov h2 h3, ov_all h2]
  intro k hk
  exact s _ (by rw [← h4, memB_iff]; exact ⟨k, hk, (h2 k hk).1, by omega⟩)
theorem first_set {w : World} {v : Value} {K : Int → Bool} (h : IsSet w v K) (s : Small K) (n : Int) (n0 : 0 ≤ n) (n1 : n ≤ 255) :
    Calls Try.prog 41 #[v, .int .u64 n] w fun e w' => (∃ u F B, e = .returned u ∧ IsL w' u F ∧ Ok F ∧ Rng F ∧ (∀ z, memB F z = (K z && decide (z < B))) ∧ cnt F F.length = min n (cK K 256)) ∧ Keep (fun _ => False) w w' := by
  obtain ⟨l, h1, h2, h3, h4⟩ := h.ex
  refine (first_any v l n w h1 h3 h2 n0 n1 (len_small h2 h3 h4 s)).mono ?_
  rintro e w' ⟨⟨u, F, rfl, g1, g2, g3, ⟨B, g4⟩, g5⟩, hk⟩
  exact ⟨⟨u, F, B, rfl, g1, g2, g3, fun z => by rw [g4, h4], by rw [g5, manyL_set h2 h3 h4 s]⟩, hk⟩

structure Box (p : Prop) : Prop where
  out : p
theorem hq_step {P : Program} {ops : Array Oper} {C : World → Prop} {Q : Act → Prop} {a : Act} {o : Oper} {rest : List Oper} (h : ∀ K : Act → Prop, (∀ a, Box (wpQuiet P ops C Q rest a) → K a) → if Region.wanted o (yielded ops a.tmps) then o.quiet P a C K else K (a.put o.dst undef)) : Box (wpQuiet P ops C Q (o :: rest) a) := ⟨wpQuiet_step fun K hK => h K fun a h => hK a h.out⟩
theorem hq_nil {P : Program} {ops : Array Oper} {C : World → Prop} {Q : Act → Prop} {a : Act} (h : Q a) : Box (wpQuiet P ops C Q [] a) := ⟨wpQuiet_nil h⟩
theorem hq_start {p : Prop} (h : Box p) : p := h.out
theorem quiet_val {C : World → Prop} {u : Value} {K : Value → Prop} (h : K u) : ∃ v, (∀ w, C w → u = v) ∧ K v := ⟨u, fun _ _ => rfl, h⟩
theorem quiet_call {C : World → Prop} {P : Program} {f : Nat} {args : Array Value} {u : Value} {K : Value → Prop} (hc : ∀ w, C w → Calls P f args w (fun e w'' => e = .returned u ∧ C w'')) (h : K u) : ∃ v, (∀ w, C w → Calls P f args w (fun e w'' => e = .returned v ∧ C w'')) ∧ K v := ⟨u, hc, h⟩

set_option maxRecDepth 100000 in
set_option maxHeartbeats 4000000 in
theorem reach_law {w : World} {va : Value} {a : List Int} (ha : IsB w va a) (fr n : Int) (f0 : 0 ≤ fr) (f1 : fr ≤ 255) (n0 : 0 ≤ n) (n1 : n ≤ 255) :
    Calls Try.prog 10 #[va, .int .u8 fr, .int .u8 n] w fun e w' => e = .returned (.bool true) ∧ Keep (fun _ => False) w w' := by
  have HA := Lib.hid ha
  have SA := Lib.hid (KB_small ha)
  obtain ⟨A, ca, rfl, _, _, _⟩ := ha.ex
  clear ha
  by_cases hs : a.length ≤ 100
  · have d1 : decide ((100 : Int) < (a.length : Int)) = false := by simp; omega
    have g1 : ¬ (100 : Int) < (a.length : Int) := by omega
    clear hs
    go_enter Try.func10, Try.ntmps10
    go_wp2_with fail
    refine (shown12 w).mono ?_
    rintro e w1 ⟨rfl, hk1⟩
    have HK1 := Lib.hid hk1
    clear hk1 d1 g1
    go_wp2_with fail
    refine (made_set (HA.out.keep HK1.out)).mono ?_
    rintro e w2 ⟨⟨x, rfl, hx⟩, hk2⟩
    have HK2 := Lib.hid (HK1.out.step hk2)
    have HX := Lib.hid hx
    clear hk2 hx
    go_wp2_with fail
    refine (reach_set HX.out SA.out fr f0 f1).mono ?_
    rintro e w3 ⟨⟨r, rfl, r0, r1, hr, hir⟩, hk3⟩
    have HK3 := Lib.hid (HK2.out.step hk3)
    have HX3 := Lib.hid (HX.out.keep hk3)
    have HRF := Lib.hid hr
    have HIR := Lib.hid hir
    clear hk3 hr hir HX
    have e1 : IntKind.u64.wrap (fr + 1) = fr + 1 := by rw [IntKind.wrap_u64]; omega
    go_wp2_with fail
    clear e1
    go_loopg [9] (299 - fr).toNat (fun q v9 wr => ∃ i : Int, v9 = .int .u64 i ∧ fr < i ∧ i ≤ r + 1 ∧ (q : Int) = 300 - i ∧ wr = w3)
    case atStart => exact ⟨fr + 1, rfl, by omega, by omega, by omega, rfl⟩
    case round =>
      obtain ⟨i, rfl, i0, i1, hq, rfl⟩ := hrel
      have HQ := Lib.hid hq
      clear hq
      by_cases hlt : i ≤ r
      · have e1 : IntKind.u64.wrap (i + 1) = i + 1 := by rw [IntKind.wrap_u64]; omega
        have e2 : IntKind.i64.wrap i = i := IntWalk.i64_in _ (by omega)
        have h3 : i < 300 := by omega
        go_wp2_with fail
        refine (in_any _ a i _ (HA.out.keep HK3.out)).mono ?_
        rintro e w9 ⟨rfl, rfl⟩
        have e3 : decide (i ∈ a) = true := HIR.out i i0 hlt
        rw [e3]
        clear e3
        go_wp2
        go_roundg (300 - (i + 1)).toNat
        case measure => have := HQ.out; omega
        case rel => exact ⟨i + 1, by go_num, by omega, by omega, by have := HQ.out; omega, rfl⟩
      · obtain rfl : i = r + 1 := by omega
        have hz : ¬ r + 1 ≤ r := by omega
        go_wp2_with fail
        refine (first_set HX3.out SA.out n n0 n1).mono ?_
        rintro e w4 ⟨⟨u, F, B, rfl, hF, hFO, hFR, hFm, hFc⟩, hk4⟩
        have HF := Lib.hid hF
        have HFO := Lib.hid hFO
        have HFR := Lib.hid hFR
        have HFM := Lib.hid hFm
        have HFC := Lib.hid hFc
        have HFS := Lib.hid (show IsSet w4 u (fun z => KB a z && decide (z < B)) from ⟨F, hF, hFO, hFR, hFm⟩)
        have SF : Hid (Small (fun z => KB a z && decide (z < B))) := fun z hz => SA.out z (by simp at hz; exact hz.1)
        have HX4 := Lib.hid (HX3.out.keep hk4)
        have HK4 := Lib.hid (HK3.out.step hk4)
        clear hF hFO hFR hFm hFc hk4 HX3
        go_wp2_with fail
        refine (minus_set HX4.out HFS.out SA.out SF.out).mono ?_
        rintro e w5 ⟨⟨v, rfl, hv⟩, hk5⟩
        have HX5 := Lib.hid (HX4.out.keep hk5)
        have HFS5 := Lib.hid (HFS.out.keep hk5)
        have HF5 := Lib.hid (HF.out.keep hk5)
        have HK5 := Lib.hid (HK4.out.step hk5)
        have HV := Lib.hid hv
        clear hk5 hv HX4 HFS HF HK3 HK4
        go_upto_region 12 with fail
        go_cut [81] (fun z wx => z = .bool false ∧ Keep (fun _ => False) w5 wx)
        case first =>
          obtain ⟨L, hL, hLO, hLR, hLm⟩ := HV.out.ex
          obtain ⟨X, hX, hXO, hXR, hXm⟩ := HX5.out.ex
          have hcx := manyL_set hXO hXR hXm SA.out
          have hmF : manyL F = cnt F F.length := by rw [manyL, if_pos (okB_true HFO.out)]
          have hmX : manyL X = cnt X X.length := by rw [manyL, if_pos (okB_true hXO)]
          have hfc := HFC.out
          rw [← hcx, ← hmX, ← hmF] at hfc
          have MF : Hid (∀ W, Keep (fun _ => False) w5 W → Calls Try.prog 34 #[u] W fun e w' => e = .returned (.int .u64 (manyL F)) ∧ Keep (fun _ => False) w5 w') := fun W k => (many_any u F W (HF5.out.keep k) HFR.out).mono fun e w' h => ⟨h.1, k.step h.2⟩
          have MX : Hid (∀ W, Keep (fun _ => False) w5 W → Calls Try.prog 34 #[x] W fun e w' => e = .returned (.int .u64 (manyL X)) ∧ Keep (fun _ => False) w5 w') := fun W k => (many_any x X W (hX.keep k) hXR).mono fun e w' h => ⟨h.1, k.step h.2⟩
          obtain ⟨cf, hcf⟩ : ∃ c, c = manyL F := ⟨_, rfl⟩
          obtain ⟨cx, hcx'⟩ : ∃ c, c = manyL X := ⟨_, rfl⟩
          rw [← hcf, ← hcx'] at hfc
          rw [← hcf] at MF
          rw [← hcx'] at MX
          clear hcx hmF hmX hcf hcx' hX hXO hXR hXm
          obtain ⟨AF, cpF, rfl, _, hFl, hFc⟩ := HF5.out.ex
          obtain ⟨AL, cpL, rfl, _, hLl, hLc⟩ := hL.ex
          have HFCe := Lib.hid hFc
          have HLC := Lib.hid hLc
          have HLM := Lib.hid hLm
          have HLO := Lib.hid hLO
          clear hFc hLc hLm hLO hLR hL
          by_cases hF0 : F.length = 0
          · have z1 : decide ((0 : Int) < (F.length : Int)) = false := decide_eq_false (by omega)
            have z2 : ¬ (0 : Int) < (F.length : Int) := by omega
            have n2 : ¬ 0 < F.length := by omega
            have n3 : decide (0 < F.length) = false := decide_eq_false (by omega)
            clear hF0
            by_cases hm : n ≤ cx
            · have e6 : min n cx = n := Int.min_eq_left hm
              have hcn : cf = n := by rw [hfc]; exact e6
              subst hcn
              have hm2 : ¬ cx < cf := by omega
              have hw : IntKind.u64.wrap cf = cf := by rw [IntKind.wrap_u64]; omega
              clear hfc
              refine wp_region_quiet (C := fun W => Keep (fun _ => False) w5 W) (by kernel_rfl) (by kernel_rfl) ((Keep.refl _ w5).drew) ?_
              refine hq_start ?_
              repeat (refine hq_step (fun K hK => ?_); go_simp; first | (refine quiet_val (hK _ ?_); clear hK K) | (with_reducible refine quiet_call MF.out (hK _ ?_); clear hK K) | (with_reducible refine quiet_call MX.out (hK _ ?_); clear hK K) | (refine hK _ ?_; clear hK K))
              refine hq_nil ?_
              intro w6 hk6
              go_wp2
              go_meet
              exact ⟨rfl, hk6⟩
            · have e6 : min n cx = cx := Int.min_eq_right (by omega)
              have hcn : cf = cx := by rw [hfc]; exact e6
              have hm' : cx < n := by omega
              subst hcn
              have hw : IntKind.u64.wrap n = n := by rw [IntKind.wrap_u64]; omega
              clear hfc
              refine wp_region_quiet (C := fun W => Keep (fun _ => False) w5 W) (by kernel_rfl) (by kernel_rfl) ((Keep.refl _ w5).drew) ?_
              refine hq_start ?_
              repeat (refine hq_step (fun K hK => ?_); go_simp; first | (refine quiet_val (hK _ ?_); clear hK K) | (with_reducible refine quiet_call MF.out (hK _ ?_); clear hK K) | (with_reducible refine quiet_call MX.out (hK _ ?_); clear hK K) | (refine hK _ ?_; clear hK K))
              refine hq_nil ?_
              intro w6 hk6
              go_wp2
              go_meet
              exact ⟨rfl, hk6⟩
          · have z1 : decide ((0 : Int) < (F.length : Int)) = true := decide_eq_true (by omega)
            have z2 : (0 : Int) < (F.length : Int) := by omega
            have n2 : 0 < F.length := by omega
            have n3 : decide (0 < F.length) = true := decide_eq_true (by omega)
            by_cases hL0 : L.length = 0
            · have z3 : decide ((0 : Int) < (L.length : Int)) = false := decide_eq_false (by omega)
              have z4 : ¬ (0 : Int) < (L.length : Int) := by omega
              have n4 : ¬ 0 < L.length := by omega
              have n5 : decide (0 < L.length) = false := decide_eq_false (by omega)
              clear hL0 hF0
              by_cases hm : n ≤ cx
              · have e6 : min n cx = n := Int.min_eq_left hm
                have hcn : cf = n := by rw [hfc]; exact e6
                subst hcn
                have hm2 : ¬ cx < cf := by omega
                have hw : IntKind.u64.wrap cf = cf := by rw [IntKind.wrap_u64]; omega
                clear hfc
                refine wp_region_quiet (C := fun W => Keep (fun _ => False) w5 W) (by kernel_rfl) (by kernel_rfl) ((Keep.refl _ w5).drew) ?_
                refine hq_start ?_
                repeat (refine hq_step (fun K hK => ?_); go_simp; first | (refine quiet_val (hK _ ?_); clear hK K) | (with_reducible refine quiet_call MF.out (hK _ ?_); clear hK K) | (with_reducible refine quiet_call MX.out (hK _ ?_); clear hK K) | (refine hK _ ?_; clear hK K))
                refine hq_nil ?_
                intro w6 hk6
                go_wp2
                go_meet
                exact ⟨rfl, hk6⟩
              · have e6 : min n cx = cx := Int.min_eq_right (by omega)
                have hcn : cf = cx := by rw [hfc]; exact e6
                have hm' : cx < n := by omega
                subst hcn
                have hw : IntKind.u64.wrap n = n := by rw [IntKind.wrap_u64]; omega
                clear hfc
                refine wp_region_quiet (C := fun W => Keep (fun _ => False) w5 W) (by kernel_rfl) (by kernel_rfl) ((Keep.refl _ w5).drew) ?_
                refine hq_start ?_
                repeat (refine hq_step (fun K hK => ?_); go_simp; first | (refine quiet_val (hK _ ?_); clear hK K) | (with_reducible refine quiet_call MF.out (hK _ ?_); clear hK K) | (with_reducible refine quiet_call MX.out (hK _ ?_); clear hK K) | (refine hK _ ?_; clear hK K))
                refine hq_nil ?_
                intro w6 hk6
                go_wp2
                go_meet
                exact ⟨rfl, hk6⟩
            · have z3 : decide ((0 : Int) < (L.length : Int)) = true := decide_eq_true (by omega)
              have z4 : (0 : Int) < (L.length : Int) := by omega
              have n4 : 0 < L.length := by omega
              have n5 : decide (0 < L.length) = true := decide_eq_true (by omega)
              obtain ⟨gF, oF, rfl, hFcc⟩ := HFCe.out (by omega)
              obtain ⟨gL, oL, rfl, hLcc⟩ := HLC.out (by omega)
              obtain ⟨m, hm0⟩ : ∃ m, F.length = m + 1 := ⟨F.length - 1, by omega⟩
              have c0 := (hFcc m (by omega)).2
              have c1 := (hLcc 0 (by omega)).1
              simp only [Nat.zero_mul, Nat.add_zero] at c1
              have hgt : (sp F m).t < (sp L 0).f := by
                have h1 := (HFM.out (sp F m).t)
                rw [memB_iff.2 ⟨m, by omega, (HFO.out m (by omega)).1, by omega⟩] at h1
                have h2 := HLM.out (sp L 0).f
                rw [memB_iff.2 ⟨0, by omega, by omega, (HLO.out 0 (by omega)).1⟩] at h2
                simp at h1 h2
                rcases h2.2 with g | g
                · rw [h2.1] at g; cases g
                · omega
              obtain ⟨ft, hft⟩ : ∃ t, t = (sp F m).t := ⟨_, rfl⟩
              obtain ⟨lf, hlf⟩ : ∃ t, t = (sp L 0).f := ⟨_, rfl⟩
              rw [← hft] at c0 hgt
              rw [← hlf] at c1 hgt
              have C0 := Lib.hid c0
              have C1 := Lib.hid c1
              have k1 : decide (lf ≤ ft) = false := decide_eq_false (by omega)
              have k2 : ¬ lf ≤ ft := by omega
              have k3 : IntKind.i64.wrap ((F.length : Int) - 1) = (m : Int) := by rw [hm0]; exact (IntWalk.i64_in _ (by omega)).trans (by omega)
              have k4 : (m : Int) < (F.length : Int) := by omega
              have k5 : 0 ≤ (m : Int) := by omega
              have k6 : m < F.length := by omega
              clear hL0 hF0 c0 c1 hft hlf hFcc hLcc hm0
              by_cases hm : n ≤ cx
              · have e6 : min n cx = n := Int.min_eq_left hm
                have hcn : cf = n := by rw [hfc]; exact e6
                subst hcn
                have hm2 : ¬ cx < cf := by omega
                have hw : IntKind.u64.wrap cf = cf := by rw [IntKind.wrap_u64]; omega
                clear hfc
                refine wp_region_quiet (C := fun W => Keep (fun _ => False) w5 W) (by kernel_rfl) (by kernel_rfl) ((Keep.refl _ w5).drew) ?_
                refine hq_start ?_
                repeat (refine hq_step (fun K hK => ?_); go_simp; first | (refine quiet_val (hK _ ?_); clear hK K) | (with_reducible refine quiet_call MF.out (hK _ ?_); clear hK K) | (with_reducible refine quiet_call MX.out (hK _ ?_); clear hK K) | (refine hK _ ?_; clear hK K) | (apply Exists.intro; refine ⟨fun W hW => ?_, hK _ ?_⟩; (have c0 := hW.cell C0.out; have c1 := hW.cell C1.out; go_simp; exact rfl); clear hK K))
                refine hq_nil ?_
                intro w6 hk6
                go_wp2
                go_meet
                exact ⟨rfl, hk6⟩
              · have e6 : min n cx = cx := Int.min_eq_right (by omega)
                have hcn : cf = cx := by rw [hfc]; exact e6
                have hm' : cx < n := by omega
                subst hcn
                have hw : IntKind.u64.wrap n = n := by rw [IntKind.wrap_u64]; omega
                clear hfc
                refine wp_region_quiet (C := fun W => Keep (fun _ => False) w5 W) (by kernel_rfl) (by kernel_rfl) ((Keep.refl _ w5).drew) ?_
                refine hq_start ?_
                repeat (refine hq_step (fun K hK => ?_); go_simp; first | (refine quiet_val (hK _ ?_); clear hK K) | (with_reducible refine quiet_call MF.out (hK _ ?_); clear hK K) | (with_reducible refine quiet_call MX.out (hK _ ?_); clear hK K) | (refine hK _ ?_; clear hK K) | (apply Exists.intro; refine ⟨fun W hW => ?_, hK _ ?_⟩; (have c0 := hW.cell C0.out; have c1 := hW.cell C1.out; go_simp; exact rfl); clear hK K))
                refine hq_nil ?_
                intro w6 hk6
                go_wp2
                go_meet
                exact ⟨rfl, hk6⟩
        case rest =>
          obtain ⟨rfl, hk6⟩ := hcut
          have HK6 := Lib.hid hk6
          have hrr := HRF.out
          have e3 : decide (r + 1 ∈ a) = false := hrr
          have E3 := Lib.hid e3
          have e4 : IntKind.i64.wrap r = r := IntWalk.i64_in _ (by omega)
          have e5 : IntKind.i64.wrap (r + 1) = r + 1 := IntWalk.i64_in _ (by omega)
          have e6 : decide (fr ≤ r) = true := decide_eq_true r0
          clear hk6 hrr e3
          go_wp2_with fail
          refine (in_any _ a (r + 1) _ (HA.out.keep (HK5.out.step HK6.out))).mono ?_
          rintro e w7 ⟨rfl, rfl⟩
          rw [E3.out]
          go_wp2_with fail
          refine (join_set (HFS5.out.keep HK6.out) (HV.out.keep HK6.out) SF.out (SA.out.minus _)).mono ?_
          rintro e w8 ⟨⟨j, rfl, hj⟩, hk8⟩
          have HK8 := Lib.hid (HK6.out.step hk8)
          have HJ := Lib.hid hj
          clear hk8 hj
          go_wp2_with fail
          refine (same_set HJ.out (HX5.out.keep HK8.out) (fun z => by cases KB a z <;> cases decide (z < B) <;> rfl)).mono ?_
          rintro e w9 ⟨rfl, hk9⟩
          have HK9 := Lib.hid (HK5.out.step (HK8.out.step hk9))
          clear hk9
          go_wp2
          go_ret
          exact ⟨rfl, HK9.out⟩
  · have h1 : (100 : Int) < (a.length : Int) := by omega
    clear hs
    go_enter Try.func10, Try.ntmps10
    go_wp2_with fail
    refine (shown12 w).mono ?_
    rintro e w1 ⟨rfl, hk1⟩
    have HK1 := Lib.hid hk1
    clear hk1
    go_wp2
    go_ret
    exact ⟨rfl, HK1.out⟩

end Go.Proofs.Ytkbmggclecimeaa
