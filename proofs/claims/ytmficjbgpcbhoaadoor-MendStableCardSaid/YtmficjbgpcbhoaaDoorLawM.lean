/- MendStable: the walk of the law. -/
import Derived.Test.YtmficjbgpcbhoaaDoorStaP
import Derived.Test.YtmficjbgpcbhoaaDoorRowM
namespace Go.Proofs.YtmficjbgpcbhoaaDoor
open Go.RowKit Go.Shelf Sh
open Go.ChangeMaps (setBlock)
set_option linter.unusedVariables false

theorem tab_lt {w : World} (h : TabAt 0 tabS w) : 0 < w.heap.size := World.block_lt_of_cell? w _ (h 0 (by decide))
/-- where the filling of the map stands. -/
structure Fills (w wr : World) (B : Nat) (m : Int → Option Int) : Prop where
  fn : IsFn iV uV wr B m
  pos : ∀ k v, m k = some v → 0 ≤ v
  keep : Keep (fun _ => False) w wr
theorem any_step (L : List N63) (p : N63 → Bool) (i : Nat) (h : i < L.length) : (L.take (i + 1)).any p = ((L.take i).any p || p L[i]) := by
  rw [List.take_add_one, List.any_append, List.getElem?_eq_getElem h]
  simp

set_option maxRecDepth 100000 in
set_option maxHeartbeats 2000000 in
theorem stable_law (of : Nat) (hof : of < 18446744073709551616) {va vb : Value} {a b : List Int} {w : World} (ha : IsI .u8 255 w va a) (hb : IsI .u16 65535 w vb b) (hT : TabAt 0 tabS w) :
    Calls Tryd.prog 3 #[.int .u64 (of : Int), va, vb] w fun e w' => e = .returned (.bool true) ∧ Keep (fun _ => False) w w' := by
  have HA := Lib.hid ha
  have HB := Lib.hid hb
  have RA := Lib.hid ha.rng
  have RB := Lib.hid hb.rng
  have HT := Lib.hid hT
  obtain ⟨Aa, ca, rfl, _, _, hA⟩ := ha.ex
  obtain ⟨Ab, cb, rfl, _, _, hB⟩ := hb.ex
  have EA := Lib.hid hA
  have EB := Lib.hid hB
  clear ha hb hA hB hT
  by_cases hs : a.length ≤ 100 ∧ b.length ≤ 100
  · obtain ⟨hs1, hs2⟩ := hs
    have d1 : decide ((100 : Int) < (a.length : Int)) = false := by simp; omega
    have d2 : ¬ (100 : Int) < (a.length : Int) := by omega
    have d3 : decide ((100 : Int) < (b.length : Int)) = false := by simp; omega
    have d4 : ¬ (100 : Int) < (b.length : Int) := by omega
    have hmm := @run_makeMap Tryd.prog
    go_enter Tryd.func3, Tryd.ntmps3
    go_wp2_with fail
    refine (shown14 w).mono ?_
    rintro e w1 ⟨rfl, hk1⟩
    have F0 : Hid (Fills w (w1.alloc (.map #[] 0)) w1.heap.size (fun _ => none)) := ⟨IsFn.made w1, fun _ _ h => (nomatch h), hk1.alloc _⟩
    have SZ : Hid (w.heap.size ≤ w1.heap.size) := hk1.size
    clear hk1
    go_wp2_with fail
    clear d1 d2 d3 d4
    go_loopg [8] a.length (fun q v8 wr => ∃ (i : Nat) (m : Int → Option Int), i + q = a.length ∧ v8 = .int .i64 i ∧ Fills w wr w1.heap.size m)
    case atStart => exact ⟨0, _, by omega, rfl, F0.out⟩
    case round =>
      clear F0 hmm
      obtain ⟨i, m, hq, rfl, hF⟩ := hrel
      have HQ := Lib.hid hq
      have HF := Lib.hid hF
      clear hq hF
      obtain ⟨t, ht⟩ : ∃ t : Bool, t = decide (i < a.length ∧ i < b.length) := ⟨_, rfl⟩
      have HT2 := Lib.hid ht
      clear ht
      go_upto_region 5 with fail
      go_cut [38] (fun v38 wx => v38 = .bool t ∧ wx = wr)
      case first =>
        by_cases hl1 : i < a.length
        · have dl1 : decide ((i : Int) < (a.length : Int)) = true := decide_eq_true (by omega)
          have dl2 : (i : Int) < (a.length : Int) := by omega
          by_cases hl2 : i < b.length
          · have dl3 : decide ((i : Int) < (b.length : Int)) = true := decide_eq_true (by omega)
            have dl4 : (i : Int) < (b.length : Int) := by omega
            have TT : Hid (t = true) := Lib.hid (HT2.out.trans (decide_eq_true ⟨hl1, hl2⟩))
            clear hl1 hl2 HT2
            go_wp2_with fail
            go_meet
            exact ⟨by rw [TT.out], rfl⟩
          · have dl3 : decide ((i : Int) < (b.length : Int)) = false := decide_eq_false (by omega)
            have dl4 : ¬ (i : Int) < (b.length : Int) := by omega
            have TT : Hid (t = false) := Lib.hid (HT2.out.trans (decide_eq_false (fun h => hl2 h.2)))
            clear hl1 hl2 HT2
            go_wp2_with fail
            go_meet
            exact ⟨by rw [TT.out], rfl⟩
        · have dl1 : decide ((i : Int) < (a.length : Int)) = false := decide_eq_false (by omega)
          have dl2 : ¬ (i : Int) < (a.length : Int) := by omega
          have TT : Hid (t = false) := Lib.hid (HT2.out.trans (decide_eq_false (fun h => hl1 h.1)))
          clear hl1 HT2
          go_wp2_with fail
          go_meet
          exact ⟨by rw [TT.out], rfl⟩
      case rest =>
        obtain ⟨rfl, rfl⟩ := hcut
        obtain ⟨wr, rfl⟩ : ∃ wr : World, wr = wc := ⟨_, rfl⟩
        by_cases hlt : i < a.length ∧ i < b.length
        · have TT : Hid (t = true) := Lib.hid (HT2.out.trans (decide_eq_true hlt))
          obtain rfl := TT.out
          obtain ⟨hl1, hl2⟩ := hlt
          obtain ⟨g, o, rfl, hc⟩ := EA.out (by omega)
          obtain ⟨g2, o2, rfl, hc2⟩ := EB.out (by omega)
          have c0 := HF.out.keep.drew.cell (hc i hl1)
          have c2 := HF.out.keep.drew.cell (hc2 i hl2)
          have hr := RA.out i hl1
          have hr2 := RB.out i hl2
          obtain ⟨y, hy⟩ : ∃ y, y = a.getD i 0 := ⟨_, rfl⟩
          rw [← hy] at c0 hr
          obtain ⟨z, hz⟩ : ∃ z, z = b.getD i 0 := ⟨_, rfl⟩
          rw [← hz] at c2 hr2
          obtain ⟨y0, y1⟩ := hr
          obtain ⟨z0, z1⟩ := hr2
          have e1 : IntKind.i64.wrap y = y := by rw [IntKind.wrap_i64]; omega
          have e2 : IntKind.u64.wrap z = z := by rw [IntKind.wrap_u64]; omega
          have e3 : IntKind.i64.wrap (y.tmod 64) = y.tmod 64 := by rw [Int.tmod_eq_emod_of_nonneg y0, IntKind.wrap_i64]; omega
          have d5 : (0 : Int) ≤ (i : Int) := by omega
          clear hc hc2 hy hz
          obtain ⟨o3, hup, hfn⟩ := (HF.out.fn.keep ((Keep.refl (fun _ => False) wr).drew) id).upd key3 Tryd.underlying26 (y.tmod 64) z
          have F3 : Hid (Fills w (setBlock wr.drew w1.heap.size o3) w1.heap.size (fun b => if b = y.tmod 64 then some z else m b)) := ⟨hfn, fun k v h => by
              split at h
              · injection h with h; omega
              · exact HF.out.pos k v h, keep_setBlock HF.out.keep.drew _ o3 (fun h => absurd SZ.out (by omega))⟩
          have hup2 : (Instr.mapUpdate 26 (.map (some w1.heap.size)) (.int .i64 (y.tmod 64)) (.int .u64 z)).run Tryd.prog wr.drew = .ok () (setBlock wr.drew w1.heap.size o3) := hup
          clear hfn hup
          go_upto_region 7 with fail
          refine still_tail 12 (by kernel_rfl) (by kernel_rfl) ?_
          simp only [List.take_succ_cons, List.take_zero, List.drop_succ_cons, List.drop_zero]
          repeat still_step
          try refine wpStill_nil ?_
          go_wp2_with fail
          go_roundg (a.length - (i + 1))
          case measure => have := HQ.out; omega
          case rel => exact ⟨i + 1, _, by omega, by go_num, F3.out⟩
        · have TT : Hid (t = false) := Lib.hid (HT2.out.trans (decide_eq_false hlt))
          obtain rfl := TT.out
          clear hlt HT2 TT HQ RA RB EA EB
          have HL := Lib.hid (mstable_any of hof HF.out.fn (tab_keep HT.out HF.out.keep id) (Nat.lt_of_lt_of_le (tab_lt HT.out) HF.out.keep.size))
          go_wp2_with fail
          refine HL.out.mono ?_
          rintro e w2 ⟨rfl, hk2⟩
          have FN2 := Lib.hid (HF.out.fn.keep hk2 id)
          have K2 := Lib.hid (HF.out.keep.step hk2)
          have LAW := Lib.hid (stab_law HF.out.pos (gs of 64) _ rfl)
          have hlen := gs_len of 64
          have HRL := Lib.hid (rlist_gs of hof w2)
          clear hk2 HL HF
          generalize hn : stab m (gs of 64) 0 0 = n at LAW ⊢
          have HN0 := Lib.hid hn
          clear hn
          go_wp2_with fail
          refine HRL.out.mono ?_
          rintro e w3 ⟨v, rfl, ho, hk3⟩
          have hN := IsN.of_own ho
          have HN := Lib.hid hN
          have FN3 := Lib.hid (FN2.out.keep hk3 id)
          have K3 := Lib.hid (K2.out.step hk3)
          have HR : Hid (Calls Tryd.prog 7 #[.int .u64 (of : Int), .map (some w1.heap.size)] w3 fun e w' => e = .returned (.int .u64 n) ∧ Keep (fun _ => False) w3 w') := Lib.hid (by
            have := rstable_any of hof FN3.out
            rwa [HN0.out] at this)
          obtain ⟨A, c, rfl, _⟩ := hN.ex
          clear hN ho hk3 HRL FN2 K2 HN0
          generalize gs of 64 = L at *
          obtain ⟨j0, hj0⟩ : ∃ j0 : Bool, j0 = (decide (L.length = 0) && n == 0) := ⟨_, rfl⟩
          have HJ0 := Lib.hid hj0
          have HL3 : Hid ((j0 || L.any (hits m n)) = true) := Lib.hid (by rw [hj0]; exact LAW.out.2.2)
          clear hj0
          go_upto_region 10 with fail
          go_cut [11] (fun v11 wx => v11 = .bool j0 ∧ wx = w3)
          case first =>
            by_cases hl0 : L.length = 0
            · have dl1 : ((L.length : Int) == 0) = true := by simp [hl0]
              have dl2 : (L.length : Int) = 0 := by omega
              by_cases hn0 : n = 0
              · have dn : (n == 0) = true := by simp [hn0]
                have TT : Hid (j0 = true) := Lib.hid (by rw [HJ0.out, decide_eq_true hl0, dn]; rfl)
                clear HJ0 hl0
                go_wp2_with fail
                go_meet
                exact ⟨by rw [TT.out], rfl⟩
              · have dn : (n == 0) = false := by simp [hn0]
                have TT : Hid (j0 = false) := Lib.hid (by rw [HJ0.out, dn, Bool.and_false])
                clear HJ0 hl0
                go_wp2_with fail
                go_meet
                exact ⟨by rw [TT.out], rfl⟩
            · have dl1 : ((L.length : Int) == 0) = false := by rw [beq_eq_false_iff_ne]; omega
              have dl2 : ¬ (L.length : Int) = 0 := by omega
              have TT : Hid (j0 = false) := Lib.hid (by rw [HJ0.out, decide_eq_false hl0]; rfl)
              clear HJ0 hl0
              go_wp2_with fail
              go_meet
              exact ⟨by rw [TT.out], rfl⟩
          case rest =>
            obtain ⟨rfl, rfl⟩ := hcut
            obtain ⟨w3, rfl⟩ : ∃ w3 : World, w3 = wc := ⟨_, rfl⟩
            clear HJ0
            go_wp2_with fail
            go_loopg [11, 12, 13, 14] L.length (fun q v11 v12 v13 v14 wr => ∃ (i : Nat), i + q = L.length ∧ v12 = .int .i64 i ∧ v11 = .bool (j0 || (L.take i).any (hits m n)) ∧ wr = w3)
            case atStart => exact ⟨0, by omega, rfl, by simp, rfl⟩
            case round =>
              obtain ⟨i, hq, rfl, rfl, rfl⟩ := hrel
              have HQ := Lib.hid hq
              clear hq
              obtain ⟨j, hj⟩ : ∃ j : Bool, j = (j0 || (L.take i).any (hits m n)) := ⟨_, rfl⟩
              have HJ := Lib.hid hj
              rw [← hj]
              clear hj
              by_cases hlt : i < L.length
              · obtain ⟨A', c', hform, h2⟩ := HN.out.ex
                injection hform with e1 e2 e3
                subst e1; subst e3
                clear e2
                obtain ⟨g, rfl, h3⟩ := h2 (by omega)
                obtain ⟨h4, _⟩ := h3 i hlt
                have d1 : decide ((i : Int) < (L.length : Int)) = true := decide_eq_true (by omega)
                have d2 : (i : Int) < (L.length : Int) := by omega
                have d3 : (0 : Int) ≤ (i : Int) := by omega
                have HD : Hid ((j0 || (L.take (i + 1)).any (hits m n)) = (j || hits m n L[i])) := Lib.hid (by rw [any_step L _ i hlt, HJ.out, Bool.or_assoc])
                have L1 := LAW.out.1 L[i] (List.getElem_mem hlt)
                have L2 := LAW.out.2.1 L[i] (List.getElem_mem hlt)
                have hh : hits m n L[i] = match m ((L[i]).1 : Int) with | none => true | some v => v == n := rfl
                rw [hh] at HD
                generalize (L[i]).1 = nd at h4 HD L1 L2
                have lk := look_26 FN3.out (nd : Int)
                clear h2 h3 hh HJ
                cases hmn : m (nd : Int) with
                | none =>
                  obtain rfl := L2 hmn
                  rw [hmn] at lk HD
                  simp only [Option.getD_none, Option.isSome_none, Bool.or_true] at lk HD
                  clear hmn L1 L2
                  cases j with
                  | true =>
                    go_wp2_with fail
                    go_roundg (L.length - (i + 1))
                    case measure => have := HQ.out; omega
                    case rel => exact ⟨i + 1, by omega, by go_num, by rw [HD.out], rfl⟩
                  | false =>
                    go_wp2_with fail
                    go_roundg (L.length - (i + 1))
                    case measure => have := HQ.out; omega
                    case rel => exact ⟨i + 1, by omega, by go_num, by rw [HD.out], rfl⟩
                | some v =>
                  have hv := L1 v hmn
                  have hv2 : decide (v < n) = false := decide_eq_false (by omega)
                  rw [hmn] at lk HD
                  simp only [Option.getD_some, Option.isSome_some] at lk HD
                  clear hmn L1 L2
                  obtain ⟨u, hu⟩ : ∃ u : Bool, u = (v == n) := ⟨_, rfl⟩
                  have hu2 := hu.symm
                  rw [hu2] at HD
                  clear hu
                  have hu3 : (decide (v = n)) = u := by rw [← hu2]; by_cases c : v = n <;> simp [c]
                  cases j <;> cases u
                  all_goals
                    go_wp2_with fail
                    go_roundg (L.length - (i + 1))
                    case measure => have := HQ.out; omega
                    case rel => exact ⟨i + 1, by omega, by go_num, by rw [HD.out]; rfl, rfl⟩
              · obtain rfl : i = L.length := by have := HQ.out; omega
                have d1 : decide ((L.length : Int) < (L.length : Int)) = false := by simp
                have TJ : Hid (j = true) := Lib.hid (by rw [HJ.out, List.take_length]; exact HL3.out)
                obtain rfl := TJ.out
                clear hlt HJ TJ
                go_wp2_with fail
                refine HR.out.mono ?_
                rintro e w4 ⟨rfl, hk4⟩
                have K4 := Lib.hid (K3.out.step hk4)
                clear hk4
                go_wp2
                go_ret
                exact ⟨by simp, K4.out⟩
  · by_cases h1 : a.length ≤ 100
    · have h2 : ¬ b.length ≤ 100 := fun h => hs ⟨h1, h⟩
      have d1 : decide ((100 : Int) < (a.length : Int)) = false := by simp; omega
      have d2 : ¬ (100 : Int) < (a.length : Int) := by omega
      have d3 : decide ((100 : Int) < (b.length : Int)) = true := by simp; omega
      have d4 : (100 : Int) < (b.length : Int) := by omega
      go_enter Tryd.func3, Tryd.ntmps3
      go_wp2_with fail
      refine (shown14 w).mono ?_
      rintro e w1 ⟨rfl, hk1⟩
      have K1 := Lib.hid hk1
      clear hk1
      go_wp2
      go_ret
      exact ⟨rfl, K1.out⟩
    · have d1 : decide ((100 : Int) < (a.length : Int)) = true := by simp; omega
      have d2 : (100 : Int) < (a.length : Int) := by omega
      go_enter Tryd.func3, Tryd.ntmps3
      go_wp2_with fail
      refine (shown14 w).mono ?_
      rintro e w1 ⟨rfl, hk1⟩
      have K1 := Lib.hid hk1
      clear hk1
      go_wp2
      go_ret
      exact ⟨rfl, K1.out⟩
end Go.Proofs.YtmficjbgpcbhoaaDoor
