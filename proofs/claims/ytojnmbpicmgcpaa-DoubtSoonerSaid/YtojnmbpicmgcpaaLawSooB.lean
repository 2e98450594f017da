/- DoubtSooner, walked: the function. -/
import Derived.Test.YtojnmbpicmgcpaaLawSoo
namespace Go.Proofs.Ytojnmbpicmgcpaa
open Go.RowKit Sh
open Go.ChangeMaps (setBlock)
set_option linter.unusedVariables false

theorem more_ne (W : List Int) (n : Int) : more W n ≠ [] := by
  unfold more
  split
  · rename_i h
    rintro rfl
    cases h
  · simp
theorem row_of {w w' : World} {v : Value} {d : Db} {L : List Db} (h : AllIs w w' v [d] L) : ∃ g c, v = .slice (some ⟨g, 0, none⟩) 1 c ∧ w.heap.size ≤ g ∧ DRow w' g [d] := by
  have e : L = [d] := List.perm_singleton.1 h.perm
  subst e
  obtain ⟨A, c, rfl, _, h2⟩ := h.row
  obtain ⟨g, rfl, hg, hr⟩ := h2 (by simp)
  exact ⟨g, c, rfl, hg, hr⟩

set_option maxRecDepth 100000 in
set_option maxHeartbeats 4000000 in
theorem sooner_law {w : World} {va : Value} {a : List Int} (ha : IsB w va a) (since nodes : Int) (base : Nat) (hs : 0 ≤ since ∧ since ≤ 4294967295) (hn : 0 ≤ nodes ∧ nodes ≤ 255) (hb : base < 18446744073709551616) :
    Calls Try.prog 4 #[va, .int .u32 since, .int .u8 nodes, .float .f64 base] w fun e w' => e = .returned (.bool true) ∧ Keep (fun _ => False) w w' := by
  obtain ⟨u, hu⟩ := waits_some base hb nodes (by omega) (by omega)
  have w5 : IntKind.u64.wrap since = since := by rw [IntKind.wrap_u64]; omega
  have w6 : IntKind.i64.wrap nodes = nodes := by rw [IntKind.wrap_i64]; omega
  obtain ⟨A, ca, rfl, hca, hla, hA⟩ := ha.ex
  have EA := Lib.hid hA
  have RA := Lib.hid ha.rng
  have HU := Lib.hid hu
  have SI := Lib.hid hs
  clear ha hA hu
  by_cases h1 : a.length ≤ 100 ∧ a.length ≠ 0
  · obtain ⟨h1, h2⟩ := h1
    have d1 : decide ((100 : Int) < (a.length : Int)) = false := by simp; omega
    have d2 : ¬ (100 : Int) < (a.length : Int) := by omega
    have d3 : ((a.length : Int) == 0) = false := by rw [beq_eq_false_iff_ne]; omega
    have d4 : ¬ (a.length : Int) = 0 := by omega
    have hmm := @run_makeMap Try.prog
    clear hs hn hb
    go_enter Try.func4, Try.ntmps4
    go_wp2_with fail
    refine (shown10 w).mono ?_
    rintro e w1 ⟨rfl, hk1⟩
    have T1 : Hid (SW w ((w1.alloc (.cells #[.map none] 27)).alloc (.map #[] 0)) w1.heap.size (w1.heap.size + 1) 0 none since u [] 0) := Lib.hid (by
      refine ⟨(IsQ.fresh w1).keep0 ((Keep.refl _ _).alloc _), ?_, ⟨by omega, fun k _ => by simp⟩, Nat.le_refl _, hk1.size, rfl, fun B h => (by cases h), (hk1.alloc _).alloc _⟩
      have := IsMp.made (key := nk) (val := nv) (w1.alloc (.cells #[.map none] 27))
      simpa using this)
    clear hk1
    go_wp2_with fail
    clear hmm d1 d2 d3 d4
    go_loopg [10, 12, 13, 14, 15, 16] a.length (fun z v10 v12 v13 v14 v15 v16 wr => ∃ (i : Nat) (mb : Option Nat) (W : List Int) (F : Nat), i + z = a.length ∧ v12 = .int .i64 i ∧ v10 = .int .u64 (unW W since u) ∧ (W = [] → i = 0) ∧ SW w wr w1.heap.size (w1.heap.size + 1) i mb since u W F)
    case atStart => exact ⟨0, none, [], 0, by omega, rfl, rfl, fun _ => rfl, T1.out⟩
    case round =>
      obtain ⟨i, mb, W, F, hz, rfl, rfl, hi0, hw⟩ := hrel
      have T := Lib.hid hw
      have HZ := Lib.hid hz
      have HI := Lib.hid hi0
      clear hw hz T1 hi0
      have hzz := HZ.out
      by_cases hlt : i < a.length
      · obtain ⟨g0, o, rfl, hc⟩ := EA.out (by omega)
        have c0 := T.out.keep.cell (hc i hlt)
        have hr := RA.out i hlt
        obtain ⟨y, hy⟩ : ∃ y, y = a.getD i 0 := ⟨_, rfl⟩
        rw [← hy] at c0 hr
        obtain ⟨y0, y1⟩ := hr
        have t2 : decide ((i : Int) < (a.length : Int)) = true := decide_eq_true (by omega)
        have t3 : (i : Int) < (a.length : Int) := by omega
        have t4 : (0 : Int) ≤ (i : Int) := by omega
        have e2 : IntKind.i64.wrap y = y := by rw [IntKind.wrap_i64]; omega
        obtain ⟨n, hn⟩ : ∃ n : Nat, (n : Int) = y.tmod 64 := ⟨(y % 64).toNat, by rw [Int.tmod_eq_emod_of_nonneg y0]; omega⟩
        have e3 : y.tmod 64 = (n : Int) := hn.symm
        rw [Int.tmod_eq_emod_of_nonneg y0] at hn
        have n63 : n ≤ 63 := by omega
        have e4 : IntKind.i64.wrap (n : Int) = n := by rw [IntKind.wrap_i64]; omega
        have e5 : IntKind.u64.wrap (i : Int) = i := by rw [IntKind.wrap_u64]; omega
        have e6 : IntKind.u64.wrap (since + i) = since + i := by have := SI.out; rw [IntKind.wrap_u64]; omega
        have I100 : Hid (i ≤ 100) := Lib.hid (by omega)
        clear hc hy hn hzz
        go_wp2_with fail
        refine (sooner_raise T.out HU.out n i n63 HI.out I100.out SI.out).mono ?_
        rintro e W2 ⟨rfl, mb2, F2, hsa⟩
        have SA2 := Lib.hid hsa
        have UN := Lib.hid (un_le (W := W) (since := since) HU.out.anti (n : Int))
        have TL := Lib.hid T.out.len
        clear hsa c0 T HI
        go_wp2_with fail
        refine (all_any SA2.out.que (by simp)).mono ?_
        rintro e W3 ⟨v, L, rfl, hall⟩
        obtain ⟨g, c, rfl, hg, hrow⟩ := row_of hall
        obtain ⟨b, hbd⟩ : ∃ b : Bool, b = decide ((n : Int) ∈ W) := ⟨_, rfl⟩
        have ebn : decide ((n : Int) ∈ W) = b := hbd.symm
        have SA3 : Hid (SA w W3 w1.heap.size (w1.heap.size + 1) i mb2 since u W (more W n) F2) := Lib.hid ⟨SA2.out.que.keep0 hall.keep, SA2.out.map.keep hall.keep id, SA2.out.bits, SA2.out.hq, SA2.out.hV, SA2.out.hB, SA2.out.keep.step hall.keep⟩
        have hlk := SA3.out.map.seen (n : Int) b (by rw [hbd, decide_eq_true_eq])
        have hVg : w1.heap.size + 1 < g := by have := SA2.out.map.lt; omega
        have ROW := Lib.hid hrow
        obtain ⟨o3, hup, hsw, hkv⟩ := SA3.out.put rfl TL.out (more_ne W n)
        have hrow3 := hrow.keep hkv (by omega)
        have SW3 := Lib.hid hsw
        have c4 : W3.cell? ⟨g, 4, none⟩ = some (.int .u64 since) := hrow 0 (by simp) 4 (by omega)
        have c6 : W3.cell? ⟨g, 6, none⟩ = some (.int .u64 (sat since (u ((more W n).length - 1) : Nat))) := hrow 0 (by simp) 6 (by omega)
        have q5 : (setBlock W3 (w1.heap.size + 1) o3).cell? ⟨g, 5, none⟩ = some (.int .u64 (((more W n).length - 1 : Nat) : Int)) := hrow3 0 (by simp) 5 (by omega)
        have q6 : (setBlock W3 (w1.heap.size + 1) o3).cell? ⟨g, 6, none⟩ = some (.int .u64 (sat since (u ((more W n).length - 1) : Nat))) := hrow3 0 (by simp) 6 (by omega)
        have hl : (more W n).length ≠ 0 := fun h => more_ne W n (List.length_eq_zero_iff.1 h)
        have hlen := fun W4 (k : Keep (fun _ => False) (setBlock W3 (w1.heap.size + 1) o3) W4) => len53 (SW3.out.map.keep k id)
        have hll : (more W n).length ≤ i + 1 := SW3.out.len
        obtain ⟨tl, htl⟩ : ∃ tl : Int, tl = (((more W n).length - 1 : Nat) : Int) := ⟨_, rfl⟩
        have f1 : ((more W n).length : Int) - 1 = tl := by omega
        have f2 : IntKind.i64.wrap tl = tl := by rw [IntKind.wrap_i64]; have := I100.out; omega
        have f3 : IntKind.u64.wrap tl = tl := by rw [IntKind.wrap_u64]; omega
        have f4 : (tl != tl) = false := by simp
        have eun : unW (more W n) since u = sat since (u ((more W n).length - 1) : Nat) := if_neg (more_ne W n)
        have EUN := Lib.hid eun
        have g1 : sat since (u ((more W n).length - 1) : Nat) ≤ unW W since u := UN.out
        have g2 : since ≤ sat since (u ((more W n).length - 1) : Nat) := sat_ge (by omega) (by have := SI.out; omega)
        rw [← htl] at q5
        clear hall hrow SA2 hbd hsw hkv hrow3 hll hl htl eun UN TL
        generalize sat since (u ((more W n).length - 1) : Nat) = U at *
        generalize unW W since u = V0 at *
        generalize hLL : ((more W n).length : Int) = LL at *
        have g3 : decide (V0 < U) = false := decide_eq_false (by omega)
        have g4 : decide (U < since) = false := decide_eq_false (by omega)
        have g5 : ¬ V0 < U := by omega
        have g6 : ¬ U < since := by omega
        have g7 : (since != since) = false := by simp
        rw [ebn]
        clear ebn g1 g2
        have MNE : Hid (more W n = [] → i + 1 = 0) := Lib.hid (fun h => absurd h (more_ne W n))
        cases b
        all_goals
          go_upto_region 16 with fail
          obtain ⟨W5, hW5⟩ : ∃ W5, W5 = setBlock W3 (w1.heap.size + 1) o3 := ⟨_, rfl⟩
          rw [← hW5] at q5 q6 SW3 hlen ⊢
          clear hW5 hup
          have q5d : W5.drew.cell? ⟨g, 5, none⟩ = some (.int .u64 tl) := q5
          have hld := hlen _ (Keep.refl _ W5).drew
          have SW4 : Hid (SW w W5.drew w1.heap.size (w1.heap.size + 1) (i + 1) mb2 since u (more W n) F2) := Lib.hid ⟨SW3.out.que.keep0 (Keep.refl _ W5).drew, SW3.out.map.keep (Keep.refl (fun _ => False) W5).drew id, SW3.out.bits, SW3.out.len, SW3.out.hq, SW3.out.hV, SW3.out.hB, SW3.out.keep.drew⟩
          clear hlen SW3
          refine still_lit (by kernel_rfl) (by kernel_rfl) ?_
          repeat still_step
          try refine wpStill_nil ?_
          go_wp2_with fail
          go_roundg (a.length - (i + 1))
          case measure => have := HZ.out; omega
          case rel => exact ⟨i + 1, mb2, more W n, F2, by omega, by go_num, by rw [EUN.out], MNE.out, SW4.out⟩
      · obtain rfl : a.length = i := by omega
        have t1 : decide ((a.length : Int) < (a.length : Int)) = false := by simp
        clear hzz hlt
        go_wp2
        go_ret
        exact ⟨rfl, T.out.keep⟩
  · by_cases h0 : a.length = 0
    · have d1 : decide ((100 : Int) < (a.length : Int)) = false := by simp; omega
      have d2 : ¬ (100 : Int) < (a.length : Int) := by omega
      have d3 : ((a.length : Int) == 0) = true := by simp [h0]
      have d4 : (a.length : Int) = 0 := by omega
      clear h1 h0 hs hn hb
      go_enter Try.func4, Try.ntmps4
      go_wp2_with fail
      refine (shown10 w).mono ?_
      rintro e w1 ⟨rfl, hk1⟩
      have HK1 := Lib.hid hk1
      clear hk1
      go_wp2
      go_ret
      exact ⟨rfl, HK1.out⟩
    · have d1 : decide ((100 : Int) < (a.length : Int)) = true := by simp; omega
      have d2 : (100 : Int) < (a.length : Int) := by omega
      clear h1 h0 hs hn hb
      go_enter Try.func4, Try.ntmps4
      go_wp2_with fail
      refine (shown10 w).mono ?_
      rintro e w1 ⟨rfl, hk1⟩
      have HK1 := Lib.hid hk1
      clear hk1
      go_wp2
      go_ret
      exact ⟨rfl, HK1.out⟩
end Go.Proofs.Ytojnmbpicmgcpaa
namespace Go.Proofs.Ytojnmbpicmgcpaa
open Go.RowKit Sh
theorem sooner_row (a0 : Option Addr) (len0 cap0 : Nat) (z0 : List Int) (a1 a2 : Int) (a3 : Nat) (w : World) (w0 : IsRow .u8 w a0 len0 cap0 z0) (y0 : len0 * 1 ≤ 140737488351232)
    (w1 : (Lit.int .u32 a1).wf = true) (w2 : (Lit.int .u8 a2).wf = true) (w3 : (Lit.float .f64 a3).wf = true) :
    Calls Try.prog 4 #[.slice a0 len0 cap0, .int .u32 a1, .int .u8 a2, .float .f64 a3] w fun e w' => e = .returned (.bool true) ∧ Below w.heap.size w w' := by
  obtain ⟨bs, hB⟩ := IsB.ofRow w0 y0
  simp [Lit.wf, IntKind.min, IntKind.max, IntKind.signed, IntKind.bits] at w1 w2
  have h3 : a3 < 18446744073709551616 := by
    simp [Lit.wf] at w3
    exact w3
  refine (sooner_law hB a1 a2 a3 (by omega) (by omega) h3).mono ?_
  rintro e w' ⟨rfl, hk⟩
  exact ⟨rfl, hk.below⟩
end Go.Proofs.Ytojnmbpicmgcpaa
