/- RumorTurns, walked. -/
import Derived.Test.YtacfigociobgmaaTurnP
namespace Go.Proofs.Ytacfigociobgmaa
open Go.RowKit Sh
set_option linter.unusedVariables false

theorem cap21 : capI 64 = 21 := by decide
structure QAt (w wr : World) (q m : Nat) (mb : Option Nat) (M : List It) : Prop where
  que : IsQ wr q mb M
  ok : OkM 21 m M
  hq : w.heap.size ≤ q
  hB : ∀ B, mb = some B → w.heap.size ≤ B
  keep : Keep (fun _ => False) w wr
theorem QAt.put {w wr W : World} {q m : Nat} {mb : Option Nat} {M : List It} {n : Int} (h : QAt w wr q m mb M) (n0 : 0 ≤ n) (n1 : n < 64) (p : PutAny wr W q mb M n) : ∃ mb' M', QAt w W q (m + 1) mb' M' := by
  obtain ⟨mb', M', hq, hM, hB⟩ := p.ex
  refine ⟨mb', M', hq, ?_, h.hq, fun B hb => ?_, Keep.drop h.keep p.keep h.hq h.hB⟩
  · rcases hM with ⟨rfl, _⟩ | ⟨_, hp⟩
    · exact h.ok.up (by omega)
    · exact (h.ok.put n n0 n1 (by omega)).perm hp
  · rcases hB with rfl | ⟨_, B', rfl, hB'⟩
    · exact h.hB B hb
    · injection hb with hb
      have := h.keep.size
      omega
theorem QAt.take {w wr W : World} {q m k : Nat} {mb : Option Nat} {M L : List It} {n : Int} {v : Value} (h : QAt w wr q m mb M) (d : TakeDone wr W q mb v n 64 M L k) : ∃ M', QAt w W q m mb M' := by
  have h21 : OkM (capI 64) m M := by rw [cap21]; exact h.ok
  obtain ⟨h1, h2⟩ := take_node d h.que h21
  rw [cap21] at h1 h2
  exact ⟨_, h1, h2, h.hq, h.hB, Keep.drop h.keep d.keep h.hq h.hB⟩

set_option maxRecDepth 100000 in
set_option maxHeartbeats 4000000 in
theorem turns_law {w : World} {va : Value} {a : List Int} (ha : IsB w va a) (takes : Int) (ht : 0 ≤ takes ∧ takes ≤ 255) :
    Calls Try.prog 6 #[va, .int .u8 takes] w fun e w' => e = .returned (.bool true) ∧ Keep (fun _ => False) w w' := by
  have w4 : IntKind.i64.wrap takes = takes := by rw [IntKind.wrap_i64]; omega
  obtain ⟨A, ca, rfl, hca, hla, hA⟩ := ha.ex
  have EA := Lib.hid hA
  have RA := Lib.hid ha.rng
  clear ha hA
  by_cases h1 : 30 < a.length
  · have d1 : decide ((30 : Int) < (a.length : Int)) = true := by simp; omega
    have d2 : (30 : Int) < (a.length : Int) := by omega
    go_enter Try.func6, Try.ntmps6
    go_wp2_with fail
    refine (shown8 w).mono ?_
    rintro e w1 ⟨rfl, hk1⟩
    have HK1 := Lib.hid hk1
    clear hk1
    go_wp2
    go_ret
    exact ⟨rfl, HK1.out⟩
  · have d1 : decide ((30 : Int) < (a.length : Int)) = false := by simp; omega
    have d2 : ¬ (30 : Int) < (a.length : Int) := by omega
    obtain ⟨k4, hk4⟩ : ∃ k : Nat, (k : Int) = takes.tmod 4 := ⟨(takes.tmod 4).toNat, by rw [Int.tmod_eq_emod_of_nonneg ht.1]; omega⟩
    obtain ⟨k9, hk9⟩ : ∃ k : Nat, (k : Int) = takes.tmod 9 := ⟨(takes.tmod 9).toNat, by rw [Int.tmod_eq_emod_of_nonneg ht.1]; omega⟩
    have n4 : takes.tmod 4 = (k4 : Int) := hk4.symm
    have n9 : takes.tmod 9 = (k9 : Int) := hk9.symm
    rw [Int.tmod_eq_emod_of_nonneg ht.1] at hk4 hk9
    have k4b : k4 ≤ 3 := by omega
    have k9b : k9 ≤ 8 := by omega
    have wk4 : IntKind.i64.wrap (k4 : Int) = k4 := by rw [IntKind.wrap_i64]; omega
    have wk9 : IntKind.i64.wrap (k9 : Int) = k9 := by rw [IntKind.wrap_i64]; omega
    clear hk4 hk9
    go_enter Try.func6, Try.ntmps6
    go_wp2_with fail
    refine (shown8 w).mono ?_
    rintro e w1 ⟨rfl, hk1⟩
    have K1 := Lib.hid (hk1.alloc (.cells #[.map none] 27))
    have Q1 := Lib.hid (IsQ.fresh w1)
    have HS1 := Lib.hid hk1.size
    clear hk1
    go_wp2_with fail
    go_loopg [6] a.length (fun z v6 wr => ∃ (i : Nat) (mb : Option Nat) (M : List It), i + z = a.length ∧ v6 = .int .i64 i ∧ QAt w wr w1.heap.size i mb M)
    case atStart => exact ⟨0, none, [], by omega, rfl, Q1.out, OkM.nil _, HS1.out, fun B h => (by cases h), K1.out⟩
    case round =>
      obtain ⟨i, mb, M, hz, rfl, hqa⟩ := hrel
      have Q := Lib.hid hqa
      have HZ := Lib.hid hz
      clear hqa hz Q1
      have hzz := HZ.out
      by_cases hlt : i < a.length
      · obtain ⟨g, o, rfl, hc⟩ := EA.out (by omega)
        have c0 := Q.out.keep.cell (hc i hlt)
        have hr := RA.out i hlt
        obtain ⟨y, hy⟩ : ∃ y, y = a.getD i 0 := ⟨_, rfl⟩
        rw [← hy] at c0 hr
        obtain ⟨y0, y1⟩ := hr
        have e1 : IntKind.i64.wrap ((i : Int) + 1) = (i + 1 : Nat) := by rw [IntKind.wrap_i64]; omega
        have e2 : IntKind.i64.wrap y = y := by rw [IntKind.wrap_i64]; omega
        obtain ⟨n, hn⟩ : ∃ n, n = y.tmod 64 := ⟨_, rfl⟩
        have e3 : y.tmod 64 = n := hn.symm
        rw [Int.tmod_eq_emod_of_nonneg y0] at hn
        have N01 : Hid (0 ≤ n ∧ n < 64) := Lib.hid (by omega)
        have e4 : IntKind.i64.wrap n = n := by rw [IntKind.wrap_i64]; omega
        clear hc hy hn hzz
        go_wp2_with fail
        refine (put_node Q.out.que Q.out.ok (by have := HZ.out; omega) n N01.out.1 N01.out.2).mono ?_
        rintro e W2 ⟨⟨r, rfl⟩, hp⟩
        obtain ⟨mb2, M2, hq2⟩ := Q.out.put N01.out.1 N01.out.2 hp
        have Q2 := Lib.hid hq2
        clear hp hq2 Q c0
        have e5 : ((i : Int)).tmod 3 = ((i % 3 : Nat) : Int) := by rw [Int.tmod_eq_emod_of_nonneg (by omega)]; rfl
        have e6 : IntKind.i64.wrap ((i % 3 : Nat) : Int) = ((i % 3 : Nat) : Int) := by rw [IntKind.wrap_i64]; omega
        by_cases h3 : i % 3 = 0
        · have t3 : ((((i % 3 : Nat)) : Int) == 0) = true := by rw [h3]; rfl
          rw [h3] at e5 e6
          go_wp2_with fail
          refine (take_any Q2.out.que (by have := Q2.out.ok.len; omega) (fun x hx => by have := Q2.out.ok.itm x hx; omega) (k4 : Int) 64 (by omega) (by omega)).mono ?_
          rintro e W3 ⟨v, L, k, rfl, hd⟩
          obtain ⟨M3, hq3⟩ := Q2.out.take hd
          have Q3 := Lib.hid hq3
          clear hd hq3 Q2
          go_wp2
          go_roundg (a.length - (i + 1))
          case measure => have := HZ.out; omega
          case rel => exact ⟨i + 1, mb2, M3, by omega, by go_num, Q3.out⟩
        · have t3 : ((((i % 3 : Nat)) : Int) == 0) = false := by rw [beq_eq_false_iff_ne]; omega
          have t4 : ¬ (((i % 3 : Nat)) : Int) = 0 := by omega
          generalize i % 3 = r3 at e5 e6 t3 t4
          go_wp2
          go_roundg (a.length - (i + 1))
          case measure => have := HZ.out; omega
          case rel => exact ⟨i + 1, mb2, M2, by omega, by go_num, Q2.out⟩
      · obtain rfl : a.length = i := by omega
        have t1 : decide ((a.length : Int) < (a.length : Int)) = false := by simp
        clear hzz hlt
        go_wp2_with fail
        obtain ⟨wo, rfl⟩ : ∃ wo : World, wo = wr := ⟨_, rfl⟩
        refine (items_any Q.out.que (by have := Q.out.ok.len; omega)).mono ?_
        rintro e W5 ⟨v, L, rfl, hI⟩
        obtain ⟨hIp, hIs, ⟨g, c, rfl, hg, hc, hrow⟩, hk5⟩ := hI
        have hLl : L.length ≤ 30 := by rw [hIp.length_eq]; have := Q.out.ok.len; omega
        have IP := Lib.hid hIp
        have IS := Lib.hid hIs
        have ROW := Lib.hid hrow
        have Q5 : Hid (QAt w W5 w1.heap.size a.length mb M) := Lib.hid ⟨Q.out.que.keep0 hk5, Q.out.ok, Q.out.hq, Q.out.hB, Q.out.keep.step hk5⟩
        have HG := Lib.hid hg
        have QL := Lib.hid Q.out.que.lt
        have QB : Hid (∀ B, mb = some B → B < wo.heap.size) := Lib.hid (fun B hB => by subst hB; exact Q.out.que.blt)
        clear hIp hIs hrow hk5 hg Q
        go_wp2_with fail
        go_loopg [8] L.length (fun z v8 wr => ∃ j : Nat, v8 = .int .i64 ((j : Int) + 1) ∧ j + z = L.length ∧ Keep (fun _ => False) W5 wr)
        case atStart => exact ⟨0, rfl, by omega, Keep.refl _ _⟩
        case round =>
          obtain ⟨j, rfl, hz2, hk⟩ := hrel
          have K := Lib.hid hk
          have HZ2 := Lib.hid hz2
          clear hz2
          by_cases hlt : j + 1 < L.length
          · have t1 : decide ((j : Int) + 1 < (L.length : Int)) = true := by simp; omega
            have t2 : (j : Int) + 1 < (L.length : Int) := by omega
            have t3 : (j : Int) < (L.length : Int) := by omega
            have t4 : (0 : Int) ≤ (j : Int) + 1 := by omega
            have t5 : (0 : Int) ≤ (j : Int) := by omega
            have u1 : ((j : Int) + 1).toNat = j + 1 := by omega
            have u2 : ((j : Int) + 1 - 1) = (j : Int) := by omega
            have e1 : IntKind.i64.wrap ((j : Int) + 1 + 1) = (j : Int) + 1 + 1 := by rw [IntKind.wrap_i64]; omega
            have e2 : IntKind.i64.wrap (j : Int) = (j : Int) := by rw [IntKind.wrap_i64]; omega
            have e3 : IntKind.i64.wrap ((j : Int) + 1) = (j : Int) + 1 := by rw [IntKind.wrap_i64]; omega
            have hlt2 := IS.out.at (i := j) (j := j + 1) (by omega) hlt
            have ROWd : RowAt wr.drew g L := (ROW.out.keep hk id).keep ((Keep.refl (fun _ => False) wr).drew) id
            obtain ⟨p0, _, _, p3⟩ := ROWd j (by omega)
            obtain ⟨q0, _, _, q3⟩ := ROWd (j + 1) hlt
            generalize it L j = x at p0 p3 hlt2
            generalize it L (j + 1) = y at q0 q3 hlt2
            obtain ⟨xn, xi, xs, xt⟩ := x
            obtain ⟨yn, yi, ys, yt⟩ := y
            simp only at p0 p3 q0 q3
            simp only [Lt] at hlt2
            have K2 := Lib.hid (hk.drew)
            clear hk ROWd
            rcases hlt2 with h | ⟨h, h'⟩
            · have d3 : decide (yt < xt) = false := decide_eq_false (by omega)
              have d4 : (yt == xt) = false := by rw [beq_eq_false_iff_ne]; omega
              have d5 : ¬ yt = xt := by omega
              clear h
              go_upto_region 14 with fail
              refine sb_lit (by kernel_rfl) (by kernel_rfl) ?_
              repeat (refine sb_step (fun K hK => ?_); go_simp; refine hK _ ?_; clear hK K)
              try refine sb_nil ?_
              go_wp2
              go_roundg (L.length - (j + 1))
              case measure => have := HZ2.out; omega
              case rel => exact ⟨j + 1, by go_num, by omega, K2.out⟩
            · subst h
              have d3 : decide (xt < xt) = false := by simp
              have d4 : (xt == xt) = true := by simp
              have d5 : decide (yn ≤ xn) = false := decide_eq_false (by omega)
              clear h'
              go_upto_region 14 with fail
              refine sb_lit (by kernel_rfl) (by kernel_rfl) ?_
              repeat (refine sb_step (fun K hK => ?_); go_simp; refine hK _ ?_; clear hK K)
              try refine sb_nil ?_
              go_wp2
              go_roundg (L.length - (j + 1))
              case measure => have := HZ2.out; omega
              case rel => exact ⟨j + 1, by go_num, by omega, K2.out⟩
          · have t1 : decide ((j : Int) + 1 < (L.length : Int)) = false := by simp; omega
            obtain ⟨wp, rfl⟩ : ∃ wp : World, wp = wr := ⟨_, rfl⟩
            have Q6 : Hid (QAt w wp w1.heap.size a.length mb M) := Lib.hid ⟨Q5.out.que.keep0 hk, Q5.out.ok, Q5.out.hq, Q5.out.hB, Q5.out.keep.step hk⟩
            have ROW6 := Lib.hid (ROW.out.keep hk id)
            clear hk hlt
            go_wp2_with fail
            refine (take_any Q6.out.que (by have := Q6.out.ok.len; omega) (fun x hx => by have := Q6.out.ok.itm x hx; omega) (k9 : Int) 64 (by omega) (by omega)).mono ?_
            rintro e W7 ⟨v, L', k, rfl, hd⟩
            have hLL : L' = L := hd.srt.unique IS.out (hd.perm.trans IP.out.symm)
            subst hLL
            have hmin : (k : Int) = min (k9 : Int) (L'.length : Int) := by have := hd.hk; omega
            obtain ⟨A2, c2, rfl, hA2⟩ := hd.up
            have hkl : (L'.take k).length = k := by simp; omega
            rw [hkl]
            have UP := Lib.hid hA2
            have HKL := Lib.hid hkl
            have ROW7 : Hid (RowAt W7 g L') := Lib.hid (ROW6.out.keep hd.keep (by
              have h1 := HG.out
              have h2 := QL.out
              rintro (h | h)
              · omega
              · have := QB.out g h
                omega))
            have K7 := Lib.hid (Keep.drop Q6.out.keep hd.keep Q6.out.hq Q6.out.hB)
            have m1 : min (k9 : Int) (L'.length : Int) = (k : Int) := hmin.symm
            have m2 : ((k : Int) == (k : Int)) = true := by simp
            have HKk : Hid (k ≤ L'.length) := Lib.hid (by omega)
            clear hd hA2 hkl hmin
            go_wp2_with fail
            go_loopg [11] k (fun z v11 wr => ∃ i : Nat, i + z = k ∧ v11 = .int .i64 i ∧ Keep (fun _ => False) W7 wr)
            case atStart => exact ⟨0, by omega, rfl, Keep.refl _ _⟩
            case round =>
              obtain ⟨i, hz3, rfl, hk⟩ := hrel
              have HZ3 := Lib.hid hz3
              have hkL := HKk.out
              by_cases hlt3 : i < k
              · have t1 : decide ((i : Int) < (k : Int)) = true := by simp; omega
                have t2 : (i : Int) < (k : Int) := by omega
                have t3 : (i : Int) < (L'.length : Int) := by omega
                have e3 : IntKind.i64.wrap ((i : Int) + 1) = (i + 1 : Nat) := by rw [IntKind.wrap_i64]; omega
                have e4 : i < L'.length := by omega
                obtain ⟨g2, rfl, hup⟩ := UP.out (by rw [HKL.out]; omega)
                obtain ⟨u0, u1, u2⟩ := hup i (by rw [HKL.out]; exact hlt3)
                obtain ⟨r0, r1, r2, _⟩ := ROW7.out i e4
                have ex : it (L'.take k) i = it L' i := by
                  rw [it_of e4, it_of (by rw [HKL.out]; exact hlt3)]
                  simp
                rw [ex] at u0 u1 u2
                obtain ⟨xn, hxn⟩ : ∃ z, z = (it L' i).n := ⟨_, rfl⟩
                obtain ⟨xi, hxi⟩ : ∃ z, z = (it L' i).i := ⟨_, rfl⟩
                obtain ⟨xs, hxs⟩ : ∃ z, z = (it L' i).s := ⟨_, rfl⟩
                rw [← hxn] at u0 r0
                rw [← hxi] at u1 r1
                rw [← hxs] at u2 r2
                have kd := hk.drew
                have u0 := kd.cell u0
                have u1 := kd.cell u1
                have u2 := kd.cell u2
                have r0 := kd.cell r0
                have r1 := kd.cell r1
                have r2 := kd.cell r2
                have hne := ne33 wr.drew xn xi xs
                have KD := Lib.hid kd
                clear hk kd hup ex hxn hxi hxs hz3
                go_upto_region 23 with fail
                refine sb_lit (by kernel_rfl) (by kernel_rfl) ?_
                repeat (refine sb_step (fun K hK => ?_); go_simp; refine hK _ ?_; clear hK K)
                try refine sb_nil ?_
                go_wp2
                go_roundg (k - (i + 1))
                case measure => have := HZ3.out; omega
                case rel => exact ⟨i + 1, by have := HZ3.out; omega, by go_num, KD.out⟩
              · obtain rfl : k = i := by omega
                have t1 : decide ((k : Int) < (k : Int)) = false := by simp
                have K8 := Lib.hid (K7.out.step hk)
                clear hk hlt3 hz3
                go_wp2
                go_ret
                exact ⟨rfl, K8.out⟩

theorem turns_row (a0 : Option Addr) (len0 cap0 : Nat) (z0 : List Int) (a1 : Int) (w : World) (w0 : IsRow .u8 w a0 len0 cap0 z0) (y0 : len0 * 1 ≤ 140737488351232) (w1 : (Lit.int .u8 a1).wf = true) :
    Calls Try.prog 6 #[.slice a0 len0 cap0, .int .u8 a1] w fun e w' => e = .returned (.bool true) ∧ Below w.heap.size w w' := by
  obtain ⟨b0, h0⟩ := IsB.ofRow w0 y0
  exact (turns_law h0 a1 (wf_u8 w1)).mono fun _ _ ⟨h1, h2⟩ => ⟨h1, h2.below⟩

end Go.Proofs.Ytacfigociobgmaa
