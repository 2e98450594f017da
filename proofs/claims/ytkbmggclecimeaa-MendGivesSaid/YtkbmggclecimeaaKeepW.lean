/- ShelfKeeps: the walk of the law. -/
import Derived.Test.YtkbmggclecimeaaKeepP
import Derived.Test.YtkbmggclecimeaaSpanD
namespace Go.Proofs.Ytkbmggclecimeaa
open Go.RowKit Sh
open Go.ChangeMaps (setBlock)
set_option linter.unusedVariables false

theorem ne27 (w : World) (s m : Int) : (binOp .neq 27 (.agg #[.int .i64 s, .int .u64 m, .string ⟨#[]⟩]) (.agg #[.int .i64 s, .int .u64 m, .string ⟨#[]⟩])).run Try.prog w = .ok (.bool false) w := by
  have h : (Op.equalIn (9997 + 3) 27 (.agg #[.int .i64 s, .int .u64 m, .string ⟨#[]⟩]) (.agg #[.int .i64 s, .int .u64 m, .string ⟨#[]⟩])).run Try.prog w = .ok (s == s && (m == m && (true && true))) w := by
    refine eqAgg Try.underlying27 (by kernel_rfl) ?_
    refine eqField_cons (by rfl) (by go_simp; rfl) (by go_simp; rfl) (by go_simp) ?_
    refine eqField_cons (by rfl) (by go_simp; rfl) (by go_simp; rfl) (by go_simp) ?_
    refine eqField_cons (by rfl) (by go_simp; rfl) (by go_simp; rfl) (by go_simp) ?_
    exact eqField_nil
  rw [show (s == s && (m == m && (true && true))) = true by simp] at h
  simp only [binOp, Op.equal, Op.maxDepth, Sem.run_bind, h, Result.andThen_ok]
  rfl

/-- where the range over the map stands. -/
structure RngIs (w : World) (E : List Ent) (st : St) (I B q : Nat) (wr : World) : Prop where
  ex : ∃ seen, q = (leftOf (ents E) seen).size ∧ wr.heap[I]? = some (.mapIter (some (B + 1)) E.length seen E.length)
  shelf : IsShelf wr B st
  map : IsMapE wr (B + 1) E
  keep : Keep (fun _ => False) w wr

set_option maxRecDepth 100000 in
set_option maxHeartbeats 4000000 in
theorem keeps_walk {w : World} {va vb : Value} {a b : List Int} (ha : IsB w va a) (hb : IsB w vb b) :
    Calls Try.prog 3 #[va, vb] w fun e w' => e = .returned (.bool true) ∧ Keep (fun _ => False) w w' := by
  have HA := Lib.hid ha
  have HB := Lib.hid hb
  have RA := Lib.hid ha.rng
  have RB := Lib.hid hb.rng
  obtain ⟨Aa, ca, rfl, _, _, hA⟩ := ha.ex
  obtain ⟨Ab, cb, rfl, _, _, hB⟩ := hb.ex
  have EA := Lib.hid hA
  have EB := Lib.hid hB
  clear ha hb hA hB
  by_cases hs : a.length ≤ 150 ∧ b.length ≤ 150
  · obtain ⟨hs1, hs2⟩ := hs
    have d1 : decide ((150 : Int) < (a.length : Int)) = false := by simp; omega
    have d2 : ¬ (150 : Int) < (a.length : Int) := by omega
    have d3 : decide ((150 : Int) < (b.length : Int)) = false := by simp; omega
    have d4 : ¬ (150 : Int) < (b.length : Int) := by omega
    have hmm := @run_makeMap Try.prog
    go_enter Try.func3, Try.ntmps3
    go_wp2_with fail
    refine (shown13 w).mono ?_
    rintro e w1 ⟨rfl, hk1⟩
    have HK1 := Lib.hid ((hk1.alloc (.cells Try.zeroCells32 32)).alloc (.map #[] 0))
    have H0 := Lib.hid ((fresh_alloc w1).keep ((Keep.refl (fun _ => False) _).alloc (.map #[] 0)) id)
    have M0 : Hid (IsMapE ((w1.alloc (.cells Try.zeroCells32 32)).alloc (.map #[] 0)) (w1.heap.size + 1) []) := ⟨by
      have := heap_alloc_new (w1.alloc (.cells Try.zeroCells32 32)) (.map #[] 0)
      rwa [show (w1.alloc (.cells Try.zeroCells32 32)).heap.size = w1.heap.size + 1 by simp] at this⟩
    have SZ : Hid (w.heap.size ≤ w1.heap.size) := hk1.size
    clear hk1
    go_wp2_with fail
    clear d1 d2 d3 d4
    go_loopg [7, 8] a.length (fun q v7 v8 wr => ∃ (i : Nat) (st : St) (E : List Ent) (rv : Int), i + q = a.length ∧ v8 = .int .i64 i ∧ v7 = .int .u64 rv ∧ IsShelf wr w1.heap.size st ∧ IsMapE wr (w1.heap.size + 1) E ∧ Kps st E ∧ st.low ≤ 64 * i ∧ E.length ≤ i ∧ (∀ r, Rch st r → rv ≤ st.low + r) ∧ Keep (fun _ => False) w wr)
    case atStart => exact ⟨0, Sh.fresh, [], 0, by omega, rfl, rfl, H0.out, M0.out, Kps.fresh, by show (0 : Int) ≤ _; omega, by simp, fun r _ => by show (0 : Int) ≤ 0 + r; omega, HK1.out⟩
    case round =>
      clear H0 M0 hmm
      obtain ⟨i, st, E, rv, hq, rfl, rfl, hS, hM, hKp, hlo, hEl, hrv, hK⟩ := hrel
      have HQ := Lib.hid hq
      have HS := Lib.hid hS
      have HM := Lib.hid hM
      have HP := Lib.hid hKp
      have HRV := Lib.hid hrv
      have HK := Lib.hid hK
      have l0 := hKp.l0
      have OK : Hid (St.ok st) := ⟨l0, by omega⟩
      clear hq hS hM hKp hrv hK
      by_cases hlt : i < a.length
      · obtain ⟨g, o, rfl, hc⟩ := EA.out (by omega)
        have c0 := HK.out.cell (hc i hlt)
        have hr := RA.out i hlt
        obtain ⟨y, hy⟩ : ∃ y, y = a.getD i 0 := ⟨_, rfl⟩
        rw [← hy] at c0 hr
        obtain ⟨y0, y1⟩ := hr
        have c0d : wr.drew.cell? ⟨g, o + i, none⟩ = some (.int .u8 y) := c0
        have SD : Hid (IsShelf wr.drew w1.heap.size st) := HS.out.keep ((Keep.refl (fun _ => False) wr).drew) id
        have e1 : IntKind.u64.wrap (st.low + 1) = st.low + 1 := by rw [IntKind.wrap_u64]; omega
        have e2 : IntKind.u64.wrap (st.low + 1 + y % 80) = st.low + 1 + y % 80 := by rw [IntKind.wrap_u64]; omega
        have e3 : IntKind.u64.wrap y = y := by rw [IntKind.wrap_u64]; omega
        clear hc hy
        go_upto_region 9 with fail
        go_region_held3 (fun W => W.cell? ⟨g, o + i, none⟩ = some (.int .u8 y)) (go_keep) (first | (go_at_call 16; refine (low_any _ st _ SD.out).mono ?_; rintro e w' ⟨rfl, rfl⟩))
        have e0 : IntKind.u64.wrap (st.low + 1 + y.tmod 80) = st.low + 1 + y % 80 := by rw [Int.tmod_eq_emod_of_nonneg y0, IntKind.wrap_u64]; omega
        rw [e0]
        have n0 : st.low < st.low + 1 + y % 80 := by omega
        have n1 : st.low + 1 + y % 80 ≤ st.low + 80 := by omega
        generalize st.low + 1 + y % 80 = n at n0 n1 ⊢
        clear e0 e1 e2 e3 y0 y1 c0d c0 SD
        go_upto_region 11 with fail
        have W1K : Hid (Keep (fun _ => False) wr (wr.alloc (.cells #[.int .i64 ((i : Int) % 64), .int .u64 i, .string ⟨#[]⟩] 27)).drew) := ((Keep.refl _ wr).alloc _).drew
        have W1B : Hid ((wr.alloc (.cells #[.int .i64 ((i : Int) % 64), .int .u64 i, .string ⟨#[]⟩] 27)).drew.heap[wr.heap.size]? = some (.cells #[.int .i64 ((i : Int) % 64), .int .u64 i, .string ⟨#[]⟩] 27 (0, 0))) := heap_alloc_new wr _
        obtain ⟨wo, rfl⟩ : ∃ wo : World, wo = wr := ⟨_, rfl⟩
        generalize (wo.alloc (.cells #[.int .i64 ((i : Int) % 64), .int .u64 i, .string ⟨#[]⟩] 27)).drew = wa at W1K W1B ⊢
        have MA := Lib.hid (HM.out.keep W1K.out id)
        have SA := Lib.hid (HS.out.keep W1K.out id)
        have KA := Lib.hid (HK.out.step W1K.out)
        obtain ⟨p, hp⟩ : ∃ p : Bool, (p = true ↔ ∃ e ∈ E, e.k = n) := by
          by_cases c : ∃ e ∈ E, e.k = n
          · exact ⟨true, by simp [c]⟩
          · exact ⟨false, by simp [c]⟩
        have HPP := Lib.hid hp
        clear hp
        go_cut [12] (fun v12 wx => v12 = .bool p ∧ Keep (fun _ => False) wa wx)
        case first =>
          cases p with
          | true =>
            obtain ⟨en, hl⟩ := lookup_in MA.out (HPP.out.1 rfl)
            go_wp2_with fail
            go_meet
            exact ⟨rfl, (Keep.refl _ wa).alloc _⟩
          | false =>
            have hl := lookup_out (n := n) MA.out (fun e he hk => by have := HPP.out.2 ⟨e, he, hk⟩; cases this)
            go_wp2_with fail
            go_meet
            exact ⟨rfl, (Keep.refl _ wa).alloc _⟩
        case rest =>
          obtain ⟨rfl, hkc⟩ := hcut
          have SC := Lib.hid (SA.out.keep hkc id)
          have MC := Lib.hid (MA.out.keep hkc id)
          have KC := Lib.hid (KA.out.step hkc)
          have BC := Lib.hid (hkc.old W1B.out (fun h => h))
          clear hkc
          obtain ⟨wb, rfl⟩ : ∃ wb : World, wb = wc := ⟨_, rfl⟩
          go_upto_region 12 with fail
          go_cut [13] (fun v13 wx => ∃ r st2, v13 = .int .i64 r ∧ IsShelf wx w1.heap.size st2 ∧ ((p = true ∧ r = 4 ∧ st2 = st) ∨ (p = false ∧ 64 < n - st.low ∧ r = 2 ∧ st2 = st) ∨ (p = false ∧ n - st.low ≤ 64 ∧ r = 0 ∧ st2 = st.set (n % 64).toNat ⟨n, (i : Int) % 64, i, ⟨#[]⟩⟩)) ∧ Keep (fun k => k = w1.heap.size) wb wx)
          case first =>
            have hin : p = true → hasB st n = true := fun h => by
              obtain ⟨e, he, rfl⟩ := HPP.out.1 h
              rcases (HP.out.ent e he).2 with c | c
              · omega
              · exact c.1
            have hout : p = false → hasB st n = false := fun h => by
              cases c : hasB st n with
              | false => rfl
              | true => have := HPP.out.2 (HP.out.conv n c); rw [h] at this; cases this
            have HIN := Lib.hid hin
            have HOUT := Lib.hid hout
            have bc := BC.out
            have b0 : wb.cell? ⟨wo.heap.size, 0, none⟩ = some (.int .i64 ((i : Int) % 64)) := by simp [World.cell?, bc]
            have b1 : wb.cell? ⟨wo.heap.size, 1, none⟩ = some (.int .u64 i) := by simp [World.cell?, bc]
            have b2 : wb.cell? ⟨wo.heap.size, 2, none⟩ = some (.string ⟨#[]⟩) := by simp [World.cell?, bc]
            clear hin hout bc
            go_wp2_with fail
            cases p with
            | true =>
              refine (put_twice _ st n _ _ _ _ SC.out OK.out (by omega) (by omega) (by omega) (by omega) (by decide) n0 (HIN.out rfl)).mono ?_
              rintro e wz ⟨rfl, hkz⟩
              have KZ := Lib.hid hkz
              clear hkz
              go_wp2_with fail
              go_meet
              exact ⟨4, st, rfl, SC.out.keep KZ.out id, .inl ⟨by trivial, rfl, rfl⟩, KZ.out.mono (fun i h _ => absurd h id)⟩
            | false =>
              by_cases far : 64 < n - st.low
              · refine (put_full _ st n _ _ _ _ SC.out OK.out (by omega) (by omega) (by omega) (by omega) (by decide) n0 far).mono ?_
                rintro e wz ⟨rfl, hkz⟩
                have KZ := Lib.hid hkz
                clear hkz
                go_wp2_with fail
                go_meet
                exact ⟨2, st, rfl, SC.out.keep KZ.out id, .inr (.inl ⟨by trivial, far, rfl, rfl⟩), KZ.out.mono (fun i h _ => absurd h id)⟩
              · refine (put_ok _ st n _ _ _ _ SC.out OK.out (by omega) (by omega) (by decide) n0 (HOUT.out rfl) (by omega)).mono ?_
                rintro e wz ⟨rfl, hsz, hkz⟩
                have KZ := Lib.hid hkz
                have SZZ := Lib.hid hsz
                clear hkz hsz
                go_wp2_with fail
                go_meet
                exact ⟨0, _, rfl, SZZ.out, .inr (.inr ⟨by trivial, by omega, rfl, rfl⟩), KZ.out⟩
          case rest =>
            obtain ⟨r, st2, rfl, hs2, hR, hk2⟩ := hcut
            have S2 := Lib.hid hs2
            have K2 := Lib.hid (KC.out.trans hk2 (by rintro i rfl hi; have := SZ.out; omega))
            have M2 := Lib.hid (MC.out.keep hk2 (fun h => by omega))
            have B2 := Lib.hid (hk2.old BC.out (fun h => by have := HS.out.lt; omega))
            have HRR := Lib.hid hR
            clear hs2 hk2 hR
            obtain ⟨we, rfl⟩ : ∃ we : World, we = wc := ⟨_, rfl⟩
            apply_assumption
            refine wp_seq_k (fun KB hKB => ?_)
            go_cut [] (fun wx => ∃ st3 E3, IsShelf wx w1.heap.size st3 ∧ IsMapE wx (w1.heap.size + 1) E3 ∧ Kps st3 E3 ∧ st3.low = st.low ∧ E3.length ≤ i + 1 ∧ (∀ x, hasB st x = true → hasB st3 x = true) ∧ Keep (fun _ => False) w wx)
            case first =>
              rcases HRR.out with ⟨rfl, rfl, rfl⟩ | ⟨rfl, far, rfl, rfl⟩ | ⟨rfl, near, rfl, rfl⟩
              · go_wp2_with fail
                go_meet
                exact ⟨st2, E, S2.out, M2.out, HP.out, rfl, by omega, fun x h => h, K2.out⟩
              · have e4 : IntKind.u64.wrap (st2.low + 64) = st2.low + 64 := by rw [IntKind.wrap_u64]; omega
                have t4 : decide (st2.low + 64 < n) = true := decide_eq_true (by omega)
                go_wp2_with fail
                refine (low_any _ st2 _ S2.out).mono ?_
                rintro e wz ⟨rfl, rfl⟩
                go_wp2_with fail
                go_meet
                exact ⟨st2, E, S2.out, M2.out, HP.out, rfl, by omega, fun x h => h, K2.out⟩
              · have e4 : IntKind.u64.wrap (st.low + 64) = st.low + 64 := by rw [IntKind.wrap_u64]; omega
                have t4 : decide (st.low + 64 < n) = false := decide_eq_false (by omega)
                have hno : ∀ e ∈ E, e.k ≠ n := fun e he hk => by have := HPP.out.2 ⟨e, he, hk⟩; cases this
                have hup := update_out M2.out hno ((i : Int) % 64) i
                have bc := B2.out
                have b0 : we.cell? ⟨wo.heap.size, 0, none⟩ = some (.int .i64 ((i : Int) % 64)) := by simp [World.cell?, bc]
                have b1 : we.cell? ⟨wo.heap.size, 1, none⟩ = some (.int .u64 i) := by simp [World.cell?, bc]
                have b2 : we.cell? ⟨wo.heap.size, 2, none⟩ = some (.string ⟨#[]⟩) := by simp [World.cell?, bc]
                have NX : Hid (∃ st3 E3, IsShelf (setBlock we (w1.heap.size + 1) (.map (ents (E ++ [⟨n, (i : Int) % 64, i⟩])) (E.length + 1))) w1.heap.size st3 ∧ IsMapE (setBlock we (w1.heap.size + 1) (.map (ents (E ++ [⟨n, (i : Int) % 64, i⟩])) (E.length + 1))) (w1.heap.size + 1) E3 ∧ Kps st3 E3 ∧ st3.low = st.low ∧ E3.length ≤ i + 1 ∧ (∀ x, hasB st x = true → hasB st3 x = true) ∧ Keep (fun _ => False) w (setBlock we (w1.heap.size + 1) (.map (ents (E ++ [⟨n, (i : Int) % 64, i⟩])) (E.length + 1)))) :=
                  ⟨_, E ++ [⟨n, (i : Int) % 64, i⟩], S2.out.keep (keep_setBlock (S := fun k => k = w1.heap.size + 1) (Keep.refl _ we) _ _ (fun _ => rfl)) (fun h => by omega), ⟨by rw [List.length_append]; exact block_set M2.out.block⟩, HP.out.put n0 near hno _ _, rfl, by simp; omega, fun x h => HP.out.up n0 near hno _ h, keep_setBlock K2.out _ _ (fun h => by have := SZ.out; omega)⟩
                have SL : Hid (IsShelf we w1.heap.size (st.set (n % 64).toNat ⟨n, (i : Int) % 64, i, ⟨#[]⟩⟩)) := S2.out
                clear hno bc
                go_wp2_with fail
                refine (low_any _ _ _ SL.out).mono ?_
                rintro e wz ⟨rfl, rfl⟩
                rw [set_low]
                go_wp2_with fail
                go_meet
                exact NX.out
            case rest =>
              obtain ⟨st3, E3, hs3, hm3, hp3, hl3, hE3, hup3, hk3⟩ := hcut
              have S3 := Lib.hid hs3
              have M3 := Lib.hid hm3
              have P3 := Lib.hid hp3
              have U3 := Lib.hid hup3
              have K3 := Lib.hid hk3
              clear hs3 hm3 hp3 hup3 hk3 S2 K2 M2 B2 HRR SC MC KC BC SA MA KA W1K W1B HS HM HK
              obtain ⟨wf, rfl⟩ : ∃ wf : World, wf = wc := ⟨_, rfl⟩
              refine hKB _ _ ?_
              go_upto_region 22 with fail
              obtain ⟨tb, htb⟩ : ∃ tb : Bool, (tb = true ↔ (i < b.length ∧ (b.getD i 0) % 4 = 0)) := by
                by_cases c : i < b.length ∧ (b.getD i 0) % 4 = 0
                · exact ⟨true, ⟨fun _ => c, fun _ => rfl⟩⟩
                · exact ⟨false, ⟨fun h => (by cases h), fun h => absurd h c⟩⟩
              have HTB := Lib.hid htb
              clear htb
              go_cut [94] (fun v94 wx => v94 = .bool tb ∧ wx = wf)
              case first =>
                by_cases hb : i < b.length
                · obtain ⟨gb, ob, rfl, hcb⟩ := EB.out (by omega)
                  have z0 := K3.out.cell (hcb i hb)
                  have hr := RB.out i hb
                  have htt := HTB.out
                  obtain ⟨t, ht⟩ : ∃ y, y = b.getD i 0 := ⟨_, rfl⟩
                  rw [← ht] at z0 hr htt
                  have t1 : decide (i < b.length) = true := decide_eq_true hb
                  have t2 : (i : Int) < (b.length : Int) := by omega
                  have t3 : decide ((i : Int) < (b.length : Int)) = true := decide_eq_true t2
                  have hmod : t.tmod 4 = t % 4 := Int.tmod_eq_emod_of_nonneg hr.1
                  by_cases c : t % 4 = 0
                  · obtain rfl : tb = true := htt.2 ⟨hb, c⟩
                    have q0 : (t.tmod 4 == 0) = true := by rw [hmod, beq_iff_eq]; exact c
                    have q1 : (t % 4 == 0) = true := by rw [beq_iff_eq]; exact c
                    clear hcb ht htt hmod c
                    go_wp2_with fail
                    go_meet
                    refine ⟨?_, rfl⟩
                    first | rfl | (congr 1) | (simp [q0, q1])
                  · obtain rfl : tb = false := by
                      cases tb with
                      | false => rfl
                      | true => exact absurd (htt.1 rfl).2 c
                    have q0 : (t.tmod 4 == 0) = false := by rw [hmod, beq_eq_false_iff_ne]; exact c
                    have q1 : (t % 4 == 0) = false := by rw [beq_eq_false_iff_ne]; exact c
                    clear hcb ht htt hmod c
                    go_wp2_with fail
                    go_meet
                    refine ⟨?_, rfl⟩
                    first | rfl | (congr 1) | (simp [q0, q1])
                · have htt := HTB.out
                  obtain rfl : tb = false := by
                    cases tb with
                    | false => rfl
                    | true => exact absurd (htt.1 rfl).1 hb
                  have t1 : decide (i < b.length) = false := decide_eq_false hb
                  have t2 : ¬ (i : Int) < (b.length : Int) := by omega
                  have t3 : decide ((i : Int) < (b.length : Int)) = false := decide_eq_false t2
                  clear htt
                  go_wp2_with fail
                  go_meet
                  exact ⟨rfl, rfl⟩
              case rest =>
                obtain ⟨rfl, rfl⟩ := hcut
                apply_assumption
                obtain ⟨r3, hr3⟩ := rch_ex st3
                obtain ⟨r0, hr0⟩ := rch_ex st
                have hr03 : st.low + r0 ≤ st3.low + r3 := by have := hr0.put hr3 hl3 U3.out; omega
                have hrv0 := HRV.out r0 hr0
                have r364 := hr3.le
                have R3 := Lib.hid hr3
                clear hr3 hr0
                go_cut [] (fun wx => ∃ st4, IsShelf wx w1.heap.size st4 ∧ IsMapE wx (w1.heap.size + 1) E3 ∧ Kps st4 E3 ∧ st4.low ≤ 64 * (i + 1) ∧ (∀ r4, Rch st4 r4 → rv ≤ st4.low + r4) ∧ Keep (fun _ => False) w wx)
                case first =>
                  cases tb with
                  | false =>
                    go_wp2_with fail
                    go_meet
                    exact ⟨st3, S3.out, M3.out, P3.out, by omega, fun r4 h4 => by have := R3.out.put h4 rfl (fun x h => h); omega, K3.out⟩
                  | true =>
                    obtain ⟨hb, c⟩ := HTB.out.1 rfl
                    obtain ⟨gb, ob, rfl, hcb⟩ := EB.out (by omega)
                    have z0 := K3.out.cell (hcb i hb)
                    have hr := RB.out i hb
                    obtain ⟨t, ht⟩ : ∃ y, y = b.getD i 0 := ⟨_, rfl⟩
                    rw [← ht] at z0 hr
                    obtain ⟨z0d, hz0d⟩ : ∃ f : wc.drew.cell? ⟨gb, ob + i, none⟩ = some (.int .u8 t), True := ⟨z0, trivial⟩
                    have SD : Hid (IsShelf wc.drew w1.heap.size st3) := S3.out.keep ((Keep.refl (fun _ => False) wc).drew) id
                    have O3 : Hid (St.ok st3) := ⟨P3.out.l0, by omega⟩
                    have e5 : IntKind.u64.wrap t = t := by rw [IntKind.wrap_u64]; omega
                    clear hcb ht c
                    go_upto_region 23 with fail
                    go_region_held3 (fun W => W.cell? ⟨gb, ob + i, none⟩ = some (.int .u8 t)) (go_keep) (first | (go_at_call 18; refine (reach_any _ st3 r3 _ SD.out O3.out (by omega) R3.out.yes R3.out.no).mono ?_; rintro e w' ⟨rfl, rfl⟩))
                    all_goals
                      obtain ⟨tq, hto⟩ : ∃ tq, tq = IntKind.u64.wrap (st.low + (r3 : Int) - if t.tmod 5 < st.low + (r3 : Int) then t.tmod 5 else st.low + (r3 : Int)) := ⟨_, rfl⟩
                      rw [← hto]
                      have hto2 : 0 ≤ tq ∧ tq ≤ st.low + r3 := by
                        rw [Int.tmod_eq_emod_of_nonneg hr.1, IntKind.wrap_u64] at hto
                        split at hto <;> omega
                      obtain ⟨to0, to1⟩ := hto2
                      have M3D : Hid (IsMapE wc.drew (w1.heap.size + 1) E3) := M3.out.keep ((Keep.refl (fun _ => False) wc).drew) id
                      have K3D : Hid (Keep (fun _ => False) w wc.drew) := K3.out.drew
                      clear hto z0d hz0d z0 e5
                      go_wp2_with fail
                      all_goals
                        refine (trim_ok _ st3 r3 (tq - st3.low).toNat tq _ SD.out O3.out (by omega) R3.out.yes R3.out.no to0 (by omega) rfl).mono ?_
                        rintro e wz ⟨rfl, hsz, hkz⟩
                        have SZ4 := Lib.hid hsz
                        have MZ4 := Lib.hid (M3D.out.keep hkz (fun h => by omega))
                        have KZ4 := Lib.hid (K3D.out.trans hkz (by rintro i rfl hi; have := SZ.out; omega))
                        clear hsz hkz
                        go_wp2_with fail
                        go_meet
                        exact ⟨_, SZ4.out, MZ4.out, P3.out.trim _ (by omega), by rw [trimN_low]; omega, fun r4 h4 => by have := R3.out.trim h4 P3.out.l0 (by omega); rw [trimN_low]; omega, KZ4.out⟩
                case rest =>
                  obtain ⟨st4, hs4, hm4, hp4, hl4, hrv4, hk4⟩ := hcut
                  have S4 := Lib.hid hs4
                  have M4 := Lib.hid hm4
                  have P4 := Lib.hid hp4
                  have K4 := Lib.hid hk4
                  have l04 := hp4.l0
                  obtain ⟨r4, hr4⟩ := rch_ex st4
                  have hrvr := hrv4 r4 hr4
                  have hRV := hr4
                  have R4 := Lib.hid hr4
                  have r464 := hr4.le
                  have O4 : Hid (St.ok st4) := ⟨hp4.l0, by omega⟩
                  have RVN : Hid (∀ r, Rch st4 r → st4.low + (r4 : Int) ≤ st4.low + r) := fun r h => by have := R4.out.put h rfl (fun x h => h); omega
                  clear hs4 hm4 hp4 hrv4 hk4 hr4 hRV S3 M3 P3 U3 K3 R3 HTB HRV HPP HP hr03 hrv0
                  obtain ⟨wg, rfl⟩ : ∃ wg : World, wg = wc := ⟨_, rfl⟩
                  have q1 : decide (st4.low + (r4 : Int) < rv) = false := decide_eq_false (by omega)
                  have q2 : decide (1000 < E3.length) = false := decide_eq_false (by omega)
                  have q3 : decide ((1000 : Int) < (E3.length : Int)) = false := decide_eq_false (by omega)
                  have hesz : (ents E3).size = E3.length := by simp [ents, entsL]
                  have hlen : (Builtin.len_ #[33] 3 #[.map (some (w1.heap.size + 1))]).run Try.prog wg = .ok (goInt (ents E3).size) wg := run_len_map wg 33 3 _ _ _ (by rw [Try.underlying33]; rfl) M4.out.block
                  rw [hesz] at hlen
                  have hrng := run_range_map (P := Try.prog) wg 33 25 27 _ _ _ Try.underlying33 M4.out.block
                  apply_assumption
                  go_wp2_with fail
                  refine (reach_any _ st4 r4 _ S4.out O4.out (by omega) R4.out.yes R4.out.no).mono ?_
                  rintro e wz ⟨rfl, rfl⟩
                  go_wp2_with fail
                  refine (reach_any _ st4 r4 _ S4.out O4.out (by omega) R4.out.yes R4.out.no).mono ?_
                  rintro e wz ⟨rfl, rfl⟩
                  go_wp2_with fail
                  clear hlen hrng hesz q1 q2 q3
                  obtain ⟨N0, hN0⟩ : ∃ N, N = (leftOf (ents E3) #[]).size := ⟨_, rfl⟩
                  have HN0 := Lib.hid hN0
                  clear hN0
                  go_loopg [15, 16] N0 (fun q v15 v16 wr => RngIs w E3 st4 wg.heap.size w1.heap.size q wr)
                  case atStart => exact ⟨⟨#[], HN0.out, heap_alloc_new wg _⟩, S4.out.keep ((Keep.refl (fun _ => False) wg).alloc _) id, M4.out.keep ((Keep.refl (fun _ => False) wg).alloc _) id, K4.out.alloc _⟩
                  case round =>
                    obtain ⟨⟨seen, hq, hit⟩, hs, hm, hk⟩ := hrel
                    have SR := Lib.hid hs
                    have MR := Lib.hid hm
                    have KR := Lib.hid hk
                    have HQI := Lib.hid hq
                    have IT := Lib.hid hit
                    have hisz : wg.heap.size < wr.heap.size := (Array.getElem?_eq_some_iff.1 hit).1
                    have hBI : w1.heap.size + 1 < wg.heap.size := (Array.getElem?_eq_some_iff.1 M4.out.block).1
                    rcases run_next_at (P := Try.prog) wr 0 wg.heap.size (w1.heap.size + 1) E3.length E3.length seen (ents E3) E3.length hit hm.block (ents_old E3) (Nat.le_refl _) with ⟨h0, hnext⟩ | ⟨en, hen, wn0, hwn, hnext⟩
                    · clear hit hs hm hk hq h0
                      go_wp2_with fail
                      go_roundg (a.length - (i + 1))
                      case measure => have := HQ.out; omega
                      case rel => exact ⟨i + 1, st4, E3, st4.low + r4, by have := HQ.out; omega, by go_num, rfl, SR.out, MR.out, P4.out, by omega, hE3, fun r h => RVN.out r h, KR.out⟩
                    · obtain ⟨hmem, _⟩ := mem_left hen
                      have hsh := left_shrinks (ents E3) seen en hen
                      obtain ⟨ev, hev, jv, rfl⟩ := ents_mem hmem
                      obtain ⟨wn, hwn'⟩ : ∃ wn, wn = setBlock wn0 wg.heap.size (.mapIter (some (w1.heap.size + 1)) E3.length (seen.push (ev.at jv).born) E3.length) := ⟨_, rfl⟩
                      rw [← hwn'] at hnext
                      have k0 : Keep (fun _ => False) wr wn0 := by
                        rcases hwn with rfl | rfl
                        · exact Keep.refl _ _
                        · exact (Keep.refl _ _).drew
                      have k1 : Keep (fun k => k = wg.heap.size) wr wn := by rw [hwn']; exact keep_setBlock (k0.mono (fun _ h _ => absurd h id)) _ _ (fun _ => rfl)
                      have hin : wn.heap[wg.heap.size]? = some (.mapIter (some (w1.heap.size + 1)) E3.length (seen.push (ev.at jv).born) E3.length) := by rw [hwn']; exact block_set (k0.old hit (fun h => h))
                      have SN := Lib.hid (hs.keep k1 (fun h => by omega))
                      have hmn := hm.keep k1 (fun h => by omega)
                      have MN := Lib.hid hmn
                      have IN := Lib.hid hin
                      have KN := Lib.hid (hk.trans k1 (by rintro i rfl hi; have := SZ.out; omega))
                      have hent := run_entry_at (P := Try.prog) wn wg.heap.size (w1.heap.size + 1) E3.length seen (ents E3) E3.length (ev.at jv) hin hmn.block hmem (ents_nodup E3)
                      have hent2 : (Instr.entry (.pointer (some ⟨wg.heap.size, 0, none⟩))).run Try.prog wn = .ok (.tuple #[.int .u64 ev.k, .agg #[.int .i64 ev.s, .int .u64 ev.m, .string ⟨#[]⟩]]) wn := hent
                      have hnext2 : (Instr.next (.pointer (some ⟨wg.heap.size, 0, none⟩)) false 0).run Try.prog wr = .ok (.tuple #[.bool true, .int .u64 ev.k, .agg #[.int .i64 ev.s, .int .u64 ev.m, .string ⟨#[]⟩]]) wn := hnext
                      obtain ⟨ek1, ekk⟩ := P4.out.ent ev hev
                      have EKK := Lib.hid ekk
                      have HSH := Lib.hid (show (leftOf (ents E3) (seen.push (ev.at jv).born)).size < gk by rw [hq]; exact hsh)
                      have BX := Lib.hid (heap_alloc_new wn (.cells #[.int .i64 ev.s, .int .u64 ev.m, .string ⟨#[]⟩] 27))
                      have SX := Lib.hid (SN.out.keep ((Keep.refl (fun _ => False) wn).alloc (.cells #[.int .i64 ev.s, .int .u64 ev.m, .string ⟨#[]⟩] 27)) id)
                      clear hit hs hm hk hq hent hnext hwn hwn' hmem hen hsh k0 k1 hin hmn ekk hev
                      go_wp2_with fail
                      by_cases hold : ev.k ≤ st4.low
                      · have t5 : decide (ev.k ≤ st4.low) = true := decide_eq_true hold
                        refine (get_old _ st4 ev.k _ SX.out O4.out (by omega) hold).mono ?_
                        rintro e5 w5 ⟨rfl, hk5⟩
                        have S5 := Lib.hid (fun o => (SX.out.keep hk5 id).keep ((Keep.refl (fun _ => False) w5).alloc o) id)
                        have F5 : Hid (∀ o, RngIs w E3 st4 wg.heap.size w1.heap.size (leftOf (ents E3) (seen.push (ev.at jv).born)).size (w5.alloc o)) := fun o => ⟨⟨_, rfl, ((((Keep.refl (fun _ => False) wn).alloc _).step hk5).alloc o).old IN.out (fun h => h)⟩, S5.out o, (MN.out.keep ((((Keep.refl (fun _ => False) wn).alloc _).step hk5).alloc o) id), ((KN.out.alloc _).step hk5).alloc o⟩
                        clear hk5
                        go_wp2_with fail
                        refine (low_any _ st4 _ (S5.out _)).mono ?_
                        rintro e6 w6 ⟨rfl, rfl⟩
                        go_wp2_with fail
                        go_roundg (leftOf (ents E3) (seen.push (ev.at jv).born)).size
                        case measure => exact HSH.out
                        case rel => exact F5.out _
                      · rcases EKK.out with c | ⟨hb, hring⟩
                        · exact absurd c hold
                        · have t5 : decide (ev.k ≤ st4.low) = false := decide_eq_false hold
                          have hub := (hasB_iff.1 hb).2.1
                          have hne := fun W => ne27 W ev.s ev.m
                          refine (get_ok _ st4 ev.k _ SX.out O4.out (by omega) (by omega) hb).mono ?_
                          rintro e5 w5 ⟨rfl, hk5⟩
                          rw [hring]
                          have S5 := Lib.hid (fun o => (SX.out.keep hk5 id).keep ((Keep.refl (fun _ => False) w5).alloc o) id)
                          have F5 : Hid (∀ o, RngIs w E3 st4 wg.heap.size w1.heap.size (leftOf (ents E3) (seen.push (ev.at jv).born)).size (w5.alloc o)) := fun o => ⟨⟨_, rfl, ((((Keep.refl (fun _ => False) wn).alloc _).step hk5).alloc o).old IN.out (fun h => h)⟩, S5.out o, (MN.out.keep ((((Keep.refl (fun _ => False) wn).alloc _).step hk5).alloc o) id), ((KN.out.alloc _).step hk5).alloc o⟩
                          have bx := hk5.old BX.out (fun h => h)
                          have b0 : ∀ o, (w5.alloc o).cell? ⟨wn.heap.size, 0, none⟩ = some (.int .i64 ev.s) := fun o => ((Keep.refl (fun _ => False) w5).alloc o).cell (by simp [World.cell?, bx])
                          have b1 : ∀ o, (w5.alloc o).cell? ⟨wn.heap.size, 1, none⟩ = some (.int .u64 ev.m) := fun o => ((Keep.refl (fun _ => False) w5).alloc o).cell (by simp [World.cell?, bx])
                          have b2 : ∀ o, (w5.alloc o).cell? ⟨wn.heap.size, 2, none⟩ = some (.string ⟨#[]⟩) := fun o => ((Keep.refl (fun _ => False) w5).alloc o).cell (by simp [World.cell?, bx])
                          clear hk5 bx hring hb
                          go_wp2_with fail
                          refine (low_any _ st4 _ (S5.out _)).mono ?_
                          rintro e6 w6 ⟨rfl, rfl⟩
                          go_wp2_with fail
                          go_roundg (leftOf (ents E3) (seen.push (ev.at jv).born)).size
                          case measure => exact HSH.out
                          case rel => exact F5.out _
      · obtain rfl : a.length = i := by have := HQ.out; omega
        obtain ⟨r4, hr4⟩ := rch_ex st
        have R4 := Lib.hid hr4
        have r464 := hr4.le
        have e1 : IntKind.u64.wrap (st.low + (r4 : Int) + 1) = st.low + (r4 : Int) + 1 := by rw [IntKind.wrap_u64]; omega
        clear hr4
        go_wp2_with fail
        refine (reach_any _ st r4 _ HS.out OK.out (by omega) R4.out.yes R4.out.no).mono ?_
        rintro e wz ⟨rfl, rfl⟩
        go_wp2_with fail
        refine (trim_arg _ st r4 _ _ HS.out OK.out (by omega) R4.out.yes R4.out.no (by omega)).mono ?_
        rintro e wz ⟨rfl, rfl⟩
        go_wp2
        go_ret
        exact ⟨rfl, HK.out⟩
  · by_cases h1 : 150 < a.length
    · have d1 : decide ((150 : Int) < (a.length : Int)) = true := by simp; omega
      have d2 : (150 : Int) < (a.length : Int) := by omega
      clear hs
      go_enter Try.func3, Try.ntmps3
      go_wp2_with fail
      refine (shown13 w).mono ?_
      rintro e w1 ⟨rfl, hk1⟩
      have HK1 := Lib.hid hk1
      clear hk1
      go_wp2
      go_ret
      exact ⟨rfl, HK1.out⟩
    · have d1 : decide ((150 : Int) < (a.length : Int)) = false := by simp; omega
      have d2 : ¬ (150 : Int) < (a.length : Int) := by omega
      have d3 : decide ((150 : Int) < (b.length : Int)) = true := by simp; omega
      have d4 : (150 : Int) < (b.length : Int) := by omega
      clear hs
      go_enter Try.func3, Try.ntmps3
      go_wp2_with fail
      refine (shown13 w).mono ?_
      rintro e w1 ⟨rfl, hk1⟩
      have HK1 := Lib.hid hk1
      clear hk1
      go_wp2
      go_ret
      exact ⟨rfl, HK1.out⟩

end Go.Proofs.Ytkbmggclecimeaa
