/- DoubtOnce, walked: the function. -/
import Derived.Test.YtojnmbpicmgcpaaLawOnce
namespace Go.Proofs.Ytojnmbpicmgcpaa
open Go.RowKit Sh
open Go.ChangeMaps (setBlock)
set_option linter.unusedVariables false

theorem OW.gone {w wr : World} {q V m : Nat} {mb : Option Nat} {now : Int} {M : List Db} {W : List Int} (h : OW w wr q V m mb now M W) {L : List Db} (hp : L.Perm M) : (∀ k, k < 14 → L.filter (goneB (now + k)) = [] ∧ L.filter (fun x => !goneB (now + k) x) = L) ∧ (∀ k, 14 ≤ k → L.filter (goneB (now + k)) = L ∧ L.filter (fun x => !goneB (now + k) x) = []) := by
  have hu : ∀ x ∈ L, x.u = now + 14 := fun x hx => (h.itm x (hp.mem_iff.1 hx)).2.2.2.2
  constructor
  · intro k hk
    have hf : ∀ x ∈ L, goneB (now + k) x = false := fun x hx => by unfold goneB; rw [hu x hx]; exact decide_eq_false (by omega)
    exact ⟨List.filter_eq_nil_iff.2 (fun x hx => by rw [hf x hx]; simp), List.filter_eq_self.2 (fun x hx => by rw [hf x hx]; rfl)⟩
  · intro k hk
    have hf : ∀ x ∈ L, goneB (now + k) x = true := fun x hx => by unfold goneB; rw [hu x hx]; exact decide_eq_true (by omega)
    exact ⟨List.filter_eq_self.2 (fun x hx => hf x hx), List.filter_eq_nil_iff.2 (fun x hx => by rw [hf x hx]; simp)⟩
set_option maxRecDepth 100000 in
theorem len53 {w : World} {V : Nat} {W : List Int} (h : IsMp nk nv w V W) : (Builtin.len_ #[53] 3 #[.map (some V)]).run Try.prog w = .ok (.int .i64 W.length) w := h.len (P := Try.prog) (by rw [Try.underlying53]; rfl) 3

set_option maxRecDepth 100000 in
set_option maxHeartbeats 4000000 in
theorem once_law {w : World} {va : Value} {a : List Int} (ha : IsB w va a) (d now : Int) (hd : 0 ≤ d ∧ d ≤ 255) (hn : 0 ≤ now ∧ now ≤ 4294967295) :
    Calls Try.prog 5 #[va, .int .u8 d, .int .u32 now] w fun e w' => e = .returned (.bool true) ∧ Keep (fun _ => False) w w' := by
  have w4 : IntKind.i64.wrap d = d := by rw [IntKind.wrap_i64]; omega
  have w5 : IntKind.u64.wrap now = now := by rw [IntKind.wrap_u64]; omega
  have w6 : IntKind.u64.wrap (now + 13) = now + 13 := by rw [IntKind.wrap_u64]; omega
  have w7 : IntKind.u64.wrap (now + 14) = now + 14 := by rw [IntKind.wrap_u64]; omega
  have w8 : IntKind.u64.wrap (now + 1000) = now + 1000 := by rw [IntKind.wrap_u64]; omega
  obtain ⟨A, ca, rfl, hca, hla, hA⟩ := ha.ex
  have EA := Lib.hid hA
  have RA := Lib.hid ha.rng
  have NOW := Lib.hid hn
  clear ha hA
  by_cases h1 : 60 < a.length
  · have d1 : decide ((60 : Int) < (a.length : Int)) = true := by simp; omega
    have d2 : (60 : Int) < (a.length : Int) := by omega
    go_enter Try.func5, Try.ntmps5
    go_wp2_with fail
    refine (shown10 w).mono ?_
    rintro e w1 ⟨rfl, hk1⟩
    have HK1 := Lib.hid hk1
    clear hk1
    go_wp2
    go_ret
    exact ⟨rfl, HK1.out⟩
  · have d1 : decide ((60 : Int) < (a.length : Int)) = false := by simp; omega
    have d2 : ¬ (60 : Int) < (a.length : Int) := by omega
    obtain ⟨dn, hdn⟩ : ∃ n, n = d.tmod 64 := ⟨_, rfl⟩
    have n9 : d.tmod 64 = dn := hdn.symm
    rw [Int.tmod_eq_emod_of_nonneg hd.1] at hdn
    have wdn : IntKind.i64.wrap dn = dn := by rw [IntKind.wrap_i64]; omega
    have hmm := @run_makeMap Try.prog
    clear hdn hd hn
    go_enter Try.func5, Try.ntmps5
    go_wp2_with fail
    refine (shown10 w).mono ?_
    rintro e w1 ⟨rfl, hk1⟩
    have T1 : Hid (OW w ((w1.alloc (.cells #[.map none] 27)).alloc (.map #[] 0)) w1.heap.size (w1.heap.size + 1) 0 none now [] []) := Lib.hid (by
      refine ⟨(IsQ.fresh w1).keep0 ((Keep.refl _ _).alloc _), ?_, List.Perm.refl _, fun x hx => by simp at hx, Nat.le_refl _, hk1.size, rfl, fun B h => (by cases h), (hk1.alloc _).alloc _⟩
      have := IsMp.made (key := nk) (val := nv) (w1.alloc (.cells #[.map none] 27))
      simpa using this)
    clear hk1
    go_wp2_with fail
    clear hmm
    go_loopg [9, 10] a.length (fun z v9 v10 wr => ∃ (i : Nat) (mb : Option Nat) (M : List Db) (W : List Int), i + z = a.length ∧ v9 = .int .i64 i ∧ OW w wr w1.heap.size (w1.heap.size + 1) i mb now M W)
    case atStart => exact ⟨0, none, [], [], by omega, rfl, T1.out⟩
    case round =>
      obtain ⟨i, mb, M, W, hz, rfl, hw⟩ := hrel
      have T := Lib.hid hw
      have HZ := Lib.hid hz
      clear hw hz T1
      have hzz := HZ.out
      by_cases hlt : i < a.length
      · obtain ⟨g, o, rfl, hc⟩ := EA.out (by omega)
        have c0 := T.out.keep.cell (hc i hlt)
        have hr := RA.out i hlt
        obtain ⟨y, hy⟩ : ∃ y, y = a.getD i 0 := ⟨_, rfl⟩
        rw [← hy] at c0 hr
        obtain ⟨y0, y1⟩ := hr
        have e1 : IntKind.i64.wrap ((i : Int) + 1) = (i + 1 : Nat) := by rw [IntKind.wrap_i64]; omega
        have e2 : IntKind.i64.wrap y = y := by rw [IntKind.wrap_i64]; omega
        obtain ⟨n, hn⟩ : ∃ n, n = y.tmod 64 := ⟨_, rfl⟩
        have e3 : y.tmod 64 = n := hn.symm
        rw [Int.tmod_eq_emod_of_nonneg y0] at hn
        have N01 : Hid (0 ≤ n ∧ n < 64) := Lib.hid (by omega)
        have e4 : IntKind.i64.wrap n = n := by rw [IntKind.wrap_i64]; omega
        have e5 : IntKind.u64.wrap n = n := by rw [IntKind.wrap_u64]; omega
        have e6 : IntKind.u64.wrap (n + 7) = n + 7 := by rw [IntKind.wrap_u64]; omega
        clear hc hy hn hzz
        by_cases hin : n ∈ W
        · obtain ⟨x0, hx0, hxn⟩ := List.mem_map.1 (T.out.same.mem_iff.2 hin)
          obtain ⟨_, _, hi7, hf2, _⟩ := T.out.itm x0 hx0
          go_wp2_with fail
          refine (raise_same T.out.que n (n + 7) now N01.out x0 hx0 hxn (by rw [hi7, hxn]) hf2).mono ?_
          rintro e W2 ⟨rfl, hk⟩
          obtain ⟨o2, hup, hw2⟩ := (T.out.keep0 hk).again hin
          have T2 := Lib.hid hw2
          clear hk hw2 hx0 hxn hi7 hf2 c0 T
          go_wp2
          go_roundg (a.length - (i + 1))
          case measure => have := HZ.out; omega
          case rel => exact ⟨i + 1, mb, M, W, by omega, by go_num, ⟨T2.out.que, T2.out.map, T2.out.same, T2.out.itm, Nat.le_succ_of_le T2.out.len, T2.out.hq, T2.out.hV, T2.out.hB, T2.out.keep⟩⟩
        · go_wp2_with fail
          refine (raise_new T.out.que waitis_14 n (n + 7) 1 now N01.out (by omega) (by have := NOW.out; omega) (fun x hx he => absurd (T.out.same.mem_iff.1 (List.mem_map.2 ⟨x, hx, he⟩)) hin)).mono ?_
          rintro e W2 ⟨rfl, hr2⟩
          obtain ⟨B, o2, hup, hw2⟩ := T.out.raise N01.out.1 N01.out.2 NOW.out hin hr2
          have T2 := Lib.hid hw2
          clear hr2 hw2 c0 T hin
          go_wp2
          go_roundg (a.length - (i + 1))
          case measure => have := HZ.out; omega
          case rel => exact ⟨i + 1, some B, _, _, by omega, by go_num, T2.out⟩
      · obtain rfl : a.length = i := by omega
        have t1 : decide ((a.length : Int) < (a.length : Int)) = false := by simp
        clear hzz hlt
        obtain ⟨wo, rfl⟩ : ∃ wo : World, wo = wr := ⟨_, rfl⟩
        go_wp2_with fail
        refine (drop_any T.out.que dn).mono ?_
        rintro e W2 ⟨b, rfl, hdr⟩
        obtain ⟨hbW, hmp, o2, hdel, hw2⟩ := T.out.drop hdr
        have hlk := hmp.seen dn b hbW
        have tb : (b != b) = false := by simp
        have T2 := Lib.hid hw2
        clear hdr hbW hmp hw2 T
        go_wp2_with fail
        have HBF := Lib.hid T2.out.hB'
        have HQF := Lib.hid T2.out.hq
        generalize M.filter (fun z => z.n ≠ dn) = M1 at T2
        generalize W.filter (fun z => z ≠ dn) = W1 at T2
        have LM : Hid (M1.length ≤ 60) := Lib.hid (by have := T2.out.len; omega)
        refine (over_any T2.out.que (by have := LM.out; omega) (now + 13)).mono ?_
        rintro e W3 ⟨v, L, rfl, hp, hs, hq, ⟨A3, c3, rfl, _⟩, hk3⟩
        obtain ⟨hf1, hf2⟩ := (T2.out.gone hp).1 13 (by omega)
        rw [hf2] at hq
        rw [hf1]
        have T3 : Hid (OW w W3 w1.heap.size (w1.heap.size + 1) a.length mb now M1 W1) := Lib.hid ⟨hq.perm hp, T2.out.map.keep (Keep.qs (q := w1.heap.size) hk3) T2.out.nqs, T2.out.same, T2.out.itm, T2.out.len, T2.out.hq, T2.out.hV, T2.out.hB, Keep.drop T2.out.keep (Keep.qs (q := w1.heap.size) hk3) T2.out.hq T2.out.hB'⟩
        clear hp hs hq hk3 hf1 hf2 T2 hdel hlk
        go_wp2_with fail
        refine (over_any T3.out.que (by have := LM.out; omega) (now + 14)).mono ?_
        rintro e W4 ⟨v, L4, rfl, hp, hs, hq, ⟨A4, c4, rfl, hrow⟩, hk4⟩
        obtain ⟨hf1, hf2⟩ := (T3.out.gone hp).2 14 (by omega)
        rw [hf2] at hq
        rw [hf1] at hrow ⊢
        have Q4 := Lib.hid hq
        have M4 := Lib.hid (T3.out.map.keep (Keep.qs (q := w1.heap.size) hk4) T3.out.nqs)
        have K4 := Lib.hid (Keep.drop T3.out.keep (Keep.qs (q := w1.heap.size) hk4) T3.out.hq T3.out.hB')
        have SM : Hid ((L4.map Db.n).Perm W1) := Lib.hid ((hp.map Db.n).trans T3.out.same)
        have IT : Hid (∀ x ∈ L4, 0 ≤ x.n ∧ x.n < 64 ∧ x.i = x.n + 7) := Lib.hid (fun x hx => by
          obtain ⟨h1, h2, h3, _⟩ := T3.out.itm x (hp.mem_iff.1 hx)
          exact ⟨h1, h2, h3⟩)
        have SR := Lib.hid hs
        have ROW := Lib.hid hrow
        have L60 : L4.length ≤ 60 := by rw [hp.length_eq]; exact LM.out
        clear hp hs hq hrow hk4 hf1 hf2 T3
        go_wp2_with fail
        go_loopg [13] L4.length (fun z v13 wr => ∃ i : Nat, i + z = L4.length ∧ v13 = .int .i64 i ∧ Keep (fun _ => False) W4 wr)
        case atStart => exact ⟨0, by omega, rfl, Keep.refl _ _⟩
        case round =>
          obtain ⟨i, hz, rfl, hk⟩ := hrel
          have HZ3 := Lib.hid hz
          have KK := Lib.hid hk
          clear hz
          by_cases hlt : i < L4.length
          · have t2 : decide ((i : Int) < (L4.length : Int)) = true := by simp; omega
            have t3 : (i : Int) < (L4.length : Int) := by omega
            have e1 : IntKind.i64.wrap ((i : Int) + 1) = (i + 1 : Nat) := by rw [IntKind.wrap_i64]; omega
            obtain ⟨g, rfl, hg, hu⟩ := ROW.out (by omega)
            have kd := hk.drew
            have ug : ∀ j, j < L4.length → wr.drew.cell? ⟨g, j * 3, none⟩ = some (.int .i64 (db L4 j).n) ∧ wr.drew.cell? ⟨g, j * 3 + 1, none⟩ = some (.int .u64 (db L4 j).i) ∧ wr.drew.cell? ⟨g, j * 3 + 2, none⟩ = some (.int .i64 3) := fun j hj =>
              ⟨kd.cell (hu j hj 0 (by omega)), kd.cell (hu j hj 1 (by omega)), kd.cell (hu j hj 2 (by omega))⟩
            obtain ⟨u0, u1, u2⟩ := ug i hlt
            obtain ⟨h0, h64, h7⟩ := IT.out (db L4 i) (db_mem hlt)
            have hin : (db L4 i).n ∈ W1 := SM.out.mem_iff.1 (List.mem_map.2 ⟨_, db_mem hlt, rfl⟩)
            have hlk := (M4.out.keep kd id).seen (db L4 i).n true ⟨fun _ => hin, fun _ => rfl⟩
            rw [h7] at u1
            have KD := Lib.hid kd
            rcases Nat.eq_zero_or_pos i with h00 | hpos
            · subst h00
              generalize (db L4 0).n = n at u0 u1 h0 h64 hlk
              have e5 : IntKind.u64.wrap n = n := by rw [IntKind.wrap_u64]; omega
              have e6 : IntKind.u64.wrap (n + 7) = n + 7 := by rw [IntKind.wrap_u64]; omega
              have t4 : (n + 7 == n + 7) = true := by simp
              have t5 : (n + 7 != n + 7) = false := by simp
              clear hk kd ug hu h7 hin
              go_upto_region 21 with fail
              refine sb_lit (by kernel_rfl) (by kernel_rfl) ?_
              repeat (refine sb_step (fun K hK => ?_); go_simp; refine hK _ ?_; clear hK K)
              try refine sb_nil ?_
              go_wp2
              go_roundg (L4.length - (0 + 1))
              case measure => have := HZ3.out; omega
              case rel => exact ⟨0 + 1, by have := HZ3.out; omega, by go_num, KD.out⟩
            · obtain ⟨j, rfl⟩ : ∃ j, i = j + 1 := ⟨i - 1, by omega⟩
              obtain ⟨p0, _, _⟩ := ug j (by omega)
              have hsr : (db L4 j).n < (db L4 (j + 1)).n := by
                rw [db_of (by omega), db_of hlt]
                exact List.pairwise_iff_getElem.1 SR.out j (j + 1) (by omega) hlt (by omega)
              generalize (db L4 j).n = m at p0 hsr
              generalize (db L4 (j + 1)).n = n at u0 u1 h0 h64 hlk hsr
              have e5 : IntKind.u64.wrap n = n := by rw [IntKind.wrap_u64]; omega
              have e6 : IntKind.u64.wrap (n + 7) = n + 7 := by rw [IntKind.wrap_u64]; omega
              have t4 : (n + 7 == n + 7) = true := by simp
              have t5 : (n + 7 != n + 7) = false := by simp
              have t6 : decide (n ≤ m) = false := decide_eq_false (by omega)
              have t7 : decide ((0 : Int) < ((j + 1 : Nat) : Int)) = true := decide_eq_true (by omega)
              have HLT := Lib.hid hlt
              have t8 : (0 : Int) < (j : Int) + 1 := by omega
              have t9 : (0 : Int) ≤ (j : Int) := by omega
              have t10 : (j : Int) < (L4.length : Int) := by omega
              have v1 : ((j : Int) + 1).toNat = j + 1 := by omega
              have v2 : ((j : Int) + 1 - 1) = (j : Int) := by omega
              have e7 : IntKind.i64.wrap (j : Int) = (j : Int) := by rw [IntKind.wrap_i64]; omega
              have e8 : IntKind.i64.wrap ((j : Int) + 1) = (j : Int) + 1 := by rw [IntKind.wrap_i64]; omega
              have t11 : (j : Int) + 1 < (L4.length : Int) := by omega
              have t12 : (0 : Int) ≤ (j : Int) + 1 := by omega
              have t13 : decide ((0 : Int) < (j : Int) + 1) = true := decide_eq_true t8
              have t14 : decide ((j : Int) + 1 < (L4.length : Int)) = true := decide_eq_true t11
              have e9 : IntKind.i64.wrap ((j : Int) + 1 + 1) = (j : Int) + 1 + 1 := by rw [IntKind.wrap_i64]; omega
              clear hk kd ug hu h7 hin hsr
              go_upto_region 21 with fail
              refine sb_lit (by kernel_rfl) (by kernel_rfl) ?_
              repeat (refine sb_step (fun K hK => ?_); go_simp; refine hK _ ?_; clear hK K)
              try refine sb_nil ?_
              go_wp2
              go_roundg (L4.length - (j + 1 + 1))
              case measure => have := HZ3.out; have := HLT.out; omega
              case rel => exact ⟨j + 1 + 1, by have := HZ3.out; have := HLT.out; omega, by go_num, KD.out⟩
          · obtain rfl : L4.length = i := by have := HZ3.out; omega
            have t1 : decide ((L4.length : Int) < (L4.length : Int)) = false := by simp
            have hl53 := len53 (M4.out.keep hk id)
            have hWL : W1.length = L4.length := by rw [← SM.out.length_eq, List.length_map]
            rw [hWL] at hl53
            have teq : ((L4.length : Int) == (L4.length : Int)) = true := by simp
            have Q6 := Lib.hid (Q4.out.keep0 hk)
            have K6 := Lib.hid (K4.out.step hk)
            have HB6 : Hid (∀ B, mb = some B → w.heap.size ≤ B) := Lib.hid (fun B hB => HBF.out B hB)
            have HQ6 : Hid (w.heap.size ≤ w1.heap.size) := HQF
            clear hk hlt hWL
            go_wp2_with fail
            refine (over_any Q6.out (by simp) (now + 1000)).mono ?_
            rintro e W7 ⟨v, L7, rfl, hp, hs, hq, ⟨A7, c7, rfl, _⟩, hk7⟩
            have e7 : L7 = [] := hp.eq_nil
            subst e7
            have Q7 : Hid (IsQ W7 w1.heap.size mb []) := Lib.hid hq
            have K7 := Lib.hid (Keep.drop K6.out (Keep.qs (q := w1.heap.size) hk7) HQ6.out HB6.out)
            clear hp hs hq hk7
            go_wp2_with fail
            refine (all_any Q7.out (by simp)).mono ?_
            rintro e W8 ⟨v, L8, rfl, hA⟩
            have e8 : L8 = [] := hA.perm.eq_nil
            subst e8
            obtain ⟨A8, c8, rfl, _, _⟩ := hA.row
            have K8 := Lib.hid (K7.out.step hA.keep)
            clear hA
            go_wp2
            go_ret
            exact ⟨rfl, K8.out⟩

theorem once_row (a0 : Option Addr) (len0 cap0 : Nat) (z0 : List Int) (a1 a2 : Int) (w : World) (w0 : IsRow .u8 w a0 len0 cap0 z0) (y0 : len0 * 1 ≤ 140737488351232) (w1 : (Lit.int .u8 a1).wf = true) (w2 : (Lit.int .u32 a2).wf = true) :
    Calls Try.prog 5 #[.slice a0 len0 cap0, .int .u8 a1, .int .u32 a2] w fun e w' => e = .returned (.bool true) ∧ Below w.heap.size w w' := by
  obtain ⟨b0, h0⟩ := IsB.ofRow w0 y0
  exact (once_law h0 a1 a2 (wf_u8 w1) (wf_u32 w2)).mono fun _ _ ⟨h1, h2⟩ => ⟨h1, h2.below⟩

end Go.Proofs.Ytojnmbpicmgcpaa
