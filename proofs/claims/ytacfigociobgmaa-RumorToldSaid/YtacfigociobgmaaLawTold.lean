/- RumorTold, walked. -/
import Derived.Test.YtacfigociobgmaaToldP
namespace Go.Proofs.Ytacfigociobgmaa
open Go.RowKit Sh
open Go.ChangeMaps (setBlock)
set_option linter.unusedVariables false

theorem IsMp.set {w : World} {V : Nat} {W : List (Int × Int)} (h : IsMp wk wv w V W) (n C : Int) :
    ∃ o W', (Instr.mapUpdate 28 (.map (some V)) (.int .i64 n) (.int .i64 C)).run Try.prog w = .ok () (setBlock w V o) ∧ IsMp wk wv (setBlock w V o) V W' ∧ setW W n C W' := by
  by_cases c : ∃ x ∈ W, wk x = wk (n, C)
  · obtain ⟨o, hr, hi⟩ := h.upd_in (P := Try.prog) Try.underlying28 Try.underlying3 (n, C) c _ rfl _ rfl
    exact ⟨o, _, hr, hi, .inl ⟨rfl, c⟩⟩
  · have c' : ∀ x ∈ W, wk x ≠ wk (n, C) := fun x hx he => c ⟨x, hx, he⟩
    obtain ⟨o, hr, hi⟩ := h.upd_out (P := Try.prog) Try.underlying28 Try.underlying3 (n, C) c' _ rfl _ rfl
    exact ⟨o, _, hr, hi, .inr ⟨rfl, c'⟩⟩
theorem IsMp.ncell {w : World} {V : Nat} {W : List (Int × Int)} (h : IsMp wk wv w V W) {g o : Nat} {v : Value} (hc : w.cell? ⟨g, o, none⟩ = some v) : g ≠ V := by
  rintro rfl
  obtain ⟨⟨E, c, h1, _⟩, _⟩ := h
  simp [World.cell?, h1] at hc

structure TW (w wr : World) (q V m : Nat) (mb : Option Nat) (C : Int) (M : List It) (W : List (Int × Int)) : Prop where
  que : IsQ wr q mb M
  map : IsMp wk wv wr V W
  ok : OkM C m M
  hq : w.heap.size ≤ q
  hV : V = q + 1
  hB : ∀ B, mb = some B → q + 2 ≤ B
  keep : Keep (fun _ => False) w wr
theorem TW.keep0 {w wr W2 : World} {q V m : Nat} {mb : Option Nat} {C : Int} {M : List It} {W : List (Int × Int)} (h : TW w wr q V m mb C M W) (k : Keep (fun _ => False) wr W2) : TW w W2 q V m mb C M W :=
  ⟨h.que.keep0 k, h.map.keep k id, h.ok, h.hq, h.hV, h.hB, h.keep.step k⟩
theorem TW.nqs {w wr : World} {q V m : Nat} {mb : Option Nat} {C : Int} {M : List It} {W : List (Int × Int)} (h : TW w wr q V m mb C M W) : ¬ QS q mb V := by
  have := h.hV
  rintro (h1 | h1)
  · omega
  · have := h.hB V h1
    omega
theorem TW.hB' {w wr : World} {q V m : Nat} {mb : Option Nat} {C : Int} {M : List It} {W : List (Int × Int)} (h : TW w wr q V m mb C M W) : ∀ B, mb = some B → w.heap.size ≤ B := fun B hB => by
  have := h.hB B hB
  have := h.hq
  omega
theorem TW.put {w wr W2 : World} {q V m : Nat} {mb : Option Nat} {C : Int} {M : List It} {W : List (Int × Int)} {n : Int} (h : TW w wr q V m mb C M W) (hC : 0 < C) (n0 : 0 ≤ n) (n1 : n < 64) (p : PutAny wr W2 q mb M n) :
    ∃ mb' M', TW w W2 q V (m + 1) mb' C M' W ∧ ((M' = M ∧ ∃ x ∈ M, x.n = n) ∨ ((∀ x ∈ M, x.n ≠ n) ∧ M'.Perm (putL M ⟨n, 1, 0, 0⟩))) := by
  obtain ⟨mb', M', hq, hM, hB⟩ := p.ex
  refine ⟨mb', M', ⟨hq, h.map.keep p.keep h.nqs, ?_, h.hq, h.hV, fun B hb => ?_, Keep.drop h.keep p.keep h.hq h.hB'⟩, hM⟩
  · rcases hM with ⟨rfl, _⟩ | ⟨_, hp⟩
    · exact h.ok.up (by omega)
    · exact (h.ok.put n n0 n1 hC).perm hp
  · rcases hB with rfl | ⟨_, B', rfl, hB'⟩
    · exact h.hB B hb
    · injection hb with hb
      have := h.map.lt
      have := h.hV
      omega
theorem TW.take {w wr W2 : World} {q V m k : Nat} {mb : Option Nat} {nodes : Int} {M L : List It} {W : List (Int × Int)} {n : Int} {v : Value} (h : TW w wr q V m mb (capI nodes) M W) (d : TakeDone wr W2 q mb v n nodes M L k) : TW w W2 q V m mb (capI nodes) (toldL (capI nodes) L k) W := by
  obtain ⟨h1, h2⟩ := take_node d h.que h.ok
  exact ⟨h1, h.map.keep d.keep h.nqs, h2, h.hq, h.hV, h.hB, Keep.drop h.keep d.keep h.hq h.hB'⟩
theorem TW.store {w wr : World} {q V m : Nat} {mb : Option Nat} {C : Int} {M : List It} {W W' : List (Int × Int)} {o : Obj} (h : TW w wr q V m mb C M W) (hi : IsMp wk wv (setBlock wr V o) V W') : TW w (setBlock wr V o) q V m mb C M W' := by
  have k : Keep (fun b => b = V) wr (setBlock wr V o) := keep_setBlock (Keep.refl _ wr) V o (fun _ => rfl)
  refine ⟨h.que.keep k ?_, hi, h.ok, h.hq, h.hV, h.hB, h.keep.trans k (fun i hi hlt => ?_)⟩
  · rintro j hj rfl
    exact h.nqs hj
  · have h1 := h.hV
    have h2 := h.hq
    omega

theorem cap24 {n : Int} (h0 : 0 ≤ n) (h1 : n ≤ 255) : capI n ≤ 24 := by
  have : bitsI n ≤ 8 := Lib.bitLen_le _ 8 (by omega) (by omega)
  unfold capI
  omega

set_option maxRecDepth 100000 in
set_option maxHeartbeats 4000000 in
theorem told_law {w : World} {va : Value} {a : List Int} (ha : IsB w va a) (many nn : Int) (hm : 0 ≤ many ∧ many ≤ 255) (hn : 0 ≤ nn ∧ nn ≤ 255) :
    Calls Try.prog 3 #[va, .int .u8 many, .int .u8 nn] w fun e w' => e = .returned (.bool true) ∧ Keep (fun _ => False) w w' := by
  have w4 : IntKind.i64.wrap many = many := by rw [IntKind.wrap_i64]; omega
  have w5 : IntKind.i64.wrap nn = nn := by rw [IntKind.wrap_i64]; omega
  obtain ⟨A, ca, rfl, hca, hla, hA⟩ := ha.ex
  have EA := Lib.hid hA
  have RA := Lib.hid ha.rng
  clear ha hA
  by_cases h1 : 30 < a.length
  · have d1 : decide ((30 : Int) < (a.length : Int)) = true := by simp; omega
    have d2 : (30 : Int) < (a.length : Int) := by omega
    go_enter Try.func3, Try.ntmps3
    go_wp2_with fail
    refine (shown8 w).mono ?_
    rintro e w1 ⟨rfl, hk1⟩
    have HK1 := Lib.hid hk1
    clear hk1
    go_wp2
    go_ret
    exact ⟨rfl, HK1.out⟩
  · have d1 : decide ((30 : Int) < (a.length : Int)) = false := by simp; omega
    have d2 : ¬ (30 : Int) < (a.length : Int) := by omega
    obtain ⟨k9, hk9⟩ : ∃ k : Nat, (k : Int) = nn.tmod 9 := ⟨(nn.tmod 9).toNat, by rw [Int.tmod_eq_emod_of_nonneg hn.1]; omega⟩
    have n9 : nn.tmod 9 = (k9 : Int) := hk9.symm
    rw [Int.tmod_eq_emod_of_nonneg hn.1] at hk9
    have k9b : k9 ≤ 8 := by omega
    have wk9 : IntKind.i64.wrap (k9 : Int) = k9 := by rw [IntKind.wrap_i64]; omega
    have wk10 : IntKind.i64.wrap (1 + (k9 : Int)) = 1 + k9 := by rw [IntKind.wrap_i64]; omega
    have CAP : Hid (∀ W, Calls Try.prog 10 #[.int .i64 many] W fun e w' => e = .returned (.int .i64 (capI many)) ∧ W = w') := Lib.hid fun W => cap_any many W (by omega) (by omega)
    have C1 : Hid (1 ≤ capI many ∧ capI many ≤ 24) := Lib.hid ⟨capI_pos many, cap24 hm.1 hm.2⟩
    have MANY := Lib.hid hm
    have hmm := @run_makeMap Try.prog
    clear hk9 hm hn
    go_enter Try.func3, Try.ntmps3
    go_wp2_with fail
    refine (shown8 w).mono ?_
    rintro e w1 ⟨rfl, hk1⟩
    have T1 : Hid (TW w ((w1.alloc (.cells #[.map none] 27)).alloc (.map #[] 0)) w1.heap.size (w1.heap.size + 1) 0 none (capI many) [] []) := Lib.hid (by
      refine ⟨(IsQ.fresh w1).keep0 ((Keep.refl _ _).alloc _), ?_, OkM.nil _, hk1.size, rfl, fun B h => (by cases h), (hk1.alloc _).alloc _⟩
      have := IsMp.made (key := wk) (val := wv) (w1.alloc (.cells #[.map none] 27))
      simpa using this)
    clear hk1
    go_wp2_with fail
    clear hmm
    obtain ⟨C, hC⟩ : ∃ C, C = capI many := ⟨_, rfl⟩
    rw [← hC] at CAP C1 T1
    have HC := Lib.hid hC
    clear hC
    go_loopg [9] a.length (fun z v9 wr => ∃ (i : Nat) (mb : Option Nat) (M : List It) (W : List (Int × Int)), i + z = a.length ∧ v9 = .int .i64 i ∧ TW w wr w1.heap.size (w1.heap.size + 1) i mb C M W ∧ Inv1 C M W ∧ ∀ j, j < i → ∃ p ∈ W, p.1 = a.getD j 0 % 64)
    case atStart => exact ⟨0, none, [], [], by omega, rfl, T1.out, ⟨fun x hx => by simp at hx, fun p hp => by simp at hp⟩, fun j hj => by omega⟩
    case round =>
      obtain ⟨i, mb, M, W, hz, rfl, htw, hinv, hdone⟩ := hrel
      have T := Lib.hid htw
      have IV := Lib.hid hinv
      have DN := Lib.hid hdone
      have HZ := Lib.hid hz
      clear htw hinv hdone hz T1
      have hzz := HZ.out
      by_cases hlt : i < a.length
      · obtain ⟨g, o, rfl, hc⟩ := EA.out (by omega)
        have c0 := T.out.keep.cell (hc i hlt)
        have cw := hc i hlt
        have hr := RA.out i hlt
        obtain ⟨y, hy⟩ : ∃ y, y = a.getD i 0 := ⟨_, rfl⟩
        rw [← hy] at c0 cw hr
        obtain ⟨y0, y1⟩ := hr
        have e1 : IntKind.i64.wrap ((i : Int) + 1) = (i + 1 : Nat) := by rw [IntKind.wrap_i64]; omega
        have e2 : IntKind.i64.wrap y = y := by rw [IntKind.wrap_i64]; omega
        obtain ⟨n, hn⟩ : ∃ n, n = y.tmod 64 := ⟨_, rfl⟩
        have e3 : y.tmod 64 = n := hn.symm
        rw [Int.tmod_eq_emod_of_nonneg y0] at hn
        have N01 : Hid (0 ≤ n ∧ n < 64) := Lib.hid (by omega)
        have e4 : IntKind.i64.wrap n = n := by rw [IntKind.wrap_i64]; omega
        have HN : Hid (a.getD i 0 % 64 = n) := Lib.hid (by rw [← hy, hn])
        clear hc hy hn hzz
        go_wp2_with fail
        refine (put_node T.out.que T.out.ok (by have := HZ.out; omega) n N01.out.1 N01.out.2).mono ?_
        rintro e W2 ⟨⟨r, rfl⟩, hp⟩
        obtain ⟨mb2, M2, ht2, hrel2⟩ := T.out.put (by have := C1.out; omega) N01.out.1 N01.out.2 hp
        have ht3 := ht2.keep0 ((Keep.refl _ W2).drew)
        obtain ⟨o2, W3, hup, hiw, hsw⟩ := ht3.map.set n C
        have T3 := Lib.hid (ht3.store hiw)
        have IV3 := Lib.hid (IV.out.put hrel2 hsw)
        have DN3 : Hid (∀ j, j < i + 1 → ∃ p ∈ W3, p.1 = a.getD j 0 % 64) := Lib.hid (by
          intro j hj
          by_cases c : j = i
          · subst c
            exact ⟨(n, C), (setW_mem hsw _).2 (.inl rfl), HN.out.symm⟩
          · obtain ⟨p, hp, hpn⟩ := DN.out j (by omega)
            by_cases c2 : p.1 = n
            · exact ⟨(n, C), (setW_mem hsw _).2 (.inl rfl), by rw [← hpn, c2]⟩
            · exact ⟨p, (setW_mem hsw _).2 (.inr ⟨hp, c2⟩), hpn⟩)
        have cd : W2.drew.cell? ⟨g, o + i, none⟩ = some (.int .u8 y) := ht3.keep.cell cw
        clear hp ht2 ht3 hiw hsw hrel2 T IV DN c0 cw
        go_upto_region 9 with fail
        refine still_tail 10 (by kernel_rfl) (by kernel_rfl) ?_
        simp only [List.take_succ_cons, List.take_zero, List.drop_succ_cons, List.drop_zero]
        repeat still_step
        still_call (to_still (CAP.out W2.drew))
        repeat still_step
        try refine wpStill_nil ?_
        go_wp2
        go_roundg (a.length - (i + 1))
        case measure => have := HZ.out; omega
        case rel => exact ⟨i + 1, mb2, M2, W3, by omega, by go_num, T3.out, IV3.out, DN3.out⟩
      · obtain rfl : a.length = i := by omega
        have t1 : decide ((a.length : Int) < (a.length : Int)) = false := by simp
        clear hzz hlt
        go_wp2_with fail
        obtain ⟨wa, rfl⟩ : ∃ wa : World, wa = wr := ⟨_, rfl⟩
        have hs0 : sumW C M ≤ 1000 := by
          have h1 := sumW_le C 24 C1.out.2 M (fun x hx => (T.out.ok.itm x hx).2.2.2.2.1)
          have h2 := T.out.ok.len
          omega
        have IV0 := Lib.hid (IV.out.inv (by have := C1.out; omega))
        have S0 := Lib.hid hs0
        clear hs0 IV
        go_loopg [10, 11, 12] (sumW C M) (fun z v10 v11 v12 wr => ∃ (i : Nat) (mb' : Option Nat) (M' : List It) (W' : List (Int × Int)), z = sumW C M' ∧ i + sumW C M' ≤ 1000 ∧ v10 = .int .i64 i ∧ TW w wr w1.heap.size (w1.heap.size + 1) a.length mb' C M' W' ∧ Inv C M' W' ∧ ∀ j, j < a.length → ∃ p ∈ W', p.1 = a.getD j 0 % 64)
        case atStart => exact ⟨0, mb, M, W, rfl, by have := S0.out; omega, rfl, T.out, IV0.out, DN.out⟩
        case round =>
          obtain ⟨i, mb', M', W', hz, hs, rfl, htw, hinv, hdone⟩ := hrel
          have T' := Lib.hid htw
          have IV' := Lib.hid hinv
          have DN' := Lib.hid hdone
          have HS := Lib.hid hs
          have HZ' := Lib.hid hz
          have t2 : decide ((i : Int) < 2000) = true := by simp; omega
          have t3 : (i : Int) < 2000 := by omega
          have e1 : IntKind.i64.wrap ((i : Int) + 1) = (i + 1 : Nat) := by rw [IntKind.wrap_i64]; omega
          clear htw hinv hdone hs hz T IV0 DN
          obtain ⟨wb, rfl⟩ : ∃ wb : World, wb = wr := ⟨_, rfl⟩
          go_wp2_with fail
          refine (items_any T'.out.que (by have := T'.out.ok.len; omega)).mono ?_
          rintro e W5 ⟨v, L0, rfl, hI⟩
          obtain ⟨hIp, hIs, ⟨g0, c0, rfl, hg, hc, hrow⟩, hk5⟩ := hI
          have T5 := Lib.hid (T'.out.keep0 hk5)
          have HLL := Lib.hid hIp.length_eq
          clear hIp hIs hrow hk5 hg hc T'
          by_cases hnil : M'.length = 0
          · have h0 : L0.length = 0 := by rw [HLL.out]; exact hnil
            rw [h0]
            have hM0 : M' = [] := List.length_eq_zero_iff.1 hnil
            subst hM0
            clear h0 hnil HLL HS HZ'
            go_wp2_with fail
            go_loopg [13] a.length (fun z v13 wr => ∃ j : Nat, j + z = a.length ∧ v13 = .int .i64 j ∧ W5 = wr)
            case atStart => exact ⟨0, by omega, rfl, rfl⟩
            case round =>
              obtain ⟨j, hz, rfl, rfl⟩ := hrel
              have HZ3 := Lib.hid hz
              clear hz
              have hzz := HZ3.out
              by_cases hlt : j < a.length
              · obtain ⟨g, o, rfl, hc⟩ := EA.out (by omega)
                have c0 := T5.out.keep.cell (hc j hlt)
                have hr := RA.out j hlt
                obtain ⟨p, hp, hpn⟩ := DN'.out j hlt
                obtain ⟨y, hy⟩ : ∃ y, y = a.getD j 0 := ⟨_, rfl⟩
                rw [← hy] at c0 hr hpn
                obtain ⟨y0, y1⟩ := hr
                have e1 : IntKind.i64.wrap ((j : Int) + 1) = (j + 1 : Nat) := by rw [IntKind.wrap_i64]; omega
                have e2 : IntKind.i64.wrap y = y := by rw [IntKind.wrap_i64]; omega
                obtain ⟨n, hn⟩ : ∃ n, n = y.tmod 64 := ⟨_, rfl⟩
                have e3 : y.tmod 64 = n := hn.symm
                rw [Int.tmod_eq_emod_of_nonneg y0] at hn
                have e4 : IntKind.i64.wrap n = n := by rw [IntKind.wrap_i64]; omega
                have hp2 : p.2 = 0 := by
                  rcases IV'.out.own p hp with h | ⟨x, hx, _⟩
                  · exact h
                  · simp at hx
                have hlk := T5.out.map.look_in (P := Try.prog) Try.underlying28 Try.underlying3 hp n (show wk p = n by unfold wk; rw [hpn, hn]) false
                have hlk2 : (Instr.lookup 28 (.map (some (w1.heap.size + 1))) (.int .i64 n) false).run Try.prog W5 = .ok (.int .i64 0) W5 := by
                  rw [hlk]
                  simp [wv, hp2]
                clear hc hy hn hzz hlk hp hpn hp2
                go_wp2
                go_roundg (a.length - (j + 1))
                case measure => have := HZ3.out; omega
                case rel => exact ⟨j + 1, by have := HZ3.out; omega, by go_num, rfl⟩
              · obtain rfl : a.length = j := by omega
                have t4 : decide ((a.length : Int) < (a.length : Int)) = false := by simp
                clear hzz hlt
                go_wp2_with fail
                refine (items_any T5.out.que (by simp)).mono ?_
                rintro e W9 ⟨v, L9, rfl, hI⟩
                obtain ⟨hIp, hIs, ⟨g9, c9, rfl, hg, hc, hrow⟩, hk9⟩ := hI
                have h9 : L9.length = 0 := by rw [hIp.length_eq]; rfl
                rw [h9]
                have K9 := Lib.hid (T5.out.keep.step hk9)
                clear hIp hIs hg hc hrow hk9 h9
                go_wp2
                go_ret
                exact ⟨rfl, K9.out⟩
          · have hpos : 0 < L0.length := by rw [HLL.out]; omega
            have t5 : decide ((0 : Int) < (L0.length : Int)) = true := by simp; omega
            have t6 : (0 : Int) < (L0.length : Int) := by omega
            have hml := T5.out.ok.len
            go_wp2_with fail
            refine (take_any T5.out.que (by omega) (fun x hx => by have := T5.out.ok.itm x hx; have := C1.out; omega) (1 + (k9 : Int)) many (by have := MANY.out; omega) (by have := MANY.out; omega)).mono ?_
            rintro e W7 ⟨v, L, k, rfl, hd⟩
            have hT5 := T5.out
            rw [HC.out] at hT5
            have hT7 := hT5.take hd
            rw [← HC.out] at hT7
            have T7 := Lib.hid hT7
            have hLlen : L.length = M'.length := hd.perm.length_eq
            have hk1 : 1 ≤ k ∧ k ≤ L.length := by have := hd.hk; omega
            have IVL : Hid (Inv C (toldL C L 0) W') := Lib.hid (by rw [toldL_zero]; exact IV'.out.perm hd.perm)
            have hnod := (hd.perm.map It.n).nodup_iff.2 T5.out.que.nod
            have NOD := Lib.hid hnod
            have hsum : sumW C (toldL C L k) + k ≤ sumW C M' := by
              have h1 : sumW C M' = sumW C (L.take k) + sumW C (L.drop k) := by rw [← sumW_append, List.take_append_drop]; exact sumW_perm hd.perm.symm
              have h2 := sumW_told C (L.take k) (fun x hx => (IV'.out.all x (hd.perm.mem_iff.1 (List.mem_of_mem_take hx))).2.2)
              have h3 : (L.take k).length = k := by simp; omega
              unfold toldL
              rw [sumW_append]
              omega
            obtain ⟨A2, c2, rfl, hA2⟩ := hd.up
            have hkl : (L.take k).length = k := by simp; omega
            rw [hkl]
            obtain ⟨g2, rfl, hup⟩ := hA2 (by omega)
            have UP : Hid (∀ j, j < k → W7.cell? ⟨g2, j * 3, none⟩ = some (.int .i64 (it L j).n)) := Lib.hid (fun j hj => by
              have := (hup j (by omega)).1
              rw [this, it_of (by omega), it_of (by omega)]
              simp)
            have SUM := Lib.hid hsum
            have HL30 : Hid (L.length ≤ 30) := Lib.hid (by omega)
            have HK1 := Lib.hid hk1
            clear hd hT5 hT7 hA2 hkl hup hsum hnod hLlen T5 HLL hml hpos hk1
            go_wp2_with fail
            go_loopg [12] k (fun z v12 wr => ∃ (j : Nat) (W2 : List (Int × Int)), j + z = k ∧ v12 = .int .i64 j ∧ TW w wr w1.heap.size (w1.heap.size + 1) a.length mb' C (toldL C L k) W2 ∧ Inv C (toldL C L j) W2 ∧ (∀ j, j < a.length → ∃ p ∈ W2, p.1 = a.getD j 0 % 64) ∧ Keep (fun b => b = w1.heap.size + 1) W7 wr)
            case atStart => exact ⟨0, W', by omega, rfl, T7.out, IVL.out, DN'.out, Keep.refl _ _⟩
            case round =>
              obtain ⟨j, W2, hz, rfl, htw, hinv, hdone, hkk⟩ := hrel
              have T8 := Lib.hid htw
              have DN8 := Lib.hid hdone
              have HZ3 := Lib.hid hz
              have IV8 := Lib.hid hinv
              have K8 := Lib.hid hkk
              clear htw hinv hdone hz
              have hzz := HZ3.out
              have hk1 := HK1.out
              have hL30 := HL30.out
              by_cases hlt : j < k
              · have t7 : decide ((j : Int) < (k : Int)) = true := by simp; omega
                have t8 : (j : Int) < (k : Int) := by omega
                have e2 : IntKind.i64.wrap ((j : Int) + 1) = (j + 1 : Nat) := by rw [IntKind.wrap_i64]; omega
                have u0 := UP.out j hlt
                have gV := T7.out.map.ncell u0
                have u0 : wr.cell? ⟨g2, j * 3, none⟩ = _ := (World.cell?_of_block (hkk.block g2 (World.block_lt_of_cell? W7 _ u0) gV)).trans u0
                obtain ⟨hmem, ht0, htC, hst⟩ := toldL_step (by omega) IV8.out NOD.out
                obtain ⟨x, hx⟩ : ∃ x, x = it L j := ⟨_, rfl⟩
                rw [← hx] at u0 hmem ht0 htC hst
                obtain ⟨xn, xi, xs, xt⟩ := x
                simp only at u0 hmem ht0 htC hst
                have hlk := T8.out.map.look_in (P := Try.prog) Try.underlying28 Try.underlying3 hmem xn rfl false
                have hlk2 : (Instr.lookup 28 (.map (some (w1.heap.size + 1))) (.int .i64 xn) false).run Try.prog wr = .ok (.int .i64 (C - xt)) wr := hlk
                obtain ⟨o3, hup, hi3⟩ := T8.out.map.upd_in (P := Try.prog) Try.underlying28 Try.underlying3 (xn, C - xt - 1) ⟨_, hmem, rfl⟩ (.int .i64 (C - xt - 1)) rfl xn rfl
                have hmem3 : (xn, C - xt - 1) ∈ (W2.map fun z => if wk z = wk (xn, C - xt - 1) then (xn, C - xt - 1) else z) := List.mem_map.2 ⟨_, hmem, if_pos rfl⟩
                have hlk3 := hi3.look_in (P := Try.prog) Try.underlying28 Try.underlying3 hmem3 xn rfl false
                have hlk4 : (Instr.lookup 28 (.map (some (w1.heap.size + 1))) (.int .i64 xn) false).run Try.prog (setBlock wr (w1.heap.size + 1) o3) = .ok (.int .i64 (C - xt - 1)) (setBlock wr (w1.heap.size + 1) o3) := hlk3
                have kst : Keep (fun b => b = w1.heap.size + 1) wr (setBlock wr (w1.heap.size + 1) o3) := keep_setBlock (Keep.refl _ wr) _ o3 (fun _ => rfl)
                have u1 : (setBlock wr (w1.heap.size + 1) o3).cell? ⟨g2, j * 3, none⟩ = some (.int .i64 xn) := (World.cell?_of_block (kst.block g2 (World.block_lt_of_cell? wr _ u0) gV)).trans u0
                have T9 := Lib.hid (T8.out.store hi3)
                have IV9 := Lib.hid hst
                have DN9 : Hid (∀ j, j < a.length → ∃ p ∈ (W2.map fun z => if wk z = wk (xn, C - xt - 1) then (xn, C - xt - 1) else z), p.1 = a.getD j 0 % 64) := Lib.hid (fun j hj => by
                  obtain ⟨p, hp, hpn⟩ := DN8.out j hj
                  by_cases c : wk p = wk (xn, C - xt - 1)
                  · exact ⟨(xn, C - xt - 1), List.mem_map.2 ⟨p, hp, if_pos c⟩, by rw [← hpn]; exact c.symm⟩
                  · exact ⟨p, List.mem_map.2 ⟨p, hp, if_neg c⟩, hpn⟩)
                have K9 := Lib.hid (K8.out.step kst)
                have hC24 := C1.out
                have e3 : IntKind.i64.wrap (C - xt - 1) = C - xt - 1 := by rw [IntKind.wrap_i64]; omega
                have t9 : decide (C - xt - 1 < 0) = false := decide_eq_false (by omega)
                have t10 : ¬ (C - xt - 1 < 0) := by omega
                clear hlk hlk3 hi3 hmem hmem3 hst kst hkk hzz hk1 hx T8 IV8 DN8 K8 ht0 htC hC24
                go_wp2
                go_roundg (k - (j + 1))
                case measure => have := HZ3.out; omega
                case rel => exact ⟨j + 1, _, by have := HZ3.out; omega, by go_num, T9.out, IV9.out, DN9.out, K9.out⟩
              · obtain rfl : k = j := by omega
                have t7 : decide ((k : Int) < (k : Int)) = false := by simp
                clear hkk hlt hzz hk1
                go_wp2
                go_roundg (sumW C (toldL C L k))
                case measure => have := SUM.out; have := HK1.out; have := HZ'.out; omega
                case rel => exact ⟨i + 1, mb', _, W2, rfl, by have := SUM.out; have := HK1.out; have := HS.out; omega, by go_num, T8.out, IV8.out, DN8.out⟩

theorem told_row (a0 : Option Addr) (len0 cap0 : Nat) (z0 : List Int) (a1 a2 : Int) (w : World) (w0 : IsRow .u8 w a0 len0 cap0 z0) (y0 : len0 * 1 ≤ 140737488351232) (w1 : (Lit.int .u8 a1).wf = true) (w2 : (Lit.int .u8 a2).wf = true) :
    Calls Try.prog 3 #[.slice a0 len0 cap0, .int .u8 a1, .int .u8 a2] w fun e w' => e = .returned (.bool true) ∧ Below w.heap.size w w' := by
  obtain ⟨b0, h0⟩ := IsB.ofRow w0 y0
  exact (told_law h0 a1 a2 (wf_u8 w1) (wf_u8 w2)).mono fun _ _ ⟨h1, h2⟩ => ⟨h1, h2.below⟩

end Go.Proofs.Ytacfigociobgmaa
