/- Walk of the law DetectSays. -/
import Derived.Test.YtofonfohaocclaaGreatDoorG34
import Derived.Test.YtofonfohaocclaaGreatDoorG35
namespace Go.Proofs.YtofonfohaocclaaGreatDoor
open Go.RowKit Sh
open Go.ChangeMaps (setBlock)
set_option linter.unusedVariables false
set_option linter.unusedSimpArgs false

/-- Ahead of a round. -/
structure SLoop (w wr : World) (b xl : Nat) (k : Int) (i : Nat) : Prop where
  ex : ∃ d p L, IsDet wr b d p ∧ IsLots wr xl L ∧ (∀ j, p.has b j → w.heap.size ≤ j) ∧ KO i d ∧ SI k d
  keep : Keep (fun _ => False) w wr
/-- Behind the switch. -/
structure SCut (w wx : World) (b xl : Nat) (k : Int) (i : Nat) (v12 : Value) : Prop where
  loop : SLoop w wx b xl k i
  nts : ∃ (N : List Nt) (A : Option Addr) (c base : Nat), v12 = .slice A N.length c ∧ (0 < N.length → ∃ g o, A = some ⟨g, o, none⟩ ∧ ∀ j (hj : j < N.length), ∃ vn, NtIn wx base g (o + j * 6) N[j] vn) ∧ (∀ n ∈ N, GoodNt k n) ∧ N.length ≤ 1099511627776
theorem SLoop.next {w wz w' : World} {b xl : Nat} {k : Int} {i : Nat} {p : Parts} {d' : Det} {L' : List Int} (hx : w.heap.size ≤ xl) (hk : Keep (fun _ => False) w wz) (hp : ∀ j, p.has b j → w.heap.size ≤ j) (hs : DLSet wz w' b p xl d' L') (ho : KO i d') (hi : SI k d') : SLoop w w' b xl k i := by
  obtain ⟨p', hd, hsub⟩ := hs.ex
  refine ⟨⟨d', p', L', hd, hs.lots, fun j hj => ?_, ho, hi⟩, hk.trans hs.keep fun j hj hl => ?_⟩
  · rcases hsub j hj with h | h
    · exact hp j h
    · have := hk.size; omega
  · rcases hj with hj | hj
    · have := hp j hj; omega
    · omega
theorem SLoop.on {w wz w' : World} {b xl : Nat} {k : Int} {i : Nat} (h : SLoop w wz b xl k i) (kk : Keep (fun _ => False) wz w') : SLoop w w' b xl k i := by
  obtain ⟨d, p, L, h1, h2, h3, h4, h5⟩ := h.ex
  exact ⟨⟨d, p, L, h1.keep0 kk, h2.keep0 kk, h3, h4, h5⟩, h.keep.step kk⟩
theorem SLoop.le {w wz : World} {b xl : Nat} {k : Int} {i j : Nat} (h : SLoop w wz b xl k i) (hij : i ≤ j) : SLoop w wz b xl k j := by
  obtain ⟨d, p, L, h1, h2, h3, h4, h5⟩ := h.ex
  exact ⟨⟨d, p, L, h1, h2, h3, h4.le hij, h5⟩, h.keep⟩
theorem sayAll_len (w : Wt) : ∀ (H : List Int) (d : Det), (d.sayAll w H).2.length = H.length
  | [], _ => rfl
  | x :: H, d => by
    show ((d.say ⟨3, 0, x, w.s, w.n, []⟩).2 :: ((d.say ⟨3, 0, x, w.s, w.n, []⟩).1.sayAll w H).2).length = _
    rw [List.length_cons, List.length_cons, sayAll_len w H]
theorem watch_len (d : Det) (L : List Int) (w : Wt) : (d.watch L w).2.2.length ≤ 2 := by
  unfold Det.watch
  simp only
  split
  · split <;> simp
  · split
    · rw [sayAll_len]
      unfold helpersP
      simp only
      rw [List.length_take]
      omega
    · simp
theorem watches_len : ∀ (W : List Wt) (d : Det) (L : List Int), (d.watches L W).2.2.length ≤ 2 * W.length
  | [], _, _ => by show ([] : List Nt).length ≤ _; simp
  | w :: W, d, L => by
    have h1 := watch_len d L w
    have h2 := watches_len W (d.watch L w).1 (d.watch L w).2.1
    show ((d.watch L w).2.2 ++ ((d.watch L w).1.watches (d.watch L w).2.1 W).2.2).length ≤ _
    rw [List.length_append, List.length_cons]
    omega
theorem tick_len (d : Det) (L : List Int) : (d.tick L).2.2.length ≤ 2 * d.ws.length + 1 := by
  have h1 : (d.tickA L).2.2.length ≤ 2 * d.ws.length := watches_len _ _ _
  rw [tick_eq]
  split
  · simp
  · cases nextP ((d.tickA L).1.tickC (d.tickA L).2.1).1.r.others ((d.tickA L).1.tickC (d.tickA L).2.1).1.left ((d.tickA L).1.tickC (d.tickA L).2.1).2 with
    | none => show (d.tickA L).2.2.length ≤ _; omega
    | some x =>
      obtain ⟨m, left, L'⟩ := x
      show ((d.tickA L).2.2 ++ [_]).length ≤ _
      rw [List.length_append]
      simp
      omega
theorem acked_len (d : Det) (n : Nt) : (d.acked n).2.length ≤ 1 := by
  unfold Det.acked
  simp only
  cases d.es[d.es.findIdx fun x => decide (x.s = n.seq) && decide (x.n = n.fr)]? with
  | none => simp
  | some x => simp
theorem helped_len (d : Det) (n : Nt) : (d.helped n).2.length ≤ 1 := by
  unfold Det.helped
  split
  · exact Nat.le_refl 1
  · exact Nat.le_refl 1
theorem hear_len (d : Det) (L : List Int) (n : Nt) : (d.hear L n).2.2.1.length ≤ 1 := by
  unfold Det.hear
  split
  · exact Nat.zero_le 1
  · split
    · exact Nat.zero_le 1
    · split
      · exact Nat.zero_le 1
      · simp only
        generalize (if (d.r.get n.fr).2 then (d, L) else ((d.take L ⟨n.fr, 0, 0⟩ n.fr).1, (d.take L ⟨n.fr, 0, 0⟩ n.fr).2.1) : Det × List Int) = a
        generalize a.1.news a.2 n.fr n.news = c
        split
        · exact Nat.zero_le 1
        · simp only
          split
          · exact Nat.le_refl 1
          · split
            · exact acked_len _ _
            · exact helped_len _ _
theorem ActOk.news {w wz : World} {a : ActD} (h : ActOk w a) (hk : Keep (fun _ => False) w wz) {S : Nat → Prop} (hS : ∀ j, S j → w.heap.size ≤ j) : NewsR S wz a.nv a.news := by
  obtain ⟨A, c, hv, hc⟩ := h.ex
  refine ⟨A, c, hv, fun h0 => ?_⟩
  obtain ⟨g, o, hA, hcell⟩ := hc h0
  have hg : g < w.heap.size := World.block_lt_of_cell? w _ (hcell 0 h0).1
  exact ⟨g, o, hA, fun hh => absurd (hS g hh) (by omega), fun i hi => ⟨hk.cell (hcell i hi).1, hk.cell (hcell i hi).2.1, hk.cell (hcell i hi).2.2⟩⟩
theorem sl_meas {i z n : Nat} (h : i + z = n) (hi : i < n) : n - (i + 1) < z := by omega
theorem sl_rel {i n : Nat} (hi : i < n) : i + 1 + (n - (i + 1)) = n := by omega
theorem sl_next {i : Nat} (h : wrap64 ((i : Int) + 1) = (i : Int) + 1) : Value.int .i64 (wrap64 ((i : Int) + 1)) = Value.int .i64 ((i + 1 : Nat) : Int) := by rw [h]; rfl
theorem tmod8 {me : Int} (h : 0 ≤ me ∧ me ≤ 255) : 0 ≤ (wrap64 me).tmod 8 ∧ (wrap64 me).tmod 8 < 8 := by
  have e : wrap64 me = me := by unfold wrap64; omega
  rw [e, Int.tmod_eq_emod_of_nonneg h.1]
  omega
set_option maxRecDepth 100000 in
set_option maxHeartbeats 4000000 in
theorem says_law {w : World} {me : Int} {lv av : Value} {LL : List Int} {acts : List ActD} (hme : 0 ≤ me ∧ me ≤ 255) (hL : WArg w lv LL) (hA : ActsR w av acts) (hT : TabAt 0 B.tabS w) (hw : 0 < w.heap.size) :
    Calls Tryz.prog 6 #[.int .u8 me, lv, av] w fun e w' => e = .returned (.bool true) ∧ Keep (fun _ => False) w w' := by
  obtain ⟨A1, c1, hv1, hc1⟩ := hL.ex
  obtain ⟨A2, c2, hv2, hc2⟩ := hA.ex
  subst hv1
  subst hv2
  have HSH : Hid (∀ W, Keep (fun _ => False) w W → Calls Tryz.prog 8 #[] W fun e w' => e = .returned (.bool true) ∧ Keep (fun _ => False) w w') := Lib.hid (fun W k => (shown_any (B.tab_keep hT k id) (by have := k.size; omega)).mono (by
    rintro e w' ⟨rfl, hk⟩
    exact ⟨rfl, k.step hk⟩))
  have HL := Lib.hid hL
  have HA := Lib.hid hA
  have HC2 := Lib.hid hc2
  have HT := Lib.hid hT
  have HM := Lib.hid hme
  clear hL hA hT hc1 hc2 hme
  by_cases h1 : 400 < LL.length
  · have d1 : decide ((400 : Int) < (LL.length : Int)) = true := decide_eq_true (by omega)
    clear h1
    go_enter Tryz.func6, Tryz.ntmps6
    go_wp2_with fail
    refine (HSH.out _ (Keep.refl _ _)).mono ?_
    rintro e w1 ⟨rfl, hk⟩
    have HK := Lib.hid hk
    clear hk
    go_wp2_with fail
    go_ret
    exact ⟨rfl, HK.out⟩
  · have d1 : decide ((400 : Int) < (LL.length : Int)) = false := decide_eq_false (by omega)
    have HL4 := Lib.hid (Nat.not_lt.1 h1)
    clear h1
    by_cases h2 : 60 < acts.length
    · have d2 : decide ((60 : Int) < (acts.length : Int)) = true := decide_eq_true (by omega)
      clear h2
      go_enter Tryz.func6, Tryz.ntmps6
      go_wp2_with fail
      refine (HSH.out _ (Keep.refl _ _)).mono ?_
      rintro e w1 ⟨rfl, hk⟩
      have HK := Lib.hid hk
      clear hk
      go_wp2_with fail
      go_ret
      exact ⟨rfl, HK.out⟩
    · have d2 : decide ((60 : Int) < (acts.length : Int)) = false := decide_eq_false (by omega)
      have HA6 := Lib.hid (Nat.not_lt.1 h2)
      clear h2
      go_enter Tryz.func6, Tryz.ntmps6
      go_wp2_with fail
      refine (HSH.out _ (Keep.refl _ _)).mono ?_
      rintro e w1 ⟨rfl, hk1⟩
      have HK1 := Lib.hid hk1
      clear hk1
      obtain ⟨hk0, hk8⟩ := tmod8 HM.out
      go_wp2_with fail
      generalize (wrap64 me).tmod 8 = k at *
      refine (new_det k (by omega) (by have := HK1.out.size; omega)).mono ?_
      rintro e w2 ⟨b, rfl, hb2, hnew⟩
      obtain ⟨p2, hd2, hp2⟩ := hnew.ex
      have HD2 := Lib.hid hd2
      have HP2 := Lib.hid hp2
      have HK2 := Lib.hid (HK1.out.step hnew.keep)
      have HLN := Lib.hid (lotnew_arg (HL.out.keep HK2.out) (by have := HL4.out; omega))
      clear hnew hd2 hp2
      go_wp2_with fail
      refine HLN.out.mono ?_
      rintro e w3 ⟨xl, rfl, hx3, hl3, hk3⟩
      have HXL : Hid (w.heap.size ≤ xl) := Lib.hid (by have := HK2.out.size; omega)
      have HST : Hid (SLoop w w3 b xl k 0) := Lib.hid ⟨⟨Det.new k, p2, LL, HD2.out.keep0 hk3, hl3, fun j hj => by have := HP2.out j hj; have := HK1.out.size; omega, new_ko (by omega), new_si (by omega)⟩, HK2.out.step hk3⟩
      have HKB : Hid (0 ≤ k ∧ k < 64) := Lib.hid (by omega)
      have HW := Lib.hid hw
      clear HLN hl3 hk3 HD2 HP2 HK2 HK1 hw hk0 hk8 hx3 hb2 d1 d2
      go_wp2_with fail
      go_loopg [10] acts.length (fun z v10 wr => ∃ i : Nat, i + z = acts.length ∧ v10 = .int .i64 (i : Int) ∧ SLoop w wr b xl k i)
      case atStart => exact ⟨0, by omega, rfl, HST.out⟩
      case round =>
        obtain ⟨i, hz, rfl, hlp⟩ := hrel
        have HLP := Lib.hid hlp
        have HZ := Lib.hid hz
        clear hlp hz
        by_cases hi : i < acts.length
        · have HI := Lib.hid hi
          have s1 : decide ((i : Int) < (acts.length : Int)) = true := decide_eq_true (by omega)
          have s2 : (i : Int) < (acts.length : Int) := by omega
          have w1i := wrap_succ i (by have := HA6.out; omega)
          obtain ⟨g5, o5, hA5, hcell⟩ := HC2.out (by omega)
          cases hA5
          have hci := hcell i hi
          have hok := HA.out.ok acts[i] (List.getElem_mem hi)
          clear hcell
          generalize acts[i] = a at hci hok
          have b0 := HLP.out.keep.cell (hci 0 _ rfl)
          have b1 := HLP.out.keep.cell (hci 1 _ rfl)
          have b2 := HLP.out.keep.cell (hci 2 _ rfl)
          have b3 := HLP.out.keep.cell (hci 3 _ rfl)
          have b4 := HLP.out.keep.cell (hci 4 _ rfl)
          have b5 := HLP.out.keep.cell (hci 5 _ rfl)
          have b6 := HLP.out.keep.cell (hci 6 _ rfl)
          have b7 := HLP.out.keep.cell (hci 7 _ rfl)
          have b8 := HLP.out.keep.cell (hci 8 _ rfl)
          have b9 := HLP.out.keep.cell (hci 9 _ rfl)
          rw [Nat.add_zero] at b0
          obtain ⟨A6, c6, hnv, hnc⟩ := hok.ex
          have HOK := Lib.hid hok
          clear hci hok hnc
          obtain ⟨kd, nk, nfr, ndst, nseq, nfo, nv, news, u⟩ := a
          simp only at hnv b0 b1 b2 b3 b4 b5 b6 b7 b8 b9
          subst hnv
          obtain ⟨un, ui, us⟩ := u
          simp only at b7 b8 b9
          obtain ⟨wn, hwn⟩ : ∃ wn, wn = wr.alloc (.cells #[.int .i64 kd, .int .i64 nk, .int .i64 nfr, .int .i64 ndst, .int .u64 nseq, .int .i64 nfo, .slice A6 news.length c6, .int .i64 un, .int .u64 ui, .int .i64 us] 64) := ⟨_, rfl⟩
          have kn : Keep (fun _ => False) wr wn := by rw [hwn]; exact (Keep.refl _ wr).alloc _
          have h7 : wn.heap[wr.heap.size]? = some (.cells #[.int .i64 kd, .int .i64 nk, .int .i64 nfr, .int .i64 ndst, .int .u64 nseq, .int .i64 nfo, .slice A6 news.length c6, .int .i64 un, .int .u64 ui, .int .i64 us] 64 (0, 0)) := by rw [hwn]; exact heap_alloc_new wr _
          have n6 : wn.cell? ⟨wr.heap.size, 6, none⟩ = some (.slice A6 news.length c6) := by simp [World.cell?, h7]
          have HKN := Lib.hid kn
          have H7 := Lib.hid h7
          go_upto_region 12 with fail
          rw [← hwn]
          clear hwn kn h7 b0 b1 b2 b3 b4 b5 b6 b7 b8 b9
          by_cases h30 : 30 < news.length
          · have d30 : decide ((30 : Int) < (news.length : Int)) = true := decide_eq_true (by omega)
            clear h30
            go_wp2_with fail
            refine (HSH.out _ (HLP.out.keep.step HKN.out)).mono ?_
            rintro e w9 ⟨rfl, hk9⟩
            have HK9 := Lib.hid hk9
            clear hk9
            go_wp2_with fail
            go_ret
            exact ⟨rfl, HK9.out⟩
          · have d30 : decide ((30 : Int) < (news.length : Int)) = false := decide_eq_false (by omega)
            have HN30 := Lib.hid (Nat.not_lt.1 h30)
            clear h30
            go_upto_region 14 with fail
            refine wp_region_lit ?_
            iterate 2 (refine wpList_plain rfl fun K hK => ?_; go_simp; refine hK _ _ ?_; clear hK K)
            refine wpList_nil ?_
            rename_i hKK
            refine hKK _ _ ?_
            clear hKK
            obtain ⟨wz, hwz⟩ : ∃ wz, wz = wn.alloc (.cells #[] 62) := ⟨_, rfl⟩
            rw [← hwz]
            have kz : Keep (fun _ => False) wr wz := by rw [hwz]; exact HKN.out.alloc _
            have z7 : wz.heap[wr.heap.size]? = some (.cells #[.int .i64 kd, .int .i64 nk, .int .i64 nfr, .int .i64 ndst, .int .u64 nseq, .int .i64 nfo, .slice A6 news.length c6, .int .i64 un, .int .u64 ui, .int .i64 us] 64 (0, 0)) := by rw [hwz]; exact ((Keep.refl (fun _ => False) wn).alloc _).old H7.out id
            have HKZ := Lib.hid kz
            have HZ7 := Lib.hid z7
            clear hwz n6 kz z7 HKN H7
            refine wp_seq_k fun K2 hK2 => ?_
            go_cut [12] from 43 to 140 (fun v12 wx => SCut w wx b xl k (i + 1) v12)
            case first =>
              clear hK2 K2
              obtain ⟨d, p, L, hd, hl, hp, hko, hsi⟩ := HLP.out.ex
              have HD := Lib.hid hd
              have HLT := Lib.hid hl
              have HP := Lib.hid hp
              have HKO := Lib.hid hko
              have HSI := Lib.hid hsi
              have y0 : wz.cell? ⟨wr.heap.size, 0, none⟩ = some (.int .i64 kd) := by have := HZ7.out; simp [World.cell?, this]
              clear hd hl hp hko hsi
              by_cases q0 : kd = 0
              · subst q0
                have HTK := Lib.hid (tick_det (HD.out.keep0 HKZ.out) HKO.out (by have := HA6.out; omega) (B.tab_keep HT.out (HLP.out.keep.step HKZ.out) id) (HLT.out.keep0 HKZ.out) (by have := HXL.out; have := HW.out; omega))
                clear HZ7
                go_wp2_with fail
                refine HTK.out.mono ?_
                rintro e w8 ⟨v8, rfl, hs8⟩
                have HF : Hid (SCut w w8 b xl k (i + 1) v8) := Lib.hid (by
                  have hsg := tick_sg HSI.out L
                  obtain ⟨A, c, hv, hc⟩ := nts_shape hs8.own
                  exact ⟨SLoop.next HXL.out (HLP.out.keep.step HKZ.out) HP.out hs8.set (tick_ko HKO.out L) hsg.si, ⟨_, A, c, _, hv, hc, hsg.good, by have := tick_len d L; have := HKO.out.ws; have := HA6.out; omega⟩⟩)
                clear hs8 HTK
                go_wp2_with fail
                go_meet
                exact HF.out
              · by_cases q12 : kd = 1 ∨ kd = 2
                · have f3 : wz.frozen? ⟨wr.heap.size, 3, none⟩ = false := by have := HZ7.out; simp [World.frozen?, this]
                  have y3 : wz.cell? ⟨wr.heap.size, 3, none⟩ = some (.int .i64 ndst) := by have := HZ7.out; simp [World.cell?, this]
                  obtain ⟨wh, hwh⟩ : ∃ wh, wh = wz.setCell ⟨wr.heap.size, 3, none⟩ (.int .i64 k) := ⟨_, rfl⟩
                  have kh : Keep (fun _ => False) wr wh := by rw [hwh]; exact HKZ.out.setNew _ (Nat.le_refl _)
                  have h7 : wh.heap[wr.heap.size]? = some (.cells #[.int .i64 kd, .int .i64 nk, .int .i64 nfr, .int .i64 k, .int .u64 nseq, .int .i64 nfo, .slice A6 news.length c6, .int .i64 un, .int .u64 ui, .int .i64 us] 64 (0, 0)) := by rw [hwh]; exact heap_setCell_at HZ7.out 3 (.int .i64 k)
                  have x1 : wh.cell? ⟨wr.heap.size, 1, none⟩ = some (.int .i64 nk) := by simp [World.cell?, h7]
                  have x2 : wh.cell? ⟨wr.heap.size, 2, none⟩ = some (.int .i64 nfr) := by simp [World.cell?, h7]
                  have x3 : wh.cell? ⟨wr.heap.size, 3, none⟩ = some (.int .i64 k) := by simp [World.cell?, h7]
                  have x4 : wh.cell? ⟨wr.heap.size, 4, none⟩ = some (.int .u64 nseq) := by simp [World.cell?, h7]
                  have x5 : wh.cell? ⟨wr.heap.size, 5, none⟩ = some (.int .i64 nfo) := by simp [World.cell?, h7]
                  have x6 : wh.cell? ⟨wr.heap.size, 6, none⟩ = some (.slice A6 news.length c6) := by simp [World.cell?, h7]
                  have HKH := Lib.hid kh
                  have HHR := Lib.hid (hear_det (HD.out.keep0 kh) HKO.out.ok (HKO.out.w (by have := HA6.out; omega)) (B.tab_keep HT.out (HLP.out.keep.step kh) id) (HLT.out.keep0 kh) ⟨nk, nfr, k, nseq, nfo, news⟩ (.slice A6 news.length c6) (HOK.out.news (HLP.out.keep.step kh) (fun j hj => by
                    rcases hj with hj | hj
                    · exact HP.out j hj
                    · have := HXL.out; omega)) HOK.out.inc (by have := HN30.out; show news.length < _; omega) (by have := HXL.out; have := HW.out; omega))
                  have HFF : Hid (∀ w8 v8, HSet wh w8 b p xl v8 (d.hear L ⟨nk, nfr, k, nseq, nfo, news⟩).1 (d.hear L ⟨nk, nfr, k, nseq, nfo, news⟩).2.1 (d.hear L ⟨nk, nfr, k, nseq, nfo, news⟩).2.2.1 → SCut w w8 b xl k (i + 1) v8) := Lib.hid (fun w8 v8 hs8 => by
                    have hsg := hear_sg HSI.out L ⟨nk, nfr, k, nseq, nfo, news⟩
                    obtain ⟨A, c, hv, hc⟩ := nts_shape hs8.own
                    exact ⟨SLoop.next HXL.out (HLP.out.keep.step HKH.out) HP.out hs8.set ((hear_ko HKO.out L ⟨nk, nfr, k, nseq, nfo, news⟩ HOK.out.inc).le (Nat.le_succ i)) hsg.si, ⟨_, A, c, _, hv, hc, hsg.good, by have := hear_len d L ⟨nk, nfr, k, nseq, nfo, news⟩; omega⟩⟩)
                  clear kh h7 HZ7 q0
                  generalize d.hear L ⟨nk, nfr, k, nseq, nfo, news⟩ = r at *
                  rcases q12 with rfl | rfl
                  · go_upto_region 21 with fail
                    rw [← hwh]
                    clear hwh y0 y3 f3
                    go_wp2_with fail
                    refine HHR.out.mono ?_
                    rintro e w8 ⟨v8, rfl, hs8⟩
                    have HF := Lib.hid (HFF.out w8 v8 hs8)
                    clear hs8 HHR HFF
                    go_wp2_with fail
                    go_meet
                    exact HF.out
                  · go_upto_region 21 with fail
                    rw [← hwh]
                    clear hwh y0 y3 f3
                    go_wp2_with fail
                    refine HHR.out.mono ?_
                    rintro e w8 ⟨v8, rfl, hs8⟩
                    have HF := Lib.hid (HFF.out w8 v8 hs8)
                    clear hs8 HHR HFF
                    go_wp2_with fail
                    go_meet
                    exact HF.out
                · by_cases q3 : kd = 3
                  · subst q3
                    have y7 : wz.cell? ⟨wr.heap.size, 7, none⟩ = some (.int .i64 un) := by have := HZ7.out; simp [World.cell?, this]
                    have y8 : wz.cell? ⟨wr.heap.size, 8, none⟩ = some (.int .u64 ui) := by have := HZ7.out; simp [World.cell?, this]
                    have y9 : wz.cell? ⟨wr.heap.size, 9, none⟩ = some (.int .i64 us) := by have := HZ7.out; simp [World.cell?, this]
                    have hkn := know_det (HD.out.keep0 HKZ.out) HKO.out.ok (B.tab_keep HT.out (HLP.out.keep.step HKZ.out) id) (HLT.out.keep0 HKZ.out) ⟨un, ui, us⟩ HOK.out.ui
                    have HFF : Hid (∀ w8 A c, DLSet wz w8 b p xl (d.take L ⟨un, ui, us⟩ d.r.me).1 (d.take L ⟨un, ui, us⟩ d.r.me).2.1 → SCut w w8 b xl k (i + 1) (.slice A 0 c)) := Lib.hid (fun w8 A c hs8 => ⟨(SLoop.next HXL.out (HLP.out.keep.step HKZ.out) HP.out hs8 (take_ko HKO.out L HOK.out.ui d.r.me) (take_si HSI.out L _ _)).le (Nat.le_succ i), ⟨[], A, c, 0, rfl, (fun h => absurd h (Nat.lt_irrefl 0)), (fun n hn => by cases hn), Nat.zero_le _⟩⟩)
                    generalize d.take L ⟨un, ui, us⟩ d.r.me = r at *
                    unfold uV at hkn
                    have HKN := Lib.hid hkn
                    clear hkn HZ7 q0 q12
                    go_wp2_with fail
                    refine HKN.out.mono ?_
                    rintro e w8 ⟨rfl, hs8⟩
                    have HF := Lib.hid (fun A c => HFF.out w8 A c hs8)
                    clear hs8 HKN HFF
                    go_wp2_with fail
                    go_meet
                    exact HF.out _ _
                  · have t0 : (kd == 0) = false := by rw [beq_eq_false_iff_ne]; exact q0
                    have t1 : (kd == 1) = false := by rw [beq_eq_false_iff_ne]; exact fun h => q12 (.inl h)
                    have t2 : (kd == 2) = false := by rw [beq_eq_false_iff_ne]; exact fun h => q12 (.inr h)
                    have t3 : (kd == 3) = false := by rw [beq_eq_false_iff_ne]; exact q3
                    have HF : Hid (∀ A c, SCut w wz b xl k (i + 1) (.slice A 0 c)) := Lib.hid (fun A c => ⟨(HLP.out.on HKZ.out).le (Nat.le_succ i), ⟨[], A, c, 0, rfl, (fun h => absurd h (Nat.lt_irrefl 0)), (fun n hn => by cases hn), Nat.zero_le _⟩⟩)
                    clear q0 q12 q3 HZ7
                    go_wp2_with fail
                    go_meet
                    exact HF.out _ _
            case rest =>
              obtain ⟨wq, hwq⟩ : ∃ wq, wq = wc := ⟨_, rfl⟩
              rw [← hwq] at hcut ⊢
              clear hwq
              obtain ⟨N, A, c, base, hv12, hcc, hgd, hnl⟩ := hcut.nts
              have HSL := Lib.hid hcut.loop
              have HCC := Lib.hid hcc
              have HGD := Lib.hid hgd
              have HNL := Lib.hid hnl
              clear hcut hcc hgd hnl HKZ HZ7 HOK HN30 d30
              subst hv12
              refine hK2 _ _ ?_
              clear hK2 K2
              go_wp2_with fail
              go_loopg [13] N.length (fun z v13 wr => ∃ j : Nat, j + z = N.length ∧ v13 = .int .i64 (j : Int) ∧ Keep (fun _ => False) wq wr)
              case atStart => exact ⟨0, Nat.zero_add _, rfl, Keep.refl _ _⟩
              case round =>
                obtain ⟨j, hz, rfl, hkq⟩ := hrel
                have HKQ := Lib.hid hkq
                have HZJ := Lib.hid hz
                clear hkq hz
                by_cases hj : j < N.length
                · have HIJ := Lib.hid hj
                  have s3 : decide ((j : Int) < (N.length : Int)) = true := decide_eq_true (by omega)
                  have s4 : (j : Int) < (N.length : Int) := by omega
                  have w2i := wrap_succ j (Nat.lt_of_lt_of_le hj (Nat.le_trans HNL.out (by decide)))
                  obtain ⟨g9, o9, hA9, hcell⟩ := HCC.out (Nat.lt_of_le_of_lt (Nat.zero_le j) hj)
                  cases hA9
                  obtain ⟨vn, hnt⟩ := hcell j hj
                  have hgn := HGD.out N[j] (List.getElem_mem hj)
                  clear hcell
                  generalize N[j] = n at hnt hgn
                  have b0 := HKQ.out.cell hnt.c0
                  have b1 := HKQ.out.cell hnt.c1
                  have b2 := HKQ.out.cell hnt.c2
                  have b3 := HKQ.out.cell hnt.c3
                  have b4 := HKQ.out.cell hnt.c4
                  have b5 := HKQ.out.cell hnt.c5
                  have hrow := (Row.of_own hnt.news).keep0 HKQ.out
                  obtain ⟨ga, oa, ca, csa, hva, _⟩ := hrow.pos hgn.pos
                  subst hva
                  obtain ⟨e0, -, e2⟩ := hrow.up_at 0 hgn.pos
                  obtain ⟨en, es⟩ := hgn.own (n.news[0]'hgn.pos) (List.getElem?_eq_getElem hgn.pos)
                  rw [en] at e0
                  rw [es] at e2
                  rw [hgn.fr] at b1
                  simp only [Nat.zero_mul, Nat.add_zero] at e0 e2
                  have q1 : (n.dst == k) = false := by rw [beq_eq_false_iff_ne]; exact hgn.dst
                  have hgp := hgn.pos
                  have hgl := hgn.len
                  have hgk := hgn.kind
                  have q2 : decide ((n.news.length : Int) < 1) = false := decide_eq_false (by omega)
                  have q3 : decide ((8 : Int) < (n.news.length : Int)) = false := decide_eq_false (by omega)
                  have q4 : decide (n.k < 1) = false := decide_eq_false (by omega)
                  have q5 : decide (3 < n.k) = false := decide_eq_false (by omega)
                  have q6 : (0 : Int) < (n.news.length : Int) := by omega
                  obtain ⟨n0, n1, n2, n3, n4, n5⟩ := n
                  simp only at b0 b1 b2 b3 b4 b5 e0 e2 q1 q2 q3 q4 q5 q6
                  have kf : Keep (fun _ => False) wq (wr.alloc (.cells #[.int .i64 n0, .int .i64 k, .int .i64 n2, .int .u64 n3, .int .i64 n4, .slice (some ⟨ga, oa, none⟩) n5.length ca] 62)) := HKQ.out.alloc _
                  have HKF := Lib.hid kf
                  clear hnt hgn hrow en es hgp hgl hgk kf
                  obtain ⟨wf, hwf⟩ : ∃ wf, wf = wr.alloc (.cells #[.int .i64 n0, .int .i64 k, .int .i64 n2, .int .u64 n3, .int .i64 n4, .slice (some ⟨ga, oa, none⟩) n5.length ca] 62) := ⟨_, rfl⟩
                  have m0 : wf.cell? ⟨wr.heap.size, 0, none⟩ = some (.int .i64 n0) := by rw [hwf]; exact alc _ _ _ _ _ rfl
                  have m1 : wf.cell? ⟨wr.heap.size, 1, none⟩ = some (.int .i64 k) := by rw [hwf]; exact alc _ _ _ _ _ rfl
                  have m2 : wf.cell? ⟨wr.heap.size, 2, none⟩ = some (.int .i64 n2) := by rw [hwf]; exact alc _ _ _ _ _ rfl
                  have m5 : wf.cell? ⟨wr.heap.size, 5, none⟩ = some (.slice (some ⟨ga, oa, none⟩) n5.length ca) := by rw [hwf]; exact alc _ _ _ _ _ rfl
                  have e0' : wf.cell? ⟨ga, oa, none⟩ = some (.int .i64 k) := by rw [hwf]; exact al_some _ e0
                  have e2' : wf.cell? ⟨ga, oa + 2, none⟩ = some (.int .i64 0) := by rw [hwf]; exact al_some _ e2
                  rw [← hwf] at HKF
                  go_upto_region 28 with fail
                  rw [← hwf]
                  clear hwf b0 b1 b2 b3 b4 b5 e0 e2
                  go_wp2_with fail
                  go_roundg (N.length - (j + 1))
                  case measure => exact sl_meas HZJ.out HIJ.out
                  case rel => exact ⟨j + 1, sl_rel HIJ.out, rfl, HKF.out⟩
                · have s3 : decide ((j : Int) < (N.length : Int)) = false := decide_eq_false (by omega)
                  have HNX := Lib.hid (HSL.out.on HKQ.out)
                  have s4 : ¬ (j : Int) < (N.length : Int) := by omega
                  go_wp2_with fail
                  go_roundg (acts.length - (i + 1))
                  case measure => exact sl_meas HZ.out HI.out
                  case rel => exact ⟨i + 1, sl_rel HI.out, rfl, HNX.out⟩
        · have s1 : decide ((i : Int) < (acts.length : Int)) = false := decide_eq_false (by omega)
          obtain ⟨d, p, L, hd, hl, hp, hko, hsi⟩ := HLP.out.ex
          have c0 := hd.c0
          have HRL := Lib.hid (rlive_any hd.rol hko.ok.r (B.tab_keep HT.out HLP.out.keep id))
          obtain ⟨kn, rfl⟩ : ∃ kn : Nat, k = (kn : Int) := ⟨k.toNat, by have := HKB.out; omega⟩
          have hh : B.hasP ((d.r.live : Nat) : Int) (kn : Int) = true := by
            rw [B.hasP_nat _ _ (live_lt d.r) (by have := HKB.out; omega)]
            have := hsi.r.live
            unfold bHas at this
            rw [Bool.and_eq_true, Int.toNat_natCast] at this
            exact this.2
          have hrh := fun W => B.rhas_any ((d.r.live : Nat) : Int) (kn : Int) W (by omega) (by have := live_lt d.r; omega)
          rw [hh] at hrh
          generalize ((d.r.live : Nat) : Int) = lvv at *
          have HRH := Lib.hid hrh
          clear hd hl hp hko hsi hh hrh
          have s4 : ¬ (i : Int) < (acts.length : Int) := by omega
          go_wp2_with fail
          refine HRL.out.mono ?_
          rintro e w8 ⟨rfl, hk8⟩
          have HK8 := Lib.hid (HLP.out.keep.step hk8)
          clear hk8 HRL
          go_wp2_with fail
          refine (HRH.out _).mono ?_
          rintro e w9 ⟨rfl, rfl⟩
          go_wp2_with fail
          go_ret
          exact ⟨rfl, HK8.out⟩
end Go.Proofs.YtofonfohaocclaaGreatDoor
