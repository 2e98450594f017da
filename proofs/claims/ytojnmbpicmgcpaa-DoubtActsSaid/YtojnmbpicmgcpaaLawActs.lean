/- DoubtActs, walked: the function. -/
import Derived.Test.YtojnmbpicmgcpaaActQ
namespace Go.Proofs.Ytojnmbpicmgcpaa
open Go.RowKit Sh
open Go.ChangeMaps (setBlock)
set_option linter.unusedVariables false

theorem all_rows {w w' : World} {v : Value} {M L : List Db} (h : AllIs w w' v M L) : Rows7 w' v L := by
  obtain ⟨A, c, rfl, _, h2⟩ := h.row
  exact ⟨A, c, rfl, fun h0 => by obtain ⟨g, h3, _, h4⟩ := h2 h0; exact ⟨g, h3, h4⟩⟩
theorem over_rows {w w' : World} {q : Nat} {mb : Option Nat} {v : Value} {now : Int} {M L : List Db} (h : OverIs w w' q mb v now M L) : RowsU w' v (L.filter (goneB now)) := by
  obtain ⟨A, c, rfl, h2⟩ := h.row
  exact ⟨A, c, rfl, fun h0 => by obtain ⟨g, h3, _, h4⟩ := h2 h0; exact ⟨g, h3, h4⟩⟩
theorem row_slice {w : World} {v : Value} {L : List Db} (h : Rows7 w v L) : ∃ A c, v = .slice A L.length c := by
  obtain ⟨A, c, e, _⟩ := h.ex
  exact ⟨A, c, e⟩
set_option maxRecDepth 100000 in
set_option maxHeartbeats 8000000 in
theorem acts_law {w : World} {va : Value} {l : List Ac} (ha : IsAcs w va l) :
    Calls Try.prog 3 #[va] w fun e w' => e = .returned (.bool true) ∧ Keep (fun _ => False) w w' := by
  obtain ⟨A, ca, rfl, hla, hA⟩ := ha.ex
  have EA := Lib.hid hA
  have OKS := Lib.hid ha.ok
  clear ha hA
  by_cases h1 : 150 < l.length
  · have d1 : decide ((150 : Int) < (l.length : Int)) = true := by simp; omega
    have d2 : (150 : Int) < (l.length : Int) := by omega
    go_enter Try.func3, Try.ntmps3
    go_wp2_with fail
    refine (shown10 w).mono ?_
    rintro e w1 ⟨rfl, hk1⟩
    have HK1 := Lib.hid hk1
    clear hk1
    go_wp2
    go_ret
    exact ⟨rfl, HK1.out⟩
  · have d1 : decide ((150 : Int) < (l.length : Int)) = false := by simp; omega
    have d2 : ¬ (150 : Int) < (l.length : Int) := by omega
    go_enter Try.func3, Try.ntmps3
    go_wp2_with fail
    refine (shown10 w).mono ?_
    rintro e w1 ⟨rfl, hk1⟩
    have B1 : Hid (Both w ((w1.alloc (.cells #[.map none] 27)).alloc (.cells #[.slice none 0 0] 31)) w1.heap.size 0 none (.slice none 0 0) []) := Lib.hid (by
      refine ⟨(IsQ.fresh w1).keep0 ((Keep.refl _ _).alloc _), ⟨?_, World.ownsRow_nil _ _ _ _⟩, fun x hx => (nomatch hx), Nat.le_refl _, hk1.size, fun B h => (nomatch h), fun B h => (nomatch h), (hk1.alloc _).alloc _⟩
      have := heap_alloc_new (w1.alloc (.cells #[.map none] 27)) (.cells #[.slice none 0 0] 31)
      simpa using this)
    clear hk1
    go_wp2_with fail
    clear d1 d2
    go_loopg [5, 6, 7, 8, 9, 10, 11] l.length (fun z v5 v6 v7 v8 v9 v10 v11 wr => ∃ (i : Nat) (mb : Option Nat) (v : Value) (R : List Db), i + z = l.length ∧ v5 = .int .i64 i ∧ Both w wr w1.heap.size i mb v R)
    case atStart => exact ⟨0, none, _, [], by omega, rfl, B1.out⟩
    case round =>
      obtain ⟨i, mb, v, R, hz, rfl, hb⟩ := hrel
      have T := Lib.hid hb
      have HZ := Lib.hid hz
      clear hb B1
      by_cases hlt : i < l.length
      · obtain ⟨g0, o, rfl, hc⟩ := EA.out (by omega)
        have hcc := hc i hlt
        obtain ⟨x, hx⟩ : ∃ x, x = l[i] := ⟨_, rfl⟩
        rw [← hx] at hcc
        have hok : AOk x := by rw [hx]; exact OKS.out _ (List.getElem_mem hlt)
        obtain ⟨xk, xn, xm, un, ui, us, now, bs⟩ := x
        have OK := Lib.hid hok
        have c0 : wr.cell? ⟨g0, o + i * 8, none⟩ = some (.int .i64 xk) := T.out.keep.cell (hcc 0 (by omega))
        have c1 : wr.cell? ⟨g0, o + i * 8 + 1, none⟩ = some (.int .i64 xn) := T.out.keep.cell (hcc 1 (by omega))
        have c2 : wr.cell? ⟨g0, o + i * 8 + 2, none⟩ = some (.int .i64 xm) := T.out.keep.cell (hcc 2 (by omega))
        have c3 : wr.cell? ⟨g0, o + i * 8 + 3, none⟩ = some (.int .i64 un) := T.out.keep.cell (hcc 3 (by omega))
        have c4 : wr.cell? ⟨g0, o + i * 8 + 4, none⟩ = some (.int .u64 ui) := T.out.keep.cell (hcc 4 (by omega))
        have c5 : wr.cell? ⟨g0, o + i * 8 + 5, none⟩ = some (.int .i64 us) := T.out.keep.cell (hcc 5 (by omega))
        have c6 : wr.cell? ⟨g0, o + i * 8 + 6, none⟩ = some (.int .u64 now) := T.out.keep.cell (hcc 6 (by omega))
        have c7 : wr.cell? ⟨g0, o + i * 8 + 7, none⟩ = some (.float .f64 bs) := T.out.keep.cell (hcc 7 (by omega))
        have t1 : decide ((i : Int) < (l.length : Int)) = true := decide_eq_true (by omega)
        have t2 : (i : Int) < (l.length : Int) := by omega
        have t3 : (0 : Int) ≤ (i : Int) := by omega
        have ew : IntKind.i64.wrap ((i : Int) + 1) = ((i + 1 : Nat) : Int) := by rw [IntKind.wrap_i64]; omega
        have I150 : Hid (i < 150) := Lib.hid (by omega)
        have HL := Lib.hid hlt
        clear hc hcc hx hok hz hlt
        have BX0 : Hid ((wr.alloc (.cells #[.int .i64 xk, .int .i64 xn, .int .i64 xm, .int .i64 un, .int .u64 ui, .int .i64 us, .int .u64 now, .float .f64 bs] 37)).heap[wr.heap.size]? = some (.cells #[.int .i64 xk, .int .i64 xn, .int .i64 xm, .int .i64 un, .int .u64 ui, .int .i64 us, .int .u64 now, .float .f64 bs] 37 (0, 0)) ∧ Keep (fun _ => False) wr (wr.alloc (.cells #[.int .i64 xk, .int .i64 xn, .int .i64 xm, .int .i64 un, .int .u64 ui, .int .i64 us, .int .u64 now, .float .f64 bs] 37))) := Lib.hid ⟨heap_alloc_new wr _, (Keep.refl _ wr).alloc _⟩
        have hsf : ∀ (a : Addr) (x : Nat) (w : World), (store a (.float .f64 x) .plain).run Try.prog w = stored Try.prog w a (.float .f64 x) .plain := fun a x w => run_store Try.prog w a (.float .f64 x) .plain rfl
        go_upto_block 2 with fail
        clear hsf c0 c1 c2 c3 c4 c5 c6 c7
        generalize wr.alloc (.cells #[.int .i64 xk, .int .i64 xn, .int .i64 xm, .int .i64 un, .int .u64 ui, .int .i64 us, .int .u64 now, .float .f64 bs] 37) = wo at BX0 ⊢
        have BX := Lib.hid BX0.out.1
        have TO := Lib.hid (T.out.keep0 BX0.out.2)
        have BXL : Hid (w1.heap.size + 1 < wr.heap.size) := Lib.hid T.out.ref.lt
        have BXB : Hid (∀ B, mb = some B → B < wr.heap.size) := Lib.hid (fun B hB => by subst hB; exact T.out.que.blt)
        clear BX0
        go_cut [7, 8, 9, 10, 11] (fun v7 v8 v9 v10 v11 wx => v7 = .bool true ∧ ∃ mb' v' R', Both w wx w1.heap.size (i + 1) mb' v' R')
        case first =>
          by_cases k0 : xk = 0
          · subst k0
            have e0 : ((0 : Int) == 0) = true := rfl
            have p0 : wo.cell? ⟨wr.heap.size, 0, none⟩ = some (.int .i64 0) := by have := BX.out; simp [World.cell?, this]
            have p1 : wo.cell? ⟨wr.heap.size, 1, none⟩ = some (.int .i64 xn) := by have := BX.out; simp [World.cell?, this]
            have p2 : wo.cell? ⟨wr.heap.size, 2, none⟩ = some (.int .i64 xm) := by have := BX.out; simp [World.cell?, this]
            have p3 : wo.cell? ⟨wr.heap.size, 3, none⟩ = some (.int .i64 un) := by have := BX.out; simp [World.cell?, this]
            have p4 : wo.cell? ⟨wr.heap.size, 4, none⟩ = some (.int .u64 ui) := by have := BX.out; simp [World.cell?, this]
            have p5 : wo.cell? ⟨wr.heap.size, 5, none⟩ = some (.int .i64 us) := by have := BX.out; simp [World.cell?, this]
            have p6 : wo.cell? ⟨wr.heap.size, 6, none⟩ = some (.int .u64 now) := by have := BX.out; simp [World.cell?, this]
            have p7 : wo.cell? ⟨wr.heap.size, 7, none⟩ = some (.float .f64 bs) := by have := BX.out; simp [World.cell?, this]
            by_cases good : 0 ≤ un ∧ un < 64 ∧ us = 1 ∧ 0 ≤ xn ∧ xn < 64
            · obtain ⟨g1, g2, rfl, g3, g4⟩ := good
              obtain ⟨kk, rfl⟩ : ∃ kk : Nat, xn = (kk : Int) := ⟨xn.toNat, by omega⟩
              obtain ⟨u, hu⟩ := waits2_some bs OK.out.b xm OK.out.m.1 OK.out.m.2
              have HU := Lib.hid hu
              have DOK : Hid (∀ x ∈ R, Dok x) := Lib.hid (fun x hx => (TO.out.ok x hx).ok (by have := I150.out; omega))
              have KK : Hid (kk ≤ 63) := Lib.hid (by omega)
              have UN : Hid (0 ≤ un ∧ un < 64) := Lib.hid ⟨g1, g2⟩
              clear hu g1 g2 g3 g4
              go_wp2_with fail
              refine (praise_good TO.out.que HU.out.prog DOK.out un ui kk now UN.out KK.out OK.out.now).mono ?_
              rintro e W2 ⟨⟨b, z, R', rfl, hro, mb', hq', hmb⟩, hkq⟩
              have HRO := Lib.hid hro
              have HF := Lib.hid (TO.out.half hkq hq' hmb)
              have BX2 := Lib.hid (hkq.old BX.out (by
                rintro (h | h)
                · have := BXL.out; omega
                · have := BXB.out _ h; omega))
              clear hro hkq hq' hmb p0 p1 p2 p3 p4 p5 p6 p7
              have q0 : W2.cell? ⟨wr.heap.size, 0, none⟩ = some (.int .i64 0) := by have := BX2.out; simp [World.cell?, this]
              have q1 : W2.cell? ⟨wr.heap.size, 1, none⟩ = some (.int .i64 kk) := by have := BX2.out; simp [World.cell?, this]
              have q2 : W2.cell? ⟨wr.heap.size, 2, none⟩ = some (.int .i64 xm) := by have := BX2.out; simp [World.cell?, this]
              have q3 : W2.cell? ⟨wr.heap.size, 3, none⟩ = some (.int .i64 un) := by have := BX2.out; simp [World.cell?, this]
              have q4 : W2.cell? ⟨wr.heap.size, 4, none⟩ = some (.int .u64 ui) := by have := BX2.out; simp [World.cell?, this]
              have q5 : W2.cell? ⟨wr.heap.size, 5, none⟩ = some (.int .i64 1) := by have := BX2.out; simp [World.cell?, this]
              have q6 : W2.cell? ⟨wr.heap.size, 6, none⟩ = some (.int .u64 now) := by have := BX2.out; simp [World.cell?, this]
              have q7 : W2.cell? ⟨wr.heap.size, 7, none⟩ = some (.float .f64 bs) := by have := BX2.out; simp [World.cell?, this]
              have hrl : R.length ≤ 1000 := by have := TO.out.len; have := I150.out; omega
              have NOD := Lib.hid TO.out.que.nod
              have LEN := Lib.hid TO.out.len
              have HOKK : Hid (∀ x ∈ R, Dk i x) := Lib.hid TO.out.ok
              clear TO BX
              go_wp2_with fail
              refine (rraise_good HF.out.ref HU.out DOK.out un ui kk now UN.out KK.out OK.out.now hrl).mono ?_
              rintro e W3 ⟨b2, z2, R2, rfl, hro2, ⟨v', hrf, hfr⟩, hkr⟩
              obtain ⟨rfl, rfl, rfl⟩ := rout_unique NOD.out HRO.out hro2
              obtain ⟨h4, h5⟩ := rout_ok hro2 HOKK.out UN.out KK.out OK.out.now LEN.out
              have RES := Lib.hid (HF.out.both hkr hrf hfr h4 h5)
              clear hro2 hrf hfr hkr h4 h5 q0 q1 q2 q3 q4 q5 q6 q7
              have e1 : (b == b) = true := by simp
              have e2 : (z == z) = true := by simp
              go_wp2_with fail
              go_meet
              exact ⟨by simp, _, _, _, RES.out⟩
            · have BAD : Hid (¬ (0 ≤ un ∧ un < 64 ∧ us = 1 ∧ 0 ≤ xn ∧ xn < 64)) := Lib.hid good
              clear good
              go_wp2_with fail
              refine (raise_bad w1.heap.size un ui us xn now xm bs BAD.out).mono ?_
              rintro e W2 ⟨rfl, hk2⟩
              have BX2 := Lib.hid (hk2.old BX.out id)
              have T2 := Lib.hid (TO.out.keep0 hk2)
              clear hk2 p0 p1 p2 p3 p4 p5 p6 p7 TO BX
              have q0 : W2.cell? ⟨wr.heap.size, 0, none⟩ = some (.int .i64 0) := by have := BX2.out; simp [World.cell?, this]
              have q1 : W2.cell? ⟨wr.heap.size, 1, none⟩ = some (.int .i64 xn) := by have := BX2.out; simp [World.cell?, this]
              have q2 : W2.cell? ⟨wr.heap.size, 2, none⟩ = some (.int .i64 xm) := by have := BX2.out; simp [World.cell?, this]
              have q3 : W2.cell? ⟨wr.heap.size, 3, none⟩ = some (.int .i64 un) := by have := BX2.out; simp [World.cell?, this]
              have q4 : W2.cell? ⟨wr.heap.size, 4, none⟩ = some (.int .u64 ui) := by have := BX2.out; simp [World.cell?, this]
              have q5 : W2.cell? ⟨wr.heap.size, 5, none⟩ = some (.int .i64 us) := by have := BX2.out; simp [World.cell?, this]
              have q6 : W2.cell? ⟨wr.heap.size, 6, none⟩ = some (.int .u64 now) := by have := BX2.out; simp [World.cell?, this]
              have q7 : W2.cell? ⟨wr.heap.size, 7, none⟩ = some (.float .f64 bs) := by have := BX2.out; simp [World.cell?, this]
              go_wp2_with fail
              refine (rraise_bad (w1.heap.size + 1) un ui us xn now xm bs BAD.out).mono ?_
              rintro e W3 ⟨rfl, hk3⟩
              have RES := Lib.hid (T2.out.keep0 hk3).up
              clear hk3 q0 q1 q2 q3 q4 q5 q6 q7
              go_wp2_with fail
              go_meet
              exact ⟨by simp, _, _, _, RES.out⟩
          · have e0 : (xk == 0) = false := by rw [beq_eq_false_iff_ne]; exact k0
            by_cases k1 : xk = 1
            · subst k1
              have e1 : ((1 : Int) == 1) = true := rfl
              have b0 : wo.heap[wr.heap.size]? = _ := BX.out
              have p1 : wo.drew.cell? ⟨wr.heap.size, 1, none⟩ = some (.int .i64 xn) := by show wo.cell? _ = _; simp [World.cell?, b0]
              clear b0 k0
              have QUE := Lib.hid (TO.out.keep0 (Keep.refl _ wo).drew)
              have BXD : Hid (wo.drew.heap[wr.heap.size]? = some (.cells #[.int .i64 1, .int .i64 xn, .int .i64 xm, .int .i64 un, .int .u64 ui, .int .i64 us, .int .u64 now, .float .f64 bs] 37 (0, 0))) := Lib.hid BX.out
              have hrl : R.length ≤ 1000 := by have := TO.out.len; have := I150.out; omega
              have RLEN := Lib.hid hrl
              clear hrl
              go_upto_region 16 with fail
              go_region_held3 (fun W => W.cell? ⟨wr.heap.size, 1, none⟩ = some (.int .i64 xn)) (go_keep) (first
                | (go_at_call 11; refine (drop_any QUE.out.que xn).mono ?_; rintro e W2 ⟨b, rfl, hd⟩; have HF := Lib.hid (QUE.out.half (Keep.qs (q := w1.heap.size) hd.keep) hd.que (fun B hB => .inl hB)); have hwas := hd.was; have f1 : W2.cell? ⟨wr.heap.size, 1, none⟩ = some (.int .i64 xn) := (by have := hd.keep.old BXD.out (fun h => by have := BXB.out _ h; omega); simp [World.cell?, this]); have BX2 := Lib.hid (hd.keep.old BXD.out (fun h => by have := BXB.out _ h; omega)); clear hd)
                | (go_at_call 12; refine (rdrop_any HF.out.ref xn RLEN.out).mono ?_; rintro e W3 ⟨b2, rfl, hb2, ⟨⟨v9, hrf, hfr⟩, hk3⟩⟩; have hbb : b2 = b := (by rw [Bool.eq_iff_iff, hb2, hwas]); have RES := Lib.hid (HF.out.both (m := i + 1) (hk3.mono (fun j h _ => .inl h)) hrf (fun g hg => .inr (hfr g hg)) (sub_ok QUE.out.ok) (Nat.le_trans (List.length_filter_le _ _) (Nat.le_succ_of_le QUE.out.len))); have f3 : W3.cell? ⟨wr.heap.size, 1, none⟩ = some (.int .i64 xn) := (by have := hk3.old BX2.out (fun h => by have := BXL.out; omega); simp [World.cell?, this]); clear hrf hfr hk3 hb2 hwas; subst hbb; have ebb : (b2 == b2) = true := (by simp)))
              all_goals
                go_wp2_with fail
                go_meet
                exact ⟨by simp, _, _, _, RES.out⟩
            · have e1 : (xk == 1) = false := by rw [beq_eq_false_iff_ne]; exact k1
              by_cases k2 : xk = 2
              · subst k2
                have e2 : ((2 : Int) == 2) = true := rfl
                have b0 : wo.heap[wr.heap.size]? = _ := BX.out
                have p6 : wo.drew.cell? ⟨wr.heap.size, 6, none⟩ = some (.int .u64 now) := by show wo.cell? _ = _; simp [World.cell?, b0]
                clear b0 k0 k1
                have QUE := Lib.hid (TO.out.keep0 (Keep.refl _ wo).drew)
                have BXD : Hid (wo.drew.heap[wr.heap.size]? = some (.cells #[.int .i64 2, .int .i64 xn, .int .i64 xm, .int .i64 un, .int .u64 ui, .int .i64 us, .int .u64 now, .float .f64 bs] 37 (0, 0))) := Lib.hid BX.out
                have hrl : R.length ≤ 1000 := by have := TO.out.len; have := I150.out; omega
                have RLEN := Lib.hid hrl
                have NOD := Lib.hid TO.out.que.nod
                clear hrl
                go_upto_region 18 with fail
                go_region_held3 (fun W => W.cell? ⟨wr.heap.size, 6, none⟩ = some (.int .u64 now)) (go_keep) (first
                  | (go_at_call 14; refine (over_any QUE.out.que RLEN.out now).mono ?_; rintro e W2 ⟨vu, L, rfl, ho⟩; have hLs := over_same NOD.out (Dk.in QUE.out.ok) ho.perm ho.srt; have hrows := ho.row; have hLl : L.length ≤ 1000 := (by rw [ho.perm.length_eq]; exact RLEN.out); have hlr := leftR_all (now := now) NOD.out ho.perm; have HF := Lib.hid (QUE.out.half (Keep.qs (q := w1.heap.size) ho.keep) (ho.que.perm (ho.perm.filter _)) (fun B hB => .inl hB)); have BX2 := Lib.hid (ho.keep.old BXD.out (fun h => by have := BXB.out _ h; omega)); have f1 : W2.cell? ⟨wr.heap.size, 6, none⟩ = some (.int .u64 now) := (by have := BX2.out; simp [World.cell?, this]); clear ho)
                  | (go_at_call 15; refine (rover_any HF.out.ref now RLEN.out L hLs hLl).mono ?_; rintro e W3 ⟨⟨A3, c3, rfl, hrow3⟩, ⟨v9, hrf, hfr⟩, hk3⟩; have hr3 := RowsU.own hrow3; have RES := Lib.hid (HF.out.both (m := i + 1) (hk3.mono (fun j h _ => .inl h)) (by rw [hlr] at hrf; exact hrf) hfr (sub_ok QUE.out.ok) (Nat.le_trans (List.length_filter_le _ _) (Nat.le_succ_of_le QUE.out.len))); have hra : RowsU W3 vu (L.filter (goneB now)) := (by obtain ⟨Aq, cq, rfl, hq2⟩ := hrows; exact ⟨Aq, cq, rfl, fun h0 => by obtain ⟨gq, hgq, hge, hgr⟩ := hq2 h0; exact ⟨gq, hgq, hgr.keep hk3 (fun e => by have h9 := QUE.out.ref.lt; omega)⟩⟩); have f3 : W3.cell? ⟨wr.heap.size, 6, none⟩ = some (.int .u64 now) := (by have := hk3.old BX2.out (fun h => by have := BXL.out; omega); simp [World.cell?, this]); have BX3 := Lib.hid (hk3.old BX2.out (fun h => by have := BXL.out; omega)); clear hrow3 hrf hfr hk3 hlr hLs hrows)
                  | (go_at_call 13; refine (usame_any hra hr3 (Nat.le_trans (List.length_filter_le _ _) hLl)).mono ?_; rintro e W4 ⟨rfl, hk4⟩; have RES4 := Lib.hid (RES.out.keep0 hk4); have f4 : W4.cell? ⟨wr.heap.size, 6, none⟩ = some (.int .u64 now) := (by have := hk4.old BX3.out id; simp [World.cell?, this]); clear hk4 RES hra hr3))
                all_goals
                  go_wp2_with fail
                  go_meet
                  exact ⟨by simp, _, _, _, RES4.out⟩
              · have e2 : (xk == 2) = false := by rw [beq_eq_false_iff_ne]; exact k2
                have RES := Lib.hid TO.out.up
                clear k0 k1 k2
                go_wp2_with fail
                go_meet
                exact ⟨by simp, _, _, _, RES.out⟩
        case rest =>
          obtain ⟨rfl, mb', v', R', hbo⟩ := hcut
          have TB := Lib.hid hbo
          obtain ⟨wb, hwb⟩ : ∃ wb, wb = wc := ⟨_, rfl⟩
          rw [← hwb] at TB ⊢
          clear hwb hbo BX TO
          have RL2 : Hid (R'.length ≤ 1000) := Lib.hid (by have := TB.out.len; have := I150.out; omega)
          go_wp2_with fail
          refine (all_any TB.out.que RL2.out).mono ?_
          rintro e W1 ⟨vl, L, rfl, hal⟩
          have hLs := over_same TB.out.que.nod (Dk.in TB.out.ok) hal.perm hal.srt
          have HLS := Lib.hid hLs
          have hLl : L.length ≤ 1000 := by rw [hal.perm.length_eq]; exact RL2.out
          have LL2 := Lib.hid hLl
          have RW := Lib.hid (all_rows hal)
          have T1 := Lib.hid (TB.out.keep0 hal.keep)
          obtain ⟨Aq, cq, rfl⟩ := row_slice RW.out
          clear hal hLs hLl TB
          go_wp2_with fail
          refine (theirs_any RW.out LL2.out).mono ?_
          rintro e W2 ⟨vt, rfl, hrt, hk2⟩
          have RT := Lib.hid hrt
          have T2 := Lib.hid (T1.out.keep0 hk2)
          obtain ⟨At, ct, rfl⟩ := row_slice hrt
          clear hrt hk2 T1
          go_wp2_with fail
          refine (rall_any T2.out.ref RL2.out).mono ?_
          rintro e W3 ⟨Au, cu, rfl, hou, hk3⟩
          have RU := Lib.hid (Rows7.own hou)
          have RT3 := Lib.hid (RT.out.keep hk3)
          have T3 := Lib.hid (T2.out.keep0 hk3)
          rw [HLS.out] at RU
          clear hou hk3 T2
          go_wp2_with fail
          refine (rsame_any RT3.out (by have := RU.out; rw [HLS.out]; exact this) LL2.out).mono ?_
          rintro e W4 ⟨rfl, hk4⟩
          have T4 := Lib.hid (T3.out.keep0 hk4)
          clear hk4 T3
          go_wp2_with fail
          go_roundg (l.length - (i + 1))
          case measure => have := HZ.out; have := HL.out; omega
          case rel => exact ⟨i + 1, mb', v', R', by have := HL.out; omega, by go_num, T4.out⟩
      · obtain rfl : l.length = i := by omega
        have t1 : decide ((l.length : Int) < (l.length : Int)) = false := by simp
        have RL2 : Hid (R.length ≤ 1000) := Lib.hid (by have := T.out.len; omega)
        obtain ⟨wb, hwb⟩ : ∃ wb, wb = wr := ⟨_, rfl⟩
        rw [← hwb] at T ⊢
        clear hwb hlt hz
        go_wp2_with fail
        refine (all_any T.out.que RL2.out).mono ?_
        rintro e W1 ⟨vl, L, rfl, hal⟩
        have hLs := over_same T.out.que.nod (Dk.in T.out.ok) hal.perm hal.srt
        have HLS := Lib.hid hLs
        have hLl : L.length ≤ 1000 := by rw [hal.perm.length_eq]; exact RL2.out
        have LL2 := Lib.hid hLl
        have RW := Lib.hid (all_rows hal)
        have T1 := Lib.hid (T.out.keep0 hal.keep)
        obtain ⟨Aq, cq, rfl⟩ := row_slice RW.out
        clear hal hLs hLl T
        go_wp2_with fail
        refine (theirs_any RW.out LL2.out).mono ?_
        rintro e W2 ⟨vt, rfl, hrt, hk2⟩
        have RT := Lib.hid hrt
        have T2 := Lib.hid (T1.out.keep0 hk2)
        obtain ⟨At, ct, rfl⟩ := row_slice hrt
        clear hrt hk2 T1
        go_wp2_with fail
        refine (rall_any T2.out.ref RL2.out).mono ?_
        rintro e W3 ⟨Au, cu, rfl, hou, hk3⟩
        have RU := Lib.hid (Rows7.own hou)
        have RT3 := Lib.hid (RT.out.keep hk3)
        have T3 := Lib.hid (T2.out.keep0 hk3)
        rw [HLS.out] at RU
        clear hou hk3 T2
        go_wp2_with fail
        refine (rsame_any RT3.out (by have := RU.out; rw [HLS.out]; exact this) LL2.out).mono ?_
        rintro e W4 ⟨rfl, hk4⟩
        have T4 := Lib.hid (T3.out.keep0 hk4)
        clear hk4 T3
        go_wp2
        go_ret
        exact ⟨rfl, T4.out.keep⟩
end Go.Proofs.Ytojnmbpicmgcpaa
