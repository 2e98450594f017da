/- Walk of Doubts.Raise. -/
import Derived.Test.YtojnmbpicmgcpaaDoubQ
namespace Go.Proofs.Ytojnmbpicmgcpaa
open Go.RowKit Sh
open Go.ChangeMaps (setBlock)
set_option linter.unusedVariables false

structure RaiseIs (w w' : World) (q : Nat) (mb : Option Nat) (M : List Db) (n i f c : Int) (T : Int → Prop) : Prop where
  ex : ∃ B t, (T t ∧ 0 ≤ t ∧ t < 18446744073709551616) ∧ IsQ w' q (some B) (putL M ⟨n, i, 1, f, c, 0, sat c t⟩) ∧ (mb = some B ∨ (mb = none ∧ w.heap.size ≤ B))
  keep : Keep (QS q mb) w w'

set_option maxRecDepth 100000 in
set_option maxHeartbeats 4000000 in
theorem raise_new {w : World} {q : Nat} {mb : Option Nat} {M : List Db} {base : Nat} {nodes : Int} {T : Int → Prop} (h : IsQ w q mb M) (hT : WaitIs base nodes T) (n i : Int) (k : Nat) (c : Int) (hn : 0 ≤ n ∧ n < 64) (hk : k ≤ 63) (hc : 0 ≤ c ∧ c < 18446744073709551616) (hnew : ∀ x ∈ M, x.n = n → x.i < i) :
    Calls Try.prog 9 #[.pointer (some ⟨q, 0, none⟩), updV n i 1, .int .i64 k, .int .u64 c, .int .i64 nodes, .float .f64 base] w fun e w' => e = .returned (.tuple #[.bool true, .int .i64 0]) ∧ RaiseIs w w' q mb M n i ((2 : Int) ^ k) c T := by
  unfold updV
  have H := Lib.hid h
  have HT := Lib.hid hT
  have hu : mayU n 1 = true := by simp [mayU]; omega
  have d1 : decide ((k : Int) < 0) = false := decide_eq_false (by omega)
  have d2 : decide ((64 : Int) ≤ (k : Int)) = false := decide_eq_false (by omega)
  have d3 : ¬ (64 : Int) ≤ (k : Int) := by omega
  clear h hT
  go_enter Try.func9, Try.ntmps9
  go_wp2_with fail
  refine (may_any n i 1 _).mono ?_
  rintro e w1 ⟨rfl, hk1⟩
  rw [hu]
  have bu := hk1.old (heap_alloc_new w (.cells #[.int .i64 n, .int .u64 i, .int .i64 1] 34)) id
  have k1 := ((Keep.refl (fun _ => False) w).alloc (.cells #[.int .i64 n, .int .u64 i, .int .i64 1] 34)).step hk1
  have c0 : w1.cell? ⟨w.heap.size, 0, none⟩ = some (.int .i64 n) := by simp [World.cell?, bu]
  have c1 : w1.cell? ⟨w.heap.size, 1, none⟩ = some (.int .u64 i) := by simp [World.cell?, bu]
  have c2 : w1.cell? ⟨w.heap.size, 2, none⟩ = some (.int .i64 1) := by simp [World.cell?, bu]
  have cq := k1.cell H.out.c0
  obtain ⟨x, b, hlk, hb⟩ := H.out.look n
  have BU := Lib.hid bu
  have K1 := Lib.hid k1
  have HB := Lib.hid hb
  clear hk1 bu k1 hb
  obtain ⟨xn, xi, xs, xf, xc, xt, xu⟩ := x
  have hlk2 : (Instr.lookup 25 (.map mb) (.int .i64 n) true).run Try.prog w1.drew = .ok (.tuple #[.agg #[.int .i64 xn, .int .u64 xi, .int .i64 xs, .int .u64 xf, .int .u64 xc, .int .u64 xt, .int .u64 xu], .bool b]) w1.drew := hlk _ K1.out.drew
  have hlk3 : ∀ o, (Instr.lookup 25 (.map mb) (.int .i64 n) true).run Try.prog (w1.alloc o).drew = .ok (.tuple #[.agg #[.int .i64 xn, .int .u64 xi, .int .i64 xs, .int .u64 xf, .int .u64 xc, .int .u64 xt, .int .u64 xu], .bool b]) (w1.alloc o).drew := fun o => hlk _ (K1.out.alloc _).drew
  clear hlk
  go_upto_region 3 with fail
  go_cut [14, 15] (fun v14 v15 wx => v14 = .pointer (some ⟨w1.heap.size, 0, none⟩) ∧ v15 = .bool b ∧ Keep (fun _ => False) w1 wx ∧ wx.heap[w1.heap.size]? = some (.cells #[.int .i64 xn, .int .u64 xi, .int .i64 xs, .int .u64 xf, .int .u64 xc, .int .u64 xt, .int .u64 xu] 55 (0, 0)))
  case first =>
    go_region_held3 (fun W => W.cell? ⟨q, 0, none⟩ = some (.map mb) ∧ W.cell? ⟨w.heap.size, 0, none⟩ = some (.int .i64 n)) (go_keep) (fail)
    all_goals
      go_wp2_with fail
      go_meet
      exact ⟨rfl, rfl, ((Keep.refl _ w1).alloc _).drew, heap_alloc_new w1 _⟩
  case rest =>
    obtain ⟨rfl, rfl, kb, bb⟩ := hcut
    obtain ⟨wb, hwb⟩ : ∃ wb, wb = wc := ⟨_, rfl⟩
    rw [← hwb] at kb bb ⊢
    clear hwb
    have b1 : wb.cell? ⟨w1.heap.size, 1, none⟩ = some (.int .u64 xi) := by simp [World.cell?, bb]
    have c0 := kb.cell c0
    have c1 := kb.cell c1
    have c2 := kb.cell c2
    have KB := Lib.hid (K1.out.step kb)
    have BUB := Lib.hid (kb.old BU.out (fun h => h))
    have XB := Lib.hid bb
    have hsz : w.heap.size < w1.heap.size := (Array.getElem?_eq_some_iff.1 BU.out).1
    clear kb bb hlk2 hlk3 cq BU K1
    go_upto_block 0 with fail
    go_cut [] (fun wx => wx.heap[w1.heap.size]? = some (.cells (dbC ⟨n, i, 1, (2 : Int) ^ k, c, 0, 0⟩).toArray 55 (0, 0)) ∧ Keep (fun j => j = w1.heap.size) wb wx)
    case first =>
      have c0d : wb.drew.cell? ⟨w.heap.size, 0, none⟩ = some (.int .i64 n) := c0
      have c1d : wb.drew.cell? ⟨w.heap.size, 1, none⟩ = some (.int .u64 i) := c1
      have c2d : wb.drew.cell? ⟨w.heap.size, 2, none⟩ = some (.int .i64 1) := c2
      have FIN : Hid ((wb.drew.setRow w1.heap.size (dbC ⟨n, i, 1, (2 : Int) ^ k, c, 0, 0⟩).toArray).heap[w1.heap.size]? = some (.cells (dbC ⟨n, i, 1, (2 : Int) ^ k, c, 0, 0⟩).toArray 55 (0, 0)) ∧ Keep (fun j => j = w1.heap.size) wb (wb.drew.setRow w1.heap.size (dbC ⟨n, i, 1, (2 : Int) ^ k, c, 0, 0⟩).toArray)) := Lib.hid ⟨setRow_heap wb.drew w1.heap.size _ _ 55 _ XB.out, ⟨rfl, rfl, rfl, by simp [World.setRow], fun j _ hj => setRow_other wb.drew w1.heap.size j _ hj⟩⟩
      have hcase : b = false ∨ (b = true ∧ xi < i) := by
        rcases HB.out with ⟨rfl, hx, hxn⟩ | ⟨rfl, _⟩
        · exact .inr ⟨rfl, hnew _ hx hxn⟩
        · exact .inl rfl
      rcases hcase with rfl | ⟨rfl, hlt⟩
      · go_upto_region 4 with fail
        refine still_tail 5 (by kernel_rfl) (by kernel_rfl) ?_
        simp only [List.take_succ_cons, List.take_zero, List.drop_succ_cons, List.drop_zero]
        repeat still_step
        still_call (to_still (with_zero k hk _))
        repeat still_step
        try refine wpStill_nil ?_
        refine wpList_plain rfl fun K hK => ?_
        refine wp_store_row 55 _ _ rfl w1.heap.size (dbC ⟨n, i, 1, (2 : Int) ^ k, c, 0, 0⟩).toArray rfl rfl 55 _ (show wb.drew.heap[w1.heap.size]? = _ from XB.out) (by kernel_rfl) (by simp [dbC]) (by simp [dbC, Value.oneCell']) (hK _ _ ?_)
        clear hK K
        go_wp2_with fail
        go_meet
        exact FIN.out
      · have e1 : decide (i < xi) = false := decide_eq_false (by omega)
        have e2 : (xi == i) = false := by rw [beq_eq_false_iff_ne]; omega
        have e3 : ¬ xi = i := by omega
        go_upto_region 4 with fail
        refine still_tail 5 (by kernel_rfl) (by kernel_rfl) ?_
        simp only [List.take_succ_cons, List.take_zero, List.drop_succ_cons, List.drop_zero]
        repeat still_step
        still_call (to_still (with_zero k hk _))
        repeat still_step
        try refine wpStill_nil ?_
        refine wpList_plain rfl fun K hK => ?_
        refine wp_store_row 55 _ _ rfl w1.heap.size (dbC ⟨n, i, 1, (2 : Int) ^ k, c, 0, 0⟩).toArray rfl rfl 55 _ (show wb.drew.heap[w1.heap.size]? = _ from XB.out) (by kernel_rfl) (by simp [dbC]) (by simp [dbC, Value.oneCell']) (hK _ _ ?_)
        clear hK K
        go_wp2_with fail
        go_meet
        exact FIN.out
    case rest =>
      obtain ⟨hbx, hkx⟩ := hcut
      obtain ⟨wo, hwo⟩ : ∃ wo, wo = wc := ⟨_, rfl⟩
      rw [← hwo] at hbx hkx ⊢
      clear hwo
      have KO : Hid (Keep (fun _ => False) w wo) := Lib.hid (KB.out.trans hkx (fun j hj h => by omega))
      have BUO := Lib.hid (hkx.old BUB.out (by omega))
      have XO := Lib.hid hbx
      clear hbx hkx c0 c1 c2 b1 KB BUB XB HB
      go_wp2_with fail
      refine (dwait_any HT.out XO.out rfl hc).mono ?_
      rintro e w5 ⟨rfl, t, ⟨hTt, ht0, ht1⟩, hx5, hk5⟩
      have K5 : Hid (Keep (fun _ => False) w w5) := Lib.hid (KO.out.trans hk5 (fun j hj h => by omega))
      have BU5 := Lib.hid (hk5.old BUO.out (by omega))
      have X5 := Lib.hid hx5
      have H5 := Lib.hid (H.out.keep0 K5.out)
      have TT : Hid (T t ∧ 0 ≤ t ∧ t < 18446744073709551616) := Lib.hid ⟨hTt, ht0, ht1⟩
      clear hx5 hk5 KO BUO XO hTt ht0 ht1
      have cq := H5.out.c0
      have hnil := run_eql_map_nil (P := Try.prog) w5 25 3 55 mb Try.underlying25
      generalize hS : sat c t = st at *
      cases mb with
      | some B =>
        go_upto_region 15 with fail
        have HC2 := H5
        have BC2 := BU5
        have XC2 := X5
        have KC2 : Hid (Keep (QS q (some B)) w w5) := Lib.hid (K5.out.mono (fun _ h _ => absurd h id))
        obtain ⟨ws, hws⟩ : ∃ ws, ws = w5 := ⟨_, rfl⟩
        rw [← hws] at HC2 BC2 XC2 KC2 ⊢
        clear hws H5 BU5 X5 K5 cq hnil
        obtain ⟨o, hup, hiq⟩ := (HC2.out.keep0 (Keep.refl _ ws).drew).put ⟨n, i, 1, (2 : Int) ^ k, c, 0, st⟩
        have hup2 : (Instr.mapUpdate 25 (.map (some B)) (.int .i64 n) (.agg #[.int .i64 n, .int .u64 i, .int .i64 1, .int .u64 ((2 : Int) ^ k), .int .u64 c, .int .u64 0, .int .u64 st])).run Try.prog ws.drew = .ok () (setBlock ws.drew B o) := hup
        have xb := XC2.out
        have u0 : ws.drew.cell? ⟨w.heap.size, 0, none⟩ = some (.int .i64 n) := by have := BC2.out; show ws.cell? _ = _; simp [World.cell?, this]
        have cq := (HC2.out.keep0 (Keep.refl _ ws).drew).c0
        have x0 : ws.drew.cell? ⟨w1.heap.size, 0, none⟩ = some (.int .i64 n) := by show ws.cell? _ = _; simp [World.cell?, xb, dbC]
        have x1 : ws.drew.cell? ⟨w1.heap.size, 1, none⟩ = some (.int .u64 i) := by show ws.cell? _ = _; simp [World.cell?, xb, dbC]
        have x2 : ws.drew.cell? ⟨w1.heap.size, 2, none⟩ = some (.int .i64 1) := by show ws.cell? _ = _; simp [World.cell?, xb, dbC]
        have x3 : ws.drew.cell? ⟨w1.heap.size, 3, none⟩ = some (.int .u64 ((2 : Int) ^ k)) := by show ws.cell? _ = _; simp [World.cell?, xb, dbC]
        have x4 : ws.drew.cell? ⟨w1.heap.size, 4, none⟩ = some (.int .u64 c) := by show ws.cell? _ = _; simp [World.cell?, xb, dbC]
        have x5 : ws.drew.cell? ⟨w1.heap.size, 5, none⟩ = some (.int .u64 0) := by show ws.cell? _ = _; simp [World.cell?, xb, dbC]
        have x6 : ws.drew.cell? ⟨w1.heap.size, 6, none⟩ = some (.int .u64 st) := by show ws.cell? _ = _; simp [World.cell?, xb, dbC]
        have RK := Lib.hid (keep_setBlock KC2.out.drew B o (fun hlt => .inr rfl))
        have RQ := Lib.hid hiq
        clear hup xb hiq HC2 BC2 XC2 KC2
        refine sb_tail 7 (by kernel_rfl) (by kernel_rfl) ?_
        simp only [List.take_succ_cons, List.take_zero, List.drop_succ_cons, List.drop_zero]
        repeat (refine sb_step (fun K hK => ?_); go_simp; refine hK _ ?_; clear hK K)
        try refine sb_nil ?_
        go_wp2
        go_ret2
        exact ⟨rfl, ⟨B, t, TT.out, by rw [hS]; exact RQ.out, .inl rfl⟩, RK.out⟩
      | none =>
        have hmm := @run_makeMap Try.prog
        have ka := (Keep.refl (fun _ => False) w5).alloc (.map #[] 0)
        have HA := H5.out.keep0 ka
        have fq : (w5.alloc (.map #[] 0)).frozen? ⟨q, 0, none⟩ = false := by have := HA.cell; simp [World.frozen?, this]
        have cqa := HA.c0
        have hBs : w.heap.size ≤ w5.heap.size := K5.out.size
        have hB1 : w1.heap.size < w5.heap.size := (Array.getElem?_eq_some_iff.1 X5.out).1
        go_upto_region 15 with fail
        clear hmm fq cqa cq hnil
        obtain ⟨B, hB⟩ : ∃ B, B = w5.heap.size := ⟨_, rfl⟩
        have hBw : w.heap.size ≤ B := by omega
        have HC2 := Lib.hid H5.out.made
        rw [← hB] at HC2
        have ks : Keep (fun k => k = q) w5 ((w5.alloc (.map #[] 0)).setCell ⟨q, 0, none⟩ (.map (some B))) := ((Keep.refl _ w5).alloc _).setAt _ _
        have hqb : w.heap.size ≠ q := by have := H.out.lt; omega
        have hqb1 : w1.heap.size ≠ q := by have := H.out.lt; omega
        have BC2 := Lib.hid (ks.old BU5.out hqb)
        have XC2 := Lib.hid (ks.old X5.out hqb1)
        have KC2 : Hid (Keep (QS q none) w ((w5.alloc (.map #[] 0)).setCell ⟨q, 0, none⟩ (.map (some B)))) := Lib.hid ((K5.out.mono (fun _ h _ => absurd h id)).trans ks (fun k hk _ => .inl hk))
        obtain ⟨ws, hws⟩ : ∃ ws, ws = (w5.alloc (.map #[] 0)).setCell ⟨q, 0, none⟩ (.map (some B)) := ⟨_, rfl⟩
        rw [← hB]
        rw [← hws] at HC2 BC2 XC2 KC2 ⊢
        clear hws H5 BU5 X5 K5 ka HA ks hB hBs hqb hqb1 hB1
        obtain ⟨o, hup, hiq⟩ := (HC2.out.keep0 (Keep.refl _ ws).drew).put ⟨n, i, 1, (2 : Int) ^ k, c, 0, st⟩
        have hup2 : (Instr.mapUpdate 25 (.map (some B)) (.int .i64 n) (.agg #[.int .i64 n, .int .u64 i, .int .i64 1, .int .u64 ((2 : Int) ^ k), .int .u64 c, .int .u64 0, .int .u64 st])).run Try.prog ws.drew = .ok () (setBlock ws.drew B o) := hup
        have xb := XC2.out
        have u0 : ws.drew.cell? ⟨w.heap.size, 0, none⟩ = some (.int .i64 n) := by have := BC2.out; show ws.cell? _ = _; simp [World.cell?, this]
        have cq := (HC2.out.keep0 (Keep.refl _ ws).drew).c0
        have x0 : ws.drew.cell? ⟨w1.heap.size, 0, none⟩ = some (.int .i64 n) := by show ws.cell? _ = _; simp [World.cell?, xb, dbC]
        have x1 : ws.drew.cell? ⟨w1.heap.size, 1, none⟩ = some (.int .u64 i) := by show ws.cell? _ = _; simp [World.cell?, xb, dbC]
        have x2 : ws.drew.cell? ⟨w1.heap.size, 2, none⟩ = some (.int .i64 1) := by show ws.cell? _ = _; simp [World.cell?, xb, dbC]
        have x3 : ws.drew.cell? ⟨w1.heap.size, 3, none⟩ = some (.int .u64 ((2 : Int) ^ k)) := by show ws.cell? _ = _; simp [World.cell?, xb, dbC]
        have x4 : ws.drew.cell? ⟨w1.heap.size, 4, none⟩ = some (.int .u64 c) := by show ws.cell? _ = _; simp [World.cell?, xb, dbC]
        have x5 : ws.drew.cell? ⟨w1.heap.size, 5, none⟩ = some (.int .u64 0) := by show ws.cell? _ = _; simp [World.cell?, xb, dbC]
        have x6 : ws.drew.cell? ⟨w1.heap.size, 6, none⟩ = some (.int .u64 st) := by show ws.cell? _ = _; simp [World.cell?, xb, dbC]
        have RK := Lib.hid (keep_setBlock KC2.out.drew B o (fun hlt => absurd hlt (by omega)))
        have RQ := Lib.hid hiq
        clear hup xb hiq HC2 BC2 XC2 KC2
        refine sb_tail 7 (by kernel_rfl) (by kernel_rfl) ?_
        simp only [List.take_succ_cons, List.take_zero, List.drop_succ_cons, List.drop_zero]
        repeat (refine sb_step (fun K hK => ?_); go_simp; refine hK _ ?_; clear hK K)
        try refine sb_nil ?_
        go_wp2
        go_ret2
        exact ⟨rfl, ⟨B, t, TT.out, by rw [hS]; exact RQ.out, .inr ⟨rfl, hBw⟩⟩, RK.out⟩

end Go.Proofs.Ytojnmbpicmgcpaa
