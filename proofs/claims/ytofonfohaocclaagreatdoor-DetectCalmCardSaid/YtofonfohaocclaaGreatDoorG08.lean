/- Walk of Doubts.Raise, where one more tells a doubt, or one that told it: whole. Walks of the small functions: what compares, what may be told, what is newer. Walks of real.Bits and rumor.Cap. Items of a queue, in order: plain facts; a queue as the heap has it. -/
import Derived.Test.YtofonfohaocclaaGreatDoorG07
import Derived.Test.YtofonfohaocclaaGreatDoorG01
import Derived.Shelf.Small.Bits
import Derived.Shelf.Lays
namespace Go.Proofs.YtofonfohaocclaaGreatDoor.D
open Go.RowKit Sh
open Go.ChangeMaps (setBlock)
set_option linter.unusedVariables false

set_option maxRecDepth 100000 in
set_option maxHeartbeats 4000000 in
theorem raise_has {w : World} {q : Loc} {mb : Option Nat} {M : List Db} {base : Nat} {nodes : Int} (h : IsQ w q mb M) (n i : Int) (k : Nat) (c : Int) (hn : 0 ≤ n ∧ n < 64) (hk : k ≤ 63) (x0 : Db) (hx0 : x0 ∈ M) (hx1 : x0.n = n) (hxi : x0.i = i) (F : Nat) (hF : F < 18446744073709551616) (hxf : x0.f = (F : Int)) (hbit : F.testBit k = true) :
    Calls Tryz.prog 119 #[.pointer (some ⟨q.b, q.o, none⟩), updV n i 1, .int .i64 k, .int .u64 c, .int .i64 nodes, .float .f64 base] w fun e w' => e = .returned (.tuple #[.bool false, .int .i64 0]) ∧ Keep (fun _ => False) w w' := by
  unfold updV
  have H := Lib.hid h
  have hu : mayU n 1 = true := by simp [mayU]; omega
  have d1 : decide ((k : Int) < 0) = false := decide_eq_false (by omega)
  have d2 : decide ((64 : Int) ≤ (k : Int)) = false := decide_eq_false (by omega)
  have d3 : ¬ (64 : Int) ≤ (k : Int) := by omega
  clear h
  go_enter Tryz.func119, Tryz.ntmps119
  go_wp2_with fail
  refine (may_any n i 1 _).mono ?_
  rintro e w1 ⟨rfl, hk1⟩
  rw [hu]
  have bu := hk1.old (heap_alloc_new w (.cells #[.int .i64 n, .int .u64 i, .int .i64 1] 52)) id
  have k1 := ((Keep.refl (fun _ => False) w).alloc (.cells #[.int .i64 n, .int .u64 i, .int .i64 1] 52)).step hk1
  have c0 : w1.cell? ⟨w.heap.size, 0, none⟩ = some (.int .i64 n) := by simp [World.cell?, bu]
  have c1 : w1.cell? ⟨w.heap.size, 1, none⟩ = some (.int .u64 i) := by simp [World.cell?, bu]
  have c2 : w1.cell? ⟨w.heap.size, 2, none⟩ = some (.int .i64 1) := by simp [World.cell?, bu]
  have cq := k1.cell H.out.c0
  obtain ⟨x, b, hlk, hb⟩ := H.out.look n
  have BU := Lib.hid bu
  have K1 := Lib.hid k1
  have HB := Lib.hid hb
  clear hk1 bu k1 hb
  obtain ⟨xn, xi, xs, xf, xc, xt, xu⟩ := x
  have hlk2 : (Instr.lookup 42 (.map mb) (.int .i64 n) true).run Tryz.prog w1.drew = .ok (.tuple #[.agg #[.int .i64 xn, .int .u64 xi, .int .i64 xs, .int .u64 xf, .int .u64 xc, .int .u64 xt, .int .u64 xu], .bool b]) w1.drew := hlk _ K1.out.drew
  have hlk3 : ∀ o, (Instr.lookup 42 (.map mb) (.int .i64 n) true).run Tryz.prog (w1.alloc o).drew = .ok (.tuple #[.agg #[.int .i64 xn, .int .u64 xi, .int .i64 xs, .int .u64 xf, .int .u64 xc, .int .u64 xt, .int .u64 xu], .bool b]) (w1.alloc o).drew := fun o => hlk _ (K1.out.alloc _).drew
  clear hlk
  go_upto_region 3 with fail
  go_cut [14, 15] (fun v14 v15 wx => v14 = .pointer (some ⟨w1.heap.size, 0, none⟩) ∧ v15 = .bool b ∧ Keep (fun _ => False) w1 wx ∧ wx.heap[w1.heap.size]? = some (.cells #[.int .i64 xn, .int .u64 xi, .int .i64 xs, .int .u64 xf, .int .u64 xc, .int .u64 xt, .int .u64 xu] 153 (0, 0)))
  case first =>
    go_region_held3 (fun W => W.cell? ⟨q.b, q.o, none⟩ = some (.map mb) ∧ W.cell? ⟨w.heap.size, 0, none⟩ = some (.int .i64 n)) (go_keep) (fail)
    all_goals
      go_wp2_with fail
      go_meet
      exact ⟨rfl, rfl, ((Keep.refl _ w1).alloc _).drew, heap_alloc_new w1 _⟩
  case rest =>
    obtain ⟨rfl, rfl, kb, bb⟩ := hcut
    obtain ⟨wb, hwb⟩ : ∃ wb, wb = wc := ⟨_, rfl⟩
    rw [← hwb] at kb bb ⊢
    clear hwb
    have b1 : wb.cell? ⟨w1.heap.size, 1, none⟩ = some (.int .u64 xi) := by simp [World.cell?, bb]
    have c0 := kb.cell c0
    have c1 := kb.cell c1
    have c2 := kb.cell c2
    have KB := Lib.hid (K1.out.step kb)
    have BUB := Lib.hid (kb.old BU.out (fun h => h))
    have XB := Lib.hid bb
    clear kb bb hlk2 hlk3 cq BU K1
    have x3 : wb.cell? ⟨w1.heap.size, 3, none⟩ = some (.int .u64 xf) := by have := XB.out; simp [World.cell?, this]
    rcases HB.out with ⟨rfl, hx, hxn⟩ | ⟨rfl, hno⟩
    · have e0 := nodup_one H.out.nod hx hx0 (hxn.trans hx1.symm)
      subst e0
      have hxi : xi = i := hxi
      have hxf : xf = (F : Int) := hxf
      subst hxi hxf
      have e1 : decide (xi < xi) = false := by simp
      have e2 : (xi == xi) = true := by simp
      have HQ := Lib.hid (fun W => has_bit F k hF hk W)
      rw [hbit] at HQ
      clear hx hxn hx0 hx1 HB XB BUB hF hbit
      go_wp2_with fail
      refine (HQ.out _).mono ?_
      rintro e w2 ⟨rfl, rfl⟩
      go_wp2
      go_ret2
      exact ⟨rfl, KB.out⟩
    · exact absurd hx1 (hno _ hx0)

set_option maxRecDepth 100000 in
set_option maxHeartbeats 4000000 in
theorem raise_told {w : World} {q : Loc} {mb : Option Nat} {M : List Db} {base : Nat} {nodes : Int} {u : Nat → Nat} (h : IsQ w q mb M) (hT : Waits base nodes u) (n i : Int) (k : Nat) (c : Int) (hn : 0 ≤ n ∧ n < 64) (hk : k ≤ 63) (x0 : Db) (hx0 : x0 ∈ M) (hx1 : x0.n = n) (hxi : x0.i = i) (F : Nat) (hF : F < 18446744073709551616) (hxf : x0.f = (F : Int)) (hbit : F.testBit k = false) (t : Nat) (ht : x0.t = (t : Int)) (ht2 : t < 1000) (hc : 0 ≤ x0.c ∧ x0.c < 18446744073709551616) :
    Calls Tryz.prog 119 #[.pointer (some ⟨q.b, q.o, none⟩), updV n i 1, .int .i64 k, .int .u64 c, .int .i64 nodes, .float .f64 base] w fun e w' => e = .returned (.tuple #[.bool true, .int .i64 0]) ∧ ∃ B, mb = some B ∧ IsQ w' q (some B) (putL M ⟨n, i, x0.s, ((F ||| 2 ^ k : Nat) : Int), x0.c, (t : Int) + 1, sat x0.c (u (t + 1))⟩) ∧ Keep (QS q mb) w w' := by
  unfold updV
  have H := Lib.hid h
  have HT := Lib.hid hT
  have hu : mayU n 1 = true := by simp [mayU]; omega
  have d1 : decide ((k : Int) < 0) = false := decide_eq_false (by omega)
  have d2 : decide ((64 : Int) ≤ (k : Int)) = false := decide_eq_false (by omega)
  have d3 : ¬ (64 : Int) ≤ (k : Int) := by omega
  clear h hT
  go_enter Tryz.func119, Tryz.ntmps119
  go_wp2_with fail
  refine (may_any n i 1 _).mono ?_
  rintro e w1 ⟨rfl, hk1⟩
  rw [hu]
  have bu := hk1.old (heap_alloc_new w (.cells #[.int .i64 n, .int .u64 i, .int .i64 1] 52)) id
  have k1 := ((Keep.refl (fun _ => False) w).alloc (.cells #[.int .i64 n, .int .u64 i, .int .i64 1] 52)).step hk1
  have c0 : w1.cell? ⟨w.heap.size, 0, none⟩ = some (.int .i64 n) := by simp [World.cell?, bu]
  have c1 : w1.cell? ⟨w.heap.size, 1, none⟩ = some (.int .u64 i) := by simp [World.cell?, bu]
  have c2 : w1.cell? ⟨w.heap.size, 2, none⟩ = some (.int .i64 1) := by simp [World.cell?, bu]
  have cq := k1.cell H.out.c0
  obtain ⟨x, b, hlk, hb⟩ := H.out.look n
  have BU := Lib.hid bu
  have K1 := Lib.hid k1
  have HB := Lib.hid hb
  clear hk1 bu k1 hb
  obtain ⟨xn, xi, xs, xf, xc, xt, xu⟩ := x
  have hlk2 : (Instr.lookup 42 (.map mb) (.int .i64 n) true).run Tryz.prog w1.drew = .ok (.tuple #[.agg #[.int .i64 xn, .int .u64 xi, .int .i64 xs, .int .u64 xf, .int .u64 xc, .int .u64 xt, .int .u64 xu], .bool b]) w1.drew := hlk _ K1.out.drew
  have hlk3 : ∀ o, (Instr.lookup 42 (.map mb) (.int .i64 n) true).run Tryz.prog (w1.alloc o).drew = .ok (.tuple #[.agg #[.int .i64 xn, .int .u64 xi, .int .i64 xs, .int .u64 xf, .int .u64 xc, .int .u64 xt, .int .u64 xu], .bool b]) (w1.alloc o).drew := fun o => hlk _ (K1.out.alloc _).drew
  clear hlk
  go_upto_region 3 with fail
  go_cut [14, 15] (fun v14 v15 wx => v14 = .pointer (some ⟨w1.heap.size, 0, none⟩) ∧ v15 = .bool b ∧ Keep (fun _ => False) w1 wx ∧ wx.heap[w1.heap.size]? = some (.cells #[.int .i64 xn, .int .u64 xi, .int .i64 xs, .int .u64 xf, .int .u64 xc, .int .u64 xt, .int .u64 xu] 153 (0, 0)))
  case first =>
    go_region_held3 (fun W => W.cell? ⟨q.b, q.o, none⟩ = some (.map mb) ∧ W.cell? ⟨w.heap.size, 0, none⟩ = some (.int .i64 n)) (go_keep) (fail)
    all_goals
      go_wp2_with fail
      go_meet
      exact ⟨rfl, rfl, ((Keep.refl _ w1).alloc _).drew, heap_alloc_new w1 _⟩
  case rest =>
    obtain ⟨rfl, rfl, kb, bb⟩ := hcut
    obtain ⟨wb, hwb⟩ : ∃ wb, wb = wc := ⟨_, rfl⟩
    rw [← hwb] at kb bb ⊢
    clear hwb
    have b1 : wb.cell? ⟨w1.heap.size, 1, none⟩ = some (.int .u64 xi) := by simp [World.cell?, bb]
    have c0 := kb.cell c0
    have c1 := kb.cell c1
    have c2 := kb.cell c2
    have KB := Lib.hid (K1.out.step kb)
    have BUB := Lib.hid (kb.old BU.out (fun h => h))
    have XB := Lib.hid bb
    have hsz : w.heap.size < w1.heap.size := (Array.getElem?_eq_some_iff.1 BU.out).1
    clear kb bb hlk2 hlk3 cq BU K1
    rcases HB.out with ⟨rfl, hx, hxn⟩ | ⟨rfl, hno⟩
    rotate_left
    · exact absurd hx1 (hno _ hx0)
    have e0 := nodup_one H.out.nod hx hx0 (hxn.trans hx1.symm)
    subst e0
    have hxi : xi = i := hxi
    have hxn : xn = n := hx1
    have hxf : xf = (F : Int) := hxf
    have ht : xt = (t : Int) := ht
    subst hxi hxn hxf ht
    have e1 : decide (xi < xi) = false := by simp
    have e2 : (xi == xi) = true := by simp
    have HQ := Lib.hid (fun W => has_bit F k hF hk W)
    have HW := Lib.hid (fun W => with_bit F k hF hk W)
    rw [hbit] at HQ
    have HC : Hid (0 ≤ xc ∧ xc < 18446744073709551616) := Lib.hid hc
    have HM : Hid (mb ≠ none) := Lib.hid (by rintro rfl; rw [H.out.non rfl] at hx0; cases hx0)
    clear hx hx0 hx1 HB hF hbit hxn hc
    generalize hfn : ((F ||| 2 ^ k : Nat) : Int) = fn at *
    have FN := Lib.hid hfn
    clear hfn
    have et : IntKind.u64.wrap ((t : Int) + 1) = (t : Int) + 1 := by rw [IntKind.wrap_u64]; omega
    go_upto_block 0 with fail
    go_cut [] (fun wx => wx.heap[w1.heap.size]? = some (.cells (dbC ⟨xn, xi, xs, fn, xc, (t : Int) + 1, xu⟩).toArray 153 (0, 0)) ∧ Keep (fun j => j = w1.heap.size) wb wx)
    case first =>
      have x3 : wb.cell? ⟨w1.heap.size, 3, none⟩ = some (.int .u64 F) := by have := XB.out; simp [World.cell?, this]
      have x5 : wb.cell? ⟨w1.heap.size, 5, none⟩ = some (.int .u64 t) := by have := XB.out; simp [World.cell?, this]
      have f3 : wb.frozen? ⟨w1.heap.size, 3, none⟩ = false := by have := XB.out; simp [World.frozen?, this]
      have f5 : ∀ v, (wb.setCell ⟨w1.heap.size, 3, none⟩ v).frozen? ⟨w1.heap.size, 5, none⟩ = false := fun v => by have := heap_setCell_at XB.out 3 v; simp [World.frozen?, this]
      have z5 := fun v => set_other (w := wb) (v := v) (o := 3) (o' := 5) (by decide) x5
      have z3 := fun v => set_other (w := wb) (v := v) (o := 5) (o' := 3) (by decide) x3
      go_wp2_with fail
      refine (HQ.out _).mono ?_
      rintro e w2 ⟨rfl, rfl⟩
      go_wp2_with fail
      refine (HW.out _).mono ?_
      rintro e w3 ⟨rfl, rfl⟩
      go_wp2_with fail
      go_meet
      refine ⟨?_, ((Keep.refl (fun j => j = w1.heap.size) wb).setAt 3 _).setAt 5 _⟩
      have h5 := heap_setCell_at (heap_setCell_at XB.out 3 (.int .u64 fn)) 5 (.int .u64 ((t : Int) + 1))
      simpa [dbC] using h5
    case rest =>
      obtain ⟨hbx, hkx⟩ := hcut
      obtain ⟨wo, hwo⟩ : ∃ wo, wo = wc := ⟨_, rfl⟩
      rw [← hwo] at hbx hkx ⊢
      clear hwo
      have KO : Hid (Keep (fun _ => False) w wo) := Lib.hid (KB.out.trans hkx (fun j hj h => by omega))
      have BUO := Lib.hid (hkx.old BUB.out (by omega))
      have XO := Lib.hid hbx
      clear hbx hkx c0 c1 c2 b1 KB BUB XB HQ HW
      go_wp2_with fail
      refine (dwait_told HT.out XO.out (t + 1) (by push_cast; rfl) (by omega) HC.out).mono ?_
      rintro e w5 ⟨rfl, hx5, hk5⟩
      have K5 : Hid (Keep (fun _ => False) w w5) := Lib.hid (KO.out.trans hk5 (fun j hj h => by omega))
      have BU5 := Lib.hid (hk5.old BUO.out (by omega))
      have X5 := Lib.hid hx5
      have H5 := Lib.hid (H.out.keep0 K5.out)
      clear hx5 hk5 KO BUO XO
      have cq := H5.out.c0
      have hnil := run_eql_map_nil (P := Tryz.prog) w5 42 3 153 mb Tryz.underlying42
      generalize hS : sat xc ((u (t + 1) : Nat) : Int) = st at *
      generalize htn : (t : Int) + 1 = tn at *
      have TN := Lib.hid htn
      clear htn
      cases mb with
      | none => exact absurd rfl HM.out
      | some B =>
        go_upto_region 15 with fail
        have HC2 := H5
        have BC2 := BU5
        have XC2 := X5
        have KC2 : Hid (Keep (QS q (some B)) w w5) := Lib.hid (K5.out.mono (fun _ h _ => absurd h id))
        obtain ⟨ws, hws⟩ : ∃ ws, ws = w5 := ⟨_, rfl⟩
        rw [← hws] at HC2 BC2 XC2 KC2 ⊢
        clear hws H5 BU5 X5 K5 cq hnil
        obtain ⟨o, hup, hiq⟩ := (HC2.out.keep0 (Keep.refl _ ws).drew).put ⟨xn, xi, xs, fn, xc, tn, st⟩
        have hup2 : (Instr.mapUpdate 42 (.map (some B)) (.int .i64 xn) (.agg #[.int .i64 xn, .int .u64 xi, .int .i64 xs, .int .u64 fn, .int .u64 xc, .int .u64 tn, .int .u64 st])).run Tryz.prog ws.drew = .ok () (setBlock ws.drew B o) := hup
        have xb := XC2.out
        have u0 : ws.drew.cell? ⟨w.heap.size, 0, none⟩ = some (.int .i64 xn) := by have := BC2.out; show ws.cell? _ = _; simp [World.cell?, this]
        have cq := (HC2.out.keep0 (Keep.refl _ ws).drew).c0
        have x0 : ws.drew.cell? ⟨w1.heap.size, 0, none⟩ = some (.int .i64 xn) := by show ws.cell? _ = _; simp [World.cell?, xb, dbC]
        have x1 : ws.drew.cell? ⟨w1.heap.size, 1, none⟩ = some (.int .u64 xi) := by show ws.cell? _ = _; simp [World.cell?, xb, dbC]
        have x2 : ws.drew.cell? ⟨w1.heap.size, 2, none⟩ = some (.int .i64 xs) := by show ws.cell? _ = _; simp [World.cell?, xb, dbC]
        have x3 : ws.drew.cell? ⟨w1.heap.size, 3, none⟩ = some (.int .u64 fn) := by show ws.cell? _ = _; simp [World.cell?, xb, dbC]
        have x4 : ws.drew.cell? ⟨w1.heap.size, 4, none⟩ = some (.int .u64 xc) := by show ws.cell? _ = _; simp [World.cell?, xb, dbC]
        have x5 : ws.drew.cell? ⟨w1.heap.size, 5, none⟩ = some (.int .u64 tn) := by show ws.cell? _ = _; simp [World.cell?, xb, dbC]
        have x6 : ws.drew.cell? ⟨w1.heap.size, 6, none⟩ = some (.int .u64 st) := by show ws.cell? _ = _; simp [World.cell?, xb, dbC]
        have RK := Lib.hid (keep_setBlock KC2.out.drew B o (fun hlt => .inr rfl))
        have RQ := Lib.hid hiq
        clear hup xb hiq HC2 BC2 XC2 KC2
        refine sb_tail 7 (by kernel_rfl) (by kernel_rfl) ?_
        simp only [List.take_succ_cons, List.take_zero, List.drop_succ_cons, List.drop_zero]
        repeat (refine sb_step (fun K hK => ?_); go_simp; refine hK _ ?_; clear hK K)
        try refine sb_nil ?_
        go_wp2
        go_ret2
        exact ⟨rfl, by rw [FN.out, TN.out]; exact RQ.out, RK.out⟩
end Go.Proofs.YtofonfohaocclaaGreatDoor.D

namespace Go.Proofs.YtofonfohaocclaaGreatDoor.Q
open Go.RowKit Sh
open Go.ChangeMaps (setBlock)
set_option linter.unusedVariables false

def cmpI (x y : Int) : Int := if x < y then -1 else if y < x then 1 else 0
theorem cmpI_lt {x y : Int} (h : x < y) : cmpI x y = -1 := by simp [cmpI, h]
theorem cmpI_gt {x y : Int} (h : y < x) : cmpI x y = 1 := by
  have : ¬ x < y := by omega
  simp [cmpI, h, this]
theorem cmpI_eq (x : Int) : cmpI x x = 0 := by simp [cmpI]

theorem isnan_i (x : Int) (w : World) : Calls Tryz.prog 158 #[.int .i64 x] w fun e w' => e = .returned (.bool false) ∧ w = w' := by
  go_enter Tryz.func158, Tryz.ntmps158
  go_wp2
  go_ret
  exact ⟨rfl, rfl⟩
theorem isnan_u (x : Int) (w : World) : Calls Tryz.prog 179 #[.int .u64 x] w fun e w' => e = .returned (.bool false) ∧ w = w' := by
  go_enter Tryz.func179, Tryz.ntmps179
  go_wp2
  go_ret
  exact ⟨rfl, rfl⟩
theorem compare_i (x y : Int) (w : World) : Calls Tryz.prog 135 #[.int .i64 x, .int .i64 y] w fun e w' => e = .returned (.int .i64 (cmpI x y)) ∧ w = w' := by
  rcases Int.lt_trichotomy x y with h | rfl | h
  · rw [cmpI_lt h]
    have t1 : decide (x < y) = true := decide_eq_true h
    go_enter Tryz.func135, Tryz.ntmps135
    go_wp2_with (go_at_call 158; refine (isnan_i _ _).mono ?_; rintro e w' ⟨rfl, rfl⟩)
    go_ret
    exact ⟨rfl, rfl⟩
  · rw [cmpI_eq]
    have t1 : decide (x < x) = false := by simp
    go_enter Tryz.func135, Tryz.ntmps135
    go_wp2_with (go_at_call 158; refine (isnan_i _ _).mono ?_; rintro e w' ⟨rfl, rfl⟩)
    go_ret
    exact ⟨rfl, rfl⟩
  · rw [cmpI_gt h]
    have t1 : decide (x < y) = false := decide_eq_false (by omega)
    have t2 : decide (y < x) = true := decide_eq_true h
    go_enter Tryz.func135, Tryz.ntmps135
    go_wp2_with (go_at_call 158; refine (isnan_i _ _).mono ?_; rintro e w' ⟨rfl, rfl⟩)
    go_ret
    exact ⟨rfl, rfl⟩
theorem compare_u (x y : Int) (w : World) : Calls Tryz.prog 156 #[.int .u64 x, .int .u64 y] w fun e w' => e = .returned (.int .i64 (cmpI x y)) ∧ w = w' := by
  rcases Int.lt_trichotomy x y with h | rfl | h
  · rw [cmpI_lt h]
    have t1 : decide (x < y) = true := decide_eq_true h
    go_enter Tryz.func156, Tryz.ntmps156
    go_wp2_with (go_at_call 179; refine (isnan_u _ _).mono ?_; rintro e w' ⟨rfl, rfl⟩)
    go_ret
    exact ⟨rfl, rfl⟩
  · rw [cmpI_eq]
    have t1 : decide (x < x) = false := by simp
    go_enter Tryz.func156, Tryz.ntmps156
    go_wp2_with (go_at_call 179; refine (isnan_u _ _).mono ?_; rintro e w' ⟨rfl, rfl⟩)
    go_ret
    exact ⟨rfl, rfl⟩
  · rw [cmpI_gt h]
    have t1 : decide (x < y) = false := decide_eq_false (by omega)
    have t2 : decide (y < x) = true := decide_eq_true h
    go_enter Tryz.func156, Tryz.ntmps156
    go_wp2_with (go_at_call 179; refine (isnan_u _ _).mono ?_; rintro e w' ⟨rfl, rfl⟩)
    go_ret
    exact ⟨rfl, rfl⟩

/-- cmp.Or of two ints. -/
def orI (x y : Int) : Int := if x ≠ 0 then x else y
theorem or_two (g : Nat) (x y : Int) (w : World) (c0 : w.cell? ⟨g, 0, none⟩ = some (.int .i64 x)) (c1 : w.cell? ⟨g, 1, none⟩ = some (.int .i64 y)) :
    Calls Tryz.prog 134 #[.slice (some ⟨g, 0, none⟩) 2 2] w fun e w' => e = .returned (.int .i64 (orI x y)) ∧ w = w' := by
  go_enter Tryz.func134, Tryz.ntmps134
  go_wp2
  go_loopg [5, 8] 2 (fun q v5 v8 wr => ((q = 2 ∧ v8 = .int .i64 0) ∨ (q = 1 ∧ v8 = .int .i64 1 ∧ x = 0) ∨ (q = 0 ∧ v8 = .int .i64 2 ∧ x = 0 ∧ y = 0)) ∧ w = wr)
  case atStart => exact ⟨.inl ⟨rfl, rfl⟩, rfl⟩
  case round =>
    obtain ⟨hc, rfl⟩ := hrel
    rcases hc with ⟨hq, rfl⟩ | ⟨hq, rfl, hx⟩ | ⟨hq, rfl, hx, hy⟩
    · by_cases hx : x = 0
      · have t1 : (x == 0) = true := by simp [hx]
        have t2 : (x != 0) = false := by simp [hx]
        go_wp2
        go_roundg 1
        case measure => omega
        case rel => exact ⟨.inr (.inl ⟨rfl, by go_num, hx⟩), rfl⟩
      · have t1 : (x == 0) = false := by rw [beq_eq_false_iff_ne]; exact hx
        have t2 : (x != 0) = true := by simp [hx]
        have r : Hid (orI x y = x) := Lib.hid (by simp [orI, hx])
        go_wp2
        go_ret
        exact ⟨by rw [r.out]; rfl, rfl⟩
    · by_cases hy : y = 0
      · have t1 : (y == 0) = true := by simp [hy]
        have t2 : (y != 0) = false := by simp [hy]
        go_wp2
        go_roundg 0
        case measure => omega
        case rel => exact ⟨.inr (.inr ⟨rfl, by go_num, hx, hy⟩), rfl⟩
      · have t1 : (y == 0) = false := by rw [beq_eq_false_iff_ne]; exact hy
        have t2 : (y != 0) = true := by simp [hy]
        have r : Hid (orI x y = y) := Lib.hid (by simp [orI, hx])
        go_wp2
        go_ret
        exact ⟨by rw [r.out]; rfl, rfl⟩
    · have r : Hid (orI x y = 0) := Lib.hid (by simp [orI, hx, hy])
      go_wp2
      go_ret
      exact ⟨by rw [r.out]; rfl, rfl⟩

theorem cell_new {w : World} {n i : Nat} {cs : Array Value} {t : TypeId} {v : Value} (hn : n = w.heap.size) (h : cs[i]? = some v) : (w.alloc (.cells cs t)).cell? ⟨n, i, none⟩ = some v := by
  subst hn
  have hn := heap_alloc_new w (.cells cs t)
  simp only [World.cell?, hn]
  exact h
theorem cell_newd {w : World} {n i : Nat} {cs : Array Value} {t : TypeId} {v : Value} (hn : n = w.heap.size) (h : cs[i]? = some v) : (w.alloc (.cells cs t)).drew.cell? ⟨n, i, none⟩ = some v := cell_new hn h
/-- An update, as a value. -/
def updV (n i s : Int) : Value := .agg #[.int .i64 n, .int .u64 i, .int .i64 s]
def mayU (n s : Int) : Bool := decide (0 ≤ n ∧ n < 64 ∧ 0 ≤ s ∧ s ≤ 3)
theorem toldmay_any (n i s : Int) (w : World) : Calls Tryz.prog 130 #[updV n i s] w fun e w' => e = .returned (.bool (mayU n s)) ∧ Keep (fun _ => False) w w' := by
  unfold updV
  by_cases h1 : 0 ≤ n
  · have t1 : decide (0 ≤ n) = true := decide_eq_true h1
    by_cases h2 : n < 64
    · have t2 : decide (n < 64) = true := decide_eq_true h2
      by_cases h3 : 0 ≤ s
      · have t3 : decide (0 ≤ s) = true := decide_eq_true h3
        by_cases h4 : s ≤ 3
        · have t4 : decide (s ≤ 3) = true := decide_eq_true h4
          rw [show mayU n s = true by simp [mayU, h1, h2, h3, h4]]
          go_enter Tryz.func130, Tryz.ntmps130
          go_wp2
          go_ret
          exact ⟨rfl, (Keep.refl _ w).alloc _⟩
        · have t4 : decide (s ≤ 3) = false := decide_eq_false h4
          rw [show mayU n s = false by simp [mayU, h4]]
          go_enter Tryz.func130, Tryz.ntmps130
          go_wp2
          go_ret
          exact ⟨rfl, (Keep.refl _ w).alloc _⟩
      · have t3 : decide (0 ≤ s) = false := decide_eq_false h3
        rw [show mayU n s = false by simp [mayU, h3]]
        go_enter Tryz.func130, Tryz.ntmps130
        go_wp2
        go_ret
        exact ⟨rfl, (Keep.refl _ w).alloc _⟩
    · have t2 : decide (n < 64) = false := decide_eq_false h2
      rw [show mayU n s = false by simp [mayU, h2]]
      go_enter Tryz.func130, Tryz.ntmps130
      go_wp2
      go_ret
      exact ⟨rfl, (Keep.refl _ w).alloc _⟩
  · have t1 : decide (0 ≤ n) = false := decide_eq_false h1
    rw [show mayU n s = false by simp [mayU, h1]]
    go_enter Tryz.func130, Tryz.ntmps130
    go_wp2
    go_ret
    exact ⟨rfl, (Keep.refl _ w).alloc _⟩
theorem may_any (n i s : Int) (w : World) : Calls Tryz.prog 93 #[updV n i s] w fun e w' => e = .returned (.bool (mayU n s)) ∧ Keep (fun _ => False) w w' := by
  unfold updV
  go_enter Tryz.func93, Tryz.ntmps93
  go_wp2_with fail
  refine (toldmay_any n i s _).mono ?_
  rintro e w1 ⟨rfl, hk⟩
  have HK := Lib.hid (((Keep.refl (fun _ => False) w).alloc _).step hk)
  clear hk
  go_wp2
  go_ret
  exact ⟨rfl, HK.out⟩

set_option maxRecDepth 100000 in
set_option maxHeartbeats 1000000 in
theorem against_any (n i s m j t : Int) (w : World) : Calls Tryz.prog 131 #[updV n i s, updV m j t] w fun e w' => e = .returned (.int .i64 (orI (cmpI i j) (cmpI s t))) ∧ Keep (fun _ => False) w w' := by
  unfold updV
  go_enter Tryz.func131, Tryz.ntmps131
  go_upto_region 1 with fail
  refine still_tail 10 (by kernel_rfl) (by kernel_rfl) ?_
  simp only [List.take_succ_cons, List.take_zero, List.drop_succ_cons, List.drop_zero]
  repeat still_step
  still_call (to_still (compare_u i j _))
  repeat still_step
  still_call (to_still (compare_i s t _))
  repeat still_step
  try refine wpStill_nil ?_
  have hor := fun g w c0 c1 => or_two g (cmpI i j) (cmpI s t) w c0 c1
  go_wp2_with fail
  refine (hor _ _ (cell_newd (by simp) rfl) (cell_newd (by simp) rfl)).mono ?_
  rintro e w' ⟨rfl, rfl⟩
  go_wp2
  go_ret
  exact ⟨rfl, ((((Keep.refl (fun _ => False) w).alloc _).alloc _).drew).alloc _⟩
def newI (i s j t : Int) : Bool := decide (0 < orI (cmpI i j) (cmpI s t))
theorem newer_any (n i s m j t : Int) (w : World) : Calls Tryz.prog 94 #[updV n i s, updV m j t] w fun e w' => e = .returned (.bool (newI i s j t)) ∧ Keep (fun _ => False) w w' := by
  unfold newI updV
  go_enter Tryz.func94, Tryz.ntmps94
  go_wp2_with fail
  refine (against_any n i s m j t _).mono ?_
  rintro e w1 ⟨rfl, hk⟩
  have HK := Lib.hid ((((Keep.refl (fun _ => False) w).alloc _).alloc _).step hk)
  clear hk
  go_wp2
  go_ret
  exact ⟨rfl, HK.out⟩
theorem newI_eq (i s j t : Int) : newI i s j t = decide (j < i ∨ (i = j ∧ t < s)) := by
  simp only [newI, orI, cmpI]
  congr 1
  refine propext ?_
  repeat' split
  all_goals omega

end Go.Proofs.YtofonfohaocclaaGreatDoor.Q

namespace Go.Proofs.YtofonfohaocclaaGreatDoor.Q
open Go.RowKit Sh Go.Shelf
set_option linter.unusedVariables false
def Tryz.bitsLen_ren : Go.Shelf.Ren := ⟨fun | 125 => 155 | 128 => 177 | 129 => 178 | n => n, fun | 46 => 214 | 3 => 3 | 51 => 231 | 53 => 29 | 4 => 4 | 5 => 5 | 9 => 9 | n => n, fun | n => n⟩
theorem Tryz.bitsLen : Go.Proofs.Lays.n125 Tryz.prog Tryz.bitsLen_ren := {
  mixed := by kernel_rfl
  f125 := Tryz.func155.trans (congrArg some (by kernel_rfl))
  f128 := Tryz.func177.trans (congrArg some (by kernel_rfl))
  f129 := Tryz.func178.trans (congrArg some (by kernel_rfl))
  t3 := Tryz.underlying3
  a3 := Tryz.isAgg3
  z3 := Tryz.sizeOf3
  v3 := Tryz.zeroValue3
  t4 := Tryz.underlying4
  a4 := Tryz.isAgg4
  z4 := Tryz.sizeOf4
  v4 := Tryz.zeroValue4
  t5 := Tryz.underlying5
  a5 := Tryz.isAgg5
  z5 := Tryz.sizeOf5
  v5 := Tryz.zeroValue5
  t9 := Tryz.underlying9
  a9 := Tryz.isAgg9
  z9 := Tryz.sizeOf9
  v9 := Tryz.zeroValue9
  t46 := Tryz.underlying214
  a46 := Tryz.isAgg214
  z46 := Tryz.sizeOf214
  v46 := Tryz.zeroValue214
  t51 := Tryz.underlying231
  a51 := Tryz.isAgg231
  z51 := Tryz.sizeOf231
  v51 := Tryz.zeroValue231
  t53 := Tryz.underlying29
  a53 := Tryz.isAgg29
  z53 := Tryz.sizeOf29
  v53 := Tryz.zeroValue29 }

theorem len_any (n : Int) (w : World) (h0 : 0 ≤ n) (h1 : n < 18446744073709551616) : Calls Tryz.prog 155 #[.int .u64 n] w fun e w' => e = .returned (.int .i64 (Lib.bitLen n.toNat : Nat)) ∧ w = w' :=
  (Any.bits_Len Tryz.bitsLen n w h0 (by omega)).mono fun _ _ ⟨he, hw⟩ => ⟨he, hw.symm⟩

def bitsI (n : Int) : Nat := Lib.bitLen (max n 0).toNat
def capI (n : Int) : Int := max 1 (3 * (bitsI n : Int))
theorem bits_any (n : Int) (w : World) (h0 : -9223372036854775808 ≤ n) (h1 : n < 9223372036854775808) : Calls Tryz.prog 152 #[.int .i64 n] w fun e w' => e = .returned (.int .i64 (bitsI n)) ∧ w = w' := by
  unfold bitsI
  have e1 : IntKind.u64.wrap (max n 0) = max n 0 := by rw [IntKind.wrap_u64]; omega
  have e0 : (max n 0) < 18446744073709551616 := by omega
  have e2 : 0 ≤ max n 0 := by omega
  go_enter Tryz.func152, Tryz.ntmps152
  go_wp2_with fail
  refine (len_any _ _ e2 e0).mono ?_
  rintro e w' ⟨rfl, rfl⟩
  go_wp2
  go_ret
  exact ⟨rfl, rfl⟩
theorem bits_le (n : Int) (h1 : n < 9223372036854775808) : bitsI n ≤ 64 := Lib.bitLen_le _ 64 (by omega) (by omega)
theorem capI_pos (n : Int) : 1 ≤ capI n := by unfold capI; omega
theorem capI_le (n : Int) (h1 : n < 9223372036854775808) : capI n ≤ 192 := by have := bits_le n h1; unfold capI; omega
theorem cap_any (n : Int) (w : World) (h0 : -9223372036854775808 ≤ n) (h1 : n < 9223372036854775808) : Calls Tryz.prog 124 #[.int .i64 n] w fun e w' => e = .returned (.int .i64 (capI n)) ∧ w = w' := by
  unfold capI
  have hb := bits_le n h1
  have B := Lib.hid (bits_any n w h0 h1)
  generalize bitsI n = b at hb B ⊢
  have e1 : IntKind.i64.wrap (3 * (b : Int)) = 3 * b := by rw [IntKind.wrap_i64]; omega
  go_enter Tryz.func124, Tryz.ntmps124
  go_wp2_with fail
  refine B.out.mono ?_
  rintro e w' ⟨rfl, rfl⟩
  go_wp2
  go_ret
  exact ⟨rfl, rfl⟩

end Go.Proofs.YtofonfohaocclaaGreatDoor.Q

namespace Go.Proofs.YtofonfohaocclaaGreatDoor.Q
open Go.RowKit Sh
open Go.ChangeMaps (setBlock)
set_option linter.unusedVariables false

structure It where
  n : Int
  i : Int
  s : Int
  t : Int
deriving instance Inhabited for It
def itV (x : It) : Value := .agg #[.int .i64 x.n, .int .u64 x.i, .int .i64 x.s, .int .i64 x.t]
def itC (x : It) : List Value := [.int .i64 x.n, .int .u64 x.i, .int .i64 x.s, .int .i64 x.t]
def it (L : List It) (i : Nat) : It := L.getD i default
theorem it_of {L : List It} {i : Nat} (h : i < L.length) : it L i = L[i] := by simp [it, h]
theorem it_mem {L : List It} {i : Nat} (h : i < L.length) : it L i ∈ L := by rw [it_of h]; exact List.getElem_mem h

/-- what is told ahead. -/
def cfI (x y : It) : Int := orI (cmpI x.t y.t) (cmpI x.n y.n)
def Lt (x y : It) : Prop := x.t < y.t ∨ (x.t = y.t ∧ x.n < y.n)
theorem cfI_lt (x y : It) : cfI x y < 0 ↔ Lt x y := by
  simp only [cfI, orI, cmpI, Lt]
  repeat' split
  all_goals omega
theorem Lt.irrefl (x : It) : ¬ Lt x x := by unfold Lt; omega
theorem Lt.asymm {x y : It} (h : Lt x y) : ¬ Lt y x := by unfold Lt at *; omega
theorem Lt.trans {x y z : It} (h : Lt x y) (k : Lt y z) : Lt x z := by unfold Lt at *; omega
theorem Lt.ntrans {x y z : It} (h : ¬ Lt x y) (k : ¬ Lt y z) : ¬ Lt x z := by unfold Lt at *; omega
theorem Lt.total {x y : It} (h : x.n ≠ y.n) (k : ¬ Lt y x) : Lt x y := by unfold Lt at *; omega

def Srt (L : List It) : Prop := L.Pairwise Lt
theorem Srt.unique : ∀ {L K : List It}, Srt L → Srt K → L.Perm K → L = K
  | [], K, _, _, hp => hp.nil_eq
  | a :: L, [], _, _, hp => by simp at hp
  | a :: L, b :: K, hl, hk, hp => by
    have hl' := List.pairwise_cons.1 hl
    have hk' := List.pairwise_cons.1 hk
    have ab : a = b := by
      rcases List.mem_cons.1 (hp.mem_iff.1 (List.mem_cons_self)) with h | h
      · exact h
      · rcases List.mem_cons.1 (hp.mem_iff.2 (List.mem_cons_self (a := b))) with h2 | h2
        · exact h2.symm
        · exact absurd (hl'.1 b h2) (Lt.asymm (hk'.1 a h))
    subst ab
    rw [Srt.unique hl'.2 hk'.2 (List.Perm.cons_inv hp)]
theorem Srt.at {L : List It} (h : Srt L) {i j : Nat} (hij : i < j) (hj : j < L.length) : Lt (it L i) (it L j) := by
  rw [it_of (by omega), it_of hj]
  exact List.pairwise_iff_getElem.1 h i j (by omega) hj hij

/-- Place q of w is a queue of the items M (in whatever order); mb: its map, if it has one. -/
structure IsQ (w : World) (q : Loc) (mb : Option Nat) (M : List It) : Prop where
  cell : w.heap[q.b]? = some (.cells q.cs q.t (0, 0))
  here_ : q.cs[q.o]? = some (.map mb)
  mp : ∀ B, mb = some B → B ≠ q.b ∧ ∃ M1 : List It, M1.Perm M ∧ IsMp It.n itV w B M1
  non : mb = none → M = []
def QS (q : Loc) (mb : Option Nat) (k : Nat) : Prop := k = q.b ∨ mb = some k
theorem IsQ.keep {S : Nat → Prop} {w w' : World} {q : Loc} {mb : Option Nat} {M : List It} (h : IsQ w q mb M) (k : Keep S w w') (hn : ∀ j, QS q mb j → ¬ S j) : IsQ w' q mb M :=
  ⟨k.old h.cell (hn q.b (.inl rfl)), h.here_, fun B hB => by
    obtain ⟨h1, M1, h2, h3⟩ := h.mp B hB
    exact ⟨h1, M1, h2, h3.keep k (hn B (.inr hB))⟩, h.non⟩
theorem IsQ.keep0 {w w' : World} {q : Loc} {mb : Option Nat} {M : List It} (h : IsQ w q mb M) (k : Keep (fun _ => False) w w') : IsQ w' q mb M := h.keep k fun _ _ h => h
theorem IsQ.perm {w : World} {q : Loc} {mb : Option Nat} {M M' : List It} (h : IsQ w q mb M) (hp : M.Perm M') : IsQ w q mb M' :=
  ⟨h.cell, h.here_, fun B hB => by
    obtain ⟨h1, M1, h2, h3⟩ := h.mp B hB
    exact ⟨h1, M1, h2.trans hp, h3⟩, fun hn => by rw [h.non hn] at hp; exact hp.symm.eq_nil⟩
theorem IsQ.nod {w : World} {q : Loc} {mb : Option Nat} {M : List It} (h : IsQ w q mb M) : (M.map It.n).Nodup := by
  cases mb with
  | none => rw [h.non rfl]; simp
  | some B =>
    obtain ⟨h1, M1, h2, h3⟩ := h.mp B rfl
    exact (h2.map It.n).nodup_iff.1 h3.nod
theorem IsQ.lt {w : World} {q : Loc} {mb : Option Nat} {M : List It} (h : IsQ w q mb M) : q.b < w.heap.size := (Array.getElem?_eq_some_iff.1 h.cell).1
theorem IsQ.blt {w : World} {q : Loc} {B : Nat} {M : List It} (h : IsQ w q (some B) M) : B < w.heap.size := by
  obtain ⟨h1, M1, h2, h3⟩ := h.mp B rfl
  exact h3.lt
theorem IsQ.c0 {w : World} {q : Loc} {mb : Option Nat} {M : List It} (h : IsQ w q mb M) : w.cell? ⟨q.b, q.o, none⟩ = some (.map mb) := by
  have := h.cell
  simp only [World.cell?, this]
  exact h.here_
theorem IsQ.fr {w : World} {q : Loc} {mb : Option Nat} {M : List It} (h : IsQ w q mb M) : w.frozen? ⟨q.b, q.o, none⟩ = false := by
  have := h.cell
  simp [World.frozen?, this]

/-- The row of items in block g. -/
def RowAt (w : World) (g : Nat) (L : List It) : Prop := ∀ i, i < L.length → w.cell? ⟨g, i * 4, none⟩ = some (.int .i64 (it L i).n) ∧ w.cell? ⟨g, i * 4 + 1, none⟩ = some (.int .u64 (it L i).i) ∧ w.cell? ⟨g, i * 4 + 2, none⟩ = some (.int .i64 (it L i).s) ∧ w.cell? ⟨g, i * 4 + 3, none⟩ = some (.int .i64 (it L i).t)
theorem RowAt.keep {S : Nat → Prop} {w w' : World} {g : Nat} {L : List It} (h : RowAt w g L) (k : Keep S w w') (hn : ¬ S g) : RowAt w' g L := fun i hi => by
  have key : ∀ {o : Nat} {v : Value}, w.cell? ⟨g, o, none⟩ = some v → w'.cell? ⟨g, o, none⟩ = some v := fun hc => (World.cell?_of_block (k.block g (World.block_lt_of_cell? w _ hc) hn)).trans hc
  obtain ⟨a, b, c, d⟩ := h i hi
  exact ⟨key a, key b, key c, key d⟩

end Go.Proofs.YtofonfohaocclaaGreatDoor.Q
