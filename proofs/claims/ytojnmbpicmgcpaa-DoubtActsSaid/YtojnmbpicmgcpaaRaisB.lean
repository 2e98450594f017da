/- Walk of Doubts.Raise, where it is refused or told already. -/
import Derived.Test.YtojnmbpicmgcpaaRaise
namespace Go.Proofs.Ytojnmbpicmgcpaa
open Go.RowKit Sh
open Go.ChangeMaps (setBlock)
set_option linter.unusedVariables false

set_option maxRecDepth 100000 in
set_option maxHeartbeats 4000000 in
theorem raise_same {w : World} {q : Nat} {mb : Option Nat} {M : List Db} {base : Nat} {nodes : Int} (h : IsQ w q mb M) (n i : Int) (c : Int) (hn : 0 ≤ n ∧ n < 64) (x0 : Db) (hx0 : x0 ∈ M) (hx1 : x0.n = n) (hxi : x0.i = i) (hxf : x0.f = 2) :
    Calls Try.prog 9 #[.pointer (some ⟨q, 0, none⟩), updV n i 1, .int .i64 1, .int .u64 c, .int .i64 nodes, .float .f64 base] w fun e w' => e = .returned (.tuple #[.bool false, .int .i64 0]) ∧ Keep (fun _ => False) w w' := by
  unfold updV
  have H := Lib.hid h
  have hu : mayU n 1 = true := by simp [mayU]; omega
  clear h
  go_enter Try.func9, Try.ntmps9
  go_wp2_with fail
  refine (may_any n i 1 _).mono ?_
  rintro e w1 ⟨rfl, hk1⟩
  rw [hu]
  have bu := hk1.old (heap_alloc_new w (.cells #[.int .i64 n, .int .u64 i, .int .i64 1] 34)) id
  have k1 := ((Keep.refl (fun _ => False) w).alloc (.cells #[.int .i64 n, .int .u64 i, .int .i64 1] 34)).step hk1
  have c0 : w1.cell? ⟨w.heap.size, 0, none⟩ = some (.int .i64 n) := by simp [World.cell?, bu]
  have c1 : w1.cell? ⟨w.heap.size, 1, none⟩ = some (.int .u64 i) := by simp [World.cell?, bu]
  have c2 : w1.cell? ⟨w.heap.size, 2, none⟩ = some (.int .i64 1) := by simp [World.cell?, bu]
  have cq := k1.cell H.out.c0
  obtain ⟨x, b, hlk, hb⟩ := H.out.look n
  have BU := Lib.hid bu
  have K1 := Lib.hid k1
  have HB := Lib.hid hb
  clear hk1 bu k1 hb
  obtain ⟨xn, xi, xs, xf, xc, xt, xu⟩ := x
  have hlk2 : (Instr.lookup 25 (.map mb) (.int .i64 n) true).run Try.prog w1.drew = .ok (.tuple #[.agg #[.int .i64 xn, .int .u64 xi, .int .i64 xs, .int .u64 xf, .int .u64 xc, .int .u64 xt, .int .u64 xu], .bool b]) w1.drew := hlk _ K1.out.drew
  have hlk3 : ∀ o, (Instr.lookup 25 (.map mb) (.int .i64 n) true).run Try.prog (w1.alloc o).drew = .ok (.tuple #[.agg #[.int .i64 xn, .int .u64 xi, .int .i64 xs, .int .u64 xf, .int .u64 xc, .int .u64 xt, .int .u64 xu], .bool b]) (w1.alloc o).drew := fun o => hlk _ (K1.out.alloc _).drew
  clear hlk
  go_upto_region 3 with fail
  go_cut [14, 15] (fun v14 v15 wx => v14 = .pointer (some ⟨w1.heap.size, 0, none⟩) ∧ v15 = .bool b ∧ Keep (fun _ => False) w1 wx ∧ wx.heap[w1.heap.size]? = some (.cells #[.int .i64 xn, .int .u64 xi, .int .i64 xs, .int .u64 xf, .int .u64 xc, .int .u64 xt, .int .u64 xu] 55 (0, 0)))
  case first =>
    go_region_held3 (fun W => W.cell? ⟨q, 0, none⟩ = some (.map mb) ∧ W.cell? ⟨w.heap.size, 0, none⟩ = some (.int .i64 n)) (go_keep) (fail)
    all_goals
      go_wp2_with fail
      go_meet
      exact ⟨rfl, rfl, ((Keep.refl _ w1).alloc _).drew, heap_alloc_new w1 _⟩
  case rest =>
    obtain ⟨rfl, rfl, kb, bb⟩ := hcut
    obtain ⟨wb, hwb⟩ : ∃ wb, wb = wc := ⟨_, rfl⟩
    rw [← hwb] at kb bb ⊢
    clear hwb
    have b1 : wb.cell? ⟨w1.heap.size, 1, none⟩ = some (.int .u64 xi) := by simp [World.cell?, bb]
    have c0 := kb.cell c0
    have c1 := kb.cell c1
    have c2 := kb.cell c2
    have KB := Lib.hid (K1.out.step kb)
    have BUB := Lib.hid (kb.old BU.out (fun h => h))
    have XB := Lib.hid bb
    clear kb bb hlk2 hlk3 cq BU K1
    have x3 : wb.cell? ⟨w1.heap.size, 3, none⟩ = some (.int .u64 xf) := by have := XB.out; simp [World.cell?, this]
    rcases HB.out with ⟨rfl, hx, hxn⟩ | ⟨rfl, hno⟩
    · have e0 := nodup_one H.out.nod hx hx0 (hxn.trans hx1.symm)
      subst e0
      have hxi : xi = i := hxi
      have hxf : xf = 2 := hxf
      subst hxi hxf
      have e1 : decide (xi < xi) = false := by simp
      have e2 : (xi == xi) = true := by simp
      clear hx hxn hx0 hx1 HB XB BUB
      go_wp2_with fail
      refine (has_one _).mono ?_
      rintro e w2 ⟨rfl, rfl⟩
      go_wp2
      go_ret2
      exact ⟨rfl, KB.out⟩
    · exact absurd hx1 (hno _ hx0)

set_option maxRecDepth 100000 in
set_option maxHeartbeats 4000000 in
theorem raise_old {w : World} {q : Nat} {mb : Option Nat} {M : List Db} {base : Nat} {nodes : Int} (h : IsQ w q mb M) (n i : Int) (k : Nat) (c : Int) (hn : 0 ≤ n ∧ n < 64) (hk : k ≤ 63) (x0 : Db) (hx0 : x0 ∈ M) (hx1 : x0.n = n) (hxi : i < x0.i) :
    Calls Try.prog 9 #[.pointer (some ⟨q, 0, none⟩), updV n i 1, .int .i64 k, .int .u64 c, .int .i64 nodes, .float .f64 base] w fun e w' => e = .returned (.tuple #[.bool false, .int .i64 70]) ∧ Keep (fun _ => False) w w' := by
  unfold updV
  have H := Lib.hid h
  have hu : mayU n 1 = true := by simp [mayU]; omega
  have d1 : decide ((k : Int) < 0) = false := decide_eq_false (by omega)
  have d2 : decide ((64 : Int) ≤ (k : Int)) = false := decide_eq_false (by omega)
  have d3 : ¬ (64 : Int) ≤ (k : Int) := by omega
  clear h
  go_enter Try.func9, Try.ntmps9
  go_wp2_with fail
  refine (may_any n i 1 _).mono ?_
  rintro e w1 ⟨rfl, hk1⟩
  rw [hu]
  have bu := hk1.old (heap_alloc_new w (.cells #[.int .i64 n, .int .u64 i, .int .i64 1] 34)) id
  have k1 := ((Keep.refl (fun _ => False) w).alloc (.cells #[.int .i64 n, .int .u64 i, .int .i64 1] 34)).step hk1
  have c0 : w1.cell? ⟨w.heap.size, 0, none⟩ = some (.int .i64 n) := by simp [World.cell?, bu]
  have c1 : w1.cell? ⟨w.heap.size, 1, none⟩ = some (.int .u64 i) := by simp [World.cell?, bu]
  have c2 : w1.cell? ⟨w.heap.size, 2, none⟩ = some (.int .i64 1) := by simp [World.cell?, bu]
  have cq := k1.cell H.out.c0
  obtain ⟨x, b, hlk, hb⟩ := H.out.look n
  have BU := Lib.hid bu
  have K1 := Lib.hid k1
  have HB := Lib.hid hb
  clear hk1 bu k1 hb
  obtain ⟨xn, xi, xs, xf, xc, xt, xu⟩ := x
  have hlk2 : (Instr.lookup 25 (.map mb) (.int .i64 n) true).run Try.prog w1.drew = .ok (.tuple #[.agg #[.int .i64 xn, .int .u64 xi, .int .i64 xs, .int .u64 xf, .int .u64 xc, .int .u64 xt, .int .u64 xu], .bool b]) w1.drew := hlk _ K1.out.drew
  have hlk3 : ∀ o, (Instr.lookup 25 (.map mb) (.int .i64 n) true).run Try.prog (w1.alloc o).drew = .ok (.tuple #[.agg #[.int .i64 xn, .int .u64 xi, .int .i64 xs, .int .u64 xf, .int .u64 xc, .int .u64 xt, .int .u64 xu], .bool b]) (w1.alloc o).drew := fun o => hlk _ (K1.out.alloc _).drew
  clear hlk
  go_upto_region 3 with fail
  go_cut [14, 15] (fun v14 v15 wx => v14 = .pointer (some ⟨w1.heap.size, 0, none⟩) ∧ v15 = .bool b ∧ Keep (fun _ => False) w1 wx ∧ wx.heap[w1.heap.size]? = some (.cells #[.int .i64 xn, .int .u64 xi, .int .i64 xs, .int .u64 xf, .int .u64 xc, .int .u64 xt, .int .u64 xu] 55 (0, 0)))
  case first =>
    go_region_held3 (fun W => W.cell? ⟨q, 0, none⟩ = some (.map mb) ∧ W.cell? ⟨w.heap.size, 0, none⟩ = some (.int .i64 n)) (go_keep) (fail)
    all_goals
      go_wp2_with fail
      go_meet
      exact ⟨rfl, rfl, ((Keep.refl _ w1).alloc _).drew, heap_alloc_new w1 _⟩
  case rest =>
    obtain ⟨rfl, rfl, kb, bb⟩ := hcut
    obtain ⟨wb, hwb⟩ : ∃ wb, wb = wc := ⟨_, rfl⟩
    rw [← hwb] at kb bb ⊢
    clear hwb
    have b1 : wb.cell? ⟨w1.heap.size, 1, none⟩ = some (.int .u64 xi) := by simp [World.cell?, bb]
    have c0 := kb.cell c0
    have c1 := kb.cell c1
    have c2 := kb.cell c2
    have KB := Lib.hid (K1.out.step kb)
    have BUB := Lib.hid (kb.old BU.out (fun h => h))
    have XB := Lib.hid bb
    clear kb bb hlk2 hlk3 cq BU K1
    rcases HB.out with ⟨rfl, hx, hxn⟩ | ⟨rfl, hno⟩
    · have e0 := nodup_one H.out.nod hx hx0 (hxn.trans hx1.symm)
      subst e0
      have hxi : i < xi := hxi
      have e1 : decide (i < xi) = true := decide_eq_true hxi
      clear hx hxn hx0 hx1 HB XB BUB
      go_wp2
      go_ret2
      exact ⟨rfl, KB.out⟩
    · exact absurd hx1 (hno _ hx0)

end Go.Proofs.Ytojnmbpicmgcpaa
