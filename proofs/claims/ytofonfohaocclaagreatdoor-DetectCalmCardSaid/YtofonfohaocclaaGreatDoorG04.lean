/- Walk of Doubts.Raise, where it is refused or told already. Walks of Doubts.Drop, and of a Raise that may not be. The library's sort of ints, laid; rows of ints and of doubts. -/
import Derived.Test.YtofonfohaocclaaGreatDoorG03
import Derived.Shelf.Sort.Plain
import Derived.Shelf.Slices.In.SortNone
import Derived.Shelf.Lays
namespace Go.Proofs.YtofonfohaocclaaGreatDoor.D
open Go.RowKit Sh
open Go.ChangeMaps (setBlock)
set_option linter.unusedVariables false

set_option maxRecDepth 100000 in
set_option maxHeartbeats 4000000 in
theorem raise_same {w : World} {q : Loc} {mb : Option Nat} {M : List Db} {base : Nat} {nodes : Int} (h : IsQ w q mb M) (n i : Int) (c : Int) (hn : 0 ≤ n ∧ n < 64) (x0 : Db) (hx0 : x0 ∈ M) (hx1 : x0.n = n) (hxi : x0.i = i) (hxf : x0.f = 2) :
    Calls Tryz.prog 119 #[.pointer (some ⟨q.b, q.o, none⟩), updV n i 1, .int .i64 1, .int .u64 c, .int .i64 nodes, .float .f64 base] w fun e w' => e = .returned (.tuple #[.bool false, .int .i64 0]) ∧ Keep (fun _ => False) w w' := by
  unfold updV
  have H := Lib.hid h
  have hu : mayU n 1 = true := by simp [mayU]; omega
  clear h
  go_enter Tryz.func119, Tryz.ntmps119
  go_wp2_with fail
  refine (may_any n i 1 _).mono ?_
  rintro e w1 ⟨rfl, hk1⟩
  rw [hu]
  have bu := hk1.old (heap_alloc_new w (.cells #[.int .i64 n, .int .u64 i, .int .i64 1] 52)) id
  have k1 := ((Keep.refl (fun _ => False) w).alloc (.cells #[.int .i64 n, .int .u64 i, .int .i64 1] 52)).step hk1
  have c0 : w1.cell? ⟨w.heap.size, 0, none⟩ = some (.int .i64 n) := by simp [World.cell?, bu]
  have c1 : w1.cell? ⟨w.heap.size, 1, none⟩ = some (.int .u64 i) := by simp [World.cell?, bu]
  have c2 : w1.cell? ⟨w.heap.size, 2, none⟩ = some (.int .i64 1) := by simp [World.cell?, bu]
  have cq := k1.cell H.out.c0
  obtain ⟨x, b, hlk, hb⟩ := H.out.look n
  have BU := Lib.hid bu
  have K1 := Lib.hid k1
  have HB := Lib.hid hb
  clear hk1 bu k1 hb
  obtain ⟨xn, xi, xs, xf, xc, xt, xu⟩ := x
  have hlk2 : (Instr.lookup 42 (.map mb) (.int .i64 n) true).run Tryz.prog w1.drew = .ok (.tuple #[.agg #[.int .i64 xn, .int .u64 xi, .int .i64 xs, .int .u64 xf, .int .u64 xc, .int .u64 xt, .int .u64 xu], .bool b]) w1.drew := hlk _ K1.out.drew
  have hlk3 : ∀ o, (Instr.lookup 42 (.map mb) (.int .i64 n) true).run Tryz.prog (w1.alloc o).drew = .ok (.tuple #[.agg #[.int .i64 xn, .int .u64 xi, .int .i64 xs, .int .u64 xf, .int .u64 xc, .int .u64 xt, .int .u64 xu], .bool b]) (w1.alloc o).drew := fun o => hlk _ (K1.out.alloc _).drew
  clear hlk
  go_upto_region 3 with fail
  go_cut [14, 15] (fun v14 v15 wx => v14 = .pointer (some ⟨w1.heap.size, 0, none⟩) ∧ v15 = .bool b ∧ Keep (fun _ => False) w1 wx ∧ wx.heap[w1.heap.size]? = some (.cells #[.int .i64 xn, .int .u64 xi, .int .i64 xs, .int .u64 xf, .int .u64 xc, .int .u64 xt, .int .u64 xu] 153 (0, 0)))
  case first =>
    go_region_held3 (fun W => W.cell? ⟨q.b, q.o, none⟩ = some (.map mb) ∧ W.cell? ⟨w.heap.size, 0, none⟩ = some (.int .i64 n)) (go_keep) (fail)
    all_goals
      go_wp2_with fail
      go_meet
      exact ⟨rfl, rfl, ((Keep.refl _ w1).alloc _).drew, heap_alloc_new w1 _⟩
  case rest =>
    obtain ⟨rfl, rfl, kb, bb⟩ := hcut
    obtain ⟨wb, hwb⟩ : ∃ wb, wb = wc := ⟨_, rfl⟩
    rw [← hwb] at kb bb ⊢
    clear hwb
    have b1 : wb.cell? ⟨w1.heap.size, 1, none⟩ = some (.int .u64 xi) := by simp [World.cell?, bb]
    have c0 := kb.cell c0
    have c1 := kb.cell c1
    have c2 := kb.cell c2
    have KB := Lib.hid (K1.out.step kb)
    have BUB := Lib.hid (kb.old BU.out (fun h => h))
    have XB := Lib.hid bb
    clear kb bb hlk2 hlk3 cq BU K1
    have x3 : wb.cell? ⟨w1.heap.size, 3, none⟩ = some (.int .u64 xf) := by have := XB.out; simp [World.cell?, this]
    rcases HB.out with ⟨rfl, hx, hxn⟩ | ⟨rfl, hno⟩
    · have e0 := nodup_one H.out.nod hx hx0 (hxn.trans hx1.symm)
      subst e0
      have hxi : xi = i := hxi
      have hxf : xf = 2 := hxf
      subst hxi hxf
      have e1 : decide (xi < xi) = false := by simp
      have e2 : (xi == xi) = true := by simp
      clear hx hxn hx0 hx1 HB XB BUB
      go_wp2_with fail
      refine (has_one _).mono ?_
      rintro e w2 ⟨rfl, rfl⟩
      go_wp2
      go_ret2
      exact ⟨rfl, KB.out⟩
    · exact absurd hx1 (hno _ hx0)

set_option maxRecDepth 100000 in
set_option maxHeartbeats 4000000 in
theorem raise_old {w : World} {q : Loc} {mb : Option Nat} {M : List Db} {base : Nat} {nodes : Int} (h : IsQ w q mb M) (n i : Int) (k : Nat) (c : Int) (hn : 0 ≤ n ∧ n < 64) (hk : k ≤ 63) (x0 : Db) (hx0 : x0 ∈ M) (hx1 : x0.n = n) (hxi : i < x0.i) :
    Calls Tryz.prog 119 #[.pointer (some ⟨q.b, q.o, none⟩), updV n i 1, .int .i64 k, .int .u64 c, .int .i64 nodes, .float .f64 base] w fun e w' => e = .returned (.tuple #[.bool false, .int .i64 70]) ∧ Keep (fun _ => False) w w' := by
  unfold updV
  have H := Lib.hid h
  have hu : mayU n 1 = true := by simp [mayU]; omega
  have d1 : decide ((k : Int) < 0) = false := decide_eq_false (by omega)
  have d2 : decide ((64 : Int) ≤ (k : Int)) = false := decide_eq_false (by omega)
  have d3 : ¬ (64 : Int) ≤ (k : Int) := by omega
  clear h
  go_enter Tryz.func119, Tryz.ntmps119
  go_wp2_with fail
  refine (may_any n i 1 _).mono ?_
  rintro e w1 ⟨rfl, hk1⟩
  rw [hu]
  have bu := hk1.old (heap_alloc_new w (.cells #[.int .i64 n, .int .u64 i, .int .i64 1] 52)) id
  have k1 := ((Keep.refl (fun _ => False) w).alloc (.cells #[.int .i64 n, .int .u64 i, .int .i64 1] 52)).step hk1
  have c0 : w1.cell? ⟨w.heap.size, 0, none⟩ = some (.int .i64 n) := by simp [World.cell?, bu]
  have c1 : w1.cell? ⟨w.heap.size, 1, none⟩ = some (.int .u64 i) := by simp [World.cell?, bu]
  have c2 : w1.cell? ⟨w.heap.size, 2, none⟩ = some (.int .i64 1) := by simp [World.cell?, bu]
  have cq := k1.cell H.out.c0
  obtain ⟨x, b, hlk, hb⟩ := H.out.look n
  have BU := Lib.hid bu
  have K1 := Lib.hid k1
  have HB := Lib.hid hb
  clear hk1 bu k1 hb
  obtain ⟨xn, xi, xs, xf, xc, xt, xu⟩ := x
  have hlk2 : (Instr.lookup 42 (.map mb) (.int .i64 n) true).run Tryz.prog w1.drew = .ok (.tuple #[.agg #[.int .i64 xn, .int .u64 xi, .int .i64 xs, .int .u64 xf, .int .u64 xc, .int .u64 xt, .int .u64 xu], .bool b]) w1.drew := hlk _ K1.out.drew
  have hlk3 : ∀ o, (Instr.lookup 42 (.map mb) (.int .i64 n) true).run Tryz.prog (w1.alloc o).drew = .ok (.tuple #[.agg #[.int .i64 xn, .int .u64 xi, .int .i64 xs, .int .u64 xf, .int .u64 xc, .int .u64 xt, .int .u64 xu], .bool b]) (w1.alloc o).drew := fun o => hlk _ (K1.out.alloc _).drew
  clear hlk
  go_upto_region 3 with fail
  go_cut [14, 15] (fun v14 v15 wx => v14 = .pointer (some ⟨w1.heap.size, 0, none⟩) ∧ v15 = .bool b ∧ Keep (fun _ => False) w1 wx ∧ wx.heap[w1.heap.size]? = some (.cells #[.int .i64 xn, .int .u64 xi, .int .i64 xs, .int .u64 xf, .int .u64 xc, .int .u64 xt, .int .u64 xu] 153 (0, 0)))
  case first =>
    go_region_held3 (fun W => W.cell? ⟨q.b, q.o, none⟩ = some (.map mb) ∧ W.cell? ⟨w.heap.size, 0, none⟩ = some (.int .i64 n)) (go_keep) (fail)
    all_goals
      go_wp2_with fail
      go_meet
      exact ⟨rfl, rfl, ((Keep.refl _ w1).alloc _).drew, heap_alloc_new w1 _⟩
  case rest =>
    obtain ⟨rfl, rfl, kb, bb⟩ := hcut
    obtain ⟨wb, hwb⟩ : ∃ wb, wb = wc := ⟨_, rfl⟩
    rw [← hwb] at kb bb ⊢
    clear hwb
    have b1 : wb.cell? ⟨w1.heap.size, 1, none⟩ = some (.int .u64 xi) := by simp [World.cell?, bb]
    have c0 := kb.cell c0
    have c1 := kb.cell c1
    have c2 := kb.cell c2
    have KB := Lib.hid (K1.out.step kb)
    have BUB := Lib.hid (kb.old BU.out (fun h => h))
    have XB := Lib.hid bb
    clear kb bb hlk2 hlk3 cq BU K1
    rcases HB.out with ⟨rfl, hx, hxn⟩ | ⟨rfl, hno⟩
    · have e0 := nodup_one H.out.nod hx hx0 (hxn.trans hx1.symm)
      subst e0
      have hxi : i < xi := hxi
      have e1 : decide (i < xi) = true := decide_eq_true hxi
      clear hx hxn hx0 hx1 HB XB BUB
      go_wp2
      go_ret2
      exact ⟨rfl, KB.out⟩
    · exact absurd hx1 (hno _ hx0)

end Go.Proofs.YtofonfohaocclaaGreatDoor.D

namespace Go.Proofs.YtofonfohaocclaaGreatDoor.D
open Go.RowKit Sh
open Go.ChangeMaps (setBlock)
set_option linter.unusedVariables false

set_option maxHeartbeats 1000000 in
theorem raise_bad {w : World} (q : Loc) (n i s fr c : Int) (nodes : Int) (base : Nat) (hbad : ¬ (0 ≤ n ∧ n < 64 ∧ s = 1 ∧ 0 ≤ fr ∧ fr < 64)) :
    Calls Tryz.prog 119 #[.pointer (some ⟨q.b, q.o, none⟩), updV n i s, .int .i64 fr, .int .u64 c, .int .i64 nodes, .float .f64 base] w fun e w' => e = .returned (.tuple #[.bool false, .int .i64 1]) ∧ Keep (fun _ => False) w w' := by
  unfold updV
  by_cases h1 : mayU n s = true
  · by_cases h2 : s = 1
    · have h12 : 0 ≤ n ∧ n < 64 := by simp [mayU] at h1; omega
      by_cases h3 : fr < 0
      · have d3 : decide (fr < 0) = true := decide_eq_true h3
        subst h2
        go_enter Tryz.func119, Tryz.ntmps119
        go_wp2_with fail
        refine (may_any n i 1 _).mono ?_
        rintro e w1 ⟨rfl, hk1⟩
        rw [h1]
        have bu := hk1.old (heap_alloc_new w (.cells #[.int .i64 n, .int .u64 i, .int .i64 1] 52)) id
        have K1 := Lib.hid (((Keep.refl (fun _ => False) w).alloc (.cells #[.int .i64 n, .int .u64 i, .int .i64 1] 52)).step hk1)
        have c2 : w1.cell? ⟨w.heap.size, 2, none⟩ = some (.int .i64 1) := by simp [World.cell?, bu]
        clear hk1 bu
        go_wp2
        go_ret2
        exact ⟨rfl, K1.out⟩
      · have h4 : 64 ≤ fr := by omega
        have d3 : decide (fr < 0) = false := decide_eq_false h3
        have d4 : decide (64 ≤ fr) = true := decide_eq_true h4
        subst h2
        go_enter Tryz.func119, Tryz.ntmps119
        go_wp2_with fail
        refine (may_any n i 1 _).mono ?_
        rintro e w1 ⟨rfl, hk1⟩
        rw [h1]
        have bu := hk1.old (heap_alloc_new w (.cells #[.int .i64 n, .int .u64 i, .int .i64 1] 52)) id
        have K1 := Lib.hid (((Keep.refl (fun _ => False) w).alloc (.cells #[.int .i64 n, .int .u64 i, .int .i64 1] 52)).step hk1)
        have c2 : w1.cell? ⟨w.heap.size, 2, none⟩ = some (.int .i64 1) := by simp [World.cell?, bu]
        clear hk1 bu
        go_wp2
        go_ret2
        exact ⟨rfl, K1.out⟩
    · have e1 : (s != 1) = true := by simp [h2]
      have e2 : (s == 1) = false := by rw [beq_eq_false_iff_ne]; exact h2
      go_enter Tryz.func119, Tryz.ntmps119
      go_wp2_with fail
      refine (may_any n i s _).mono ?_
      rintro e w1 ⟨rfl, hk1⟩
      rw [h1]
      have bu := hk1.old (heap_alloc_new w (.cells #[.int .i64 n, .int .u64 i, .int .i64 s] 52)) id
      have K1 := Lib.hid (((Keep.refl (fun _ => False) w).alloc (.cells #[.int .i64 n, .int .u64 i, .int .i64 s] 52)).step hk1)
      have c2 : w1.cell? ⟨w.heap.size, 2, none⟩ = some (.int .i64 s) := by simp [World.cell?, bu]
      clear hk1 bu
      go_wp2
      go_ret2
      exact ⟨rfl, K1.out⟩
  · have h1' : mayU n s = false := by simpa using h1
    go_enter Tryz.func119, Tryz.ntmps119
    go_wp2_with fail
    refine (may_any n i s _).mono ?_
    rintro e w1 ⟨rfl, hk1⟩
    rw [h1']
    have K1 := Lib.hid (((Keep.refl (fun _ => False) w).alloc (.cells #[.int .i64 n, .int .u64 i, .int .i64 s] 52)).step hk1)
    clear hk1
    go_wp2
    go_ret2
    exact ⟨rfl, K1.out⟩

theorem del_nil (n : Int) (w : World) : (Builtin.delete_ #[42, 3] 0 #[.map none, .int .i64 n]).run Tryz.prog w = .ok (.tuple #[]) w := by
  have hk := MapKept.run_checkKey (w := w) Tryz.underlying3 (k := .int .i64 n) (by trivial) true 9999
  simp only [Builtin.delete_, List.getElem?_toArray, List.getElem?_cons_zero, List.getElem?_cons_succ, Sem.run_bind, run_underlying Tryz.underlying42, Result.andThen, hk]
  rfl
structure DropIs (w w' : World) (q : Loc) (mb : Option Nat) (M : List Db) (n : Int) (b : Bool) : Prop where
  que : IsQ w' q mb (M.filter fun z => z.n ≠ n)
  was : b = true ↔ ∃ x ∈ M, x.n = n
  keep : Keep (fun k => mb = some k) w w'
set_option maxHeartbeats 1000000 in
theorem drop_any {w : World} {q : Loc} {mb : Option Nat} {M : List Db} (h : IsQ w q mb M) (n : Int) :
    Calls Tryz.prog 75 #[.pointer (some ⟨q.b, q.o, none⟩), .int .i64 n] w fun e w' => ∃ b, e = .returned (.bool b) ∧ DropIs w w' q mb M n b := by
  have H := Lib.hid h
  have cq := h.c0
  obtain ⟨x, b, hlk, hb⟩ := h.look n
  have HB : Hid (b = true ↔ ∃ x ∈ M, x.n = n) := Lib.hid (by
    rcases hb with ⟨rfl, hx, hn⟩ | ⟨rfl, hno⟩
    · exact ⟨fun _ => ⟨x, hx, hn⟩, fun _ => rfl⟩
    · exact ⟨fun h => (by cases h), fun ⟨y, hy, hn⟩ => absurd hn (hno y hy)⟩)
  obtain ⟨xn, xi, xs, xf, xc, xt, xu⟩ := x
  have hlk2 : (Instr.lookup 42 (.map mb) (.int .i64 n) true).run Tryz.prog w = .ok (.tuple #[.agg #[.int .i64 xn, .int .u64 xi, .int .i64 xs, .int .u64 xf, .int .u64 xc, .int .u64 xt, .int .u64 xu], .bool b]) w := hlk _ (Keep.refl _ w)
  have k1 : ∀ o, Keep (fun _ => False) w (w.alloc o) := fun o => (Keep.refl _ w).alloc o
  have cqa : ∀ o, (w.alloc o).cell? ⟨q.b, q.o, none⟩ = some (.map mb) := fun o => (k1 o).cell cq
  clear hlk hb h
  cases mb with
  | none =>
    have hM := H.out.non rfl
    have hd := fun W => del_nil n W
    go_enter Tryz.func75, Tryz.ntmps75
    go_wp2
    go_ret
    refine ⟨b, rfl, ?_, HB.out, (Keep.refl _ w).alloc _⟩
    have := H.out.keep0 (k1 (.cells #[.int .i64 xn, .int .u64 xi, .int .i64 xs, .int .u64 xf, .int .u64 xc, .int .u64 xt, .int .u64 xu] 153))
    rw [hM] at this ⊢
    simpa using this
  | some B =>
    obtain ⟨o, hd, hi⟩ := (H.out.keep0 (k1 (.cells #[.int .i64 xn, .int .u64 xi, .int .i64 xs, .int .u64 xf, .int .u64 xc, .int .u64 xt, .int .u64 xu] 153))).del n 3 0
    have R := Lib.hid hi
    have RK : Hid (Keep (fun k => some B = some k) w (setBlock (w.alloc (.cells #[.int .i64 xn, .int .u64 xi, .int .i64 xs, .int .u64 xf, .int .u64 xc, .int .u64 xt, .int .u64 xu] 153)) B o)) := Lib.hid (keep_setBlock ((Keep.refl _ w).alloc _) B o (fun _ => rfl))
    clear hi
    go_enter Tryz.func75, Tryz.ntmps75
    go_wp2
    go_ret
    exact ⟨b, rfl, R.out, HB.out, RK.out⟩

end Go.Proofs.YtofonfohaocclaaGreatDoor.D

namespace Go.Proofs.YtofonfohaocclaaGreatDoor.D
open Go.Shelf Go.RowKit Go.Lib Go.Sort Sh
set_option linter.unusedVariables false
def Tryz.sortInts_ren : Go.Shelf.Ren := ⟨fun | 189 => 126 | 125 => 155 | 257 => 154 | 128 => 177 | 129 => 178 | 294 => 168 | 295 => 169 | 296 => 170 | 297 => 171 | 298 => 172 | 299 => 173 | 216 => 174 | 300 => 175 | 301 => 176 | 328 => 192 | 329 => 193 | 330 => 194 | 331 => 195 | 332 => 196 | 215 => 158 | 343 => 203 | n => n, fun | 28 => 36 | 3 => 3 | 46 => 214 | 0 => 0 | 51 => 231 | 53 => 29 | 4 => 4 | 183 => 224 | 182 => 223 | 131 => 108 | 5 => 5 | 9 => 9 | 218 => 239 | 222 => 242 | 228 => 247 | 229 => 248 | n => n, fun | n => n⟩
theorem Tryz.sortInts : Go.Proofs.Lays.n189 Tryz.prog Tryz.sortInts_ren := {
  mixed := by kernel_rfl
  f125 := Tryz.func155.trans (congrArg some (by kernel_rfl))
  f128 := Tryz.func177.trans (congrArg some (by kernel_rfl))
  f129 := Tryz.func178.trans (congrArg some (by kernel_rfl))
  f189 := Tryz.func126.trans (congrArg some (by kernel_rfl))
  f215 := Tryz.func158.trans (congrArg some (by kernel_rfl))
  f216 := Tryz.func174.trans (congrArg some (by kernel_rfl))
  f257 := Tryz.func154.trans (congrArg some (by kernel_rfl))
  f294 := Tryz.func168.trans (congrArg some (by kernel_rfl))
  f295 := Tryz.func169.trans (congrArg some (by kernel_rfl))
  f296 := Tryz.func170.trans (congrArg some (by kernel_rfl))
  f297 := Tryz.func171.trans (congrArg some (by kernel_rfl))
  f298 := Tryz.func172.trans (congrArg some (by kernel_rfl))
  f299 := Tryz.func173.trans (congrArg some (by kernel_rfl))
  f300 := Tryz.func175.trans (congrArg some (by kernel_rfl))
  f301 := Tryz.func176.trans (congrArg some (by kernel_rfl))
  f328 := Tryz.func192.trans (congrArg some (by kernel_rfl))
  f329 := Tryz.func193.trans (congrArg some (by kernel_rfl))
  f330 := Tryz.func194.trans (congrArg some (by kernel_rfl))
  f331 := Tryz.func195.trans (congrArg some (by kernel_rfl))
  f332 := Tryz.func196.trans (congrArg some (by kernel_rfl))
  f343 := Tryz.func203.trans (congrArg some (by kernel_rfl))
  t0 := Tryz.underlying0
  a0 := Tryz.isAgg0
  z0 := Tryz.sizeOf0
  v0 := Tryz.zeroValue0
  t3 := Tryz.underlying3
  a3 := Tryz.isAgg3
  z3 := Tryz.sizeOf3
  v3 := Tryz.zeroValue3
  t4 := Tryz.underlying4
  a4 := Tryz.isAgg4
  z4 := Tryz.sizeOf4
  v4 := Tryz.zeroValue4
  t5 := Tryz.underlying5
  a5 := Tryz.isAgg5
  z5 := Tryz.sizeOf5
  v5 := Tryz.zeroValue5
  t9 := Tryz.underlying9
  a9 := Tryz.isAgg9
  z9 := Tryz.sizeOf9
  v9 := Tryz.zeroValue9
  t28 := Tryz.underlying36
  a28 := Tryz.isAgg36
  z28 := Tryz.sizeOf36
  v28 := Tryz.zeroValue36
  t46 := Tryz.underlying214
  a46 := Tryz.isAgg214
  z46 := Tryz.sizeOf214
  v46 := Tryz.zeroValue214
  t51 := Tryz.underlying231
  a51 := Tryz.isAgg231
  z51 := Tryz.sizeOf231
  v51 := Tryz.zeroValue231
  t53 := Tryz.underlying29
  a53 := Tryz.isAgg29
  z53 := Tryz.sizeOf29
  v53 := Tryz.zeroValue29
  t131 := Tryz.underlying108
  a131 := Tryz.isAgg108
  z131 := Tryz.sizeOf108
  v131 := Tryz.zeroValue108
  t182 := Tryz.underlying223
  a182 := Tryz.isAgg223
  z182 := Tryz.sizeOf223
  v182 := Tryz.zeroValue223
  t183 := Tryz.underlying224
  a183 := Tryz.isAgg224
  z183 := Tryz.sizeOf224
  v183 := Tryz.zeroValue224
  t218 := Tryz.underlying239
  a218 := Tryz.isAgg239
  z218 := Tryz.sizeOf239
  v218 := Tryz.zeroValue239
  t222 := Tryz.underlying242
  a222 := Tryz.isAgg242
  z222 := Tryz.sizeOf242
  v222 := Tryz.zeroValue242
  t228 := Tryz.underlying247
  a228 := Tryz.isAgg247
  z228 := Tryz.sizeOf247
  v228 := Tryz.zeroValue247
  t229 := Tryz.underlying248
  a229 := Tryz.isAgg248
  z229 := Tryz.sizeOf248
  v229 := Tryz.zeroValue248 }

def IntAt (w : World) (g : Nat) (S : List Int) : Prop := ∀ i, i < S.length → w.cell? ⟨g, i, none⟩ = some (.int .i64 (S.getD i 0))
theorem int_holds {w : World} {base g c : Nat} {R : List Int} (h : w.ownsRow base 3 1 (.slice (some ⟨g, 0, none⟩) R.length c) R.length (R.map (Value.int .i64))) : Holds (Value.int .i64) w g 0 R.toArray := by
  intro j hj
  have hj' : j < R.length := by simpa using hj
  obtain ⟨a, b⟩ := own_cell h j (by omega)
  refine ⟨?_, by rw [Nat.zero_add]; exact b⟩
  rw [Nat.zero_add, a]
  simp [hj']
theorem holds_int {w : World} {g : Nat} {S : List Int} (h : Holds (Value.int .i64) w g 0 S.toArray) : IntAt w g S := by
  intro i hi
  have := (h i (by simpa using hi)).1
  rw [Nat.zero_add] at this
  rw [this]
  simp [hi]
theorem keep_put {enc : Int → Value} (w : World) (g n : Nat) (d : Array Int) (os : Array Obj) : Keep (fun k => k = g) w (grow (putRow enc (Sort.ahead w n) g 0 d) os) := by
  have k1 : Keep (fun k => k = g) w (putRow enc (Sort.ahead w n) g 0 d) := by
    refine ⟨rfl, rfl, rfl, ?_, ?_⟩
    · rw [size_putRow]
      exact Nat.le_refl _
    · intro k hk hne
      unfold putRow mapBlock
      simp only [Array.getElem?_modify, if_neg (Ne.symm hne)]
      rfl
  refine ⟨k1.os, k1.tape, k1.output, ?_, ?_⟩
  · rw [size_grow]
    have := k1.size
    omega
  · intro k hk hne
    rw [heap_grow_old _ _ (Nat.lt_of_lt_of_le hk k1.size)]
    exact k1.block k hk hne
theorem sort_ints {w : World} {base c : Nat} {A : Option Addr} {R : List Int} (h : w.ownsRow base 3 1 (.slice A R.length c) R.length (R.map (Value.int .i64))) (hsz : R.length < 100000) :
    Calls Tryz.prog 126 #[.slice A R.length c] w fun e w' => e = .returned (.tuple #[]) ∧ ∃ S : List Int, S.Perm R ∧ S.Pairwise (· ≤ ·) ∧ (0 < R.length → ∃ g, A = some ⟨g, 0, none⟩ ∧ base ≤ g ∧ IntAt w' g S) ∧ Keep (fun k => base ≤ k) w w' := by
  by_cases h0 : R.length = 0
  · have hc := Any.slices_Sort_int_none Tryz.sortInts A c w
    change Calls Tryz.prog 126 _ _ _ at hc
    rw [h0]
    refine hc.mono ?_
    rintro e w' ⟨rfl, rfl⟩
    exact ⟨rfl, [], by rw [List.length_eq_zero_iff.1 h0], List.Pairwise.nil, fun h => absurd h (by omega), Keep.refl _ _⟩
  · obtain ⟨g, rfl⟩ : ∃ g, A = some ⟨g, 0, none⟩ := by
      rcases h.2 with ⟨e0, h00⟩ | ⟨g, cap', cur, e0, _⟩
      · exact absurd h00 h0
      · injection e0 with e1 e2 e3
        exact ⟨g, e1⟩
    have hb := own_block h rfl
    have hc := Any.slices_Sort_int Tryz.sortInts g 0 c R w (int_holds h) hb.2.1 (by omega)
    change Calls Tryz.prog 126 _ _ _ at hc
    refine hc.mono ?_
    rintro e w' ⟨rfl, n, os, rfl⟩
    have hp := List.mergeSort_perm R (fun x y => decide (x ≤ y))
    refine ⟨rfl, _, hp, ?_, fun _ => ⟨g, rfl, hb.1, holds_int ?_⟩, (keep_put w g n _ os).mono (fun k hk _ => by rw [hk]; exact hb.1)⟩
    · have := List.pairwise_mergeSort (le := fun x y : Int => decide (x ≤ y)) (fun a b c h1 h2 => by simp at *; omega) (fun a b => by simp; omega) R
      exact this.imp (fun h => by simpa using h)
    · refine holds_grow _ _ _ _ _ _ (by rw [size_putRow]; exact hb.2.1) (holds_putRow _ _ _ _ R.toArray _ (int_holds h) (by simp [hp.length_eq]))

def dbCells : List Db → List Value
  | [] => []
  | e :: E => dbC e ++ dbCells E
theorem dbCells_length (E : List Db) : (dbCells E).length = E.length * 7 := by
  induction E with
  | nil => rfl
  | cons e E ih => simp [dbCells, dbC, ih]; omega
theorem dbCells_append (E F : List Db) : dbCells (E ++ F) = dbCells E ++ dbCells F := by
  induction E with
  | nil => rfl
  | cons e E ih => simp [dbCells, ih]
def db (L : List Db) (i : Nat) : Db := L.getD i default
theorem db_of {L : List Db} {i : Nat} (h : i < L.length) : db L i = L[i] := by simp [db, h]
theorem db_mem {L : List Db} {i : Nat} (h : i < L.length) : db L i ∈ L := by rw [db_of h]; exact List.getElem_mem h
theorem dbCells_get : ∀ (E : List Db) (i c : Nat), i < E.length → c < 7 → (dbCells E)[i * 7 + c]? = (dbC (db E i))[c]?
  | [], i, c, h, _ => by simp at h
  | e :: E, 0, c, h, hc => by
    simp only [dbCells, db, List.getD_cons_zero, Nat.zero_mul, Nat.zero_add]
    rw [List.getElem?_append_left (by simp [dbC]; omega)]
  | e :: E, i + 1, c, h, hc => by
    have := dbCells_get E i c (by simpa using h) hc
    simp only [dbCells, db, List.getD_cons_succ] at this ⊢
    rw [List.getElem?_append_right (by simp [dbC]; omega), ← this]
    congr 1
    simp [dbC]; omega
theorem dbC_one (e : Db) : ∀ u ∈ dbC e, u.oneCell' = true := by
  intro u hu
  simp [dbC] at hu
  rcases hu with rfl | rfl | rfl | rfl | rfl | rfl | rfl <;> rfl
theorem dbCells_one (E : List Db) : ∀ u ∈ dbCells E, u.oneCell' = true := by
  induction E with
  | nil => intro u hu; simp [dbCells] at hu
  | cons e E ih =>
    intro u hu
    rcases List.mem_append.1 hu with h | h
    · exact dbC_one e u h
    · exact ih u h
/-- The row of doubts in block g. -/
def DRow (w : World) (g : Nat) (L : List Db) : Prop := ∀ i, i < L.length → ∀ c, c < 7 → w.cell? ⟨g, i * 7 + c, none⟩ = (dbC (db L i))[c]?
theorem own_drow {w : World} {base g cap : Nat} {R : List Db} (h : w.ownsRow base 153 7 (.slice (some ⟨g, 0, none⟩) R.length cap) R.length (dbCells R)) : DRow w g R := fun i hi c hc =>
  (own_cell h (i * 7 + c) (by omega)).1.trans (dbCells_get R i c hi hc)
theorem DRow.keep {S : Nat → Prop} {w w' : World} {g : Nat} {L : List Db} (h : DRow w g L) (k : Keep S w w') (hn : ¬ S g) : DRow w' g L := fun i hi c hc => by
  have hs : ∃ v, (dbC (db L i))[c]? = some v := ⟨_, List.getElem?_eq_getElem (by simp [dbC]; omega)⟩
  obtain ⟨v, hv⟩ := hs
  have hc := (h i hi c hc).trans hv
  rw [hv]
  exact (World.cell?_of_block (k.block g (World.block_lt_of_cell? w _ hc) hn)).trans hc

end Go.Proofs.YtofonfohaocclaaGreatDoor.D
