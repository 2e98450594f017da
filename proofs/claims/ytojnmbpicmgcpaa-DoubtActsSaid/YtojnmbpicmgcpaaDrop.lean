/- Walks of Doubts.Drop, and of a Raise that may not be. -/
import Derived.Test.YtojnmbpicmgcpaaRaisB
namespace Go.Proofs.Ytojnmbpicmgcpaa
open Go.RowKit Sh
open Go.ChangeMaps (setBlock)
set_option linter.unusedVariables false

set_option maxHeartbeats 1000000 in
theorem raise_bad {w : World} (q : Nat) (n i s fr c : Int) (nodes : Int) (base : Nat) (hbad : ¬ (0 ≤ n ∧ n < 64 ∧ s = 1 ∧ 0 ≤ fr ∧ fr < 64)) :
    Calls Try.prog 9 #[.pointer (some ⟨q, 0, none⟩), updV n i s, .int .i64 fr, .int .u64 c, .int .i64 nodes, .float .f64 base] w fun e w' => e = .returned (.tuple #[.bool false, .int .i64 1]) ∧ Keep (fun _ => False) w w' := by
  unfold updV
  by_cases h1 : mayU n s = true
  · by_cases h2 : s = 1
    · have h12 : 0 ≤ n ∧ n < 64 := by simp [mayU] at h1; omega
      by_cases h3 : fr < 0
      · have d3 : decide (fr < 0) = true := decide_eq_true h3
        subst h2
        go_enter Try.func9, Try.ntmps9
        go_wp2_with fail
        refine (may_any n i 1 _).mono ?_
        rintro e w1 ⟨rfl, hk1⟩
        rw [h1]
        have bu := hk1.old (heap_alloc_new w (.cells #[.int .i64 n, .int .u64 i, .int .i64 1] 34)) id
        have K1 := Lib.hid (((Keep.refl (fun _ => False) w).alloc (.cells #[.int .i64 n, .int .u64 i, .int .i64 1] 34)).step hk1)
        have c2 : w1.cell? ⟨w.heap.size, 2, none⟩ = some (.int .i64 1) := by simp [World.cell?, bu]
        clear hk1 bu
        go_wp2
        go_ret2
        exact ⟨rfl, K1.out⟩
      · have h4 : 64 ≤ fr := by omega
        have d3 : decide (fr < 0) = false := decide_eq_false h3
        have d4 : decide (64 ≤ fr) = true := decide_eq_true h4
        subst h2
        go_enter Try.func9, Try.ntmps9
        go_wp2_with fail
        refine (may_any n i 1 _).mono ?_
        rintro e w1 ⟨rfl, hk1⟩
        rw [h1]
        have bu := hk1.old (heap_alloc_new w (.cells #[.int .i64 n, .int .u64 i, .int .i64 1] 34)) id
        have K1 := Lib.hid (((Keep.refl (fun _ => False) w).alloc (.cells #[.int .i64 n, .int .u64 i, .int .i64 1] 34)).step hk1)
        have c2 : w1.cell? ⟨w.heap.size, 2, none⟩ = some (.int .i64 1) := by simp [World.cell?, bu]
        clear hk1 bu
        go_wp2
        go_ret2
        exact ⟨rfl, K1.out⟩
    · have e1 : (s != 1) = true := by simp [h2]
      have e2 : (s == 1) = false := by rw [beq_eq_false_iff_ne]; exact h2
      go_enter Try.func9, Try.ntmps9
      go_wp2_with fail
      refine (may_any n i s _).mono ?_
      rintro e w1 ⟨rfl, hk1⟩
      rw [h1]
      have bu := hk1.old (heap_alloc_new w (.cells #[.int .i64 n, .int .u64 i, .int .i64 s] 34)) id
      have K1 := Lib.hid (((Keep.refl (fun _ => False) w).alloc (.cells #[.int .i64 n, .int .u64 i, .int .i64 s] 34)).step hk1)
      have c2 : w1.cell? ⟨w.heap.size, 2, none⟩ = some (.int .i64 s) := by simp [World.cell?, bu]
      clear hk1 bu
      go_wp2
      go_ret2
      exact ⟨rfl, K1.out⟩
  · have h1' : mayU n s = false := by simpa using h1
    go_enter Try.func9, Try.ntmps9
    go_wp2_with fail
    refine (may_any n i s _).mono ?_
    rintro e w1 ⟨rfl, hk1⟩
    rw [h1']
    have K1 := Lib.hid (((Keep.refl (fun _ => False) w).alloc (.cells #[.int .i64 n, .int .u64 i, .int .i64 s] 34)).step hk1)
    clear hk1
    go_wp2
    go_ret2
    exact ⟨rfl, K1.out⟩

theorem del_nil (n : Int) (w : World) : (Builtin.delete_ #[25, 3] 0 #[.map none, .int .i64 n]).run Try.prog w = .ok (.tuple #[]) w := by
  have hk := MapKept.run_checkKey (w := w) Try.underlying3 (k := .int .i64 n) (by trivial) true 9999
  simp only [Builtin.delete_, List.getElem?_toArray, List.getElem?_cons_zero, List.getElem?_cons_succ, Sem.run_bind, run_underlying Try.underlying25, Result.andThen, hk]
  rfl
structure DropIs (w w' : World) (q : Nat) (mb : Option Nat) (M : List Db) (n : Int) (b : Bool) : Prop where
  que : IsQ w' q mb (M.filter fun z => z.n ≠ n)
  was : b = true ↔ ∃ x ∈ M, x.n = n
  keep : Keep (fun k => mb = some k) w w'
set_option maxHeartbeats 1000000 in
theorem drop_any {w : World} {q : Nat} {mb : Option Nat} {M : List Db} (h : IsQ w q mb M) (n : Int) :
    Calls Try.prog 11 #[.pointer (some ⟨q, 0, none⟩), .int .i64 n] w fun e w' => ∃ b, e = .returned (.bool b) ∧ DropIs w w' q mb M n b := by
  have H := Lib.hid h
  have cq := h.c0
  obtain ⟨x, b, hlk, hb⟩ := h.look n
  have HB : Hid (b = true ↔ ∃ x ∈ M, x.n = n) := Lib.hid (by
    rcases hb with ⟨rfl, hx, hn⟩ | ⟨rfl, hno⟩
    · exact ⟨fun _ => ⟨x, hx, hn⟩, fun _ => rfl⟩
    · exact ⟨fun h => (by cases h), fun ⟨y, hy, hn⟩ => absurd hn (hno y hy)⟩)
  obtain ⟨xn, xi, xs, xf, xc, xt, xu⟩ := x
  have hlk2 : (Instr.lookup 25 (.map mb) (.int .i64 n) true).run Try.prog w = .ok (.tuple #[.agg #[.int .i64 xn, .int .u64 xi, .int .i64 xs, .int .u64 xf, .int .u64 xc, .int .u64 xt, .int .u64 xu], .bool b]) w := hlk _ (Keep.refl _ w)
  have k1 : ∀ o, Keep (fun _ => False) w (w.alloc o) := fun o => (Keep.refl _ w).alloc o
  have cqa : ∀ o, (w.alloc o).cell? ⟨q, 0, none⟩ = some (.map mb) := fun o => (k1 o).cell cq
  clear hlk hb h
  cases mb with
  | none =>
    have hM := H.out.non rfl
    have hd := fun W => del_nil n W
    go_enter Try.func11, Try.ntmps11
    go_wp2
    go_ret
    refine ⟨b, rfl, ?_, HB.out, (Keep.refl _ w).alloc _⟩
    have := H.out.keep0 (k1 (.cells #[.int .i64 xn, .int .u64 xi, .int .i64 xs, .int .u64 xf, .int .u64 xc, .int .u64 xt, .int .u64 xu] 55))
    rw [hM] at this ⊢
    simpa using this
  | some B =>
    obtain ⟨o, hd, hi⟩ := (H.out.keep0 (k1 (.cells #[.int .i64 xn, .int .u64 xi, .int .i64 xs, .int .u64 xf, .int .u64 xc, .int .u64 xt, .int .u64 xu] 55))).del n 3 0
    have R := Lib.hid hi
    have RK : Hid (Keep (fun k => some B = some k) w (setBlock (w.alloc (.cells #[.int .i64 xn, .int .u64 xi, .int .i64 xs, .int .u64 xf, .int .u64 xc, .int .u64 xt, .int .u64 xu] 55)) B o)) := Lib.hid (keep_setBlock ((Keep.refl _ w).alloc _) B o (fun _ => rfl))
    clear hi
    go_enter Try.func11, Try.ntmps11
    go_wp2
    go_ret
    exact ⟨b, rfl, R.out, HB.out, RK.out⟩

end Go.Proofs.Ytojnmbpicmgcpaa
