/- Walk of Doubts.Raise, where one more tells a doubt, or one that told it. -/
import Derived.Test.YtojnmbpicmgcpaaRaisB
import Derived.Test.YtojnmbpicmgcpaaTickV
namespace Go.Proofs.Ytojnmbpicmgcpaa
open Go.RowKit Sh
open Go.ChangeMaps (setBlock)
set_option linter.unusedVariables false

theorem and_pow_ne (x n : Nat) : (x &&& 2 ^ n ≠ 0) ↔ x.testBit n = true := by
  constructor
  · intro h
    rcases hb : x.testBit n with _ | _
    · exfalso
      apply h
      refine Nat.eq_of_testBit_eq fun i => ?_
      rw [Nat.testBit_and, Nat.testBit_two_pow, Nat.zero_testBit]
      by_cases c : n = i
      · subst c; simp [hb]
      · simp [c]
    · rfl
  · intro h h0
    have := Nat.testBit_and x (2 ^ n) n
    rw [h0, Nat.zero_testBit, h, Nat.testBit_two_pow] at this
    simp at this
theorem has_bit (f k : Nat) (hf : f < 18446744073709551616) (hk : k ≤ 63) (w : World) : Calls Try.prog 21 #[.int .u64 (f : Int), .int .i64 k] w fun e w' => e = .returned (.bool (f.testBit k)) ∧ w = w' := by
  have h1 : (2 : Nat) ^ k ≤ 2 ^ 63 := Nat.pow_le_pow_right (by omega) hk
  have h2 : ((2 : Int) ^ k) = ((2 ^ k : Nat) : Int) := by push_cast; rfl
  have e1 : bits BinOp.and IntKind.u64 (f : Int) ((2 : Int) ^ k) = ((f &&& 2 ^ k : Nat) : Int) := by
    rw [h2]; exact bits_and_u64_nat f (2 ^ k) hf (by omega)
  have e2 : (((f &&& 2 ^ k : Nat) : Int) != 0) = f.testBit k := by
    rw [Bool.eq_iff_iff, bne_iff_ne, ← and_pow_ne]
    omega
  have HB := Lib.hid (fun W => bit_any k hk W)
  clear h1 h2 hf hk
  generalize ((2 : Int) ^ k) = p at *
  generalize (f &&& 2 ^ k) = r at *
  generalize f.testBit k = b at *
  go_enter Try.func21, Try.ntmps21
  go_wp2_with fail
  refine (HB.out _).mono ?_
  rintro e w' ⟨rfl, rfl⟩
  go_wp2
  go_ret
  exact ⟨by rw [← e2]; rfl, rfl⟩
theorem with_bit (f k : Nat) (hf : f < 18446744073709551616) (hk : k ≤ 63) (w : World) : Calls Try.prog 22 #[.int .u64 (f : Int), .int .i64 k] w fun e w' => e = .returned (.int .u64 ((f ||| 2 ^ k : Nat) : Int)) ∧ w = w' := by
  have h1 : (2 : Nat) ^ k ≤ 2 ^ 63 := Nat.pow_le_pow_right (by omega) hk
  have h2 : ((2 : Int) ^ k) = ((2 ^ k : Nat) : Int) := by push_cast; rfl
  have e1 : bits BinOp.or IntKind.u64 (f : Int) ((2 : Int) ^ k) = ((f ||| 2 ^ k : Nat) : Int) := by
    rw [h2]; exact bits_or_u64_nat f (2 ^ k) hf (by omega)
  have HB := Lib.hid (fun W => bit_any k hk W)
  clear h1 h2 hf hk
  generalize ((2 : Int) ^ k) = p at *
  generalize (f ||| 2 ^ k) = r at *
  go_enter Try.func22, Try.ntmps22
  go_wp2_with fail
  refine (HB.out _).mono ?_
  rintro e w' ⟨rfl, rfl⟩
  go_wp2
  go_ret
  exact ⟨rfl, rfl⟩

set_option maxRecDepth 100000 in
set_option maxHeartbeats 1000000 in
theorem dwait_told {w : World} {b : Nat} {x : Db} {base : Nat} {nodes : Int} {u : Nat → Nat} (hT : Waits base nodes u) (hb : w.heap[b]? = some (.cells (dbC x).toArray 55 (0, 0))) (t : Nat) (ht : x.t = (t : Int)) (ht2 : t < 9223372036854775808) (hc : 0 ≤ x.c ∧ x.c < 18446744073709551616) :
    Calls Try.prog 23 #[.pointer (some ⟨b, 0, none⟩), .int .i64 nodes, .float .f64 base] w fun e w' => e = .returned (.tuple #[]) ∧ w'.heap[b]? = some (.cells (dbC { x with u := sat x.c (u t) }).toArray 55 (0, 0)) ∧ Keep (fun k => k = b) w w' := by
  obtain ⟨m, h1, h2⟩ := hT.ex
  have H1 := Lib.hid (h1 t ht2)
  have H2 := Lib.hid (h2 t)
  have hle := hT.le t
  obtain ⟨n, i, s, f, c, t0, v⟩ := x
  simp only at ht hc ⊢
  subst ht
  have BB := Lib.hid hb
  have HC := Lib.hid hc
  have c4 : w.drew.cell? ⟨b, 4, none⟩ = some (.int .u64 c) := by show w.cell? _ = _; simp [World.cell?, hb, dbC]
  have c5 : w.drew.cell? ⟨b, 5, none⟩ = some (.int .u64 t) := by show w.cell? _ = _; simp [World.cell?, hb, dbC]
  have c6 : w.drew.cell? ⟨b, 6, none⟩ = some (.int .u64 v) := by show w.cell? _ = _; simp [World.cell?, hb, dbC]
  have r6 : w.drew.frozen? ⟨b, 6, none⟩ = false := by show w.frozen? _ = _; simp [World.frozen?, hb]
  have KD : Hid (Keep (fun _ => False) w w.drew) := Lib.hid (Keep.refl _ w).drew
  have wt : IntKind.i64.wrap (t : Int) = t := by rw [IntKind.wrap_i64]; omega
  generalize hs : sat c (u t : Int) = st
  have HS := Lib.hid hs
  have had := fun W => add_run c (u t) HC.out.1 (by omega) W
  have HD := Lib.hid (fun W => held_any c (u t) HC.out ⟨by omega, by omega⟩ W)
  rw [hs] at HD
  clear h1 h2 hb hc hs hle
  generalize ((u t : Nat) : Int) = ut at *
  generalize m t = mt at *
  generalize (c + ut) % 18446744073709551616 = lo at *
  generalize (c + ut) / 18446744073709551616 = hi at *
  go_enter Try.func23, Try.ntmps23
  go_upto_region 1 with fail
  go_region_held3 (fun W => W.cell? ⟨b, 4, none⟩ = some (.int .u64 c) ∧ W.cell? ⟨b, 5, none⟩ = some (.int .u64 t)) (go_keep) (first
    | (go_at_call 36; refine (H1.out _).mono ?_; rintro e w1 ⟨rfl, hk1⟩; have f4 := hk1.cell c4; have f5 := hk1.cell c5; have f6 := hk1.cell c6; have s6 := hk1.fro c6 r6; have K1 := Lib.hid (KD.out.step hk1); have z4 := fun v => set_other (w := w1) (v := v) (o := 6) (o' := 4) (by decide) f4; have z5 := fun v => set_other (w := w1) (v := v) (o := 6) (o' := 5) (by decide) f5; clear hk1)
    | (go_at_call 35; refine (H2.out _).mono ?_; rintro e w2 ⟨rfl, rfl⟩)
    | (go_at_call 33; refine (HD.out _).mono ?_; rintro e w3 ⟨rfl, rfl⟩))
  all_goals
    go_wp2
    go_end0
    refine ⟨rfl, ?_, (K1.out.mono (T := fun k => k = b) (fun _ h _ => absurd h id)).setAt 6 (.int .u64 st)⟩
    have h2 := heap_setCell_at (K1.out.old BB.out id) 6 (.int .u64 st)
    simpa [dbC] using h2
end Go.Proofs.Ytojnmbpicmgcpaa
