/- Doubts, as the heap has them; how long one is. -/
import Derived.Test.YtojnmbpicmgcpaaWait
namespace Go.Proofs.Ytojnmbpicmgcpaa
open Go.RowKit Sh
open Go.ChangeMaps (setBlock)
set_option linter.unusedVariables false

structure Db where
  n : Int
  i : Int
  s : Int
  f : Int
  c : Int
  t : Int
  u : Int
deriving instance Inhabited for Db
def dbC (x : Db) : List Value := [.int .i64 x.n, .int .u64 x.i, .int .i64 x.s, .int .u64 x.f, .int .u64 x.c, .int .u64 x.t, .int .u64 x.u]
def dbV (x : Db) : Value := .agg #[.int .i64 x.n, .int .u64 x.i, .int .i64 x.s, .int .u64 x.f, .int .u64 x.c, .int .u64 x.t, .int .u64 x.u]

theorem add_run (x y : Int) (hx : 0 ≤ x) (hy : 0 ≤ y) (w : World) : (callFunc 34 #[.int .u64 x, .int .u64 y, .int .u64 0]).run Try.prog w = .ok (.value (.tuple #[.int .u64 ((x + y) % 18446744073709551616), .int .u64 ((x + y) / 18446744073709551616)])) w := by
  rw [run_callFunc_extern Try.func34 (by kernel_rfl) (by kernel_rfl) (by kernel_rfl) (e := add64Entry) (by kernel_rfl), run_add64 x y 0 hx hy (by omega) (by omega), Int.add_zero]
  rfl
def sat (x y : Int) : Int := if x + y < 18446744073709551616 then x + y else 18446744073709551615
theorem or_ones (a : Nat) (h : a < 18446744073709551616) : a ||| 18446744073709551615 = 18446744073709551615 := by
  have e : (18446744073709551615 : Nat) = 2 ^ 64 - 1 := by decide
  rw [e]
  refine Nat.eq_of_testBit_eq (fun i => ?_)
  rw [Nat.testBit_or, Nat.testBit_two_pow_sub_one]
  by_cases c : i < 64
  · simp [c]
  · have h2 : a < 2 ^ i := Nat.lt_of_lt_of_le (show a < 2 ^ 64 by omega) (Nat.pow_le_pow_right (by omega) (by omega))
    rw [Nat.testBit_lt_two_pow h2]
    simp
theorem held_any (x y : Int) (hx : 0 ≤ x ∧ x < 18446744073709551616) (hy : 0 ≤ y ∧ y < 18446744073709551616) (w : World) :
    Calls Try.prog 33 #[.int .u64 ((x + y) % 18446744073709551616), .int .u64 ((x + y) / 18446744073709551616)] w fun e w' => e = .returned (.int .u64 (sat x y)) ∧ w = w' := by
  obtain ⟨a, ha⟩ : ∃ a : Nat, (a : Int) = (x + y) % 18446744073709551616 := ⟨((x + y) % 18446744073709551616).toNat, by omega⟩
  have ha2 : a < 18446744073709551616 := by omega
  rw [← ha]
  by_cases c : x + y < 18446744073709551616
  · have e1 : (x + y) / 18446744073709551616 = 0 := by omega
    have e2 : sat x y = a := by unfold sat; rw [if_pos c]; omega
    rw [e1, e2]
    have e3 : bits BinOp.or IntKind.u64 (a : Int) 0 = a := by
      have := bits_or_u64_nat a 0 ha2 (by omega)
      simpa using this
    have e4 : IntKind.u64.wrap 0 = 0 := by decide
    clear ha e1 e2 c hx hy
    go_enter Try.func33, Try.ntmps33
    go_wp2
    go_ret
    exact ⟨rfl, rfl⟩
  · have e1 : (x + y) / 18446744073709551616 = 1 := by omega
    have e2 : sat x y = 18446744073709551615 := by unfold sat; rw [if_neg c]
    rw [e1, e2]
    have e3 : bits BinOp.or IntKind.u64 (a : Int) 18446744073709551615 = 18446744073709551615 := by
      have := bits_or_u64_nat a 18446744073709551615 ha2 (by omega)
      rw [or_ones a ha2] at this
      simpa using this
    have e4 : IntKind.u64.wrap (-1) = 18446744073709551615 := by decide
    clear ha e1 e2 c hx hy
    go_enter Try.func33, Try.ntmps33
    go_wp2
    go_ret
    exact ⟨rfl, rfl⟩

theorem set_other {w : World} {b o o' : Nat} {v u : Value} (h : o ≠ o') (hc : w.cell? ⟨b, o', none⟩ = some u) : (w.setCell ⟨b, o, none⟩ v).cell? ⟨b, o', none⟩ = some u := by
  have hb : ∃ cs t fr, w.heap[b]? = some (.cells cs t fr) := by
    unfold World.cell? at hc
    simp only at hc
    split at hc
    · exact ⟨_, _, _, by assumption⟩
    · simp at hc
  obtain ⟨cs, t, fr, hb⟩ := hb
  have h2 := heap_setCell_at hb o v
  simp only [World.cell?, hb] at hc
  simp only [World.cell?, h2]
  simp only [Array.getElem?_setIfInBounds, if_neg h]
  exact hc
theorem Sh.Keep.fro {w w' : World} (k : Keep (fun _ => False) w w') {a : Addr} {v : Value} (h : w.cell? a = some v) (hf : w.frozen? a = false) : w'.frozen? a = false := by
  have := k.block a.block (World.block_lt_of_cell? w a h) (fun h => h)
  unfold World.frozen? at hf ⊢
  rw [this]
  exact hf
set_option maxRecDepth 100000 in
set_option maxHeartbeats 1000000 in
theorem dwait_any {w : World} {b : Nat} {x : Db} {base : Nat} {nodes : Int} {T : Int → Prop} (hT : WaitIs base nodes T) (hb : w.heap[b]? = some (.cells (dbC x).toArray 55 (0, 0))) (ht : x.t = 0) (hc : 0 ≤ x.c ∧ x.c < 18446744073709551616) :
    Calls Try.prog 23 #[.pointer (some ⟨b, 0, none⟩), .int .i64 nodes, .float .f64 base] w fun e w' => e = .returned (.tuple #[]) ∧ ∃ t, (T t ∧ 0 ≤ t ∧ t < 18446744073709551616) ∧ w'.heap[b]? = some (.cells (dbC { x with u := sat x.c t }).toArray 55 (0, 0)) ∧ Keep (fun k => k = b) w w' := by
  obtain ⟨m, h1, h2⟩ := hT
  have H1 := Lib.hid h1
  have H2 := Lib.hid h2
  obtain ⟨n, i, s, f, c, t0, u⟩ := x
  simp only at ht hc ⊢
  subst ht
  have BB := Lib.hid hb
  have HC := Lib.hid hc
  have c4 : w.drew.cell? ⟨b, 4, none⟩ = some (.int .u64 c) := by show w.cell? _ = _; simp [World.cell?, hb, dbC]
  have c5 : w.drew.cell? ⟨b, 5, none⟩ = some (.int .u64 0) := by show w.cell? _ = _; simp [World.cell?, hb, dbC]
  have c6 : w.drew.cell? ⟨b, 6, none⟩ = some (.int .u64 u) := by show w.cell? _ = _; simp [World.cell?, hb, dbC]
  have r6 : w.drew.frozen? ⟨b, 6, none⟩ = false := by show w.frozen? _ = _; simp [World.frozen?, hb]
  have KD : Hid (Keep (fun _ => False) w w.drew) := Lib.hid (Keep.refl _ w).drew
  clear h1 h2 hb hc
  go_enter Try.func23, Try.ntmps23
  go_upto_region 1 with fail
  go_region_held3 (fun W => W.cell? ⟨b, 4, none⟩ = some (.int .u64 c) ∧ W.cell? ⟨b, 5, none⟩ = some (.int .u64 0)) (go_keep) (first
    | (go_at_call 36; refine (H1.out _).mono ?_; rintro e w1 ⟨rfl, hk1⟩; have f4 := hk1.cell c4; have f5 := hk1.cell c5; have f6 := hk1.cell c6; have s6 := hk1.fro c6 r6; have K1 := Lib.hid (KD.out.step hk1); clear hk1)
    | (go_at_call 35; refine (H2.out _).mono ?_; rintro e w2 ⟨⟨t, rfl, ht0, ht1, hT⟩, hk2⟩; have had := fun W => add_run c t HC.out.1 ht0 W; have g4 := hk2.cell f4; have g5 := hk2.cell f5; have g6 := hk2.cell f6; have q6 := hk2.fro f6 s6; have z4 := fun v => set_other (w := w2) (v := v) (o := 6) (o' := 4) (by decide) g4; have z5 := fun v => set_other (w := w2) (v := v) (o := 6) (o' := 5) (by decide) g5; have K2 := Lib.hid (K1.out.step hk2); have HD := Lib.hid (fun W => held_any c t HC.out ⟨ht0, ht1⟩ W); clear hk2)
    | (go_at_call 33; refine (HD.out _).mono ?_; rintro e w3 ⟨rfl, rfl⟩))
  all_goals
    go_wp2
    go_end0
    refine ⟨rfl, t, ⟨hT, ht0, ht1⟩, ?_, (K2.out.mono (T := fun k => k = b) (fun _ h _ => absurd h id)).setAt 6 (.int .u64 (sat c t))⟩
    have h2 := heap_setCell_at (K2.out.old BB.out id) 6 (.int .u64 (sat c t))
    simpa [dbC] using h2

end Go.Proofs.Ytojnmbpicmgcpaa
