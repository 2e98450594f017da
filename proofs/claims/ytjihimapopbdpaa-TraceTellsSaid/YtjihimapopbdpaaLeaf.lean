/- Entries; the small functions. -/
import Derived.Test.YtjihimapopbdpaaKeys
import Derived.Laws.Bits64b
namespace Go.Proofs.Ytjihimapopbdpaa
open Go.RowKit Sh
open Go.ChangeMaps (setBlock)
set_option linter.unusedVariables false

theorem cell_new {w : World} {n i : Nat} {cs : Array Value} {t : TypeId} {v : Value} (hn : n = w.heap.size) (h : cs[i]? = some v) : (w.alloc (.cells cs t)).cell? ⟨n, i, none⟩ = some v := by
  subst hn
  have hn := heap_alloc_new w (.cells cs t)
  simp only [World.cell?, hn]
  exact h

structure Ent where
  node : Int
  sent : Bool
  kind : Int
  id : Int
  mem : Int
  n : Int
  snd : Int
  num : Int
  text : ByteArray
def Ent.v (e : Ent) : Vw := ⟨e.id, e.mem⟩
def Ent.m (e : Ent) : Mg := ⟨e.snd, e.num, e.text⟩
def entA (e : Ent) : Array Value := #[.int .i64 e.node, .bool e.sent, .int .i64 e.kind, .int .u64 e.id, .int .u64 e.mem, .int .u64 e.n, .int .i64 e.snd, .int .u64 e.num, .string e.text]
def entV (e : Ent) : Value := .agg (entA e)
def Ent.inst (e : Ent) : Bool := !e.sent && e.kind == 1
def Ent.dlv (e : Ent) : Bool := !e.sent && e.kind == 2
def Ent.out (e : Ent) : Bool := !e.sent && e.kind == 3

theorem inst_any (e : Ent) (w : World) : Calls Try.prog 24 #[entV e] w fun r w' => r = .returned (.bool e.inst) ∧ Keep (fun _ => False) w w' := by
  obtain ⟨nd, st, kd, id, mem, n, snd, num, text⟩ := e
  simp only [entV, entA, Ent.inst]
  cases st
  all_goals (go_enter Try.func24, Try.ntmps24; go_wp2; go_ret; exact ⟨rfl, (Keep.refl _ w).alloc _⟩)
theorem out_any (e : Ent) (w : World) : Calls Try.prog 28 #[entV e] w fun r w' => r = .returned (.bool e.out) ∧ Keep (fun _ => False) w w' := by
  obtain ⟨nd, st, kd, id, mem, n, snd, num, text⟩ := e
  simp only [entV, entA, Ent.out]
  cases st
  all_goals (go_enter Try.func28, Try.ntmps28; go_wp2; go_ret; exact ⟨rfl, (Keep.refl _ w).alloc _⟩)
theorem dlv_any (e : Ent) (w : World) : Calls Try.prog 29 #[entV e] w fun r w' => r = .returned (.bool e.dlv) ∧ Keep (fun _ => False) w w' := by
  obtain ⟨nd, st, kd, id, mem, n, snd, num, text⟩ := e
  simp only [entV, entA, Ent.dlv]
  cases st
  all_goals (go_enter Try.func29, Try.ntmps29; go_wp2; go_ret; exact ⟨rfl, (Keep.refl _ w).alloc _⟩)

theorem pow_u64 (n : Nat) (hn : n ≤ 63) : IntKind.u64.wrap ((2 : Int) ^ n) = (2 : Int) ^ n := by
  have h1 : (2 : Nat) ^ n ≤ 2 ^ 63 := Nat.pow_le_pow_right (by omega) hn
  have h2 : ((2 : Int) ^ n) = ((2 ^ n : Nat) : Int) := by push_cast; rfl
  rw [IntKind.wrap_u64, h2]
  generalize (2 : Nat) ^ n = m at h1 ⊢
  omega
def bitP (n : Int) : Int := if 0 ≤ n ∧ n ≤ 63 then (2 : Int) ^ n.toNat else 0
theorem bit_any (n : Int) (w : World) : Calls Try.prog 37 #[.int .i64 n] w fun e w' => e = .returned (.int .u64 (bitP n)) ∧ w' = w := by
  by_cases h0 : 0 ≤ n
  · by_cases h1 : n ≤ 63
    · obtain ⟨k, rfl⟩ : ∃ k : Nat, n = k := ⟨n.toNat, by omega⟩
      have d1 : decide ((k : Int) < 0) = false := decide_eq_false (by omega)
      have d2 : decide ((63 : Int) < (k : Int)) = false := decide_eq_false (by omega)
      have d3 : ¬ (63 : Int) < (k : Int) := by omega
      have e1 := pow_u64 k (by omega)
      have eb : bitP (k : Int) = (2 : Int) ^ k := by simp [bitP, h1]
      rw [eb]
      go_enter Try.func37, Try.ntmps37
      go_wp2
      go_ret
      exact ⟨rfl, rfl⟩
    · have d1 : decide (n < 0) = false := decide_eq_false (by omega)
      have d2 : decide ((63 : Int) < n) = true := decide_eq_true (by omega)
      have eb : bitP n = 0 := by simp [bitP, h1]
      rw [eb]
      go_enter Try.func37, Try.ntmps37
      go_wp2
      go_ret
      exact ⟨rfl, rfl⟩
  · have d1 : decide (n < 0) = true := decide_eq_true (by omega)
    have eb : bitP n = 0 := by simp [bitP, h0]
    rw [eb]
    go_enter Try.func37, Try.ntmps37
    go_wp2
    go_ret
    exact ⟨rfl, rfl⟩
def hasP (b n : Int) : Bool := bits BinOp.and IntKind.u64 b (bitP n) != 0
theorem has_any (b n : Int) (w : World) : Calls Try.prog 25 #[.int .u64 b, .int .i64 n] w fun e w' => e = .returned (.bool (hasP b n)) ∧ w' = w := by
  go_enter Try.func25, Try.ntmps25
  go_wp2_with fail
  refine (bit_any n _).mono ?_
  rintro e w' ⟨rfl, rfl⟩
  go_wp2
  go_ret
  exact ⟨rfl, rfl⟩
def pop1 (x : Int) : Int := IntKind.u64.wrap (bits BinOp.and IntKind.u64 (x / 2) 6148914691236517205 + bits BinOp.and IntKind.u64 x 6148914691236517205)
def pop2 (x : Int) : Int := IntKind.u64.wrap (bits BinOp.and IntKind.u64 (x / 4) 3689348814741910323 + bits BinOp.and IntKind.u64 x 3689348814741910323)
def pop3 (x : Int) : Int := bits BinOp.and IntKind.u64 (IntKind.u64.wrap (x / 16 + x)) 1085102592571150095
def pop4 (x : Int) : Int := IntKind.u64.wrap (x + x / 256)
def pop5 (x : Int) : Int := IntKind.u64.wrap (x + x / 65536)
def pop6 (x : Int) : Int := IntKind.u64.wrap (x + x / 4294967296)
def popP (x : Int) : Int := bits BinOp.and IntKind.i64 (wrap64 (pop6 (pop5 (pop4 (pop3 (pop2 (pop1 x))))))) 127
theorem ones_any (x : Int) (w : World) : Calls Try.prog 46 #[.int .u64 x] w fun e w' => e = .returned (.int .i64 (popP x)) ∧ w' = w := by
  go_enter Try.func46, Try.ntmps46
  go_wp2
  go_ret
  refine ⟨?_, rfl⟩
  congr 1
theorem many_any (x : Int) (w : World) : Calls Try.prog 36 #[.int .u64 x] w fun e w' => e = .returned (.int .i64 (popP x)) ∧ w' = w := by
  go_enter Try.func36, Try.ntmps36
  go_wp2_with fail
  refine (ones_any x _).mono ?_
  rintro e w' ⟨rfl, rfl⟩
  go_wp2
  go_ret
  exact ⟨rfl, rfl⟩
def majorP (b f : Int) : Bool := decide (popP (bits BinOp.andNot IntKind.u64 f b) < popP (bits BinOp.and IntKind.u64 b f))
theorem major_any (b f : Int) (w : World) : Calls Try.prog 21 #[.int .u64 b, .int .u64 f] w fun e w' => e = .returned (.bool (majorP b f)) ∧ w' = w := by
  go_enter Try.func21, Try.ntmps21
  go_wp2_with fail
  refine (many_any _ _).mono ?_
  rintro e w' ⟨rfl, rfl⟩
  go_wp2_with fail
  refine (many_any _ _).mono ?_
  rintro e w' ⟨rfl, rfl⟩
  go_wp2
  go_ret
  exact ⟨rfl, rfl⟩
theorem ent_cells {w : World} {b : Nat} {nd kd id mem n snd num : Int} {st : Bool} {text : ByteArray} {fr : Nat × Nat} (h : w.heap[b]? = some (.cells #[.int .i64 nd, .bool st, .int .i64 kd, .int .u64 id, .int .u64 mem, .int .u64 n, .int .i64 snd, .int .u64 num, .string text] 42 fr)) :
    w.cell? ⟨b, 0, none⟩ = some (.int .i64 nd) ∧ w.cell? ⟨b, 1, none⟩ = some (.bool st) ∧ w.cell? ⟨b, 2, none⟩ = some (.int .i64 kd) ∧ w.cell? ⟨b, 3, none⟩ = some (.int .u64 id) ∧ w.cell? ⟨b, 4, none⟩ = some (.int .u64 mem) ∧ w.cell? ⟨b, 5, none⟩ = some (.int .u64 n) ∧ w.cell? ⟨b, 6, none⟩ = some (.int .i64 snd) ∧ w.cell? ⟨b, 7, none⟩ = some (.int .u64 num) ∧ w.cell? ⟨b, 8, none⟩ = some (.string text) := by
  simp [World.cell?, h]

end Go.Proofs.Ytjihimapopbdpaa
