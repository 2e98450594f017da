/- TraceViews: the plain law, and the walk. -/
import Derived.Test.YtjihimapopbdpaaBegW
namespace Go.Proofs.Ytjihimapopbdpaa
open Go.RowKit Sh
open Go.ChangeMaps (setBlock)
set_option linter.unusedVariables false

def vEnt (k : Int) (v : Vw) : Ent := ⟨k, false, 1, v.id, v.mem, 0, 0, 0, ⟨#[]⟩⟩

theorem and_pow_ne (M k : Nat) : (M &&& 2 ^ k ≠ 0) ↔ M.testBit k = true := by
  constructor
  · intro h
    cases c : M.testBit k
    · exfalso
      apply h
      apply Nat.eq_of_testBit_eq
      intro i
      rw [Nat.testBit_and, Nat.testBit_two_pow, Nat.zero_testBit]
      by_cases e : k = i
      · subst e; simp [c]
      · simp [e]
    · rfl
  · intro h c
    have : (M &&& 2 ^ k).testBit k = true := by rw [Nat.testBit_and, Nat.testBit_two_pow]; simp [h]
    rw [c, Nat.zero_testBit] at this
    cases this
theorem has_bit (m : Int) (k : Nat) (h0 : 0 ≤ m) (h1 : m < 18446744073709551616) (hk : k < 64) : (bits BinOp.and IntKind.u64 (m / 2 ^ k) 1 == 1) = hasP m k := by
  obtain ⟨M, rfl⟩ : ∃ M : Nat, m = M := ⟨m.toNat, by omega⟩
  have e1 : ((M : Int) / 2 ^ k) = ((M / 2 ^ k : Nat) : Int) := by push_cast; rfl
  have hb : bitP (k : Int) = ((2 ^ k : Nat) : Int) := by
    rw [bitP, if_pos ⟨by omega, by omega⟩]
    push_cast
    rfl
  have hp : (2 : Nat) ^ k ≤ 2 ^ 63 := Nat.pow_le_pow_right (by omega) (by omega)
  have e2 := bits_and_u64_nat (M / 2 ^ k) 1 (Nat.lt_of_le_of_lt (Nat.div_le_self _ _) (by omega)) (by omega)
  have e3 := bits_and_u64_nat M (2 ^ k) (by omega) (by omega)
  unfold hasP
  rw [hb, e1, e3]
  rw [show ((1 : Int)) = ((1 : Nat) : Int) from rfl, e2]
  rw [Nat.and_one_is_mod]
  have ht : M.testBit k = decide (M / 2 ^ k % 2 = 1) := by
    rw [Nat.testBit_eq_decide_div_mod_eq]
  have hn := and_pow_ne M k
  rw [ht] at hn
  by_cases c : M / 2 ^ k % 2 = 1
  · have h2 := hn.2 (decide_eq_true c)
    rw [c]
    simp
    omega
  · have c0 : M / 2 ^ k % 2 = 0 := by omega
    have h2 : M &&& 2 ^ k = 0 := by
      by_cases z : M &&& 2 ^ k = 0
      · exact z
      · exact absurd (of_decide_eq_true (hn.1 z)) c
    rw [c0, h2]
    simp

theorem major_new (i m : Int) (h0 : 0 ≤ i) (h1 : i < 18446744073709551616) : majorV (upd (fun _ => none) i m) i = true := by
  have : ¬ IntKind.u64.wrap (i - 1) = i := by rw [IntKind.wrap_u64]; omega
  simp [majorV, upd, this]
theorem major_new2 (i m : Int) (h0 : 0 ≤ i) (h1 : i < 18446744073709551616) : majorV (upd (fun _ => none) i m) (IntKind.u64.wrap (i + 1)) = true := by
  have : ¬ IntKind.u64.wrap (i + 1) = i := by rw [IntKind.wrap_u64]; omega
  simp [majorV, upd, this]
theorem views_law (a b : Vw) (k : Int) (h0 : 0 ≤ a.id) (h1 : a.id < 18446744073709551616) :
    (hasP a.mem k = false ∧ accP [vEnt k a, vEnt k b] = (0, 170)) ∨
    (hasP a.mem k = true ∧ (hasP b.mem k = false ∨ b.id ≤ a.id) ∧ accP [vEnt k a, vEnt k b] = (1, 170)) ∨
    (hasP a.mem k = true ∧ hasP b.mem k = true ∧ ¬ b.id ≤ a.id ∧ (accP [vEnt k a, vEnt k b] = (1, 161) ∨ accP [vEnt k a, vEnt k b] = (2, 0))) := by
  have i1 : (vEnt k a).inst = true := rfl
  have i2 : (vEnt k b).inst = true := rfl
  have hb1 : vbad v0 (vEnt k a) = !hasP a.mem k := by simp [vbad, v0, vEnt]
  have hm1 : vmin (vnext v0 (vEnt k a)) (vEnt k a) = false := by
    have e1 := major_new a.id a.mem h0 h1
    have e2 := major_new2 a.id a.mem h0 h1
    simp [vmin, vnext, v0, vEnt] at e1 e2 ⊢
    simp [e1, e2]
  have t1 : tst 1 [vEnt k a] = 0 := by simp [tst, runT, ostep, i1]
  have t2 : tst 2 [vEnt k a] = 0 := by simp [tst, runT, nstep, vEnt, Ent.out, Ent.dlv]
  have t3 : tst 3 [vEnt k a] = 0 := by simp [tst, runT, astep, vEnt, Ent.out, Ent.dlv, Ent.inst, a0, noPc]
  have s1 : tst 1 [vEnt k a, vEnt k b] = 0 := by simp [tst, runT, ostep, i1, i2]
  have s2 : tst 2 [vEnt k a, vEnt k b] = 0 := by simp [tst, runT, nstep, vEnt, Ent.out, Ent.dlv]
  have s3 : tst 3 [vEnt k a, vEnt k b] = 0 := by simp [tst, runT, astep, vEnt, Ent.out, Ent.dlv, Ent.inst, a0, noPc, upd]
  have acc : accP [vEnt k a, vEnt k b] = if wr_ [vEnt k a] = 0 then (if wr_ [vEnt k a, vEnt k b] = 0 then (2, 0) else (1, wr_ [vEnt k a, vEnt k b])) else (0, wr_ [vEnt k a]) := by
    simp [accP, accGo, wr_nil]
  cases ha : hasP a.mem k
  · left
    refine ⟨rfl, ?_⟩
    have t0 : tst 0 [vEnt k a] = 170 := by simp [tst, runT, vstep, i1, hb1, ha]
    have : wr_ [vEnt k a] = 170 := by unfold wr_; rw [t0]; rfl
    rw [acc, this]
    rfl
  · right
    have hv : vstep v0 (vEnt k a) = (0, vnext v0 (vEnt k a)) := by simp [vstep, i1, hb1, ha, hm1]
    have t0 : tst 0 [vEnt k a] = 0 := by simp [tst, runT, hv]
    have hw1 : wr_ [vEnt k a] = 0 := by unfold wr_; rw [t0, t1, t2, t3]; rfl
    have hw2 : wr_ [vEnt k a, vEnt k b] = (vstep (vnext v0 (vEnt k a)) (vEnt k b)).1 := by
      have s0 : tst 0 [vEnt k a, vEnt k b] = (vstep (vnext v0 (vEnt k a)) (vEnt k b)).1 := by
        by_cases c : (vstep (vnext v0 (vEnt k a)) (vEnt k b)).1 = 0
        · simp [tst, runT, hv, c]
        · simp [tst, runT, hv, c]
      unfold wr_
      rw [s0, s1, s2, s3]
      by_cases c : (vstep (vnext v0 (vEnt k a)) (vEnt k b)).1 = 0
      · simp [c]
      · simp [c]
    rw [acc, hw1, hw2]
    have hb2 : vbad (vnext v0 (vEnt k a)) (vEnt k b) = (!hasP b.mem k || decide (b.id ≤ a.id) || (decide (b.id = a.id) && (a.mem != b.mem))) := by
      by_cases c : b.id = a.id
      · simp [vbad, vnext, vEnt, v0, upd, Ent.v, c]
      · simp [vbad, vnext, vEnt, v0, upd, Ent.v, c]
    by_cases hbad : hasP b.mem k = false ∨ b.id ≤ a.id
    · left
      refine ⟨rfl, hbad, ?_⟩
      have : vbad (vnext v0 (vEnt k a)) (vEnt k b) = true := by
        rw [hb2]
        rcases hbad with h | h
        · simp [h]
        · simp [h]
      simp [vstep, i2, this]
    · right
      have h2 : hasP b.mem k = true := by
        cases h : hasP b.mem k
        · exact absurd (.inl h) hbad
        · rfl
      have h3 : ¬ b.id ≤ a.id := fun h => hbad (.inr h)
      refine ⟨rfl, h2, h3, ?_⟩
      have : vbad (vnext v0 (vEnt k a)) (vEnt k b) = false := by
        rw [hb2, h2]
        have : ¬ b.id = a.id := by omega
        simp [h3, this]
      cases hm : vmin (vnext (vnext v0 (vEnt k a)) (vEnt k b)) (vEnt k b)
      · right
        simp [vstep, i2, this, hm]
      · left
        simp [vstep, i2, this, hm]

set_option maxRecDepth 100000 in
set_option maxHeartbeats 1000000 in
theorem views_walk {w : World} (a b : Vw) (nd : Int) (h0 : 0 ≤ nd) (h1 : nd ≤ 255) (ha0 : 0 ≤ a.id) (ha1 : a.id < 18446744073709551616) (ha2 : 0 ≤ a.mem) (ha3 : a.mem < 18446744073709551616) (hb2 : 0 ≤ b.mem) (hb3 : b.mem < 18446744073709551616) :
    Calls Try.prog 5 #[vwV a, vwV b, .int .u8 nd] w fun r w' => r = .returned (.bool true) ∧ Keep (fun _ => False) w w' := by
  obtain ⟨ai, am⟩ := a
  obtain ⟨bi, bm⟩ := b
  obtain ⟨k, hk⟩ : ∃ k : Nat, nd % 64 = k := ⟨(nd % 64).toNat, by omega⟩
  have hk64 : k < 64 := by omega
  have hkt : nd.tmod 64 = k := by rw [Int.tmod_eq_emod_of_nonneg h0]; exact hk
  have LAW := Lib.hid (views_law ⟨ai, am⟩ ⟨bi, bm⟩ (k : Int) ha0 ha1)
  have e1 := has_bit am k ha2 ha3 hk64
  have e2 := has_bit bm k hb2 hb3 hk64
  simp only [vwV]
  have hb := heap_alloc_new ((w.alloc (.cells #[.int .u64 ai, .int .u64 am] 36)).alloc (.cells #[.int .u64 bi, .int .u64 bm] 36)) (.cells #[.int .i64 k, .bool false, .int .i64 1, .int .u64 ai, .int .u64 am, .int .u64 0, .int .i64 0, .int .u64 0, .string ⟨#[]⟩, .int .i64 k, .bool false, .int .i64 1, .int .u64 bi, .int .u64 bm, .int .u64 0, .int .i64 0, .int .u64 0, .string ⟨#[]⟩] 42)
  rw [show ((w.alloc (.cells #[.int .u64 ai, .int .u64 am] 36)).alloc (.cells #[.int .u64 bi, .int .u64 bm] 36)).heap.size = w.heap.size + 1 + 1 by simp] at hb
  have HES : Hid (IsEs _ (.slice (some ⟨w.heap.size + 1 + 1, 0, none⟩) 2 2) [vEnt k ⟨ai, am⟩, vEnt k ⟨bi, bm⟩]) := Lib.hid (IsEs.of_block rfl (by simp) (by simp) hb rfl)
  clear hb
  go_enter Try.func5, Try.ntmps5
  go_wp2_with fail
  refine (accept_any HES.out).mono ?_
  rintro r w1 ⟨rfl, hk1⟩
  have ba := hk1.old ((((Keep.refl (fun _ => False) _).alloc _).alloc _).old (heap_alloc_new w (.cells #[.int .u64 ai, .int .u64 am] 36)) (fun h => h)) (fun h => h)
  have bb := hk1.old (((Keep.refl (fun _ => False) _).alloc _).old (heap_alloc_new (w.alloc (.cells #[.int .u64 ai, .int .u64 am] 36)) (.cells #[.int .u64 bi, .int .u64 bm] 36)) (fun h => h)) (fun h => h)
  rw [show (w.alloc (.cells #[.int .u64 ai, .int .u64 am] 36)).heap.size = w.heap.size + 1 by simp] at bb
  have HK1 : Hid (Keep (fun _ => False) w w1) := Lib.hid (((((Keep.refl (fun _ => False) w).alloc _).alloc _).alloc _).step hk1)
  clear hk1
  go_wp2_with fail
  refine (shown_any _).mono ?_
  rintro r w2 ⟨rfl, hk2⟩
  have ba2 := hk2.old ba (fun h => h)
  have bb2 := hk2.old bb (fun h => h)
  have a0 : w2.cell? ⟨w.heap.size, 0, none⟩ = some (.int .u64 ai) := by simp [World.cell?, ba2]
  have a1 : w2.cell? ⟨w.heap.size, 1, none⟩ = some (.int .u64 am) := by simp [World.cell?, ba2]
  have b0 : w2.cell? ⟨w.heap.size + 1, 0, none⟩ = some (.int .u64 bi) := by simp [World.cell?, bb2]
  have b1 : w2.cell? ⟨w.heap.size + 1, 1, none⟩ = some (.int .u64 bm) := by simp [World.cell?, bb2]
  have HK2 := Lib.hid (HK1.out.step hk2)
  clear hk2 ba bb ba2 bb2
  go_upto_region 8 with fail
  rcases LAW.out with ⟨g1, g2⟩ | ⟨g1, g2, g3⟩ | ⟨g1, g2, g3, g4 | g4⟩
  · rw [g1]
    clear e1
    rw [g2]
    clear g1 g2
    go_wp2
    go_ret
    exact ⟨rfl, HK2.out⟩
  · rw [g1]
    clear e1
    rw [g3]
    clear g1 g3
    cases h : hasP bm k
    · clear e2
      clear g2 h
      go_wp2
      go_ret
      exact ⟨rfl, HK2.out⟩
    · clear e2
      have h3 : bi ≤ ai := by
        rcases g2 with g | g
        · rw [h] at g; cases g
        · exact g
      have d1 : decide (bi ≤ ai) = true := decide_eq_true h3
      clear g2 h
      go_wp2
      go_ret
      exact ⟨rfl, HK2.out⟩
  · rw [g1]
    clear e1
    rw [g2]
    clear e2
    rw [g4]
    have d1 : decide (bi ≤ ai) = false := decide_eq_false (by omega)
    clear g1 g2 g4
    go_wp2
    go_ret
    exact ⟨rfl, HK2.out⟩
  · rw [g1]
    clear e1
    rw [g2]
    clear e2
    rw [g4]
    have d1 : decide (bi ≤ ai) = false := decide_eq_false (by omega)
    clear g1 g2 g4
    go_wp2
    go_ret
    exact ⟨rfl, HK2.out⟩

end Go.Proofs.Ytjihimapopbdpaa
