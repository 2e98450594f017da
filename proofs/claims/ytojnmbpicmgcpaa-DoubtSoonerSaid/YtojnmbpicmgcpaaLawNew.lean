/- DoubtNew, walked. -/
import Derived.Test.YtojnmbpicmgcpaaShown
namespace Go.Proofs.Ytojnmbpicmgcpaa
open Go.RowKit Sh
set_option linter.unusedVariables false

theorem all_one {w w' : World} {v : Value} {x : Db} {L : List Db} (h : AllIs w w' v [x] L) : ∃ g c, v = .slice (some ⟨g, 0, none⟩) 1 c ∧ w.heap.size ≤ g ∧ DRow w' g [x] ∧ Keep (fun _ => False) w w' := by
  have e1 : L = [x] := List.perm_singleton.1 h.perm
  subst e1
  obtain ⟨A, c, rfl, hc, hr⟩ := h.row
  obtain ⟨g, rfl, hg, hd⟩ := hr (by simp)
  exact ⟨g, c, rfl, hg, hd, h.keep⟩

set_option maxRecDepth 100000 in
set_option maxHeartbeats 4000000 in
theorem new_law (a b now nodes : Int) (ha : 0 ≤ a ∧ a ≤ 4294967295) (hb : 0 ≤ b ∧ b ≤ 4294967295) (hn : 0 ≤ now ∧ now ≤ 4294967295) (hd : 0 ≤ nodes ∧ nodes ≤ 255) (w : World) :
    Calls Try.prog 6 #[.int .u32 a, .int .u32 b, .int .u32 now, .int .u8 nodes] w fun e w' => e = .returned (.bool true) ∧ Keep (fun _ => False) w w' := by
  have w1 : IntKind.u64.wrap a = a := by rw [IntKind.wrap_u64]; omega
  have w2 : IntKind.u64.wrap b = b := by rw [IntKind.wrap_u64]; omega
  have w3 : IntKind.u64.wrap now = now := by rw [IntKind.wrap_u64]; omega
  have w4 : IntKind.u64.wrap (now + 5) = now + 5 := by rw [IntKind.wrap_u64]; omega
  have w5 : IntKind.i64.wrap nodes = nodes := by rw [IntKind.wrap_i64]; omega
  have WT := Lib.hid (waitis_some 4611686018427387904 nodes (by omega) (by omega))
  have HA := Lib.hid ha
  have HBB := Lib.hid hb
  have HN := Lib.hid hn
  clear ha hb hn hd
  go_enter Try.func6, Try.ntmps6
  go_wp2_with fail
  obtain ⟨W1, hW1⟩ : ∃ W1, W1 = ((w.alloc (.cells #[.map none] 27)).alloc (.cells #[.int .i64 4, .int .u64 a, .int .i64 1] 34)).alloc (.cells #[.int .i64 4, .int .u64 b, .int .i64 1] 34) := ⟨_, rfl⟩
  rw [← hW1]
  have k1 : Keep (fun _ => False) w W1 := by rw [hW1]; exact (((Keep.refl _ w).alloc _).alloc _).alloc _
  have q1 : IsQ W1 w.heap.size none [] := by rw [hW1]; exact (IsQ.fresh w).keep0 (((Keep.refl _ _).alloc _).alloc _)
  have x1 : W1.heap[w.heap.size + 1]? = some (.cells #[.int .i64 4, .int .u64 a, .int .i64 1] 34 (0, 0)) := by
    rw [hW1]
    have := ((Keep.refl (fun _ => False) _).alloc (.cells #[.int .i64 4, .int .u64 b, .int .i64 1] 34)).old (heap_alloc_new (w.alloc (.cells #[.map none] 27)) (.cells #[.int .i64 4, .int .u64 a, .int .i64 1] 34)) id
    simpa using this
  have y1 : W1.heap[w.heap.size + 1 + 1]? = some (.cells #[.int .i64 4, .int .u64 b, .int .i64 1] 34 (0, 0)) := by
    rw [hW1]
    have := heap_alloc_new ((w.alloc (.cells #[.map none] 27)).alloc (.cells #[.int .i64 4, .int .u64 a, .int .i64 1] 34)) (.cells #[.int .i64 4, .int .u64 b, .int .i64 1] 34)
    simpa using this
  have s1 : W1.heap.size = w.heap.size + 3 := by rw [hW1]; simp
  clear hW1
  refine (raise_new q1 WT.out 4 a 1 now (by omega) (by omega) (by have := HN.out; omega) (by simp)).mono ?_
  rintro e W2 ⟨rfl, ⟨B, t, _, hq, hB⟩, hk⟩
  have hq' : IsQ W2 w.heap.size (some B) [⟨4, a, 1, 2, now, 0, sat now t⟩] := hq
  have hBs : w.heap.size + 3 ≤ B := by
    rcases hB with h | ⟨_, h⟩
    · cases h
    · omega
  have Q2 := Lib.hid hq'
  have X2 := Lib.hid (hk.old x1 (by rintro (h | h) <;> first | omega | cases h))
  have Y2 := Lib.hid (hk.old y1 (by rintro (h | h) <;> first | omega | cases h))
  have K2 := Lib.hid (Keep.drop k1 hk (Nat.le_refl _) (fun B h => by cases h))
  have HBS := Lib.hid hBs
  have y0 : W2.cell? ⟨w.heap.size + 1 + 1, 0, none⟩ = some (.int .i64 4) := by have := Y2.out; simp [World.cell?, this]
  have y1' : W2.cell? ⟨w.heap.size + 1 + 1, 1, none⟩ = some (.int .u64 b) := by have := Y2.out; simp [World.cell?, this]
  have y2 : W2.cell? ⟨w.heap.size + 1 + 1, 2, none⟩ = some (.int .i64 1) := by have := Y2.out; simp [World.cell?, this]
  generalize sat now t = u0 at Q2
  clear hq hq' hk hB q1 x1 y1 k1 s1 hBs
  go_wp2_with fail
  rcases Int.lt_trichotomy a b with hab | hab | hab
  · -- a later one
    refine (raise_new Q2.out WT.out 4 b 1 (now + 5) (by omega) (by omega) (by have := HN.out; omega) (by simp; exact hab)).mono ?_
    rintro e W3 ⟨rfl, ⟨B2, t2, _, hq, hB⟩, hk⟩
    have hq' : IsQ W3 w.heap.size (some B2) [⟨4, b, 1, 2, now + 5, 0, sat (now + 5) t2⟩] := by
      have e : putL [(⟨4, a, 1, 2, now, 0, u0⟩ : Db)] ⟨4, b, 1, 2 ^ 1, now + 5, 0, sat (now + 5) t2⟩ = [⟨4, b, 1, 2, now + 5, 0, sat (now + 5) t2⟩] := by simp [putL]
      rw [← e]; exact hq
    have Q3 := Lib.hid hq'
    have Y3 := Lib.hid (hk.old Y2.out (by rintro (h | h) <;> first | omega | (injection h with h; have := HBS.out; omega)))
    have K3 := Lib.hid (Keep.drop K2.out hk (Nat.le_refl _) (fun B' h => by injection h with h; have := HBS.out; omega))
    generalize sat (now + 5) t2 = u1 at Q3
    have d1 : decide (a < b) = true := decide_eq_true hab
    clear hq hq' hk hB y0 y1' y2 X2 Y2 K2 Q2
    go_wp2_with fail
    refine (all_any Q3.out (by simp)).mono ?_
    rintro e W4 ⟨v, L, rfl, hA⟩
    obtain ⟨g, c, rfl, hg, hdr, hk4⟩ := all_one hA
    have Y4 := Lib.hid (hk4.old Y3.out id)
    have K4 := Lib.hid (K3.out.step hk4)
    have DR := Lib.hid hdr
    clear hA hk4 hdr hg Y3 K3 Q3
    go_wp2_with fail
    refine (shown10 _).mono ?_
    rintro e W5 ⟨rfl, hk5⟩
    have K5 := Lib.hid (K4.out.step hk5).drew
    have y0 : W5.drew.cell? ⟨w.heap.size + 1 + 1, 0, none⟩ = some (.int .i64 4) := by have := hk5.old Y4.out id; show W5.cell? _ = _; simp [World.cell?, this]
    have y1 : W5.drew.cell? ⟨w.heap.size + 1 + 1, 1, none⟩ = some (.int .u64 b) := by have := hk5.old Y4.out id; show W5.cell? _ = _; simp [World.cell?, this]
    have y2 : W5.drew.cell? ⟨w.heap.size + 1 + 1, 2, none⟩ = some (.int .i64 1) := by have := hk5.old Y4.out id; show W5.cell? _ = _; simp [World.cell?, this]
    have hd5 := DR.out.keep hk5.drew id
    have r0 := hd5 0 (by simp) 0 (by omega)
    have r1 := hd5 0 (by simp) 1 (by omega)
    have r2 := hd5 0 (by simp) 2 (by omega)
    have r4 := hd5 0 (by simp) 4 (by omega)
    have r5 := hd5 0 (by simp) 5 (by omega)
    simp only [db, dbC, List.getD_cons_zero, Nat.zero_mul, Nat.zero_add, List.getElem?_cons_zero, List.getElem?_cons_succ] at r0 r1 r2 r4 r5
    have heq := eq34 W5.drew 4 b 1
    have t3 : (now + 5 == now + 5) = true := by simp
    clear hk5 hd5 DR Y4 K4
    go_upto_region 10 with fail
    refine sb_lit (by kernel_rfl) (by kernel_rfl) ?_
    repeat (refine sb_step (fun K hK => ?_); go_simp; refine hK _ ?_; clear hK K)
    try refine sb_nil ?_
    go_wp2
    go_ret
    exact ⟨rfl, K5.out⟩
  · subst hab
    refine (raise_same Q2.out 4 a (now + 5) (by omega) ⟨4, a, 1, 2, now, 0, u0⟩ (by simp) rfl rfl rfl).mono ?_
    rintro e W3 ⟨rfl, hk⟩
    have Q3 := Lib.hid (Q2.out.keep0 hk)
    have X3 := Lib.hid (hk.old X2.out id)
    have K3 := Lib.hid (K2.out.step hk)
    have d1 : decide (a < a) = false := by simp
    have d2 : (a == a) = true := by simp
    clear hk y0 y1' y2 X2 Y2 K2 Q2
    go_wp2_with fail
    refine (all_any Q3.out (by simp)).mono ?_
    rintro e W4 ⟨v, L, rfl, hA⟩
    obtain ⟨g, c, rfl, hg, hdr, hk4⟩ := all_one hA
    have X4 := Lib.hid (hk4.old X3.out id)
    have K4 := Lib.hid (K3.out.step hk4)
    have DR := Lib.hid hdr
    clear hA hk4 hdr hg X3 K3 Q3
    go_wp2_with fail
    refine (shown10 _).mono ?_
    rintro e W5 ⟨rfl, hk5⟩
    have K5 := Lib.hid (K4.out.step hk5).drew
    have y0 : W5.drew.cell? ⟨w.heap.size + 1, 0, none⟩ = some (.int .i64 4) := by have := hk5.old X4.out id; show W5.cell? _ = _; simp [World.cell?, this]
    have y1 : W5.drew.cell? ⟨w.heap.size + 1, 1, none⟩ = some (.int .u64 a) := by have := hk5.old X4.out id; show W5.cell? _ = _; simp [World.cell?, this]
    have y2 : W5.drew.cell? ⟨w.heap.size + 1, 2, none⟩ = some (.int .i64 1) := by have := hk5.old X4.out id; show W5.cell? _ = _; simp [World.cell?, this]
    have hd5 := DR.out.keep hk5.drew id
    have r0 := hd5 0 (by simp) 0 (by omega)
    have r1 := hd5 0 (by simp) 1 (by omega)
    have r2 := hd5 0 (by simp) 2 (by omega)
    have r4 := hd5 0 (by simp) 4 (by omega)
    simp only [db, dbC, List.getD_cons_zero, Nat.zero_mul, Nat.zero_add, List.getElem?_cons_zero, List.getElem?_cons_succ] at r0 r1 r2 r4
    have heq := eq34 W5.drew 4 a 1
    have t3 : (now == now) = true := by simp
    clear hk5 hd5 DR X4 K4
    go_upto_region 12 with fail
    refine sb_lit (by kernel_rfl) (by kernel_rfl) ?_
    repeat (refine sb_step (fun K hK => ?_); go_simp; refine hK _ ?_; clear hK K)
    try refine sb_nil ?_
    go_wp2
    go_ret
    exact ⟨rfl, K5.out⟩
  · refine (raise_old Q2.out 4 b 1 (now + 5) (by omega) (by omega) ⟨4, a, 1, 2, now, 0, u0⟩ (by simp) rfl hab).mono ?_
    rintro e W3 ⟨rfl, hk⟩
    have Q3 := Lib.hid (Q2.out.keep0 hk)
    have X3 := Lib.hid (hk.old X2.out id)
    have K3 := Lib.hid (K2.out.step hk)
    have d1 : decide (a < b) = false := decide_eq_false (by omega)
    have d2 : (b == a) = false := by rw [beq_eq_false_iff_ne]; omega
    have d3 : ¬ b = a := by omega
    clear hk y0 y1' y2 X2 Y2 K2 Q2
    go_wp2_with fail
    refine (all_any Q3.out (by simp)).mono ?_
    rintro e W4 ⟨v, L, rfl, hA⟩
    obtain ⟨g, c, rfl, hg, hdr, hk4⟩ := all_one hA
    have X4 := Lib.hid (hk4.old X3.out id)
    have K4 := Lib.hid (K3.out.step hk4)
    have DR := Lib.hid hdr
    clear hA hk4 hdr hg X3 K3 Q3
    go_wp2_with fail
    refine (shown10 _).mono ?_
    rintro e W5 ⟨rfl, hk5⟩
    have K5 := Lib.hid (K4.out.step hk5).drew
    have y0 : W5.drew.cell? ⟨w.heap.size + 1, 0, none⟩ = some (.int .i64 4) := by have := hk5.old X4.out id; show W5.cell? _ = _; simp [World.cell?, this]
    have y1 : W5.drew.cell? ⟨w.heap.size + 1, 1, none⟩ = some (.int .u64 a) := by have := hk5.old X4.out id; show W5.cell? _ = _; simp [World.cell?, this]
    have y2 : W5.drew.cell? ⟨w.heap.size + 1, 2, none⟩ = some (.int .i64 1) := by have := hk5.old X4.out id; show W5.cell? _ = _; simp [World.cell?, this]
    have hd5 := DR.out.keep hk5.drew id
    have r0 := hd5 0 (by simp) 0 (by omega)
    have r1 := hd5 0 (by simp) 1 (by omega)
    have r2 := hd5 0 (by simp) 2 (by omega)
    have r4 := hd5 0 (by simp) 4 (by omega)
    simp only [db, dbC, List.getD_cons_zero, Nat.zero_mul, Nat.zero_add, List.getElem?_cons_zero, List.getElem?_cons_succ] at r0 r1 r2 r4
    have heq := eq34 W5.drew 4 a 1
    have t3 : (now == now) = true := by simp
    clear hk5 hd5 DR X4 K4
    go_upto_region 13 with fail
    refine sb_lit (by kernel_rfl) (by kernel_rfl) ?_
    repeat (refine sb_step (fun K hK => ?_); go_simp; refine hK _ ?_; clear hK K)
    try refine sb_nil ?_
    go_wp2
    go_ret
    exact ⟨rfl, K5.out⟩

theorem wf_u32 {n : Int} (h : (Lit.int .u32 n).wf = true) : 0 ≤ n ∧ n ≤ 4294967295 := by
  simp [Lit.wf, IntKind.min, IntKind.max, IntKind.bits, IntKind.signed] at h
  omega
theorem wf_u8 {n : Int} (h : (Lit.int .u8 n).wf = true) : 0 ≤ n ∧ n ≤ 255 := by
  simp [Lit.wf] at h
  exact h
theorem new_row (a0 a1 a2 a3 : Int) (w0 : (Lit.int .u32 a0).wf = true) (w1 : (Lit.int .u32 a1).wf = true) (w2 : (Lit.int .u32 a2).wf = true) (w3 : (Lit.int .u8 a3).wf = true) (w : World) :
    Calls Try.prog 6 #[.int .u32 a0, .int .u32 a1, .int .u32 a2, .int .u8 a3] w fun e w' => e = .returned (.bool true) ∧ Below w.heap.size w w' :=
  (new_law a0 a1 a2 a3 (wf_u32 w0) (wf_u32 w1) (wf_u32 w2) (wf_u8 w3) w).mono fun _ _ ⟨h1, h2⟩ => ⟨h1, h2.below⟩

end Go.Proofs.Ytojnmbpicmgcpaa
