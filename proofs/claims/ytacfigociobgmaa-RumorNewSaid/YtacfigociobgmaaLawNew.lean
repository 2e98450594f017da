/- RumorNew, walked. -/
import Derived.Test.YtacfigociobgmaaEqs
namespace Go.Proofs.Ytacfigociobgmaa
open Go.RowKit Sh
set_option linter.unusedVariables false

theorem cap64 : capI 64 = 21 := by decide
theorem take_one {w w' : World} {q : Nat} {mb : Option Nat} {v : Value} {nodes : Int} {x : It} {L : List It} {k : Nat} (h : TakeDone w w' q mb v 1 nodes [x] L k) (hx : x.t + 1 < capI nodes) : IsQ w' q mb [⟨x.n, x.i, x.s, x.t + 1⟩] := by
  have e1 : L = [x] := List.perm_singleton.1 h.perm
  subst e1
  have e2 : k = 1 := by have := h.hk; simp at this; omega
  subst e2
  have := h.que
  simpa [tellL, hx, putL] using this

set_option maxRecDepth 100000 in
set_option maxHeartbeats 2000000 in
theorem new_law (node a b takes : Int) (hn : 0 ≤ node ∧ node ≤ 255) (ha : 0 ≤ a ∧ a ≤ 255) (hb : 0 ≤ b ∧ b ≤ 255) (ht : 0 ≤ takes ∧ takes ≤ 255) (w : World) :
    Calls Try.prog 4 #[.int .u8 node, .int .u8 a, .int .u8 b, .int .u8 takes] w fun e w' => e = .returned (.bool true) ∧ Keep (fun _ => False) w w' := by
  have w1 : IntKind.i64.wrap node = node := by rw [IntKind.wrap_i64]; omega
  have w2 : IntKind.i64.wrap a = a := by rw [IntKind.wrap_i64]; omega
  have w3 : IntKind.i64.wrap b = b := by rw [IntKind.wrap_i64]; omega
  have w4 : IntKind.i64.wrap takes = takes := by rw [IntKind.wrap_i64]; omega
  have w5 : IntKind.u64.wrap a = a := by rw [IntKind.wrap_u64]; omega
  have w6 : IntKind.u64.wrap b = b := by rw [IntKind.wrap_u64]; omega
  obtain ⟨n, hnn⟩ : ∃ n, n = node.tmod 64 := ⟨_, rfl⟩
  obtain ⟨xi, hxi⟩ : ∃ n, n = a.tdiv 4 := ⟨_, rfl⟩
  obtain ⟨xs, hxs⟩ : ∃ n, n = a.tmod 4 := ⟨_, rfl⟩
  obtain ⟨yi, hyi⟩ : ∃ n, n = b.tdiv 4 := ⟨_, rfl⟩
  obtain ⟨ys, hys⟩ : ∃ n, n = b.tmod 4 := ⟨_, rfl⟩
  obtain ⟨t5, ht5⟩ : ∃ n, n = takes.tmod 5 := ⟨_, rfl⟩
  have n0 : node.tmod 64 = n := hnn.symm
  have n1 : a.tdiv 4 = xi := hxi.symm
  have n2 : a.tmod 4 = xs := hxs.symm
  have n3 : b.tdiv 4 = yi := hyi.symm
  have n4 : b.tmod 4 = ys := hys.symm
  have n5 : takes.tmod 5 = t5 := ht5.symm
  rw [Int.tmod_eq_emod_of_nonneg hn.1] at hnn
  rw [Int.tdiv_eq_ediv_of_nonneg ha.1] at hxi
  rw [Int.tmod_eq_emod_of_nonneg ha.1] at hxs
  rw [Int.tdiv_eq_ediv_of_nonneg hb.1] at hyi
  rw [Int.tmod_eq_emod_of_nonneg hb.1] at hys
  rw [Int.tmod_eq_emod_of_nonneg ht.1] at ht5
  have r5 : 0 ≤ t5 ∧ t5 ≤ 4 := by omega
  have MX : Hid (mayU n xs = true) := Lib.hid (by simp [mayU]; omega)
  have MY : Hid (mayU n ys = true) := Lib.hid (by simp [mayU]; omega)
  have NW : Hid (newI yi ys xi xs = decide (a < b)) := Lib.hid (by rw [newI_eq]; exact decide_eq_decide.2 (by omega))
  have wxi : IntKind.u64.wrap xi = xi := by rw [IntKind.wrap_u64]; omega
  have wyi : IntKind.u64.wrap yi = yi := by rw [IntKind.wrap_u64]; omega
  have wxs : IntKind.i64.wrap xs = xs := by rw [IntKind.wrap_i64]; omega
  have wys : IntKind.i64.wrap ys = ys := by rw [IntKind.wrap_i64]; omega
  have wn : IntKind.i64.wrap n = n := by rw [IntKind.wrap_i64]; omega
  have w55 : IntKind.i64.wrap t5 = t5 := by rw [IntKind.wrap_i64]; omega
  clear hnn hxi hxs hyi hys ht5
  go_enter Try.func4, Try.ntmps4
  go_wp2_with fail
  obtain ⟨W1, hW1⟩ : ∃ W1, W1 = ((w.alloc (.cells #[.map none] 27)).alloc (.cells #[.int .i64 n, .int .u64 xi, .int .i64 xs] 33)).alloc (.cells #[.int .i64 n, .int .u64 yi, .int .i64 ys] 33) := ⟨_, rfl⟩
  rw [← hW1]
  have k1 : Keep (fun _ => False) w W1 := by rw [hW1]; exact (((Keep.refl _ w).alloc _).alloc _).alloc _
  have q1 : IsQ W1 w.heap.size none [] := by rw [hW1]; exact (IsQ.fresh w).keep0 (((Keep.refl _ _).alloc _).alloc _)
  have x1 : W1.heap[w.heap.size + 1]? = some (.cells #[.int .i64 n, .int .u64 xi, .int .i64 xs] 33 (0, 0)) := by
    rw [hW1]
    have := ((Keep.refl (fun _ => False) _).alloc (.cells #[.int .i64 n, .int .u64 yi, .int .i64 ys] 33)).old (heap_alloc_new (w.alloc (.cells #[.map none] 27)) (.cells #[.int .i64 n, .int .u64 xi, .int .i64 xs] 33)) id
    simpa using this
  have y1 : W1.heap[w.heap.size + 1 + 1]? = some (.cells #[.int .i64 n, .int .u64 yi, .int .i64 ys] 33 (0, 0)) := by
    rw [hW1]
    have := heap_alloc_new ((w.alloc (.cells #[.map none] 27)).alloc (.cells #[.int .i64 n, .int .u64 xi, .int .i64 xs] 33)) (.cells #[.int .i64 n, .int .u64 yi, .int .i64 ys] 33)
    simpa using this
  have s1 : W1.heap.size = w.heap.size + 3 := by rw [hW1]; simp
  clear hW1
  refine (put_new q1 (by simp) n xi xs MX.out (by simp)).mono ?_
  rintro e W2 ⟨rfl, ⟨L, B, hL, hs, hq, hB⟩, hk⟩
  have e1 : L = [⟨n, xi, xs, 0⟩] := by
    rw [show putL [] ⟨n, xi, xs, 0⟩ = [(⟨n, xi, xs, 0⟩ : It)] from rfl, List.perm_singleton] at hL
    exact hL
  subst e1
  have hBs : w.heap.size + 3 ≤ B := by
    rcases hB with h | ⟨_, h⟩
    · cases h
    · omega
  have Q2 : Hid (IsQ W2 w.heap.size (some B) [⟨n, xi, xs, 0⟩]) := Lib.hid hq
  have X2 := Lib.hid (hk.old x1 (by rintro (h | h) <;> first | omega | cases h))
  have Y2 := Lib.hid (hk.old y1 (by rintro (h | h) <;> first | omega | cases h))
  have K2 := Lib.hid (Keep.drop k1 hk (Nat.le_refl _) (fun B h => by cases h))
  have HBS := Lib.hid hBs
  clear hq hk hL hs hB q1 x1 y1 k1 s1 hBs
  go_wp2_with fail
  refine (shown8 _).mono ?_
  rintro e W3 ⟨rfl, hk⟩
  have Q3 := Lib.hid (Q2.out.keep0 hk)
  have X3 := Lib.hid (hk.old X2.out id)
  have Y3 := Lib.hid (hk.old Y2.out id)
  have K3 := Lib.hid (K2.out.step hk)
  clear hk Q2 X2 Y2 K2
  go_wp2_with fail
  go_loopg [13] t5.toNat (fun z v13 wr => ∃ i : Int, v13 = .int .i64 i ∧ 0 ≤ i ∧ i + z = t5 ∧ IsQ wr w.heap.size (some B) [⟨n, xi, xs, i⟩] ∧ wr.heap[w.heap.size + 1]? = some (.cells #[.int .i64 n, .int .u64 xi, .int .i64 xs] 33 (0, 0)) ∧ wr.heap[w.heap.size + 1 + 1]? = some (.cells #[.int .i64 n, .int .u64 yi, .int .i64 ys] 33 (0, 0)) ∧ Keep (fun _ => False) w wr)
  case atStart => exact ⟨0, rfl, Int.le_refl _, by omega, Q3.out, X3.out, Y3.out, K3.out⟩
  case round =>
    obtain ⟨i, rfl, hi0, hiz, hq, hx, hy, hk⟩ := hrel
    have Q4 := Lib.hid hq
    have X4 := Lib.hid hx
    have Y4 := Lib.hid hy
    have K4 := Lib.hid hk
    have HZ := Lib.hid hiz
    clear hq hx hy hk Q3 X3 Y3 K3 hiz
    have hzz := HZ.out
    by_cases hlt : i < t5
    · have t1 : decide (i < t5) = true := decide_eq_true hlt
      have e1 : IntKind.i64.wrap (i + 1) = i + 1 := by rw [IntKind.wrap_i64]; omega
      clear hzz
      go_wp2_with fail
      refine (take_any Q4.out (by simp) (by simp; omega) 1 64 (by omega) (by omega)).mono ?_
      rintro e W5 ⟨v, L, k, rfl, hd⟩
      have hq5 := take_one hd (by rw [cap64]; simp only; omega)
      have Q5 := Lib.hid hq5
      have X5 := Lib.hid (hd.keep.old X4.out (by rintro (h | h) <;> first | omega | (injection h with h; have := HBS.out; omega)))
      have Y5 := Lib.hid (hd.keep.old Y4.out (by rintro (h | h) <;> first | omega | (injection h with h; have := HBS.out; omega)))
      have K5 := Lib.hid (Keep.drop K4.out hd.keep (Nat.le_refl _) (fun B' h => by injection h with h; have := HBS.out; omega))
      clear hd hq5
      go_wp2
      go_roundg (t5 - (i + 1)).toNat
      case measure => have := HZ.out; omega
      case rel => exact ⟨i + 1, rfl, by omega, by have := HZ.out; omega, Q5.out, X5.out, Y5.out, K5.out⟩
    · obtain rfl : t5 = i := by omega
      have t1 : decide (t5 < t5) = false := by simp
      have c0 : ∀ W, Keep (QS w.heap.size (some B)) wr W → W.heap[w.heap.size + 1 + 1]? = some (.cells #[.int .i64 n, .int .u64 yi, .int .i64 ys] 33 (0, 0)) := fun W h => h.old Y4.out (by rintro (h | h) <;> first | omega | (injection h with h; have := HBS.out; omega))
      have c1 : ∀ W, Keep (QS w.heap.size (some B)) wr W → W.heap[w.heap.size + 1]? = some (.cells #[.int .i64 n, .int .u64 xi, .int .i64 xs] 33 (0, 0)) := fun W h => h.old X4.out (by rintro (h | h) <;> first | omega | (injection h with h; have := HBS.out; omega))
      have y0 : wr.cell? ⟨w.heap.size + 1 + 1, 0, none⟩ = some (.int .i64 n) := by have := Y4.out; simp [World.cell?, this]
      have y1 : wr.cell? ⟨w.heap.size + 1 + 1, 1, none⟩ = some (.int .u64 yi) := by have := Y4.out; simp [World.cell?, this]
      have y2 : wr.cell? ⟨w.heap.size + 1 + 1, 2, none⟩ = some (.int .i64 ys) := by have := Y4.out; simp [World.cell?, this]
      have C0 := Lib.hid c0
      have C1 := Lib.hid c1
      have DROP : Hid (∀ W, Keep (QS w.heap.size (some B)) wr W → Keep (fun _ => False) w W) := Lib.hid (fun W h => Keep.drop K4.out h (Nat.le_refl _) (fun B' h => by injection h with h; have := HBS.out; omega))
      clear c0 c1 hzz hlt
      by_cases hab : a < b
      · have nw : newI yi ys xi xs = true := by rw [NW.out]; exact decide_eq_true hab
        have t2 : decide (a < b) = true := decide_eq_true hab
        go_wp2_with fail
        refine (put_new Q4.out (by simp) n yi ys MY.out (by simp; exact nw)).mono ?_
        rintro e W6 ⟨rfl, ⟨L, B2, hL, hs, hq, hB⟩, hk⟩
        have e1 : L = [⟨n, yi, ys, 0⟩] := by
          rw [show putL [⟨n, xi, xs, t5⟩] ⟨n, yi, ys, 0⟩ = [(⟨n, yi, ys, 0⟩ : It)] by simp [putL], List.perm_singleton] at hL
          exact hL
        subst e1
        have Q6 : Hid (IsQ W6 w.heap.size (some B2) [⟨n, yi, ys, 0⟩]) := Lib.hid hq
        have K6 := Lib.hid hk
        clear hL hs hq hB hk y0 y1 y2 nw
        go_wp2_with fail
        refine (items_any Q6.out (by simp)).mono ?_
        rintro e W7 ⟨v, L, rfl, hI⟩
        obtain ⟨hIp, hIs, ⟨g, c, rfl, hg, hc, hrow⟩, hk7⟩ := hI
        have e1 : L = [⟨n, yi, ys, 0⟩] := List.perm_singleton.1 hIp
        subst e1
        obtain ⟨r0, r1, r2, r3⟩ := hrow 0 (by simp)
        have kk := K6.out.trans hk7 (fun _ h _ => absurd h id)
        have y0 : W7.drew.cell? ⟨w.heap.size + 1 + 1, 0, none⟩ = some (.int .i64 n) := by have := C0.out _ kk; show W7.cell? _ = _; simp [World.cell?, this]
        have y1 : W7.drew.cell? ⟨w.heap.size + 1 + 1, 1, none⟩ = some (.int .u64 yi) := by have := C0.out _ kk; show W7.cell? _ = _; simp [World.cell?, this]
        have y2 : W7.drew.cell? ⟨w.heap.size + 1 + 1, 2, none⟩ = some (.int .i64 ys) := by have := C0.out _ kk; show W7.cell? _ = _; simp [World.cell?, this]
        have K7 := Lib.hid (DROP.out _ kk).drew
        have heq := eq33 W7.drew n yi ys
        simp only [it, List.getD_cons_zero, Nat.zero_mul, Nat.zero_add] at r0 r1 r2 r3
        have r0 : W7.drew.cell? ⟨g, 0, none⟩ = _ := r0
        have r1 : W7.drew.cell? ⟨g, 1, none⟩ = _ := r1
        have r2 : W7.drew.cell? ⟨g, 2, none⟩ = _ := r2
        have r3 : W7.drew.cell? ⟨g, 3, none⟩ = _ := r3
        clear hIp hIs hg hrow hk7 kk
        go_upto_region 16 with fail
        refine sb_lit (by kernel_rfl) (by kernel_rfl) ?_
        repeat (refine sb_step (fun K hK => ?_); go_simp; refine hK _ ?_; clear hK K)
        try refine sb_nil ?_
        go_wp2
        go_ret
        exact ⟨rfl, K7.out⟩
      · have nw : newI yi ys xi xs = false := by rw [NW.out]; exact decide_eq_false hab
        have t2 : decide (a < b) = false := decide_eq_false hab
        go_wp2_with fail
        refine (put_old Q4.out n yi ys MY.out ⟨n, xi, xs, t5⟩ (by simp) rfl nw).mono ?_
        rintro e W6 ⟨rfl, hk⟩
        have Q6 := Lib.hid (Q4.out.keep0 hk)
        have K6 := Lib.hid (hk.mono (T := QS w.heap.size (some B)) (fun _ h _ => absurd h id))
        clear hk y0 y1 y2 nw
        go_wp2_with fail
        refine (items_any Q6.out (by simp)).mono ?_
        rintro e W7 ⟨v, L, rfl, hI⟩
        obtain ⟨hIp, hIs, ⟨g, c, rfl, hg, hc, hrow⟩, hk7⟩ := hI
        have e1 : L = [⟨n, xi, xs, t5⟩] := List.perm_singleton.1 hIp
        subst e1
        obtain ⟨r0, r1, r2, r3⟩ := hrow 0 (by simp)
        have kk := K6.out.trans hk7 (fun _ h _ => absurd h id)
        have y0 : W7.drew.cell? ⟨w.heap.size + 1, 0, none⟩ = some (.int .i64 n) := by have := C1.out _ kk; show W7.cell? _ = _; simp [World.cell?, this]
        have y1 : W7.drew.cell? ⟨w.heap.size + 1, 1, none⟩ = some (.int .u64 xi) := by have := C1.out _ kk; show W7.cell? _ = _; simp [World.cell?, this]
        have y2 : W7.drew.cell? ⟨w.heap.size + 1, 2, none⟩ = some (.int .i64 xs) := by have := C1.out _ kk; show W7.cell? _ = _; simp [World.cell?, this]
        have K7 := Lib.hid (DROP.out _ kk).drew
        have heq := eq33 W7.drew n xi xs
        have t3 : (t5 == t5) = true := by simp
        simp only [it, List.getD_cons_zero, Nat.zero_mul, Nat.zero_add] at r0 r1 r2 r3
        have r0 : W7.drew.cell? ⟨g, 0, none⟩ = _ := r0
        have r1 : W7.drew.cell? ⟨g, 1, none⟩ = _ := r1
        have r2 : W7.drew.cell? ⟨g, 2, none⟩ = _ := r2
        have r3 : W7.drew.cell? ⟨g, 3, none⟩ = _ := r3
        clear hIp hIs hg hrow hk7 kk
        go_upto_region 17 with fail
        refine sb_lit (by kernel_rfl) (by kernel_rfl) ?_
        repeat (refine sb_step (fun K hK => ?_); go_simp; refine hK _ ?_; clear hK K)
        try refine sb_nil ?_
        go_wp2
        go_ret
        exact ⟨rfl, K7.out⟩

theorem wf_u8 {n : Int} (h : (Lit.int .u8 n).wf = true) : 0 ≤ n ∧ n ≤ 255 := by
  simp [Lit.wf] at h
  exact h
theorem new_row (a0 a1 a2 a3 : Int) (w0 : (Lit.int .u8 a0).wf = true) (w1 : (Lit.int .u8 a1).wf = true) (w2 : (Lit.int .u8 a2).wf = true) (w3 : (Lit.int .u8 a3).wf = true) (w : World) :
    Calls Try.prog 4 #[.int .u8 a0, .int .u8 a1, .int .u8 a2, .int .u8 a3] w fun e w' => e = .returned (.bool true) ∧ Below w.heap.size w w' :=
  (new_law a0 a1 a2 a3 (wf_u8 w0) (wf_u8 w1) (wf_u8 w2) (wf_u8 w3) w).mono fun _ _ ⟨h1, h2⟩ => ⟨h1, h2.below⟩

end Go.Proofs.Ytacfigociobgmaa
