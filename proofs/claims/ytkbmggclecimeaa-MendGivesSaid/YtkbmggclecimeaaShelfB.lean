/- Walks of the shelf's functions: Get, Low, Reach, Trim. -/
import Derived.Test.YtkbmggclecimeaaShelfA
namespace Go.Proofs.Ytkbmggclecimeaa
open Go.RowKit Sh
set_option linter.unusedVariables false
attribute [local irreducible] Go.wpStill

set_option maxHeartbeats 400000 in
theorem low_any (b : Nat) (st : St) (w : World) (h : IsShelf w b st) :
    Calls Try.prog 16 #[.pointer (some ⟨b, 0, none⟩)] w fun e w' => e = .returned (.int .u64 st.low) ∧ w = w' := by
  have hc := h.low
  clear h
  go_enter Try.func16, Try.ntmps16
  go_wp2
  go_ret
  exact ⟨rfl, rfl⟩

set_option maxHeartbeats 400000 in
theorem get_old (b : Nat) (st : St) (n : Int) (w : World) (h : IsShelf w b st) (ho : St.ok st) (n0 : 0 < n) (hl : n ≤ st.low) :
    Calls Try.prog 20 #[.pointer (some ⟨b, 0, none⟩), .int .u64 n] w fun e w' => e = .returned (.tuple #[.agg #[.int .i64 0, .int .u64 0, .string ⟨#[]⟩], .int .i64 70]) ∧ Keep (fun _ => False) w w' := by
  have hc := h.low
  have h1 := ho.l1
  have hb := h.lt
  clear h
  go_enter Try.func20, Try.ntmps20
  go_wp2
  exact bodyPost_ret (v := .tuple #[.agg #[.int .i64 0, .int .u64 0, .string ⟨#[]⟩], .int .i64 70]) (by simp [results, Try.results20, go_sem]) rfl ⟨rfl, (Keep.refl _ w).alloc _⟩

set_option maxHeartbeats 400000 in
theorem get_none0 (b : Nat) (st : St) (w : World) (h : IsShelf w b st) (ho : St.ok st) :
    Calls Try.prog 20 #[.pointer (some ⟨b, 0, none⟩), .int .u64 0] w fun e w' => e = .returned (.tuple #[.agg #[.int .i64 0, .int .u64 0, .string ⟨#[]⟩], .int .i64 3]) ∧ Keep (fun _ => False) w w' := by
  have hc := h.low
  have h1 := ho.l1
  have hb := h.lt
  clear h
  go_enter Try.func20, Try.ntmps20
  go_wp2
  exact bodyPost_ret (v := .tuple #[.agg #[.int .i64 0, .int .u64 0, .string ⟨#[]⟩], .int .i64 3]) (by simp [results, Try.results20, go_sem]) rfl ⟨rfl, (Keep.refl _ w).alloc _⟩

set_option maxHeartbeats 400000 in
theorem get_none (b : Nat) (st : St) (n : Int) (w : World) (h : IsShelf w b st) (ho : St.ok st) (n1 : n < 18446744073709551616) (hl : st.low < n) (hh : hasB st n = false) :
    Calls Try.prog 20 #[.pointer (some ⟨b, 0, none⟩), .int .u64 n] w fun e w' => e = .returned (.tuple #[.agg #[.int .i64 0, .int .u64 0, .string ⟨#[]⟩], .int .i64 3]) ∧ Keep (fun _ => False) w w' := by
  have hc := h.low
  have h0 := ho.l0
  have h1 := ho.l1
  have hb := h.lt
  have HH := Lib.hid hh
  have e0 : (n == 0) = false := by simp; omega
  have HI1 : ∀ o, IsShelf (w.alloc o) b st := fun o => h.keep ((Keep.refl (fun _ => False) w).alloc o) id
  have HJ := Lib.hid HI1
  clear hh h HI1
  go_enter Try.func20, Try.ntmps20
  go_wp2_with (go_at_call 48; refine (has_st _ st _ _ (HJ.out _) ho (by omega) (by omega)).mono ?_; rintro e w' ⟨rfl, rfl⟩; rw [HH.out])
  exact bodyPost_ret (v := .tuple #[.agg #[.int .i64 0, .int .u64 0, .string ⟨#[]⟩], .int .i64 3]) (by simp [results, Try.results20, go_sem]) rfl ⟨rfl, (Keep.refl _ w).alloc _⟩

set_option maxHeartbeats 400000 in
theorem get_ok (b : Nat) (st : St) (n : Int) (w : World) (h : IsShelf w b st) (ho : St.ok st) (n1 : n < 18446744073709551616) (hl : st.low < n) (hh : hasB st n = true) :
    Calls Try.prog 20 #[.pointer (some ⟨b, 0, none⟩), .int .u64 n] w fun e w' => e = .returned (.tuple #[.agg #[.int .i64 (st.ring (n % 64).toNat).s, .int .u64 (st.ring (n % 64).toNat).num, .string (st.ring (n % 64).toNat).text], .int .i64 0]) ∧ Keep (fun _ => False) w w' := by
  have hc := h.low
  have h0 := ho.l0
  have hb := h.lt
  have him : (n % 64).toNat < 64 := by omega
  have c0 := h.num _ him
  have c1 := h.sender _ him
  have c2 := h.mnum _ him
  have c3 := h.text _ him
  have e0 : (n == 0) = false := by simp; omega
  have HH := Lib.hid hh
  have HI1 : ∀ o, IsShelf (w.alloc o) b st := fun o => h.keep ((Keep.refl (fun _ => False) w).alloc o) id
  have HJ := Lib.hid HI1
  clear hh h HI1
  go_enter Try.func20, Try.ntmps20
  go_wp2_with (first
    | (go_at_call 48; refine (has_st _ st _ _ (HJ.out _) ho (by omega) (by omega)).mono ?_; rintro e w' ⟨rfl, rfl⟩; rw [HH.out])
    | (go_at_call 50; refine (at_any _ _ _ (by omega) (by omega)).mono ?_; rintro e w' ⟨rfl, rfl⟩))
  exact bodyPost_ret (v := .tuple #[.agg #[.int .i64 (st.ring (n % 64).toNat).s, .int .u64 (st.ring (n % 64).toNat).num, .string (st.ring (n % 64).toNat).text], .int .i64 0]) (by simp [results, Try.results20, go_sem]) rfl ⟨rfl, ((Keep.refl (fun _ => False) w).alloc _)⟩


set_option maxHeartbeats 400000 in
theorem reach_any (b : Nat) (st : St) (r : Nat) (w : World) (h : IsShelf w b st) (ho : St.ok st) (h1 : st.low + r + 1 < 18446744073709551616)
    (hy : ∀ k : Nat, k < r → hasB st (st.low + k + 1) = true) (hn : hasB st (st.low + r + 1) = false) :
    Calls Try.prog 18 #[.pointer (some ⟨b, 0, none⟩)] w fun e w' => e = .returned (.int .u64 (st.low + r)) ∧ w = w' := by
  have hc := h.low
  have h0 := ho.l0
  have HI := Lib.hid h
  have HY := Lib.hid hy
  have HN := Lib.hid hn
  clear hy hn h
  go_enter Try.func18, Try.ntmps18
  go_wp2
  go_loop [3] (fun v => ∃ k : Nat, k ≤ r ∧ v = .int .u64 (st.low + k)) (fun v => r - (intOf v - st.low).toNat)
  case atStart => exact ⟨0, Nat.zero_le _, by simp⟩
  case round =>
    obtain ⟨k, hk, rfl⟩ := hrel
    by_cases hlt : k < r
    · have HYk := Lib.hid (HY.out k hlt)
      go_wp2_with (go_at_call 48; refine (has_st _ st _ _ HI.out ho (by omega) (by omega)).mono ?_; rintro e w' ⟨rfl, rfl⟩; rw [HYk.out])
      go_round
      case rel => exact ⟨k + 1, by omega, by go_num⟩
      case measure => simp [intOf]; omega
    · obtain rfl : k = r := by omega
      go_wp2_with (go_at_call 48; refine (has_st _ st _ _ HI.out ho (by omega) (by omega)).mono ?_; rintro e w' ⟨rfl, rfl⟩; rw [HN.out])
      go_ret
      exact ⟨rfl, rfl⟩

set_option maxHeartbeats 400000 in
theorem trim_arg (b : Nat) (st : St) (r : Nat) (t : Int) (w : World) (h : IsShelf w b st) (ho : St.ok st) (h1 : st.low + r + 1 < 18446744073709551616)
    (hy : ∀ k : Nat, k < r → hasB st (st.low + k + 1) = true) (hn : hasB st (st.low + r + 1) = false) (ht : st.low + r < t) :
    Calls Try.prog 19 #[.pointer (some ⟨b, 0, none⟩), .int .u64 t] w fun e w' => e = .returned (.int .i64 1) ∧ w = w' := by
  have hc := h.low
  have HI := Lib.hid h
  have HY := Lib.hid hy
  have HN := Lib.hid hn
  clear hy hn h
  go_enter Try.func19, Try.ntmps19
  go_wp2_with (go_at_call 18; refine (reach_any _ st r _ HI.out ho h1 HY.out HN.out).mono ?_; rintro e w' ⟨rfl, rfl⟩)
  go_ret
  exact ⟨rfl, rfl⟩

/-- after j rounds of Trim. -/
def trimN (st : St) : Nat → St
  | 0 => st
  | j + 1 => ((trimN st j).setLow (st.low + j + 1)).set ((st.low + j + 1) % 64).toNat noPlc
theorem trimN_low (st : St) (j : Nat) : (trimN st j).low = st.low + j := by
  cases j with
  | zero => simp [trimN]
  | succ j => simp [trimN, St.set, St.setLow]; omega

set_option maxHeartbeats 400000 in
theorem trim_ok (b : Nat) (st : St) (r m : Nat) (t : Int) (w : World) (h : IsShelf w b st) (ho : St.ok st) (h1 : st.low + r + 1 < 18446744073709551616)
    (hy : ∀ k : Nat, k < r → hasB st (st.low + k + 1) = true) (hn : hasB st (st.low + r + 1) = false) (t0 : 0 ≤ t) (ht : t ≤ st.low + r) (hm : m = (t - st.low).toNat) :
    Calls Try.prog 19 #[.pointer (some ⟨b, 0, none⟩), .int .u64 t] w fun e w' => e = .returned (.int .i64 0) ∧ IsShelf w' b (trimN st m) ∧ Keep (fun k => k = b) w w' := by
  have hc := h.low
  have l0 := ho.l0
  have l1 := ho.l1
  have HI := Lib.hid h
  have HY := Lib.hid hy
  have HN := Lib.hid hn
  have HM := Lib.hid hm
  have hm1 : st.low + m ≤ t ∨ m = 0 := by omega
  have hm2 : t ≤ st.low + m := by omega
  have HM1 := Lib.hid hm1
  clear hy hn h hm hm1
  go_enter Try.func19, Try.ntmps19
  go_wp2_with (go_at_call 18; refine (reach_any _ st r _ HI.out ho h1 HY.out HN.out).mono ?_; rintro e w' ⟨rfl, rfl⟩)
  clear hc
  go_loopg [14] m (fun g v wr => ∃ j : Nat, j + g = m ∧ IsShelf wr b (trimN st j) ∧ Keep (fun k => k = b) w wr)
  case atStart => exact ⟨0, by omega, HI.out, Keep.refl _ w⟩
  case round =>
    obtain ⟨j, hj, hI, hK⟩ := hrel
    have hc := hI.low
    rw [trimN_low] at hc
    have f6 := hI.free 256
    have hb := hI.lt
    by_cases hlt : j < m
    · have hlt2 : st.low + j < t := by have := HM1.out; omega
      have HJ := Lib.hid hj
      have him : ((st.low + j + 1) % 64).toNat < 64 := by omega
      have c0 := hI.num _ him
      have c1 := hI.sender _ him
      have c2 := hI.mnum _ him
      have c3 := hI.text _ him
      have f0 := hI.free (((st.low + j + 1) % 64).toNat * 4)
      have f1 := hI.free (((st.low + j + 1) % 64).toNat * 4 + 1)
      have f2 := hI.free (((st.low + j + 1) % 64).toNat * 4 + 2)
      have f3 := hI.free (((st.low + j + 1) % 64).toNat * 4 + 3)
      have hne : ¬ 256 = ((st.low + j + 1) % 64).toNat * 4 := by omega
      have HII := Lib.hid hI
      have HK := Lib.hid hK
      clear hI hK hj
      go_wp2_with (go_at_call 50; refine (at_any _ _ _ (by omega) (by omega)).mono ?_; rintro e w' ⟨rfl, rfl⟩)
      go_roundg (m - (j + 1))
      case measure => have := HJ.out; omega
      case rel =>
        exact ⟨j + 1, by have := HJ.out; omega, (HII.out.putLow (st.low + j + 1)).put _ him noPlc, (((((HK.out.setAt 256 _).setAt _ _).setAt _ _).setAt _ _).setAt _ _)⟩
    · obtain rfl : j = m := by omega
      have HII := Lib.hid hI
      have HK := Lib.hid hK
      clear hI hK
      have hlt2 : ¬ st.low + j < t := by omega
      go_wp2
      go_ret
      exact ⟨rfl, HII.out, HK.out⟩

end Go.Proofs.Ytkbmggclecimeaa
