/- Walks of the shelf's functions. -/
import Derived.Test.YtkbmggclecimeaaKit
import Derived.Test.YtkbmggclecimeaaShelfM
namespace Go.Proofs.Ytkbmggclecimeaa
open Go.RowKit Sh
set_option linter.unusedVariables false
attribute [local irreducible] Go.wpStill

set_option maxHeartbeats 400000 in
theorem within_any (b : Nat) (low n : Int) (w : World) (h0 : 0 ≤ low) (h1 : low < 18446744073709551616) (n0 : 0 ≤ n) (n1 : n < 18446744073709551616)
    (hc : w.cell? ⟨b, 256, none⟩ = some (.int .u64 low)) :
    Calls Try.prog 49 #[.pointer (some ⟨b, 0, none⟩), .int .u64 n] w fun e w' => e = .returned (.bool (decide (low < n) && decide (n - low ≤ 64))) ∧ w = w' := by
  by_cases hl : low < n
  · go_enter Try.func49, Try.ntmps49
    go_wp2
    go_ret
    exact ⟨by simp [hl], rfl⟩
  · go_enter Try.func49, Try.ntmps49
    go_wp2
    go_ret
    exact ⟨by simp; omega, rfl⟩

set_option maxHeartbeats 400000 in
theorem at_any (b : Nat) (n : Int) (w : World) (n0 : 0 ≤ n) (n1 : n < 18446744073709551616) :
    Calls Try.prog 50 #[.pointer (some ⟨b, 0, none⟩), .int .u64 n] w fun e w' => e = .returned (.pointer (some ⟨b, (n % 64).toNat * 4, none⟩)) ∧ w = w' := by
  have hm0 : 0 ≤ n % 64 := by omega
  have hm1 : n % 64 < 64 := by omega
  go_enter Try.func50, Try.ntmps50
  go_wp2
  go_ret
  exact ⟨rfl, rfl⟩

set_option maxHeartbeats 400000 in
theorem has_any (b : Nat) (low n k : Int) (w : World) (h0 : 0 ≤ low) (h1 : low < 18446744073709551616) (n0 : 0 ≤ n) (n1 : n < 18446744073709551616)
    (hc : w.cell? ⟨b, 256, none⟩ = some (.int .u64 low)) (hk : w.cell? ⟨b, (n % 64).toNat * 4, none⟩ = some (.int .u64 k)) :
    Calls Try.prog 48 #[.pointer (some ⟨b, 0, none⟩), .int .u64 n] w fun e w' => e = .returned (.bool (decide (low < n) && decide (n - low ≤ 64) && (k == n))) ∧ w = w' := by
  by_cases hl : (decide (low < n) && decide (n - low ≤ 64)) = true
  · have HL := Lib.hid hl
    go_enter Try.func48, Try.ntmps48
    go_wp2_with (first | (go_at_call 49; refine (within_any _ _ _ _ h0 h1 n0 n1 hc).mono ?_; rintro e w' ⟨rfl, rfl⟩) | (go_at_call 50; refine (at_any _ _ _ n0 n1).mono ?_; rintro e w' ⟨rfl, rfl⟩))
    all_goals (go_ret; exact ⟨by simp [HL.out], rfl⟩)
  · have hl' : (decide (low < n) && decide (n - low ≤ 64)) = false := by simpa using hl
    clear hl
    have HL := Lib.hid hl'
    go_enter Try.func48, Try.ntmps48
    go_wp2_with (first | (go_at_call 49; refine (within_any _ _ _ _ h0 h1 n0 n1 hc).mono ?_; rintro e w' ⟨rfl, rfl⟩) | (go_at_call 50; refine (at_any _ _ _ n0 n1).mono ?_; rintro e w' ⟨rfl, rfl⟩))
    all_goals (go_ret; exact ⟨by simp [HL.out], rfl⟩)


structure St.ok (st : St) : Prop where
  l0 : 0 ≤ st.low
  l1 : st.low < 18446744073709551616

def hasB (st : St) (n : Int) : Bool := decide (st.low < n) && decide (n - st.low ≤ 64) && ((st.ring (n % 64).toNat).n == n)

theorem has_st (b : Nat) (st : St) (n : Int) (w : World) (h : IsShelf w b st) (ho : St.ok st) (n0 : 0 ≤ n) (n1 : n < 18446744073709551616) :
    Calls Try.prog 48 #[.pointer (some ⟨b, 0, none⟩), .int .u64 n] w fun e w' => e = .returned (.bool (hasB st n)) ∧ w = w' :=
  has_any b st.low n _ w ho.l0 ho.l1 n0 n1 h.low (h.num _ (by omega))

set_option maxHeartbeats 400000 in
theorem put_ok (b : Nat) (st : St) (n s num : Int) (text : ByteArray) (w : World) (h : IsShelf w b st) (ho : St.ok st) (n0 : 0 < n) (n1 : n < 18446744073709551615)
    (ht : text.size ≤ 64) (hl : st.low < n) (hh : hasB st n = false) (hr : n - st.low ≤ 64) :
    Calls Try.prog 17 #[.pointer (some ⟨b, 0, none⟩), .int .u64 n, .agg #[.int .i64 s, .int .u64 num, .string text]] w fun e w' => e = .returned (.int .i64 0) ∧ IsShelf w' b (st.set (n % 64).toNat ⟨n, s, num, text⟩) ∧ Keep (fun k => k = b) w w' := by
  have hc := h.low
  have hb := h.lt
  have him : (n % 64).toNat < 64 := by omega
  have c0 := h.num _ him
  have c1 := h.sender _ him
  have c2 := h.mnum _ him
  have c3 := h.text _ him
  have f0 := h.free ((n % 64).toNat * 4)
  have f1 := h.free ((n % 64).toNat * 4 + 1)
  have f2 := h.free ((n % 64).toNat * 4 + 2)
  have f3 := h.free ((n % 64).toNat * 4 + 3)
  have HH := Lib.hid hh
  have HI := Lib.hid h
  clear hh h
  have hw : (decide (st.low < n) && decide (n - st.low ≤ 64)) = true := by simp; omega
  have HW := Lib.hid hw
  clear hw
  have e0 : (n == 0) = false := by simp; omega
  have e1 : (n == 18446744073709551615) = false := by simp; omega
  have HI1 : ∀ o, IsShelf (w.alloc o) b st := fun o => HI.out.keep ((Keep.refl (fun _ => False) w).alloc o) id
  have HJ := Lib.hid HI1
  clear HI1
  go_enter Try.func17, Try.ntmps17
  go_wp2_with (first
    | (go_at_call 48; refine (has_st _ st _ _ (HJ.out _) ho (by omega) (by omega)).mono ?_; rintro e w' ⟨rfl, rfl⟩; rw [HH.out])
    | (go_at_call 49; refine (within_any _ st.low _ _ ho.l0 ho.l1 (by omega) (by omega) (HJ.out _).low).mono ?_; rintro e w' ⟨rfl, rfl⟩; rw [HW.out]))
  refine still_tail 7 (by kernel_rfl) (by kernel_rfl) ?_
  simp only [List.take_succ_cons, List.take_zero, List.drop_succ_cons, List.drop_zero]
  repeat still_step
  still_call (to_still (at_any b n _ (by omega) (by omega)))
  repeat still_step
  try refine wpStill_nil ?_
  go_wp2
  go_ret
  exact ⟨rfl, (HI.out.put _ him ⟨n, s, num, text⟩).keep (((Keep.refl (fun _ => False) _).alloc _).drew) id,
    ((((((Keep.refl (fun k => k = b) w).setAt _ _).setAt _ _).setAt _ _).setAt _ _).alloc _).drew⟩

set_option maxHeartbeats 400000 in
theorem put_arg0 (b : Nat) (st : St) (n s num : Int) (text : ByteArray) (w : World) (h : IsShelf w b st) (ho : St.ok st) (n0 : 0 ≤ n) (n1 : n < 18446744073709551616)
    (hn : n = 0) :
    Calls Try.prog 17 #[.pointer (some ⟨b, 0, none⟩), .int .u64 n, .agg #[.int .i64 s, .int .u64 num, .string text]] w fun e w' => e = .returned (.int .i64 1) ∧ Keep (fun _ => False) w w' := by
  have hc := h.low
  have hb := h.lt
  subst hn
  have HI1 : ∀ o, IsShelf (w.alloc o) b st := fun o => h.keep ((Keep.refl (fun _ => False) w).alloc o) id
  have HJ := Lib.hid HI1
  clear HI1 h
  go_enter Try.func17, Try.ntmps17
  go_wp2
  all_goals (go_ret; exact ⟨rfl, (Keep.refl _ w).alloc _⟩)

set_option maxHeartbeats 400000 in
theorem put_argM (b : Nat) (st : St) (n s num : Int) (text : ByteArray) (w : World) (h : IsShelf w b st) (ho : St.ok st) (n0 : 0 ≤ n) (n1 : n < 18446744073709551616)
    (hn : n = 18446744073709551615) :
    Calls Try.prog 17 #[.pointer (some ⟨b, 0, none⟩), .int .u64 n, .agg #[.int .i64 s, .int .u64 num, .string text]] w fun e w' => e = .returned (.int .i64 1) ∧ Keep (fun _ => False) w w' := by
  have hc := h.low
  have hb := h.lt
  have e0 : (n == 0) = false := by simp; omega
  have e1 : (n == 18446744073709551615) = true := by simp; omega
  clear hn
  have HI1 : ∀ o, IsShelf (w.alloc o) b st := fun o => h.keep ((Keep.refl (fun _ => False) w).alloc o) id
  have HJ := Lib.hid HI1
  clear HI1 h
  go_enter Try.func17, Try.ntmps17
  go_wp2
  all_goals (go_ret; exact ⟨rfl, (Keep.refl _ w).alloc _⟩)

set_option maxHeartbeats 400000 in
theorem put_argT (b : Nat) (st : St) (n s num : Int) (text : ByteArray) (w : World) (h : IsShelf w b st) (ho : St.ok st) (n0 : 0 ≤ n) (n1 : n < 18446744073709551616)
    (hn : 0 < n) (hm : n < 18446744073709551615) (ht : 64 < text.size) :
    Calls Try.prog 17 #[.pointer (some ⟨b, 0, none⟩), .int .u64 n, .agg #[.int .i64 s, .int .u64 num, .string text]] w fun e w' => e = .returned (.int .i64 1) ∧ Keep (fun _ => False) w w' := by
  have hc := h.low
  have hb := h.lt
  have e0 : (n == 0) = false := by simp; omega
  have e1 : (n == 18446744073709551615) = false := by simp; omega
  have HI1 : ∀ o, IsShelf (w.alloc o) b st := fun o => h.keep ((Keep.refl (fun _ => False) w).alloc o) id
  have HJ := Lib.hid HI1
  clear HI1 h
  go_enter Try.func17, Try.ntmps17
  go_wp2
  all_goals (go_ret; exact ⟨rfl, (Keep.refl _ w).alloc _⟩)

set_option maxHeartbeats 400000 in
theorem put_old (b : Nat) (st : St) (n s num : Int) (text : ByteArray) (w : World) (h : IsShelf w b st) (ho : St.ok st) (n0 : 0 ≤ n) (n1 : n < 18446744073709551616)
    (hn : 0 < n) (hm : n < 18446744073709551615) (ht : text.size ≤ 64) (hl : n ≤ st.low) :
    Calls Try.prog 17 #[.pointer (some ⟨b, 0, none⟩), .int .u64 n, .agg #[.int .i64 s, .int .u64 num, .string text]] w fun e w' => e = .returned (.int .i64 70) ∧ Keep (fun _ => False) w w' := by
  have hc := h.low
  have hb := h.lt
  have e0 : (n == 0) = false := by simp; omega
  have e1 : (n == 18446744073709551615) = false := by simp; omega
  have HI1 : ∀ o, IsShelf (w.alloc o) b st := fun o => h.keep ((Keep.refl (fun _ => False) w).alloc o) id
  have HJ := Lib.hid HI1
  clear HI1 h
  go_enter Try.func17, Try.ntmps17
  go_wp2
  all_goals (go_ret; exact ⟨rfl, (Keep.refl _ w).alloc _⟩)

set_option maxHeartbeats 400000 in
theorem put_twice (b : Nat) (st : St) (n s num : Int) (text : ByteArray) (w : World) (h : IsShelf w b st) (ho : St.ok st) (n0 : 0 ≤ n) (n1 : n < 18446744073709551616)
    (hn : 0 < n) (hm : n < 18446744073709551615) (ht : text.size ≤ 64) (hl : st.low < n) (hh : hasB st n = true) :
    Calls Try.prog 17 #[.pointer (some ⟨b, 0, none⟩), .int .u64 n, .agg #[.int .i64 s, .int .u64 num, .string text]] w fun e w' => e = .returned (.int .i64 4) ∧ Keep (fun _ => False) w w' := by
  have hc := h.low
  have hb := h.lt
  have e0 : (n == 0) = false := by simp; omega
  have e1 : (n == 18446744073709551615) = false := by simp; omega
  have HH := Lib.hid hh
  clear hh
  have HI1 : ∀ o, IsShelf (w.alloc o) b st := fun o => h.keep ((Keep.refl (fun _ => False) w).alloc o) id
  have HJ := Lib.hid HI1
  clear HI1 h
  go_enter Try.func17, Try.ntmps17
  go_wp2_with (go_at_call 48; refine (has_st _ st _ _ (HJ.out _) ho (by omega) (by omega)).mono ?_; rintro e w' ⟨rfl, rfl⟩; rw [HH.out])
  all_goals (go_ret; exact ⟨rfl, (Keep.refl _ w).alloc _⟩)

set_option maxHeartbeats 400000 in
theorem put_full (b : Nat) (st : St) (n s num : Int) (text : ByteArray) (w : World) (h : IsShelf w b st) (ho : St.ok st) (n0 : 0 ≤ n) (n1 : n < 18446744073709551616)
    (hn : 0 < n) (hm : n < 18446744073709551615) (ht : text.size ≤ 64) (hl : st.low < n) (hr : 64 < n - st.low) :
    Calls Try.prog 17 #[.pointer (some ⟨b, 0, none⟩), .int .u64 n, .agg #[.int .i64 s, .int .u64 num, .string text]] w fun e w' => e = .returned (.int .i64 2) ∧ Keep (fun _ => False) w w' := by
  have hc := h.low
  have hb := h.lt
  have e0 : (n == 0) = false := by simp; omega
  have e1 : (n == 18446744073709551615) = false := by simp; omega
  have hh : hasB st n = false := by unfold hasB; simp; omega
  have HH := Lib.hid hh
  clear hh
  have hw : (decide (st.low < n) && decide (n - st.low ≤ 64)) = false := by simp; omega
  have HW := Lib.hid hw
  clear hw
  have HI1 : ∀ o, IsShelf (w.alloc o) b st := fun o => h.keep ((Keep.refl (fun _ => False) w).alloc o) id
  have HJ := Lib.hid HI1
  clear HI1 h
  go_enter Try.func17, Try.ntmps17
  go_wp2_with (first | (go_at_call 48; refine (has_st _ st _ _ (HJ.out _) ho (by omega) (by omega)).mono ?_; rintro e w' ⟨rfl, rfl⟩; rw [HH.out]) | (go_at_call 49; refine (within_any _ st.low _ _ ho.l0 ho.l1 (by omega) (by omega) (HJ.out _).low).mono ?_; rintro e w' ⟨rfl, rfl⟩; rw [HW.out]))
  all_goals (go_ret; exact ⟨rfl, (Keep.refl _ w).alloc _⟩)

end Go.Proofs.Ytkbmggclecimeaa
