/- Walks of the small functions: what compares, what may be told, what is newer. -/
import Derived.Test.YtacfigociobgmaaMapM
namespace Go.Proofs.Ytacfigociobgmaa
open Go.RowKit Sh
open Go.ChangeMaps (setBlock)
set_option linter.unusedVariables false

def cmpI (x y : Int) : Int := if x < y then -1 else if y < x then 1 else 0
theorem cmpI_lt {x y : Int} (h : x < y) : cmpI x y = -1 := by simp [cmpI, h]
theorem cmpI_gt {x y : Int} (h : y < x) : cmpI x y = 1 := by
  have : ¬ x < y := by omega
  simp [cmpI, h, this]
theorem cmpI_eq (x : Int) : cmpI x x = 0 := by simp [cmpI]

theorem isnan_i (x : Int) (w : World) : Calls Try.prog 25 #[.int .i64 x] w fun e w' => e = .returned (.bool false) ∧ w = w' := by
  go_enter Try.func25, Try.ntmps25
  go_wp2
  go_ret
  exact ⟨rfl, rfl⟩
theorem isnan_u (x : Int) (w : World) : Calls Try.prog 37 #[.int .u64 x] w fun e w' => e = .returned (.bool false) ∧ w = w' := by
  go_enter Try.func37, Try.ntmps37
  go_wp2
  go_ret
  exact ⟨rfl, rfl⟩
theorem compare_i (x y : Int) (w : World) : Calls Try.prog 19 #[.int .i64 x, .int .i64 y] w fun e w' => e = .returned (.int .i64 (cmpI x y)) ∧ w = w' := by
  rcases Int.lt_trichotomy x y with h | rfl | h
  · rw [cmpI_lt h]
    have t1 : decide (x < y) = true := decide_eq_true h
    go_enter Try.func19, Try.ntmps19
    go_wp2_with (go_at_call 25; refine (isnan_i _ _).mono ?_; rintro e w' ⟨rfl, rfl⟩)
    go_ret
    exact ⟨rfl, rfl⟩
  · rw [cmpI_eq]
    have t1 : decide (x < x) = false := by simp
    go_enter Try.func19, Try.ntmps19
    go_wp2_with (go_at_call 25; refine (isnan_i _ _).mono ?_; rintro e w' ⟨rfl, rfl⟩)
    go_ret
    exact ⟨rfl, rfl⟩
  · rw [cmpI_gt h]
    have t1 : decide (x < y) = false := decide_eq_false (by omega)
    have t2 : decide (y < x) = true := decide_eq_true h
    go_enter Try.func19, Try.ntmps19
    go_wp2_with (go_at_call 25; refine (isnan_i _ _).mono ?_; rintro e w' ⟨rfl, rfl⟩)
    go_ret
    exact ⟨rfl, rfl⟩
theorem compare_u (x y : Int) (w : World) : Calls Try.prog 26 #[.int .u64 x, .int .u64 y] w fun e w' => e = .returned (.int .i64 (cmpI x y)) ∧ w = w' := by
  rcases Int.lt_trichotomy x y with h | rfl | h
  · rw [cmpI_lt h]
    have t1 : decide (x < y) = true := decide_eq_true h
    go_enter Try.func26, Try.ntmps26
    go_wp2_with (go_at_call 37; refine (isnan_u _ _).mono ?_; rintro e w' ⟨rfl, rfl⟩)
    go_ret
    exact ⟨rfl, rfl⟩
  · rw [cmpI_eq]
    have t1 : decide (x < x) = false := by simp
    go_enter Try.func26, Try.ntmps26
    go_wp2_with (go_at_call 37; refine (isnan_u _ _).mono ?_; rintro e w' ⟨rfl, rfl⟩)
    go_ret
    exact ⟨rfl, rfl⟩
  · rw [cmpI_gt h]
    have t1 : decide (x < y) = false := decide_eq_false (by omega)
    have t2 : decide (y < x) = true := decide_eq_true h
    go_enter Try.func26, Try.ntmps26
    go_wp2_with (go_at_call 37; refine (isnan_u _ _).mono ?_; rintro e w' ⟨rfl, rfl⟩)
    go_ret
    exact ⟨rfl, rfl⟩

/-- cmp.Or of two ints. -/
def orI (x y : Int) : Int := if x ≠ 0 then x else y
theorem or_two (g : Nat) (x y : Int) (w : World) (c0 : w.cell? ⟨g, 0, none⟩ = some (.int .i64 x)) (c1 : w.cell? ⟨g, 1, none⟩ = some (.int .i64 y)) :
    Calls Try.prog 18 #[.slice (some ⟨g, 0, none⟩) 2 2] w fun e w' => e = .returned (.int .i64 (orI x y)) ∧ w = w' := by
  go_enter Try.func18, Try.ntmps18
  go_wp2
  go_loopg [5, 8] 2 (fun q v5 v8 wr => ((q = 2 ∧ v8 = .int .i64 0) ∨ (q = 1 ∧ v8 = .int .i64 1 ∧ x = 0) ∨ (q = 0 ∧ v8 = .int .i64 2 ∧ x = 0 ∧ y = 0)) ∧ w = wr)
  case atStart => exact ⟨.inl ⟨rfl, rfl⟩, rfl⟩
  case round =>
    obtain ⟨hc, rfl⟩ := hrel
    rcases hc with ⟨hq, rfl⟩ | ⟨hq, rfl, hx⟩ | ⟨hq, rfl, hx, hy⟩
    · by_cases hx : x = 0
      · have t1 : (x == 0) = true := by simp [hx]
        have t2 : (x != 0) = false := by simp [hx]
        go_wp2
        go_roundg 1
        case measure => omega
        case rel => exact ⟨.inr (.inl ⟨rfl, by go_num, hx⟩), rfl⟩
      · have t1 : (x == 0) = false := by rw [beq_eq_false_iff_ne]; exact hx
        have t2 : (x != 0) = true := by simp [hx]
        have r : Hid (orI x y = x) := Lib.hid (by simp [orI, hx])
        go_wp2
        go_ret
        exact ⟨by rw [r.out]; rfl, rfl⟩
    · by_cases hy : y = 0
      · have t1 : (y == 0) = true := by simp [hy]
        have t2 : (y != 0) = false := by simp [hy]
        go_wp2
        go_roundg 0
        case measure => omega
        case rel => exact ⟨.inr (.inr ⟨rfl, by go_num, hx, hy⟩), rfl⟩
      · have t1 : (y == 0) = false := by rw [beq_eq_false_iff_ne]; exact hy
        have t2 : (y != 0) = true := by simp [hy]
        have r : Hid (orI x y = y) := Lib.hid (by simp [orI, hx])
        go_wp2
        go_ret
        exact ⟨by rw [r.out]; rfl, rfl⟩
    · have r : Hid (orI x y = 0) := Lib.hid (by simp [orI, hx, hy])
      go_wp2
      go_ret
      exact ⟨by rw [r.out]; rfl, rfl⟩

theorem cell_new {w : World} {n i : Nat} {cs : Array Value} {t : TypeId} {v : Value} (hn : n = w.heap.size) (h : cs[i]? = some v) : (w.alloc (.cells cs t)).cell? ⟨n, i, none⟩ = some v := by
  subst hn
  have hn := heap_alloc_new w (.cells cs t)
  simp only [World.cell?, hn]
  exact h
theorem cell_newd {w : World} {n i : Nat} {cs : Array Value} {t : TypeId} {v : Value} (hn : n = w.heap.size) (h : cs[i]? = some v) : (w.alloc (.cells cs t)).drew.cell? ⟨n, i, none⟩ = some v := cell_new hn h
/-- An update, as a value. -/
def updV (n i s : Int) : Value := .agg #[.int .i64 n, .int .u64 i, .int .i64 s]
def mayU (n s : Int) : Bool := decide (0 ≤ n ∧ n < 64 ∧ 0 ≤ s ∧ s ≤ 3)
theorem toldmay_any (n i s : Int) (w : World) : Calls Try.prog 21 #[updV n i s] w fun e w' => e = .returned (.bool (mayU n s)) ∧ Keep (fun _ => False) w w' := by
  unfold updV
  by_cases h1 : 0 ≤ n
  · have t1 : decide (0 ≤ n) = true := decide_eq_true h1
    by_cases h2 : n < 64
    · have t2 : decide (n < 64) = true := decide_eq_true h2
      by_cases h3 : 0 ≤ s
      · have t3 : decide (0 ≤ s) = true := decide_eq_true h3
        by_cases h4 : s ≤ 3
        · have t4 : decide (s ≤ 3) = true := decide_eq_true h4
          rw [show mayU n s = true by simp [mayU, h1, h2, h3, h4]]
          go_enter Try.func21, Try.ntmps21
          go_wp2
          go_ret
          exact ⟨rfl, (Keep.refl _ w).alloc _⟩
        · have t4 : decide (s ≤ 3) = false := decide_eq_false h4
          rw [show mayU n s = false by simp [mayU, h4]]
          go_enter Try.func21, Try.ntmps21
          go_wp2
          go_ret
          exact ⟨rfl, (Keep.refl _ w).alloc _⟩
      · have t3 : decide (0 ≤ s) = false := decide_eq_false h3
        rw [show mayU n s = false by simp [mayU, h3]]
        go_enter Try.func21, Try.ntmps21
        go_wp2
        go_ret
        exact ⟨rfl, (Keep.refl _ w).alloc _⟩
    · have t2 : decide (n < 64) = false := decide_eq_false h2
      rw [show mayU n s = false by simp [mayU, h2]]
      go_enter Try.func21, Try.ntmps21
      go_wp2
      go_ret
      exact ⟨rfl, (Keep.refl _ w).alloc _⟩
  · have t1 : decide (0 ≤ n) = false := decide_eq_false h1
    rw [show mayU n s = false by simp [mayU, h1]]
    go_enter Try.func21, Try.ntmps21
    go_wp2
    go_ret
    exact ⟨rfl, (Keep.refl _ w).alloc _⟩
theorem may_any (n i s : Int) (w : World) : Calls Try.prog 13 #[updV n i s] w fun e w' => e = .returned (.bool (mayU n s)) ∧ Keep (fun _ => False) w w' := by
  unfold updV
  go_enter Try.func13, Try.ntmps13
  go_wp2_with fail
  refine (toldmay_any n i s _).mono ?_
  rintro e w1 ⟨rfl, hk⟩
  have HK := Lib.hid (((Keep.refl (fun _ => False) w).alloc _).step hk)
  clear hk
  go_wp2
  go_ret
  exact ⟨rfl, HK.out⟩

set_option maxHeartbeats 1000000 in
theorem against_any (n i s m j t : Int) (w : World) : Calls Try.prog 22 #[updV n i s, updV m j t] w fun e w' => e = .returned (.int .i64 (orI (cmpI i j) (cmpI s t))) ∧ Keep (fun _ => False) w w' := by
  unfold updV
  go_enter Try.func22, Try.ntmps22
  go_upto_region 1 with fail
  refine still_tail 10 (by kernel_rfl) (by kernel_rfl) ?_
  simp only [List.take_succ_cons, List.take_zero, List.drop_succ_cons, List.drop_zero]
  repeat still_step
  still_call (to_still (compare_u i j _))
  repeat still_step
  still_call (to_still (compare_i s t _))
  repeat still_step
  try refine wpStill_nil ?_
  have hor := fun g w c0 c1 => or_two g (cmpI i j) (cmpI s t) w c0 c1
  go_wp2_with fail
  refine (hor _ _ (cell_newd (by simp) rfl) (cell_newd (by simp) rfl)).mono ?_
  rintro e w' ⟨rfl, rfl⟩
  go_wp2
  go_ret
  exact ⟨rfl, ((((Keep.refl (fun _ => False) w).alloc _).alloc _).drew).alloc _⟩
def newI (i s j t : Int) : Bool := decide (0 < orI (cmpI i j) (cmpI s t))
theorem newer_any (n i s m j t : Int) (w : World) : Calls Try.prog 14 #[updV n i s, updV m j t] w fun e w' => e = .returned (.bool (newI i s j t)) ∧ Keep (fun _ => False) w w' := by
  unfold newI updV
  go_enter Try.func14, Try.ntmps14
  go_wp2_with fail
  refine (against_any n i s m j t _).mono ?_
  rintro e w1 ⟨rfl, hk⟩
  have HK := Lib.hid ((((Keep.refl (fun _ => False) w).alloc _).alloc _).step hk)
  clear hk
  go_wp2
  go_ret
  exact ⟨rfl, HK.out⟩
theorem newI_eq (i s j t : Int) : newI i s j t = decide (j < i ∨ (i = j ∧ t < s)) := by
  simp only [newI, orI, cmpI]
  congr 1
  refine propext ?_
  repeat' split
  all_goals omega

end Go.Proofs.Ytacfigociobgmaa
