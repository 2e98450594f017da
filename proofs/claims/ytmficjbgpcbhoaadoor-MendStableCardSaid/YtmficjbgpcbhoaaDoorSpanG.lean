/- How many numbers a set has. -/
import Derived.Test.YtmficjbgpcbhoaaDoorSpanF
namespace Go.Proofs.YtmficjbgpcbhoaaDoor
open Go.RowKit Sh
set_option linter.unusedVariables false

/-- how many of the numbers below N are told. -/
def cK (K : Int → Bool) : Nat → Int
  | 0 => 0
  | n + 1 => cK K n + cond (K n) 1 0
theorem cK_rng (K : Int → Bool) (n : Nat) : 0 ≤ cK K n ∧ cK K n ≤ n := by
  induction n with
  | zero => simp [cK]
  | succ n ih => simp only [cK]; cases K n <;> simp only [cond_true, cond_false] <;> omega
theorem cK_congr {K L : Int → Bool} (h : ∀ x, K x = L x) (n : Nat) : cK K n = cK L n := by
  induction n with
  | zero => rfl
  | succ n ih => simp only [cK, ih, h]
theorem cK_add (K : Int → Bool) (m : Int) (h0 : 0 ≤ m) (N : Nat) : cK (fun x => K x || decide (x = m)) N = cK K N + cond (!K m && decide (m < (N : Int))) 1 0 := by
  induction N with
  | zero =>
    have h1 : decide (m < ((0 : Nat) : Int)) = false := decide_eq_false (by omega)
    rw [h1]; cases K m <;> rfl
  | succ n ih =>
    simp only [cK]
    rw [ih]
    by_cases e : (n : Int) = m
    · have h1 : decide (m < (n : Int)) = false := decide_eq_false (by omega)
      have h2 : decide (m < ((n + 1 : Nat) : Int)) = true := decide_eq_true (by omega)
      have h3 : decide ((n : Int) = m) = true := decide_eq_true e
      rw [h1, h2, h3, e]
      cases K m <;> simp
    · have h3 : decide ((n : Int) = m) = false := decide_eq_false e
      rw [h3]
      have h4 : decide (m < ((n + 1 : Nat) : Int)) = decide (m < (n : Int)) := by
        by_cases c : m < (n : Int)
        · rw [decide_eq_true c, decide_eq_true (by omega)]
        · rw [decide_eq_false c, decide_eq_false (by omega)]
      rw [h4, Bool.or_false]
      omega

def ov : List Sp → Int → Int
  | [], _ => 0
  | x :: l, N => max 0 (min (x.t + 1) N - x.f) + ov l N
theorem ov_step {l : List Sp} (h : Ok l) (N : Int) : ov l (N + 1) = ov l N + cond (memB l N) 1 0 := by
  induction l with
  | nil => rw [memB_false.2 (mem_nil N)]; rfl
  | cons x l ih =>
    have hx := h.head
    simp only [ov]
    rw [ih h.tail]
    by_cases g : mem l N
    · have := h.gap g
      rw [memB_iff.2 g, memB_iff.2 ((mem_cons _ _ _).2 (.inr g))]
      simp only [cond_true]
      omega
    · rw [memB_false.2 g]
      by_cases c : x.f ≤ N ∧ N ≤ x.t
      · rw [memB_iff.2 ((mem_cons _ _ _).2 (.inl c))]; simp only [cond_true, cond_false]; omega
      · rw [memB_false.2 (by rw [mem_cons]; rintro (k | k); exact c k; exact g k)]; simp only [cond_false]; omega
theorem rng_tail {x : Sp} {l : List Sp} (h : Rng (x :: l)) : Rng l := fun i hi => by
  have := h (i + 1) (by simp only [List.length_cons]; omega)
  rwa [sp_succ] at this
theorem ov_zero {l : List Sp} (h : Rng l) : ov l 0 = 0 := by
  induction l with
  | nil => rfl
  | cons x l ih =>
    have hx := h 0 (by simp)
    rw [sp_zero] at hx
    simp only [ov, ih (rng_tail h)]; omega
theorem cnt_cons (x : Sp) (l : List Sp) (i : Nat) : cnt (x :: l) (i + 1) = (x.t - x.f + 1) + cnt l i := by
  induction i with
  | zero => simp [cnt, sp_zero]
  | succ i ih =>
    rw [show cnt (x :: l) (i + 1 + 1) = cnt (x :: l) (i + 1) + ((sp (x :: l) (i + 1)).t - (sp (x :: l) (i + 1)).f + 1) from rfl, ih, sp_succ]
    simp only [cnt]; omega
theorem ov_all {l : List Sp} (h : Ok l) (N : Int) (hN : ∀ k, k < l.length → (sp l k).t < N) : ov l N = cnt l l.length := by
  induction l with
  | nil => rfl
  | cons x l ih =>
    have h0 := hN 0 (by simp)
    rw [sp_zero] at h0
    have hx := h.head
    rw [List.length_cons, cnt_cons, ← ih h.tail (fun k hk => by
      have := hN (k + 1) (by simp only [List.length_cons]; omega)
      rwa [sp_succ] at this)]
    simp only [ov]; omega
theorem cK_ov {l : List Sp} (h : Ok l) (hr : Rng l) (N : Nat) : cK (memB l) N = ov l N := by
  induction N with
  | zero => exact (ov_zero hr).symm
  | succ n ih => rw [show ((n + 1 : Nat) : Int) = (n : Int) + 1 by omega, ov_step h]; simp only [cK, ih]

theorem IsSet.none {w : World} {v : Value} {K : Int → Bool} (h : IsSet w v K) (hK : ∀ x, K x = false) : ∃ A c, v = .slice A 0 c := by
  obtain ⟨l, h1, h2, h3, h4⟩ := h.ex
  obtain ⟨A, c, rfl, _⟩ := h1.ex
  cases l with
  | nil => exact ⟨A, c, rfl⟩
  | cons x l =>
    have : memB (x :: l) x.f = true := memB_iff.2 ((mem_cons _ _ _).2 (.inl ⟨by omega, h2.head⟩))
    rw [h4, hK] at this
    cases this

theorem Small.or {K L : Int → Bool} (h : Small K) (g : Small L) : Small (fun x => K x || L x) := fun x hx => by
  rcases Bool.or_eq_true .. ▸ hx with e | e
  · exact h x e
  · exact g x e
theorem Small.minus {K : Int → Bool} (h : Small K) (L : Int → Bool) : Small (fun x => K x && !L x) := fun x hx => h x (by simp at hx; exact hx.1)

end Go.Proofs.YtmficjbgpcbhoaaDoor
