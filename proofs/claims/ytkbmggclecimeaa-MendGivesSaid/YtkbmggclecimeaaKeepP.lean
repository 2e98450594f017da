/- A shelf that keeps what was put: the plain law. -/
import Derived.Test.YtkbmggclecimeaaKeepM
namespace Go.Proofs.Ytkbmggclecimeaa
open Go.RowKit Sh
set_option linter.unusedVariables false

theorem hasB_iff {st : St} {n : Int} : hasB st n = true ↔ st.low < n ∧ n - st.low ≤ 64 ∧ (st.ring (n % 64).toNat).n = n := by
  simp [hasB, and_assoc]
theorem set_ring (st : St) (i : Nat) (p : Plc) (j : Nat) : (st.set i p).ring j = if j = i then p else st.ring j := rfl
theorem set_low (st : St) (i : Nat) (p : Plc) : (st.set i p).low = st.low := rfl

structure Kps (st : St) (E : List Ent) : Prop where
  l0 : 0 ≤ st.low
  ent : ∀ e ∈ E, 1 ≤ e.k ∧ (e.k ≤ st.low ∨ (hasB st e.k = true ∧ st.ring (e.k % 64).toNat = ⟨e.k, e.s, e.m, ⟨#[]⟩⟩))
  conv : ∀ n, hasB st n = true → ∃ e ∈ E, e.k = n
theorem Kps.fresh : Kps Sh.fresh [] := ⟨Int.le_refl 0, fun e he => by simp at he, fun n h => by
  obtain ⟨h1, _, h3⟩ := hasB_iff.1 h
  have h1 : (0 : Int) < n := h1
  have h3 : (0 : Int) = n := h3
  omega⟩
theorem Kps.other {st : St} {E : List Ent} (h : Kps st E) {n : Int} (h1 : st.low < n) (h2 : n - st.low ≤ 64) (hk : ∀ e ∈ E, e.k ≠ n) {x : Int} (hx : hasB st x = true) : ¬ (x % 64).toNat = (n % 64).toNat := by
  obtain ⟨a, b, _⟩ := hasB_iff.1 hx
  have l0 := h.l0
  intro c
  have e : x = n := by omega
  obtain ⟨e', he, hk'⟩ := h.conv x hx
  exact hk e' he (by omega)
theorem Kps.up {st : St} {E : List Ent} (h : Kps st E) {n : Int} (h1 : st.low < n) (h2 : n - st.low ≤ 64) (hk : ∀ e ∈ E, e.k ≠ n) (p : Plc) {x : Int} (hx : hasB st x = true) : hasB (st.set (n % 64).toNat p) x = true := by
  rw [hasB_set_ne _ _ _ _ (h.other h1 h2 hk hx)]; exact hx
theorem Kps.put {st : St} {E : List Ent} (h : Kps st E) {n : Int} (h1 : st.low < n) (h2 : n - st.low ≤ 64) (hk : ∀ e ∈ E, e.k ≠ n) (s m : Int) : Kps (st.set (n % 64).toNat ⟨n, s, m, ⟨#[]⟩⟩) (E ++ [⟨n, s, m⟩]) := by
  have l0 := h.l0
  refine ⟨l0, fun e he => ?_, fun x hx => ?_⟩
  · rcases List.mem_append.1 he with he | he
    · obtain ⟨a, b⟩ := h.ent e he
      refine ⟨a, ?_⟩
      rcases b with b | ⟨b, c⟩
      · exact .inl b
      · exact .inr ⟨h.up h1 h2 hk _ b, by rw [set_ring, if_neg (h.other h1 h2 hk b)]; exact c⟩
    · obtain rfl : e = ⟨n, s, m⟩ := by simpa using he
      refine ⟨by simp only; omega, .inr ⟨hasB_iff.2 ⟨h1, h2, ?_⟩, ?_⟩⟩
      · show ((st.set (n % 64).toNat ⟨n, s, m, ⟨#[]⟩⟩).ring (n % 64).toNat).n = n
        rw [set_ring, if_pos rfl]
      · show (st.set (n % 64).toNat ⟨n, s, m, ⟨#[]⟩⟩).ring (n % 64).toNat = _
        rw [set_ring, if_pos rfl]
  · by_cases c : (x % 64).toNat = (n % 64).toNat
    · obtain ⟨_, _, h3⟩ := hasB_iff.1 hx
      rw [set_ring, if_pos c] at h3
      exact ⟨⟨n, s, m⟩, by simp, h3⟩
    · rw [hasB_set_ne _ _ _ _ c] at hx
      obtain ⟨e, he, hk'⟩ := h.conv x hx
      exact ⟨e, List.mem_append.2 (.inl he), hk'⟩

theorem trim_has (st : St) (l0 : 0 ≤ st.low) : ∀ m : Nat, m ≤ 64 → ∀ x, hasB (trimN st m) x = (decide (st.low + m < x) && hasB st x)
  | 0, _, x => by
    show hasB st x = _
    by_cases c : st.low + (0 : Nat) < x
    · rw [decide_eq_true c]; rfl
    · rw [decide_eq_false c]
      cases e : hasB st x with
      | false => rfl
      | true => obtain ⟨a, _⟩ := hasB_iff.1 e; omega
  | m + 1, hm, x => by
    have ih := trim_has st l0 m (by omega) x
    have hl := trimN_low st m
    rw [Bool.eq_iff_iff, Bool.and_eq_true, decide_eq_true_iff, hasB_iff]
    rw [Bool.eq_iff_iff, Bool.and_eq_true, decide_eq_true_iff, hasB_iff, hl] at ih
    rw [hasB_iff] at ih ⊢
    have e1 : (trimN st (m + 1)).low = st.low + ((m + 1 : Nat) : Int) := trimN_low st (m + 1)
    have e2 : (trimN st (m + 1)).ring (x % 64).toNat = if (x % 64).toNat = ((st.low + m + 1) % 64).toNat then noPlc else (trimN st m).ring (x % 64).toNat := rfl
    rw [e1, e2]
    by_cases c : (x % 64).toNat = ((st.low + m + 1) % 64).toNat
    · rw [if_pos c]
      constructor
      · rintro ⟨a, b, d⟩
        have d : (0 : Int) = x := d
        omega
      · rintro ⟨a, b1, b2, b3⟩
        omega
    · rw [if_neg c]
      constructor
      · rintro ⟨a, b, d⟩
        have := ih.1 ⟨by omega, by omega, d⟩
        exact ⟨a, this.2⟩
      · rintro ⟨a, b1, b2, b3⟩
        have := ih.2 ⟨by omega, b1, b2, b3⟩
        exact ⟨a, by omega, this.2.2⟩
theorem trim_ring (st : St) (l0 : 0 ≤ st.low) (x : Int) (h2 : x - st.low ≤ 64) : ∀ m : Nat, st.low + m < x → (trimN st m).ring (x % 64).toNat = st.ring (x % 64).toNat
  | 0, _ => rfl
  | m + 1, h => by
    have ih := trim_ring st l0 x h2 m (by omega)
    have e2 : (trimN st (m + 1)).ring (x % 64).toNat = if (x % 64).toNat = ((st.low + m + 1) % 64).toNat then noPlc else (trimN st m).ring (x % 64).toNat := rfl
    rw [e2, if_neg (by omega), ih]
theorem Kps.trim {st : St} {E : List Ent} (h : Kps st E) (m : Nat) (hm : m ≤ 64) : Kps (trimN st m) E := by
  have hl := trimN_low st m
  have l0 := h.l0
  refine ⟨by omega, fun e he => ?_, fun x hx => ?_⟩
  · obtain ⟨a, b⟩ := h.ent e he
    refine ⟨a, ?_⟩
    rw [hl]
    by_cases c : e.k ≤ st.low + m
    · exact .inl c
    · rcases b with b | ⟨b, d⟩
      · exact .inl (by omega)
      · obtain ⟨b1, b2, b3⟩ := hasB_iff.1 b
        refine .inr ⟨by rw [trim_has st l0 m hm, decide_eq_true (by omega), b]; rfl, ?_⟩
        rw [trim_ring st l0 e.k b2 m (by omega)]
        exact d
  · rw [trim_has st l0 m hm] at hx
    exact h.conv x (by simp at hx; exact hx.2)

structure Rch (st : St) (r : Nat) : Prop where
  le : r ≤ 64
  yes : ∀ k : Nat, k < r → hasB st (st.low + k + 1) = true
  no : hasB st (st.low + r + 1) = false
theorem rch_ex (st : St) : ∃ r, Rch st r := by
  obtain ⟨r, h1, h2, h3⟩ := reach_ex st
  exact ⟨r, h1, h2, h3⟩
theorem Rch.put {st st' : St} {r r' : Nat} (h : Rch st r) (h' : Rch st' r') (hl : st'.low = st.low) (up : ∀ x, hasB st x = true → hasB st' x = true) : r ≤ r' := by
  apply Classical.byContradiction
  intro c
  have := up _ (h.yes r' (by omega))
  have n := h'.no
  rw [hl] at n
  rw [n] at this
  cases this
theorem Rch.trim {st : St} {r r' m : Nat} (h : Rch st r) (h' : Rch (trimN st m) r') (l0 : 0 ≤ st.low) (hm : m ≤ r) : r ≤ m + r' := by
  apply Classical.byContradiction
  intro c
  have n := h'.no
  have := h.le
  rw [trimN_low, trim_has st l0 m (by omega), decide_eq_true (by omega), Bool.true_and] at n
  have y := h.yes (m + r') (by omega)
  rw [show st.low + ((m + r' : Nat) : Int) + 1 = st.low + (m : Int) + (r' : Int) + 1 by omega] at y
  rw [n] at y
  cases y

end Go.Proofs.Ytkbmggclecimeaa
