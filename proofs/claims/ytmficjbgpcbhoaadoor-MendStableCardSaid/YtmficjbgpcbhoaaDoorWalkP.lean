/- From sorted edges to spans; no program here. -/
import Derived.Test.YtmficjbgpcbhoaaDoorEdgeM
import Derived.Test.YtmficjbgpcbhoaaDoorSortN
namespace Go.Proofs.YtmficjbgpcbhoaaDoor
open Go.RowKit Sh
set_option linter.unusedVariables false

def mem (l : List Sp) (x : Int) : Prop := ∃ k, k < l.length ∧ (sp l k).f ≤ x ∧ x ≤ (sp l k).t
open Classical in
noncomputable def memB (l : List Sp) (x : Int) : Bool := decide (mem l x)
theorem memB_iff {l : List Sp} {x : Int} : memB l x = true ↔ mem l x := by simp [memB]
theorem memB_false {l : List Sp} {x : Int} : memB l x = false ↔ ¬ mem l x := by simp [memB]

theorem Ok.rise {l : List Sp} (h : Ok l) (k : Nat) : ∀ j, k < j → j < l.length → (sp l k).t + 2 ≤ (sp l j).f := by
  intro j
  induction j with
  | zero => intro h1; omega
  | succ j ih =>
    intro h1 h2
    have hj := h (j + 1) h2
    have := hj.2.2 (by omega)
    simp only [Nat.add_sub_cancel] at this
    by_cases e : k = j
    · subst e; exact this
    · have := ih (by omega) (by omega)
      have := (h j (by omega)).1
      omega

def lastF (D : Nat → Edge) (s : Bool) : Nat → Bool
  | 0 => false
  | i + 1 => if (D i).a = s then (D i).i else lastF D s i

theorem lastF_spec (D : Nat → Edge) (s : Bool) (i : Nat) :
    (lastF D s i = false ∧ ∀ j, j < i → (D j).a ≠ s) ∨ ∃ j0, j0 < i ∧ (D j0).a = s ∧ (∀ j, j0 < j → j < i → (D j).a ≠ s) ∧ lastF D s i = (D j0).i := by
  induction i with
  | zero => exact .inl ⟨rfl, fun j hj => by omega⟩
  | succ i ih =>
    by_cases e : (D i).a = s
    · exact .inr ⟨i, by omega, e, fun j h1 h2 => by omega, by simp [lastF, e]⟩
    · rcases ih with ⟨h1, h2⟩ | ⟨j0, h1, h2, h3, h4⟩
      · refine .inl ⟨by simp [lastF, e, h1], fun j hj => ?_⟩
        by_cases ej : j = i
        · subst ej; exact e
        · exact h2 j (by omega)
      · refine .inr ⟨j0, by omega, h2, fun j g1 g2 => ?_, by simp [lastF, e, h4]⟩
        by_cases ej : j = i
        · subst ej; exact e
        · exact h3 j g1 (by omega)

/-- The edges of one list among all. -/
structure Fam (E : Nat → Edge) (n off : Nat) (l : List Sp) (s : Bool) : Prop where
  e : ∀ k, k < l.length → off + 2 * k + 1 < n ∧ E (off + 2 * k) = ⟨(sp l k).f, s, true⟩ ∧ E (off + 2 * k + 1) = ⟨(sp l k).t + 1, s, false⟩
  ot : ∀ j, j < n → (E j).a = s → ∃ k, k < l.length ∧ (j = off + 2 * k ∨ j = off + 2 * k + 1)

theorem status {E D : Nat → Edge} {n off : Nat} {l : List Sp} {s : Bool} (hF : Fam E n off l s) (hP : PermOn 0 n E D) (hS : SortedOn D 0 n) (hO : Ok l) (i : Nat) (hi : i ≤ n) (x : Int)
    (h1 : ∀ j, j < i → (D j).p ≤ x) (h2 : ∀ j, i ≤ j → j < n → x < (D j).p) : lastF D s i = memB l x := by
  obtain ⟨σ, τ, st, ts, so, sm, hD⟩ := hP.ex
  have tm : ∀ y, y < n → τ y < n := by
    intro y hy
    apply Classical.byContradiction
    intro hc
    have := so (τ y) (by omega)
    rw [st] at this
    omega
  by_cases hm : mem l x
  · rw [memB_iff.2 hm]
    obtain ⟨k, hk, m1, m2⟩ := hm
    obtain ⟨q1, q2, q3⟩ := hF.e k hk
    have j0n := tm (off + 2 * k) (by omega)
    have hDj : D (τ (off + 2 * k)) = ⟨(sp l k).f, s, true⟩ := by rw [hD, st, q2]
    have j0i : τ (off + 2 * k) < i := by
      apply Classical.byContradiction
      intro hc
      have := h2 _ (by omega) j0n
      rw [hDj] at this
      simp only at this
      omega
    have huniq : ∀ j, τ (off + 2 * k) < j → j < i → (D j).a ≠ s := by
      intro j g1 g2 hj
      rw [hD] at hj
      obtain ⟨k', hk', hh⟩ := hF.ot (σ j) (sm j ⟨by omega, by omega⟩).2 hj
      obtain ⟨_, q2', q3'⟩ := hF.e k' hk'
      have hs := hS _ _ (by omega) g1 (by omega)
      rw [hDj] at hs
      have hx := h1 j g2
      have ok1 := hO k hk
      have ok2 := hO k' hk'
      have cmp := Nat.lt_trichotomy k k'
      rcases hh with hh | hh
      · have hv : D j = ⟨(sp l k').f, s, true⟩ := by rw [hD, hh, q2']
        rw [hv] at hs hx
        simp only at hs hx
        rcases cmp with c | c | c
        · have := hO.rise k k' c hk'; omega
        · subst c
          have : τ (σ j) = τ (off + 2 * k) := by rw [hh]
          rw [ts] at this
          omega
        · have := hO.rise k' k c hk; omega
      · have hv : D j = ⟨(sp l k').t + 1, s, false⟩ := by rw [hD, hh, q3']
        rw [hv] at hs hx
        simp only at hs hx
        rcases cmp with c | c | c
        · have := hO.rise k k' c hk'; omega
        · subst c; omega
        · have := hO.rise k' k c hk; omega
    rcases lastF_spec D s i with ⟨g1, g2⟩ | ⟨j1, g1, g2, g3, g4⟩
    · exact absurd (by rw [hDj]) (g2 _ j0i)
    · rcases Nat.lt_trichotomy j1 (τ (off + 2 * k)) with c | c | c
      · exact absurd (by rw [hDj]) (g3 _ c j0i)
      · rw [g4, c, hDj]
      · exact absurd g2 (huniq j1 c g1)
  · rw [memB_false.2 hm]
    rcases lastF_spec D s i with ⟨g1, g2⟩ | ⟨j0, g1, g2, g3, g4⟩
    · exact g1
    · rw [g4]
      rw [hD] at g2
      obtain ⟨k, hk, hh⟩ := hF.ot (σ j0) (sm j0 ⟨by omega, by omega⟩).2 g2
      obtain ⟨q1, q2, q3⟩ := hF.e k hk
      have ok1 := hO k hk
      rcases hh with hh | hh
      · exfalso
        have hv : D j0 = ⟨(sp l k).f, s, true⟩ := by rw [hD, hh, q2]
        have hx := h1 j0 g1
        rw [hv] at hx
        simp only at hx
        have htx : (sp l k).t < x := by
          apply Classical.byContradiction
          intro hc
          exact hm ⟨k, hk, hx, by omega⟩
        have j1n := tm (off + 2 * k + 1) (by omega)
        have hv1 : D (τ (off + 2 * k + 1)) = ⟨(sp l k).t + 1, s, false⟩ := by rw [hD, st, q3]
        have j1i : τ (off + 2 * k + 1) < i := by
          apply Classical.byContradiction
          intro hc
          have := h2 _ (by omega) j1n
          rw [hv1] at this
          simp only at this
          omega
        rcases Nat.lt_trichotomy (τ (off + 2 * k + 1)) j0 with c | c | c
        · have := hS _ _ (by omega) c (by omega)
          rw [hv, hv1] at this
          simp only at this
          omega
        · rw [c, hv] at hv1
          exact absurd (congrArg Edge.i hv1) (by simp)
        · exact absurd (by rw [hv1]) (g3 _ c j1i)
      · rw [hD, hh, q3]

/-- what has been told of the numbers below q. -/
structure Desc (K : Int → Bool) (q : Int) (is : Bool) (fr : Int) (out : List Sp) : Prop where
  ok : Ok out
  rng : Rng out
  lt : is = true → 0 ≤ fr ∧ fr < q
  run : is = true → ∀ x, fr ≤ x → x < q → K x = true
  top : ∀ k, k < out.length → (sp out k).t + 2 ≤ (if is = true then fr else q)
  low : ∀ x, x < (if is = true then fr else q) → memB out x = K x
  fr0 : 0 ≤ fr ∧ fr < 18446744073709551616

theorem sp_snoc (l : List Sp) (x : Sp) (k : Nat) : sp (l ++ [x]) k = if k < l.length then sp l k else if k = l.length then x else ⟨0, 0⟩ := by
  unfold sp
  by_cases h1 : k < l.length
  · rw [if_pos h1]; simp [List.getD_eq_getElem?_getD, List.getElem?_append_left h1]
  · rw [if_neg h1]
    by_cases h2 : k = l.length
    · subst h2; simp
    · rw [if_neg h2]
      simp [List.getD_eq_getElem?_getD, List.getElem?_eq_none (show (l ++ [x]).length ≤ k by simp; omega)]
theorem mem_snoc (l : List Sp) (y : Sp) (x : Int) : mem (l ++ [y]) x ↔ mem l x ∨ (y.f ≤ x ∧ x ≤ y.t) := by
  constructor
  · rintro ⟨k, hk, h1, h2⟩
    rw [sp_snoc] at h1 h2
    simp only [List.length_append, List.length_cons, List.length_nil] at hk
    by_cases c : k < l.length
    · rw [if_pos c] at h1 h2; exact .inl ⟨k, c, h1, h2⟩
    · rw [if_neg c, if_pos (by omega)] at h1 h2; exact .inr ⟨h1, h2⟩
  · rintro (⟨k, hk, h1, h2⟩ | ⟨h1, h2⟩)
    · exact ⟨k, by simp; omega, by rw [sp_snoc, if_pos hk]; exact h1, by rw [sp_snoc, if_pos hk]; exact h2⟩
    · exact ⟨l.length, by simp, by rw [sp_snoc, if_neg (by omega), if_pos rfl]; exact h1, by rw [sp_snoc, if_neg (by omega), if_pos rfl]; exact h2⟩
theorem Ok.snoc {l : List Sp} (h : Ok l) (y : Sp) (h1 : y.f ≤ y.t) (h2 : y.t < 18446744073709551615) (h3 : ∀ k, k < l.length → (sp l k).t + 2 ≤ y.f) : Ok (l ++ [y]) := by
  intro j hj
  simp only [List.length_append, List.length_cons, List.length_nil] at hj
  rw [sp_snoc, sp_snoc]
  by_cases c : j < l.length
  · rw [if_pos c]
    have := h j c
    refine ⟨this.1, this.2.1, fun h0 => ?_⟩
    rw [if_pos (by omega)]
    exact this.2.2 h0
  · rw [if_neg c, if_pos (by omega)]
    refine ⟨h1, h2, fun h0 => ?_⟩
    rw [if_pos (by omega)]
    exact h3 _ (by omega)
theorem Rng.snoc {l : List Sp} (h : Rng l) (y : Sp) (h1 : 0 ≤ y.f ∧ y.f < 18446744073709551616 ∧ 0 ≤ y.t ∧ y.t < 18446744073709551616) : Rng (l ++ [y]) := by
  intro j hj
  simp only [List.length_append, List.length_cons, List.length_nil] at hj
  rw [sp_snoc]
  by_cases c : j < l.length
  · rw [if_pos c]; exact h j c
  · rw [if_neg c, if_pos (by omega)]; exact h1

section
variable {K : Int → Bool} {q q2 fr : Int} {is : Bool} {out : List Sp}
theorem Desc.open_ (h : Desc K q false fr out) (hq : q < q2) (h0 : 0 ≤ q) (hM : q < 18446744073709551616) (hk : ∀ x, q ≤ x → x < q2 → K x = true) : Desc K q2 true q out :=
  ⟨h.ok, h.rng, fun _ => ⟨h0, hq⟩, fun _ => hk, by simpa using h.top, by simpa using h.low, ⟨h0, hM⟩⟩
theorem Desc.on (h : Desc K q true fr out) (hq : q < q2) (hk : ∀ x, q ≤ x → x < q2 → K x = true) : Desc K q2 true fr out :=
  ⟨h.ok, h.rng, fun _ => ⟨(h.lt rfl).1, by have := (h.lt rfl).2; omega⟩, fun _ x h1 h2 => by
    by_cases c : x < q
    · exact h.run rfl x h1 c
    · exact hk x (by omega) h2, by simpa using h.top, by simpa using h.low, h.fr0⟩
theorem Desc.shut (h : Desc K q true fr out) (hq : q < q2) (hM : q < 18446744073709551616) (hk : ∀ x, q ≤ x → x < q2 → K x = false) : Desc K q2 false fr (out ++ [⟨fr, q - 1⟩]) := by
  have l := h.lt rfl
  have htop := h.top
  have hlow := h.low
  simp only [if_true] at htop hlow
  refine ⟨h.ok.snoc _ (by simp only; omega) (by simp only; omega) htop, h.rng.snoc _ (by simp only; omega), fun h => by simp at h, fun h => by simp at h, fun k hk' => ?_, fun x hx => ?_, h.fr0⟩
  · simp only [List.length_append, List.length_cons, List.length_nil] at hk'
    rw [sp_snoc]
    by_cases c : k < out.length
    · rw [if_pos c]; have := htop k c; simp; omega
    · rw [if_neg c, if_pos (by omega)]; simp; omega
  · simp at hx
    by_cases c1 : x < fr
    · rw [← hlow x c1]
      have : mem (out ++ [⟨fr, q - 1⟩]) x ↔ mem out x := by rw [mem_snoc]; simp only; constructor
                                                            · rintro (h | h); exact h; omega
                                                            · exact .inl
      exact Bool.eq_iff_iff.2 (by rw [memB_iff, memB_iff]; exact this)
    · by_cases c2 : x < q
      · rw [h.run rfl x (by omega) c2, memB_iff, mem_snoc]
        exact .inr ⟨by simp only; omega, by simp only; omega⟩
      · rw [hk x (by omega) hx, memB_false, mem_snoc]
        rintro (⟨k, hk', m1, m2⟩ | ⟨m1, m2⟩)
        · have := htop k hk'; omega
        · simp only at m2; omega
theorem Desc.off (h : Desc K q false fr out) (hq : q < q2) (hk : ∀ x, q ≤ x → x < q2 → K x = false) : Desc K q2 false fr out := by
  have htop := h.top
  have hlow := h.low
  simp at htop hlow
  refine ⟨h.ok, h.rng, fun h => by simp at h, fun h => by simp at h, fun k hk' => ?_, fun x hx => ?_, h.fr0⟩
  · have := htop k hk'; simp; omega
  · simp at hx
    by_cases c : x < q
    · exact hlow x c
    · rw [hk x (by omega) hx, memB_false]
      rintro ⟨k, hk', m1, m2⟩
      have := htop k hk'; omega
end

end Go.Proofs.YtmficjbgpcbhoaaDoor
