/- What is stable: the plain law. -/
import Derived.Test.YtmficjbgpcbhoaaDoorRSta
namespace Go.Proofs.YtmficjbgpcbhoaaDoor
set_option linter.unusedVariables false

theorem stab_none {m : Int → Option Int} : ∀ (L : List N63) (i : Nat) (least : Int), (∃ c ∈ L, m (c.1 : Int) = none) → stab m L i least = 0
  | [], _, _, h => by obtain ⟨c, h, _⟩ := h; cases h
  | c :: L, i, least, h => by
    rw [stab_cons]
    cases hc : m (c.1 : Int) with
    | none => rfl
    | some v =>
      obtain ⟨d, hd, h2⟩ := h
      rcases List.mem_cons.1 hd with rfl | hd
      · rw [hc] at h2; cases h2
      · exact stab_none L (i + 1) _ ⟨d, hd, h2⟩
theorem stab_some {m : Int → Option Int} : ∀ (L : List N63) (i : Nat) (least : Int), (∀ c ∈ L, m (c.1 : Int) ≠ none) → stab m L (i + 1) least ≤ least ∧ (∀ c ∈ L, ∀ v, m (c.1 : Int) = some v → stab m L (i + 1) least ≤ v) ∧ (stab m L (i + 1) least = least ∨ ∃ c ∈ L, m (c.1 : Int) = some (stab m L (i + 1) least))
  | [], _, least, _ => ⟨Int.le_refl _, fun c h => (nomatch h), Or.inl rfl⟩
  | c :: L, i, least, h => by
    have hs : ∃ v, m (c.1 : Int) = some v := by
      cases hc : m (c.1 : Int) with
      | none => exact absurd hc (h c (by simp))
      | some v => exact ⟨v, rfl⟩
    obtain ⟨v, hv⟩ := hs
    have e : stab m (c :: L) (i + 1) least = stab m L (i + 1 + 1) (min least v) := by rw [stab_cons, hv]; simp
    obtain ⟨h1, h2, h3⟩ := stab_some (m := m) L (i + 1) (min least v) (fun d hd => h d (by simp [hd]))
    rw [e]
    refine ⟨by omega, fun d hd u hu => ?_, ?_⟩
    · rcases List.mem_cons.1 hd with rfl | hd
      · rw [hv] at hu; injection hu with hu; omega
      · exact h2 d hd u hu
    · rcases h3 with h3 | ⟨d, hd, h3⟩
      · rcases Int.le_total least v with hl | hl
        · exact Or.inl (by omega)
        · refine Or.inr ⟨c, by simp, ?_⟩
          rw [hv]; congr 1; omega
      · exact Or.inr ⟨d, by simp [hd], h3⟩
/-- One node of the law's test: its number is there and is n, or it is not there. -/
def hits (m : Int → Option Int) (n : Int) (c : N63) : Bool := match m (c.1 : Int) with | none => true | some v => v == n
theorem stab_law {m : Int → Option Int} (hpos : ∀ k v, m k = some v → 0 ≤ v) (L : List N63) (n : Int) (hn : n = stab m L 0 0) : (∀ c ∈ L, ∀ v, m (c.1 : Int) = some v → ¬ v < n) ∧ (∀ c ∈ L, m (c.1 : Int) = none → n = 0) ∧ ((decide (L.length = 0) && n == 0) || L.any (hits m n)) = true := by
  cases L with
  | nil => subst hn; exact ⟨fun c h => (nomatch h), fun c h => (nomatch h), rfl⟩
  | cons c L =>
    by_cases hall : ∃ d ∈ c :: L, m (d.1 : Int) = none
    · have h0 := stab_none (c :: L) 0 0 hall
      rw [h0] at hn
      subst hn
      obtain ⟨d, hd, h2⟩ := hall
      refine ⟨fun e he v hv => ?_, fun _ _ _ => rfl, ?_⟩
      · have := hpos _ _ hv
        omega
      · have : (c :: L).any (hits m 0) = true := List.any_eq_true.2 ⟨d, hd, by simp [hits, h2]⟩
        rw [this, Bool.or_true]
    · have hno : ∀ d ∈ c :: L, m (d.1 : Int) ≠ none := fun d hd h => hall ⟨d, hd, h⟩
      have hs : ∃ v, m (c.1 : Int) = some v := by
        cases hc : m (c.1 : Int) with
        | none => exact absurd hc (hno c (by simp))
        | some v => exact ⟨v, rfl⟩
      obtain ⟨v, hv⟩ := hs
      have e : stab m (c :: L) 0 0 = stab m L (0 + 1) v := by rw [stab_cons, hv]; simp
      obtain ⟨h1, h2, h3⟩ := stab_some (m := m) L 0 v (fun d hd => hno d (by simp [hd]))
      rw [e] at hn
      rw [← hn] at h1 h2 h3
      refine ⟨fun d hd u hu => ?_, fun d hd h => absurd h (hno d hd), ?_⟩
      · rcases List.mem_cons.1 hd with rfl | hd
        · rw [hv] at hu; injection hu with hu; omega
        · have := h2 d hd u hu; omega
      · have : (c :: L).any (hits m n) = true := by
          rcases h3 with h3 | ⟨d, hd, h3⟩
          · exact List.any_eq_true.2 ⟨c, by simp, by simp [hits, hv, h3]⟩
          · exact List.any_eq_true.2 ⟨d, by simp [hd], by simp [hits, h3]⟩
        rw [this, Bool.or_true]
end Go.Proofs.YtmficjbgpcbhoaaDoor
