/- Plain: the program’s test Views is the document’s. -/
import Derived.Test.YtjihimapopbdpaaRViews
import Derived.Test.YtjihimapopbdpaaRAlike
namespace Go.Proofs.Ytjihimapopbdpaa
open Go.RowKit Sh
set_option linter.unusedVariables false

theorem runT_drop {St : Type} (step : St → Ent → Int × St) (err : Nat → Int) (Inv : Nat → St → Prop) (L : List Ent)
    (hs : ∀ i σ, i < L.length → Inv i σ → (step σ (L.getD i default)).1 = err i ∧ (err i = 0 → Inv (i + 1) (step σ (L.getD i default)).2)) :
    ∀ (q i : Nat) (σ : St), i + q = L.length → Inv i σ → runT step σ (L.drop i) = firstE err q i
  | 0, i, σ, h, _ => by
    rw [List.drop_eq_nil_of_le (by omega)]; rfl
  | q + 1, i, σ, h, hi => by
    obtain ⟨h1, h2⟩ := hs i σ (by omega) hi
    have hl : i < L.length := by omega
    have hg : L.getD i default = L[i] := by simp [hl]
    rw [drop_cons hl, runT, firstE, ← hg, h1]
    by_cases c : err i = 0
    · rw [if_pos c, if_pos c]
      exact runT_drop step err Inv L hs q (i + 1) _ (by omega) (h2 c)
    · rw [if_neg c, if_neg c]
theorem runT_eq {St : Type} (step : St → Ent → Int × St) (err : Nat → Int) (Inv : Nat → St → Prop) (L : List Ent) (σ0 : St) (h0 : Inv 0 σ0)
    (hs : ∀ i σ, i < L.length → Inv i σ → (step σ (L.getD i default)).1 = err i ∧ (err i = 0 → Inv (i + 1) (step σ (L.getD i default)).2)) :
    runT step σ0 L = firstE err L.length 0 := by
  have := runT_drop step err Inv L hs L.length 0 σ0 (by omega) h0
  rwa [List.drop_zero] at this

/-! Views. -/
def vAt (L : List Ent) (nd : Int) (i : Nat) : Option Vw := if viewP L nd i = -1 then none else some (L.getD (viewP L nd i).toNat default).v
structure VInv (L : List Ent) (i : Nat) (σ : VSt) : Prop where
  at_ : ∀ nd, σ.at_ nd = vAt L nd i
  of1 : ∀ id m, σ.of id = some m → ∃ k, k < i ∧ (L.getD k default).inst = true ∧ (L.getD k default).id = id ∧ (L.getD k default).mem = m
  of2 : ∀ k, k < i → (L.getD k default).inst = true → σ.of (L.getD k default).id = some (L.getD k default).mem
theorem vclash_iff (L : List Ent) (e : Ent) : ∀ k, vclash L e k = true ↔ ∃ j, j < k ∧ (L.getD j default).inst = true ∧ (L.getD j default).id = e.id ∧ (L.getD j default).mem ≠ e.mem
  | 0 => by simp [vclash]
  | k + 1 => by
    rw [vclash_succ, Bool.or_eq_true, vclash_iff L e k]
    simp only [Bool.and_eq_true, beq_iff_eq, bne_iff_ne, ne_eq]
    constructor
    · rintro (⟨j, h1, h2⟩ | ⟨⟨h1, h2⟩, h3⟩)
      · exact ⟨j, by omega, h2⟩
      · exact ⟨k, by omega, h1, h2, h3⟩
    · rintro ⟨j, h1, h2, h3, h4⟩
      by_cases c : j = k
      · subst c; exact .inr ⟨⟨h2, h3⟩, h4⟩
      · exact .inl ⟨j, by omega, h2, h3, h4⟩
theorem vfew_iff (L : List Ent) (e : Ent) : ∀ k, vfew L e k = true ↔ ∃ j, j < k ∧ (L.getD j default).inst = true ∧ (minorP ⟨(L.getD j default).id, (L.getD j default).mem⟩ ⟨e.id, e.mem⟩ = true ∨ minorP ⟨e.id, e.mem⟩ ⟨(L.getD j default).id, (L.getD j default).mem⟩ = true)
  | 0 => by simp [vfew]
  | k + 1 => by
    rw [vfew_succ, Bool.or_eq_true, vfew_iff L e k]
    simp only [Bool.and_eq_true, Bool.or_eq_true]
    constructor
    · rintro (⟨j, h1, h2⟩ | ⟨h1, h2⟩)
      · exact ⟨j, by omega, h2⟩
      · exact ⟨k, by omega, h1, h2⟩
    · rintro ⟨j, h1, h2, h3⟩
      by_cases c : j = k
      · subst c; exact .inr ⟨h2, h3⟩
      · exact .inl ⟨j, by omega, h2, h3⟩
theorem viewP_inst (L : List Ent) (nd : Int) (i : Nat) (h : (L.getD i default).inst = false) : viewP L nd (i + 1) = viewP L nd i := by
  rw [viewP_succ, h]; rfl
theorem vbad_eq {L : List Ent} {i : Nat} {σ : VSt} (h : VInv L i σ) : vbad σ (L.getD i default) = (vbadR L i || vclash L (L.getD i default) i) := by
  unfold vbad vbadR
  rw [h.at_]
  generalize he : L.getD i default = e
  have h1 : ((vAt L e.node i).isSome && decide (e.id ≤ ((vAt L e.node i).getD ⟨0, 0⟩).id)) = (decide (0 ≤ viewP L e.node i) && decide (e.id ≤ (L.getD (viewP L e.node i).toNat default).id)) := by
    unfold vAt
    rcases viewP_form L e.node i with hv | ⟨j, _, hv, _⟩
    · rw [hv]; rfl
    · rw [hv, if_neg (by omega), decide_eq_true (show (0 : Int) ≤ (j : Int) by omega)]; rfl
  have h2 : ((σ.of e.id).isSome && ((σ.of e.id).getD 0 != e.mem)) = vclash L e i := by
    rw [Bool.eq_iff_iff, vclash_iff]
    constructor
    · intro hh
      cases ho : σ.of e.id with
      | none => rw [ho] at hh; simp at hh
      | some m =>
        rw [ho] at hh
        obtain ⟨k, k1, k2, k3, k4⟩ := h.of1 _ _ ho
        exact ⟨k, k1, k2, k3, by rw [k4]; simpa using hh⟩
    · rintro ⟨j, j1, j2, j3, j4⟩
      have := h.of2 j j1 j2
      rw [j3] at this
      rw [this]
      simpa using j4
  rw [h1, h2]
theorem minor_of {L : List Ent} {i : Nat} {σ : VSt} (h : VInv L i σ) (hok : LOk L) (hi : i < L.length) (hc : vclash L (L.getD i default) i = false) : vmin (vnext σ (L.getD i default)) (L.getD i default) = vfew L (L.getD i default) i := by
  have oke := hok.out i hi
  generalize he : L.getD i default = e at *
  obtain ⟨⟨a0, a1⟩, _⟩ := And.intro oke.id trivial
  have w1 : IntKind.u64.wrap (e.id - 1) ≠ e.id := by rw [IntKind.wrap_u64]; omega
  have w2 : IntKind.u64.wrap (e.id + 1) ≠ e.id := by rw [IntKind.wrap_u64]; omega
  have w3 : IntKind.u64.wrap (IntKind.u64.wrap (e.id + 1) - 1) = e.id := by rw [IntKind.wrap_u64, IntKind.wrap_u64]; omega
  have e1 : vmin (vnext σ e) e = ((!(e.id == 0) && (σ.of (IntKind.u64.wrap (e.id - 1))).isSome && !majorP e.mem ((σ.of (IntKind.u64.wrap (e.id - 1))).getD 0)) || (IntKind.u64.wrap (e.id + 1) != 0 && (σ.of (IntKind.u64.wrap (e.id + 1))).isSome && !majorP ((σ.of (IntKind.u64.wrap (e.id + 1))).getD 0) e.mem)) := by
    unfold vmin vnext majorV
    simp only [upd, if_neg w1, if_neg w2, w3, if_true, Option.isSome_some, Bool.not_true, Bool.or_false, Option.getD_some]
    generalize majorP e.mem ((σ.of (IntKind.u64.wrap (e.id - 1))).getD 0) = m1
    generalize majorP ((σ.of (IntKind.u64.wrap (e.id + 1))).getD 0) e.mem = m2
    generalize (σ.of (IntKind.u64.wrap (e.id - 1))).isSome = s1
    generalize (σ.of (IntKind.u64.wrap (e.id + 1))).isSome = s2
    generalize (e.id == 0) = z1
    have hb : (IntKind.u64.wrap (e.id + 1) == 0) = !(IntKind.u64.wrap (e.id + 1) != 0) := by simp [bne]
    rw [hb]
    generalize (IntKind.u64.wrap (e.id + 1) != 0) = z2
    cases m1 <;> cases m2 <;> cases s1 <;> cases s2 <;> cases z1 <;> cases z2 <;> rfl
  rw [e1, Bool.eq_iff_iff, vfew_iff]
  constructor
  · intro hh
    rcases Bool.or_eq_true_iff.1 hh with hh | hh
    · cases hq : σ.of (IntKind.u64.wrap (e.id - 1)) with
      | none => rw [hq] at hh; simp at hh
      | some p =>
        rw [hq] at hh
        obtain ⟨k, k1, k2, k3, k4⟩ := h.of1 _ _ hq
        refine ⟨k, k1, k2, .inl ?_⟩
        unfold minorP
        simp only [k3, k4]
        simp only [Option.isSome_some, Option.getD_some, Bool.and_true] at hh
        simp only [Bool.and_eq_true, Bool.not_eq_true', beq_eq_false_iff_ne, ne_eq] at hh
        simp only [beq_self_eq_true, Bool.and_true, Bool.and_eq_true, Bool.not_eq_true', hh.2, and_true]
        exact decide_eq_true (by omega)
    · cases hq : σ.of (IntKind.u64.wrap (e.id + 1)) with
      | none => rw [hq] at hh; simp at hh
      | some p =>
        rw [hq] at hh
        obtain ⟨k, k1, k2, k3, k4⟩ := h.of1 _ _ hq
        refine ⟨k, k1, k2, .inr ?_⟩
        unfold minorP
        simp only [k3, k4, w3]
        simp only [Option.isSome_some, Option.getD_some, Bool.and_true] at hh
        simp only [Bool.and_eq_true, Bool.not_eq_true', bne_iff_ne, ne_eq] at hh
        simp only [beq_self_eq_true, Bool.and_true, Bool.and_eq_true, Bool.not_eq_true', hh.2, and_true]
        have := hh.1
        rw [IntKind.wrap_u64] at this ⊢
        exact decide_eq_true (by omega)
  · rintro ⟨j, j1, j2, j3⟩
    have okj := hok.out j (by omega)
    have hof := h.of2 j j1 j2
    generalize L.getD j default = f at *
    have f0 := okj.id
    unfold minorP at j3
    simp only [Bool.and_eq_true, Bool.not_eq_true', beq_iff_eq, decide_eq_true_eq] at j3
    rcases j3 with ⟨⟨g1, g2⟩, g3⟩ | ⟨⟨g1, g2⟩, g3⟩
    · rw [← g2, hof]
      simp only [Option.isSome_some, Option.getD_some, g3]
      have : (e.id == 0) = false := by simp; omega
      rw [this]; rfl
    · have g4 : IntKind.u64.wrap (e.id + 1) = f.id := by rw [IntKind.wrap_u64] at g2 ⊢; omega
      rw [g4, hof]
      simp only [Option.isSome_some, Option.getD_some, g3]
      have : (f.id != 0) = true := by simp; omega
      rw [this]; simp
theorem views_eq {L : List Ent} (hok : LOk L) : runT vstep v0 L = refV L := by
  refine runT_eq vstep (vErr L) (VInv L) L v0 ⟨fun nd => rfl, (fun id m h => by cases h), fun k hk => by omega⟩ ?_
  intro i σ hi hI
  have hb := vbad_eq hI
  have hm := minor_of hI hok hi
  unfold vErr
  unfold vstep
  cases hin : (L.getD i default).inst
  · refine ⟨rfl, fun _ => ?_⟩
    simp only [Bool.not_false, if_true]
    refine ⟨fun nd => ?_, fun id m h => ?_, fun k hk hk2 => ?_⟩
    · rw [hI.at_]; unfold vAt; rw [viewP_inst L nd i hin]
    · obtain ⟨k, k1, k2⟩ := hI.of1 id m h
      exact ⟨k, by omega, k2⟩
    · by_cases c : k = i
      · subst c; rw [hin] at hk2; cases hk2
      · exact hI.of2 k (by omega) hk2
  · rw [hb]
    simp only [Bool.not_true, Bool.false_eq_true, if_false]
    cases hbb : vbadR L i
    · cases hcc : vclash L (L.getD i default) i
      · rw [hm hcc]
        simp only [Bool.or_self, Bool.false_eq_true, if_false]
        cases hf : vfew L (L.getD i default) i
        · simp only [Bool.false_eq_true, if_false]
          refine ⟨rfl, fun _ => ⟨fun nd => ?_, fun id m h => ?_, fun k hk hk2 => ?_⟩⟩
          · simp only [vnext, upd]
            unfold vAt
            rw [viewP_succ, hin]
            by_cases c : nd = (L.getD i default).node
            · subst c
              simp only [if_true, beq_self_eq_true, Bool.and_self]
              rw [if_neg (by omega)]
              rfl
            · have c2 : ((L.getD i default).node == nd) = false := by simp; exact fun h => c h.symm
              rw [if_neg c, c2, hI.at_]
              rfl
          · simp only [vnext, upd] at h
            by_cases c : id = (L.getD i default).id
            · rw [if_pos c] at h
              injection h with h
              exact ⟨i, by omega, hin, c.symm, h⟩
            · rw [if_neg c] at h
              obtain ⟨k, k1, k2⟩ := hI.of1 id m h
              exact ⟨k, by omega, k2⟩
          · simp only [vnext, upd]
            by_cases c : k = i
            · subst c; rw [if_pos rfl]
            · by_cases d : (L.getD k default).id = (L.getD i default).id
              · rw [if_pos d]
                have : ¬ (L.getD k default).mem ≠ (L.getD i default).mem := fun hne => by
                  have := (vclash_iff L (L.getD i default) i).2 ⟨k, by omega, hk2, d, hne⟩
                  rw [hcc] at this; cases this
                rw [Decidable.not_not.1 this]
              · rw [if_neg d]; exact hI.of2 k (by omega) hk2
        · simp
      · simp
    · simp
end Go.Proofs.Ytjihimapopbdpaa
