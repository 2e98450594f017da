/- Plain: the program’s test Order is the document’s. -/
import Derived.Test.YtjihimapopbdpaaRAlike
import Derived.Test.YtjihimapopbdpaaTellV
namespace Go.Proofs.Ytjihimapopbdpaa
open Go.RowKit Sh
set_option linter.unusedVariables false

/-! Order. -/
def oAt (L : List Ent) (nd : Int) (i : Nat) : Option (Vw × Int) := if seatP L nd i = -1 then none else some ((L.getD (seatP L nd i).toNat default).v, (ocnt L nd (seatP L nd i).toNat (i - (seatP L nd i).toNat) : Int))
theorem ocnt_succ (L : List Ent) (nd : Int) (a t : Nat) : ocnt L nd a (t + 1) = ocnt L nd a t + if (L.getD (a + t) default).dlv && ((L.getD (a + t) default).node == nd) then 1 else 0 := rfl
theorem oAt_succ (L : List Ent) (nd : Int) (i : Nat) : oAt L nd (i + 1) = if (L.getD i default).node = nd then (if (L.getD i default).out then none else if (L.getD i default).inst then some ((L.getD i default).v, 0) else if (L.getD i default).dlv then (oAt L nd i).map (fun p => (p.1, p.2 + 1)) else oAt L nd i) else oAt L nd i := by
  have hf := seatP_form L nd i
  have hs := seatP_succ L nd i
  have hstep : ∀ s : Nat, s < i → ocnt L nd s (i + 1 - s) = ocnt L nd s (i - s) + if (L.getD i default).dlv && ((L.getD i default).node == nd) then 1 else 0 := fun s h => by
    rw [show i + 1 - s = (i - s) + 1 by omega, ocnt_succ, show s + (i - s) = i by omega]
  generalize he : L.getD i default = e at *
  unfold oAt
  by_cases hn : e.node = nd
  · rw [if_pos hn] at hs ⊢
    cases ho : e.out
    · rw [ho] at hs
      simp only [Bool.false_eq_true, if_false] at hs ⊢
      cases hi : e.inst
      · rw [hi] at hs
        simp only [Bool.false_eq_true, if_false] at hs ⊢
        rw [hs]
        rcases hf with hf | ⟨s, h1, h2, _⟩
        · rw [hf]; simp
        · rw [h2, if_neg (by omega), Int.toNat_natCast, hstep s h1]
          have hb : (e.node == nd) = true := by simp [hn]
          rw [hb]
          cases e.dlv <;> simp
      · rw [hi] at hs
        simp only [if_true] at hs ⊢
        have hd : e.dlv = false := (inst_only hi).2
        rw [hs, if_neg (by omega), Int.toNat_natCast, show i + 1 - i = 0 + 1 by omega, ocnt_succ, Nat.add_zero, he, hd]
        simp [ocnt]
    · rw [ho] at hs
      simp only [if_true] at hs ⊢
      rw [hs]; simp
  · rw [if_neg hn] at hs ⊢
    rw [hs]
    rcases hf with hf | ⟨s, h1, h2, _⟩
    · rw [hf]; simp
    · have hb : (e.node == nd) = false := by simp [hn]
      rw [h2, if_neg (by omega), if_neg (by omega), Int.toNat_natCast, hstep s h1, hb]
      simp
theorem oclash_iff (L : List Ent) (e : Ent) : ∀ k, oclash L e k = true ↔ ∃ j, j < k ∧ (L.getD j default).dlv = true ∧ (L.getD j default).id = e.id ∧ (L.getD j default).n = e.n ∧ (L.getD j default).m ≠ e.m
  | 0 => by simp [oclash]
  | k + 1 => by
    rw [oclash_succ, Bool.or_eq_true, oclash_iff L e k]
    simp only [Bool.and_eq_true, beq_iff_eq, Bool.not_eq_true', decide_eq_false_iff_not]
    constructor
    · rintro (⟨j, h1, h2⟩ | ⟨⟨⟨h1, h2⟩, h3⟩, h4⟩)
      · exact ⟨j, by omega, h2⟩
      · exact ⟨k, by omega, h1, h2, h3, h4⟩
    · rintro ⟨j, h1, h2, h3, h4, h5⟩
      by_cases c : j = k
      · subst c; exact .inr ⟨⟨⟨h2, h3⟩, h4⟩, h5⟩
      · exact .inl ⟨j, by omega, h2, h3, h4, h5⟩
structure OInv (L : List Ent) (i : Nat) (σ : OSt) : Prop where
  at_ : ∀ nd, σ.at_ nd = oAt L nd i
  sd1 : ∀ p m, σ.said p = some m → ∃ k, k < i ∧ (L.getD k default).dlv = true ∧ ((L.getD k default).id, (L.getD k default).n) = p ∧ (L.getD k default).m = m
  sd2 : ∀ k, k < i → (L.getD k default).dlv = true → σ.said ((L.getD k default).id, (L.getD k default).n) = some (L.getD k default).m
theorem oInv_same {L : List Ent} {i : Nat} {σ : OSt} {a : Int → Option (Vw × Int)} (h : OInv L i σ) (hd : (L.getD i default).dlv = false) (ha : ∀ nd, a nd = oAt L nd (i + 1)) : OInv L (i + 1) ⟨a, σ.said⟩ := by
  refine ⟨ha, fun p m hp => ?_, fun k hk hk2 => ?_⟩
  · obtain ⟨k, k1, k2⟩ := h.sd1 p m hp
    exact ⟨k, by omega, k2⟩
  · by_cases c : k = i
    · subst c; rw [hd] at hk2; cases hk2
    · exact h.sd2 k (by omega) hk2
theorem order_eq {L : List Ent} (hok : LOk L) (hlen : L.length ≤ 1000) : runT ostep o0 L = refO L := by
  refine runT_eq ostep (oErr L) (OInv L) L o0 ⟨fun nd => rfl, (fun p m h => by cases h), fun k hk => by omega⟩ ?_
  intro i σ hi hI
  have hA := fun nd => oAt_succ L nd i
  have hcl := oclash_iff L (L.getD i default) i
  have oke := hok.out i hi
  have same := fun a hd ha => oInv_same (a := a) hI hd ha
  unfold oErr
  unfold ostep
  have hb : (!(σ.at_ (L.getD i default).node).isSome || !plEq (((σ.at_ (L.getD i default).node).getD (⟨0, 0⟩, 0)).1, IntKind.u64.wrap (((σ.at_ (L.getD i default).node).getD (⟨0, 0⟩, 0)).2 + 1)) ((L.getD i default).v, (L.getD i default).n)) = (obad L i || !decide ((L.getD i default).n = (ocn L i : Int) + 1)) := by
    rw [hI.at_]
    unfold oAt obad ocn
    generalize L.getD i default = e
    rcases seatP_form L e.node i with hv | ⟨s, h1, hv, _⟩
    · rw [hv]; rfl
    · rw [hv, if_neg (by omega), Int.toNat_natCast, decide_eq_false (show ¬ (s : Int) < 0 by omega)]
      have hcc := ocnt_le L e.node s (i - s)
      have hw : IntKind.u64.wrap ((ocnt L e.node s (i - s) : Int) + 1) = (ocnt L e.node s (i - s) : Int) + 1 := by rw [IntKind.wrap_u64]; omega
      simp only [Option.isSome_some, Bool.not_true, Bool.false_or, Option.getD_some, hw]
      unfold plEq
      rw [Bool.eq_iff_iff]
      simp only [Bool.not_eq_true', Bool.or_eq_true, decide_eq_false_iff_not, Prod.mk.injEq]
      constructor
      · intro h
        by_cases c : (L.getD s default).v = e.v
        · exact .inr fun h2 => h ⟨c, h2.symm⟩
        · exact .inl c
      · rintro (h | h) ⟨h1, h2⟩
        · exact h h1
        · exact h h2.symm
  cases hin : (L.getD i default).inst
  · cases hou : (L.getD i default).out
    · cases hdl : (L.getD i default).dlv
      · simp only [Bool.false_eq_true, if_false, Bool.not_false, if_true]
        refine ⟨trivial, fun _ => same _ hdl fun nd => ?_⟩
        rw [hA, hI.at_, hin, hou, hdl]; simp
      · simp only [Bool.false_eq_true, if_false, Bool.not_true]
        rw [hb]
        cases hbb : obad L i
        · by_cases hn : (L.getD i default).n = (ocn L i : Int) + 1
          · rw [decide_eq_true hn, if_neg (show ¬ ((L.getD i default).n ≠ (ocn L i : Int) + 1) from fun h => h hn)]
            have hs : ((σ.said ((L.getD i default).id, (L.getD i default).n)).isSome && !mgEq ((σ.said ((L.getD i default).id, (L.getD i default).n)).getD ⟨0, 0, ⟨#[]⟩⟩) (L.getD i default).m) = oclash L (L.getD i default) i := by
              rw [Bool.eq_iff_iff, hcl]
              constructor
              · intro hh
                cases ho : σ.said ((L.getD i default).id, (L.getD i default).n) with
                | none => rw [ho] at hh; simp at hh
                | some m =>
                  rw [ho] at hh
                  obtain ⟨k, k1, k2, k3, k4⟩ := hI.sd1 _ _ ho
                  injection k3 with k5 k6
                  refine ⟨k, k1, k2, k5, k6, ?_⟩
                  rw [k4]
                  simpa [mgEq] using hh
              · rintro ⟨j, j1, j2, j3, j4, j5⟩
                have := hI.sd2 j j1 j2
                rw [j3, j4] at this
                rw [this]
                simpa [mgEq] using j5
            rw [hs]
            cases hcc : oclash L (L.getD i default) i
            · simp only [Bool.not_true, Bool.or_false, Bool.false_eq_true, if_false]
              refine ⟨rfl, fun _ => ⟨fun nd => ?_, fun p m hp => ?_, fun k hk hk2 => ?_⟩⟩
              · rw [hA, hou, hin, hdl]
                simp only [upd, Bool.false_eq_true, if_false, if_true]
                by_cases c : nd = (L.getD i default).node
                · rw [if_pos c, if_pos c.symm]
                  subst c
                  have hob := hbb
                  unfold obad at hob
                  unfold ocn at hn
                  unfold oAt
                  rcases seatP_form L (L.getD i default).node i with hv | ⟨s, h1, hv, _⟩
                  · rw [hv] at hob; simp at hob
                  · rw [hv, Int.toNat_natCast] at hob hn
                    rw [hv, if_neg (by omega), Int.toNat_natCast]
                    have hv2 : (L.getD s default).v = (L.getD i default).v := by
                      simp only [Bool.or_eq_false_iff, Bool.not_eq_false', decide_eq_true_eq] at hob
                      exact hob.2
                    rw [Option.map_some, hv2, hn]
                · rw [if_neg c, if_neg (fun h => c h.symm), hI.at_]
              · simp only [upd] at hp
                by_cases c : p = ((L.getD i default).id, (L.getD i default).n)
                · rw [if_pos c] at hp
                  injection hp with hp
                  exact ⟨i, by omega, hdl, c.symm, hp⟩
                · rw [if_neg c] at hp
                  obtain ⟨k, k1, k2⟩ := hI.sd1 p m hp
                  exact ⟨k, by omega, k2⟩
              · simp only [upd]
                by_cases c : k = i
                · subst c; rw [if_pos rfl]
                · by_cases d : ((L.getD k default).id, (L.getD k default).n) = ((L.getD i default).id, (L.getD i default).n)
                  · rw [if_pos d]
                    injection d with d1 d2
                    have : ¬ (L.getD k default).m ≠ (L.getD i default).m := fun hne => by
                      have := hcl.2 ⟨k, by omega, hk2, d1, d2, hne⟩
                      rw [hcc] at this; cases this
                    rw [Decidable.not_not.1 this]
                  · rw [if_neg d]; exact hI.sd2 k (by omega) hk2
            · simp
          · rw [decide_eq_false hn, if_pos hn]
            simp
        · simp
    · have hdl := (out_only hou).2
      simp only [Bool.false_eq_true, if_false, if_true, hdl]
      refine ⟨trivial, fun _ => same _ hdl fun nd => ?_⟩
      rw [hA, hou]
      simp only [del, if_true]
      by_cases c : nd = (L.getD i default).node
      · rw [if_pos c, if_pos c.symm]
      · rw [if_neg c, if_neg (fun h => c h.symm), hI.at_]
  · have hdl := (inst_only hin).2
    have hou := (inst_only hin).1
    simp only [if_true, hdl]
    refine ⟨trivial, fun _ => same _ hdl fun nd => ?_⟩
    rw [hA, hou, hin]
    simp only [upd, if_true, Bool.false_eq_true, if_false]
    by_cases c : nd = (L.getD i default).node
    · rw [if_pos c, if_pos c.symm]
    · rw [if_neg c, if_neg (fun h => c h.symm), hI.at_]
end Go.Proofs.Ytjihimapopbdpaa
