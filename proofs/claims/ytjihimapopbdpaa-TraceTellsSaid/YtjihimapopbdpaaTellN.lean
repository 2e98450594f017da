/- Plain: the program’s test Once is the document’s. -/
import Derived.Test.YtjihimapopbdpaaTellO
import Derived.Test.YtjihimapopbdpaaROnce
namespace Go.Proofs.Ytjihimapopbdpaa
open Go.RowKit Sh
set_option linter.unusedVariables false

/-! Once. -/
def sentP (L : List Ent) (nd : Int) (m : Mg) : Nat → Bool
  | 0 => false
  | k + 1 => sentP L nd m k || ((L.getD k default).sent && ((L.getD k default).node == nd) && decide ((L.getD k default).m = m))
def againP (L : List Ent) (nd s num : Int) : Nat → Bool
  | 0 => false
  | k + 1 => (!((L.getD k default).out && ((L.getD k default).node == nd)) && againP L nd s num k) || ((L.getD k default).dlv && ((L.getD k default).node == nd) && ((L.getD k default).snd == s) && decide (num ≤ (L.getD k default).num))
theorem nsent_is (L : List Ent) (e : Ent) : ∀ k, nsent L e k = sentP L e.snd e.m k
  | 0 => rfl
  | k + 1 => by rw [nsent_succ, nsent_is L e k, sentP]
theorem nagain_is (L : List Ent) (e : Ent) : ∀ k, nagain L e k = againP L e.node e.snd e.num k
  | 0 => rfl
  | k + 1 => by rw [nagain_succ, nagain_is L e k, againP]; rfl
theorem sentP_succ (L : List Ent) (nd : Int) (m : Mg) (k : Nat) : sentP L nd m (k + 1) = (sentP L nd m k || ((L.getD k default).sent && ((L.getD k default).node == nd) && decide ((L.getD k default).m = m))) := rfl
theorem againP_succ (L : List Ent) (nd s num : Int) (k : Nat) : againP L nd s num (k + 1) = ((!((L.getD k default).out && ((L.getD k default).node == nd)) && againP L nd s num k) || ((L.getD k default).dlv && ((L.getD k default).node == nd) && ((L.getD k default).snd == s) && decide (num ≤ (L.getD k default).num))) := rfl
def rn (σ : TSt) (nd : Int) : Int := (σ.runs nd).getD 0
def lst (σ : TSt) (nd s num : Int) : Bool := match σ.last (nd, rn σ nd, s) with | some x => decide (num ≤ x) | none => false
structure NInv (L : List Ent) (i : Nat) (σ : TSt) : Prop where
  sent : ∀ nd m, (σ.sent (nd, m)).getD false = sentP L nd m i
  rng : ∀ nd, 0 ≤ rn σ nd ∧ rn σ nd ≤ i
  fut : ∀ nd q s, rn σ nd < q → σ.last (nd, q, s) = none
  ag : ∀ nd s num, againP L nd s num i = lst σ nd s num
theorem sent_only {e : Ent} (h : e.sent = true) : e.inst = false ∧ e.dlv = false ∧ e.out = false := by
  simp [Ent.inst, Ent.out, Ent.dlv, h]
theorem dlv_sent {e : Ent} (h : e.dlv = true) : e.sent = false ∧ e.out = false := by
  simp [Ent.out, Ent.dlv] at h ⊢
  exact ⟨h.1, by omega⟩
theorem out_sent {e : Ent} (h : e.out = true) : e.sent = false ∧ e.dlv = false := by
  simp [Ent.out, Ent.dlv] at h ⊢
  exact ⟨h.1, by omega⟩
theorem once_eq {L : List Ent} (hok : LOk L) (hlen : L.length ≤ 1000) : runT nstep t0 L = refN L := by
  refine runT_eq nstep (nErr L) (NInv L) L t0 ⟨fun nd m => rfl, fun nd => ⟨Int.le_refl _, Int.le_refl _⟩, fun nd q s _ => rfl, fun nd s num => rfl⟩ ?_
  intro i σ hi hI
  have hS := fun nd m => sentP_succ L nd m i
  have hG := fun nd s num => againP_succ L nd s num i
  unfold nErr
  rw [nsent_is, nagain_is]
  unfold nstep
  generalize he : L.getD i default = e at *
  cases hse : e.sent
  · cases hou : e.out
    · cases hdl : e.dlv
      · simp only [Bool.false_eq_true, if_false, Bool.not_false, if_true]
        refine ⟨trivial, fun _ => ⟨fun nd m => ?_, fun nd => ?_, hI.fut, fun nd s num => ?_⟩⟩
        · rw [hS, hse, hI.sent]; simp
        · have := hI.rng nd; exact ⟨this.1, by omega⟩
        · rw [hG, hou, hdl, hI.ag]; simp
      · simp only [Bool.false_eq_true, if_false, Bool.not_true]
        rw [hI.sent, hI.ag]
        have hl : ((σ.last (nkey σ e)).isSome && decide (e.num ≤ (σ.last (nkey σ e)).getD 0)) = lst σ e.node e.snd e.num := by
          unfold lst nkey rn
          cases σ.last (e.node, (σ.runs e.node).getD 0, e.snd) <;> rfl
        rw [hl]
        cases h1 : (!sentP L e.snd e.m i || !hasP e.mem e.snd)
        · simp only [Bool.false_eq_true, if_false]
          cases h2 : lst σ e.node e.snd e.num
          · simp only [Bool.false_eq_true, if_false]
            refine ⟨rfl, fun _ => ⟨fun nd m => ?_, fun nd => ?_, fun nd q s hq => ?_, fun nd s num => ?_⟩⟩
            · rw [hS, hse, hI.sent]; simp
            · have := hI.rng nd; exact ⟨this.1, by show rn σ nd ≤ _; omega⟩
            · have hq' : rn σ nd < q := hq
              show upd σ.last (nkey σ e) e.num (nd, q, s) = none
              unfold upd
              rw [if_neg]
              · exact hI.fut nd q s hq'
              · intro hh
                unfold nkey at hh
                injection hh with h3 h4
                injection h4 with h4 h5
                subst h3
                unfold rn at hq'
                omega
            · rw [hG, hou, hdl, hI.ag]
              show _ = (match upd σ.last (nkey σ e) e.num (nd, rn σ nd, s) with | some x => decide (num ≤ x) | none => false)
              unfold upd
              by_cases c : (nd, rn σ nd, s) = nkey σ e
              · rw [if_pos c]
                unfold nkey at c
                injection c with c1 c2
                injection c2 with c2 c3
                subst c1; subst c3
                simp only [Bool.false_and, Bool.not_false, Bool.true_and, beq_self_eq_true]
                unfold lst at h2 ⊢
                cases hx : σ.last (e.node, rn σ e.node, e.snd) with
                | none => simp
                | some x =>
                  rw [hx] at h2
                  simp only [decide_eq_false_iff_not] at h2
                  rw [Bool.eq_iff_iff]
                  simp only [Bool.or_eq_true, decide_eq_true_eq]
                  omega
              · rw [if_neg c]
                have hne : ((e.node == nd) && (e.snd == s)) = false := by
                  rw [Bool.eq_false_iff]
                  intro hh
                  simp only [Bool.and_eq_true, beq_iff_eq] at hh
                  apply c
                  unfold nkey rn
                  rw [hh.1, hh.2]
                simp only [Bool.false_and, Bool.not_false, Bool.true_and, hne, Bool.or_false]
                rfl
          · simp
        · simp
    · have hdl := (out_sent hou).2
      simp only [Bool.false_eq_true, if_false, if_true, hdl]
      have hr := hI.rng e.node
      have hw : wrap64 (rn σ e.node + 1) = rn σ e.node + 1 := IntWalk.wrap64_in _ ⟨by omega, by omega⟩
      have hrn : ∀ nd, rn ⟨σ.sent, σ.last, upd σ.runs e.node (wrap64 ((σ.runs e.node).getD 0 + 1))⟩ nd = if nd = e.node then rn σ e.node + 1 else rn σ nd := fun nd => by
        show ((if nd = e.node then some (wrap64 ((σ.runs e.node).getD 0 + 1)) else σ.runs nd).getD 0) = _
        by_cases c : nd = e.node
        · rw [if_pos c, if_pos c]; exact hw
        · rw [if_neg c, if_neg c]; rfl
      refine ⟨trivial, fun _ => ⟨fun nd m => ?_, fun nd => ?_, fun nd q s hq => ?_, fun nd s num => ?_⟩⟩
      · rw [hS, hse, hI.sent]; simp
      · rw [hrn]
        have := hI.rng nd
        split <;> omega
      · rw [hrn] at hq
        refine hI.fut nd q s ?_
        split at hq
        · next h => subst h; omega
        · exact hq
      · rw [hG, hou, hdl, hI.ag]
        unfold lst
        rw [hrn]
        by_cases c : nd = e.node
        · subst c
          have := hI.fut e.node (rn σ e.node + 1) s (by omega)
          simp [this]
        · have c2 : (e.node == nd) = false := by simp; exact fun h => c h.symm
          simp [c, c2]
  · obtain ⟨_, hdl, hou⟩ := sent_only hse
    simp only [if_true, hdl]
    refine ⟨trivial, fun _ => ⟨fun nd m => ?_, fun nd => ?_, hI.fut, fun nd s num => ?_⟩⟩
    · rw [hS, hse, ← hI.sent]
      simp only [upd, Bool.true_and]
      by_cases c : (nd, m) = (e.node, e.m)
      · rw [if_pos c]
        injection c with c1 c2
        subst c1; subst c2
        simp
      · rw [if_neg c]
        have : ((e.node == nd) && decide (e.m = m)) = false := by
          rw [Bool.eq_false_iff]
          intro hh
          simp only [Bool.and_eq_true, beq_iff_eq, decide_eq_true_eq] at hh
          exact c (by rw [hh.1, hh.2])
        rw [this, Bool.or_false]
    · have := hI.rng nd; exact ⟨this.1, by show rn σ nd ≤ _; omega⟩
    · rw [hG, hou, hdl, hI.ag]; simp; rfl
end Go.Proofs.Ytjihimapopbdpaa
