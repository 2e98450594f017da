/- Plain: the program’s test Alike is the document’s. -/
import Derived.Test.YtjihimapopbdpaaTellN
import Derived.Test.YtjihimapopbdpaaRAccept
namespace Go.Proofs.Ytjihimapopbdpaa
open Go.RowKit Sh
set_option linter.unusedVariables false

/-! Alike. -/
/-- The view that a node is in ahead of the entry t: its place, and how many it delivered since. -/
def pend (L : List Ent) (nd : Int) : Nat → Option (Nat × Nat)
  | 0 => none
  | t + 1 => if (L.getD t default).node ≠ nd then pend L nd t else if (L.getD t default).out then none else if (L.getD t default).inst then some (t, 0)
      else if (L.getD t default).dlv then (pend L nd t).map (fun p => (p.1, p.2 + 1)) else pend L nd t
theorem pend_succ (L : List Ent) (nd : Int) (t : Nat) : pend L nd (t + 1) = if (L.getD t default).node ≠ nd then pend L nd t else if (L.getD t default).out then none else if (L.getD t default).inst then some (t, 0)
      else if (L.getD t default).dlv then (pend L nd t).map (fun p => (p.1, p.2 + 1)) else pend L nd t := rfl
theorem pend_next (L : List Ent) (nd : Int) : ∀ (t k n : Nat), t ≤ L.length → pend L nd t = some (k, n) → k < t ∧ n ≤ t ∧ (L.getD k default).inst = true ∧ (L.getD k default).node = nd ∧ nextGo L nd (L.length - (k + 1)) (k + 1) 0 = nextGo L nd (L.length - t) t n
  | 0, k, n, _, h => by cases h
  | t + 1, k, n, ht, h => by
    have ih := pend_next L nd t
    rw [pend_succ] at h
    have hq : L.length - t = (L.length - (t + 1)) + 1 := by omega
    by_cases c : (L.getD t default).node = nd
    · rw [if_neg (by simpa using c)] at h
      cases ho : (L.getD t default).out
      · rw [ho] at h
        simp only [Bool.false_eq_true, if_false] at h
        cases hi : (L.getD t default).inst
        · rw [hi] at h
          simp only [Bool.false_eq_true, if_false] at h
          cases hd : (L.getD t default).dlv
          · rw [hd] at h
            simp only [Bool.false_eq_true, if_false] at h
            obtain ⟨h1, h2, h3, h4, h5⟩ := ih k n (by omega) h
            refine ⟨by omega, by omega, h3, h4, h5.trans ?_⟩
            rw [hq, nextGo_succ, if_neg (by simpa using c), ho, hi, hd]; rfl
          · rw [hd] at h
            simp only [if_true, Option.map_eq_some_iff] at h
            obtain ⟨⟨k', n'⟩, h1, h2⟩ := h
            injection h2 with h2 h3
            simp only at h2 h3
            subst h2; subst h3
            obtain ⟨h1, h2, h3, h4, h5⟩ := ih k' n' (by omega) h1
            refine ⟨by omega, by omega, h3, h4, h5.trans ?_⟩
            rw [hq, nextGo_succ, if_neg (by simpa using c), ho, hi, hd]; rfl
        · rw [hi] at h
          simp only [if_true, Option.some.injEq, Prod.mk.injEq] at h
          obtain ⟨rfl, rfl⟩ := h
          exact ⟨by omega, by omega, hi, c, rfl⟩
      · rw [ho] at h; simp at h
    · rw [if_pos (by simpa using c)] at h
      obtain ⟨h1, h2, h3, h4, h5⟩ := ih k n (by omega) h
      refine ⟨by omega, by omega, h3, h4, h5.trans ?_⟩
      rw [hq, nextGo_succ, if_pos (by simpa using c)]
/-- At the next view's entry, the view ahead was the one that leads there. -/
theorem next_pend (L : List Ent) (nd : Int) (k a m : Nat) : ∀ (q j n : Nat), j + q = L.length → nextGo L nd q j n = ((a : Int), m) → pend L nd j = some (k, n) → a < L.length ∧ pend L nd a = some (k, m) ∧ (L.getD a default).inst = true ∧ (L.getD a default).node = nd
  | 0, j, n, _, h, _ => by
    rw [nextGo] at h
    injection h with h1 h2
    omega
  | q + 1, j, n, hj, h, hp => by
    have hs := pend_succ L nd j
    rw [nextGo_succ] at h
    by_cases c : (L.getD j default).node = nd
    · rw [if_neg (by simpa using c)] at h hs
      cases ho : (L.getD j default).out
      · rw [ho] at h hs
        simp only [Bool.false_eq_true, if_false] at h hs
        cases hi : (L.getD j default).inst
        · rw [hi] at h hs
          simp only [Bool.false_eq_true, if_false] at h hs
          cases hd : (L.getD j default).dlv
          · rw [hd] at h hs
            simp only [Bool.false_eq_true, if_false] at h hs
            exact next_pend L nd k a m q (j + 1) n (by omega) h (hs.trans hp)
          · rw [hd] at h hs
            simp only [if_true] at h hs
            exact next_pend L nd k a m q (j + 1) (n + 1) (by omega) h (by rw [hs, hp]; rfl)
        · rw [hi] at h
          simp only [if_true] at h
          injection h with h1 h2
          have : j = a := by omega
          subst this
          subst h2
          exact ⟨by omega, hp, hi, c⟩
      · rw [ho] at h
        simp only [if_true] at h
        injection h with h1 h2
        omega
    · rw [if_pos (by simpa using c)] at h hs
      exact next_pend L nd k a m q (j + 1) n (by omega) h (hs.trans hp)
theorem pend_at (L : List Ent) (k : Nat) (h : (L.getD k default).inst = true) : pend L (L.getD k default).node (k + 1) = some (k, 0) := by
  rw [pend_succ, if_neg (by simp), (inst_only h).1, h]; rfl
/-- A way from a view to the next. -/
structure Way (L : List Ent) (k a n : Nat) : Prop where
  lt : k < a
  al : a < L.length
  ki : (L.getD k default).inst = true
  ai : (L.getD a default).inst = true
  nx : nextP L k = ((a : Int), n)
  pd : pend L (L.getD a default).node a = some (k, n)
theorem way_of_pend {L : List Ent} {a k n : Nat} (ha : a < L.length) (hi : (L.getD a default).inst = true) (h : pend L (L.getD a default).node a = some (k, n)) : Way L k a n := by
  obtain ⟨h1, h2, h3, h4, h5⟩ := pend_next L _ a k n (by omega) h
  refine ⟨h1, ha, h3, hi, ?_, h⟩
  unfold nextP
  rw [h4, h5, show L.length - a = (L.length - (a + 1)) + 1 by omega, nextGo_succ, if_neg (by simp), (inst_only hi).1, hi]
  rfl
theorem way_of_next {L : List Ent} {k a n : Nat} (hk : k < L.length) (hi : (L.getD k default).inst = true) (h : nextP L k = ((a : Int), n)) : Way L k a n := by
  obtain ⟨h1, h2, h3, h4⟩ := next_pend L (L.getD k default).node k a n (L.length - (k + 1)) (k + 1) 0 (by omega) h (pend_at L k hi)
  have := (pend_next L _ a k n (by omega) h2).1
  exact ⟨this, h1, hi, h3, h, by rw [h4]; exact h2⟩
/-- Ways that end ahead of t. -/
structure AInv (L : List Ent) (t : Nat) (σ : ASt) : Prop where
  inn : ∀ nd, ((σ.at_ nd).getD noPc).inn = (pend L nd t).isSome
  at_ : ∀ nd k n, pend L nd t = some (k, n) → ((σ.at_ nd).getD noPc).v = (L.getD k default).v ∧ ((σ.at_ nd).getD noPc).n = n
  m1 : ∀ x m, σ.many x = some m → ∃ k a n, Way L k a n ∧ a < t ∧ ((L.getD k default).v, (L.getD a default).v) = x ∧ ((n : Nat) : Int) = m
  m2 : ∀ k a n, Way L k a n → a < t → σ.many ((L.getD k default).v, (L.getD a default).v) = some ((n : Nat) : Int)
/-- An entry that ends a way as no other one did. -/
def Clash (L : List Ent) (t : Nat) : Prop := (L.getD t default).inst = true ∧ ∃ k n, pend L (L.getD t default).node t = some (k, n) ∧ ∃ k' a' n', Way L k' a' n' ∧ a' < t ∧ (L.getD k' default).v = (L.getD k default).v ∧ (L.getD a' default).v = (L.getD t default).v ∧ n' ≠ n
open Classical in
noncomputable def tErr (L : List Ent) (t : Nat) : Int := if Clash L t then 5 else 0
theorem tErr_no {L : List Ent} {t : Nat} (h : ¬ Clash L t) : tErr L t = 0 := if_neg h
theorem tErr_yes {L : List Ent} {t : Nat} (h : Clash L t) : tErr L t = 5 := if_pos h
theorem upd_eq {κ ν : Type} [DecidableEq κ] (m : κ → Option ν) (a b : κ) (v : ν) : upd m a v b = if b = a then some v else m b := rfl
theorem way_a {L : List Ent} {k a n t : Nat} (h : Way L k a n) (hs : a < t + 1) (hn : ¬ a < t) : a = t := by omega
theorem same_many {L : List Ent} {t : Nat} {σ : ASt} {at' : Int → Option Pc} (h : AInv L t σ) (hi : (L.getD t default).inst = false)
    (h1 : ∀ nd, ((at' nd).getD noPc).inn = (pend L nd (t + 1)).isSome) (h2 : ∀ nd k n, pend L nd (t + 1) = some (k, n) → ((at' nd).getD noPc).v = (L.getD k default).v ∧ ((at' nd).getD noPc).n = n) : AInv L (t + 1) ⟨σ.many, at'⟩ := by
  refine ⟨h1, h2, fun x m hx => ?_, fun k a n hw ha => ?_⟩
  · obtain ⟨k, a, n, p1, p2, p3⟩ := h.m1 x m hx
    exact ⟨k, a, n, p1, by omega, p3⟩
  · by_cases c : a < t
    · exact h.m2 k a n hw c
    · have := way_a hw ha c
      subst this
      have := hw.ai
      rw [hi] at this; cases this
theorem no_way {L : List Ent} {t : Nat} (hp : pend L (L.getD t default).node t = none) (k n : Nat) : ¬ Way L k t n := fun h => by
  have := h.pd
  rw [hp] at this; cases this
theorem alike_run {L : List Ent} (hlen : L.length ≤ 1000) : runT astep a0 L = firstE (tErr L) L.length 0 := by
  refine runT_eq astep (tErr L) (AInv L) L a0 ⟨fun nd => rfl, (fun nd k n h => by cases h), (fun x m h => by cases h), fun k a n _ h => by omega⟩ ?_
  intro t σ ht hI
  have hP := fun nd => pend_succ L nd t
  have upA : ∀ (p : Pc) nd, ((upd σ.at_ (L.getD t default).node p nd).getD noPc) = if nd = (L.getD t default).node then p else (σ.at_ nd).getD noPc := fun p nd => by
    unfold upd; split <;> rfl
  have keepA : ∀ nd, ¬ nd = (L.getD t default).node → pend L nd (t + 1) = pend L nd t := fun nd h => by
    rw [hP, if_pos (fun h2 => h h2.symm)]
  unfold astep
  cases ho : (L.getD t default).out
  · cases hd : (L.getD t default).dlv
    · cases hi : (L.getD t default).inst
      · simp only [Bool.false_eq_true, if_false, Bool.not_false, if_true]
        have hc : ¬ Clash L t := fun h => by have := h.1; rw [hi] at this; cases this
        rw [tErr_no hc]
        refine ⟨rfl, fun _ => same_many hI hi (fun nd => ?_) (fun nd k n h => ?_)⟩
        · rw [hI.inn, hP, ho, hi, hd]; simp
        · rw [hP, ho, hi, hd] at h
          simp only [Bool.false_eq_true, if_false, ite_self] at h
          exact hI.at_ nd k n h
      · simp only [Bool.false_eq_true, if_false, Bool.not_true]
        have hpt : pend L (L.getD t default).node (t + 1) = some (t, 0) := pend_at L t hi
        have one : ∀ nd, (((upd σ.at_ (L.getD t default).node ⟨(L.getD t default).v, 0, true⟩) nd).getD noPc).inn = (pend L nd (t + 1)).isSome := fun nd => by
          rw [upA]
          by_cases c : nd = (L.getD t default).node
          · rw [if_pos c, c, hpt]; rfl
          · rw [if_neg c, keepA nd c, hI.inn]
        have two : ∀ nd k n, pend L nd (t + 1) = some (k, n) → (((upd σ.at_ (L.getD t default).node ⟨(L.getD t default).v, 0, true⟩) nd).getD noPc).v = (L.getD k default).v ∧ (((upd σ.at_ (L.getD t default).node ⟨(L.getD t default).v, 0, true⟩) nd).getD noPc).n = n := fun nd k n h => by
          rw [upA]
          by_cases c : nd = (L.getD t default).node
          · rw [if_pos c]
            rw [c, hpt] at h
            injection h with h
            injection h with h1 h2
            subst h1; subst h2
            exact ⟨rfl, rfl⟩
          · rw [if_neg c]
            rw [keepA nd c] at h
            exact hI.at_ nd k n h
        have hinn := hI.inn (L.getD t default).node
        cases hp : pend L (L.getD t default).node t with
        | none =>
          rw [hp] at hinn
          have hc : ¬ Clash L t := by
            rintro ⟨_, k, n, h2, _⟩
            rw [hp] at h2; cases h2
          rw [tErr_no hc, hinn]
          simp only [Option.isSome_none, Bool.not_false, if_true]
          refine ⟨trivial, fun _ => ⟨one, two, fun x m hx => ?_, fun k a n hw ha => ?_⟩⟩
          · obtain ⟨k, a, n, p1, p2, p3⟩ := hI.m1 x m hx
            exact ⟨k, a, n, p1, by omega, p3⟩
          · by_cases c : a < t
            · exact hI.m2 k a n hw c
            · have := way_a hw ha c
              subst this
              exact absurd hw (no_way hp k n)
        | some p =>
          obtain ⟨k, n⟩ := p
          rw [hp] at hinn
          obtain ⟨hv, hn⟩ := hI.at_ _ k n hp
          have hw := way_of_pend ht hi hp
          rw [hinn, hv, hn]
          simp only [Option.isSome_some, Bool.not_true, Bool.false_eq_true, if_false]
          cases hm : σ.many ((L.getD k default).v, (L.getD t default).v) with
          | none =>
            have hc : ¬ Clash L t := by
              rintro ⟨_, k2, n2, h2, k', a', n', g1, g2, g3, g4, g5⟩
              rw [hp] at h2
              injection h2 with h2
              injection h2 with h2 h3
              subst h2; subst h3
              have := hI.m2 k' a' n' g1 g2
              rw [g3, g4, hm] at this; cases this
            rw [tErr_no hc]
            simp only [Option.isSome_none, Bool.false_and, Bool.false_eq_true, if_false]
            refine ⟨trivial, fun _ => ⟨one, two, fun x m hx => ?_, fun k2 a n2 hw2 ha => ?_⟩⟩
            · change (upd σ.many ((L.getD k default).v, (L.getD t default).v) ((n : Nat) : Int)) x = some m at hx
              rw [upd_eq] at hx
              by_cases c : x = ((L.getD k default).v, (L.getD t default).v)
              · rw [if_pos c] at hx
                injection hx with hx
                exact ⟨k, t, n, hw, by omega, c.symm, hx⟩
              · rw [if_neg c] at hx
                obtain ⟨k, a, n, p1, p2, p3⟩ := hI.m1 x m hx
                exact ⟨k, a, n, p1, by omega, p3⟩
            · show (upd σ.many ((L.getD k default).v, (L.getD t default).v) ((n : Nat) : Int)) _ = _
              rw [upd_eq]
              by_cases c : a < t
              · have h5 := hI.m2 k2 a n2 hw2 c
                rw [if_neg (fun h6 => by rw [h6, hm] at h5; cases h5)]
                exact h5
              · have := way_a hw2 ha c
                subst this
                have := hw2.pd
                rw [hp] at this
                injection this with h2
                injection h2 with h2 h3
                subst h2; subst h3
                rw [if_pos rfl]
          | some m =>
            obtain ⟨k', a', n', g1, g2, g3, g4⟩ := hI.m1 _ m hm
            injection g3 with g5 g6
            by_cases hnm : n' = n
            · subst hnm
              have hc : ¬ Clash L t := by
                rintro ⟨_, k2, n2, h2, k3, a3, n3, q1, q2, q3, q4, q5⟩
                rw [hp] at h2
                injection h2 with h2
                injection h2 with h2 h3
                subst h2; subst h3
                have := hI.m2 k3 a3 n3 q1 q2
                rw [q3, q4, hm] at this
                injection this with this
                omega
              rw [tErr_no hc]
              have hb : (m != ((n' : Nat) : Int)) = false := by simp [g4]
              simp only [Option.isSome_some, Option.getD_some, Bool.true_and, hb, Bool.false_eq_true, if_false]
              refine ⟨trivial, fun _ => ⟨one, two, fun x m' hx => ?_, fun k2 a n2 hw2 ha => ?_⟩⟩
              · change (upd σ.many ((L.getD k default).v, (L.getD t default).v) ((n' : Nat) : Int)) x = some m' at hx
                rw [upd_eq] at hx
                by_cases c : x = ((L.getD k default).v, (L.getD t default).v)
                · rw [if_pos c] at hx
                  injection hx with hx
                  exact ⟨k, t, n', hw, by omega, c.symm, hx⟩
                · rw [if_neg c] at hx
                  obtain ⟨k, a, n, p1, p2, p3⟩ := hI.m1 x m' hx
                  exact ⟨k, a, n, p1, by omega, p3⟩
              · show (upd σ.many ((L.getD k default).v, (L.getD t default).v) ((n' : Nat) : Int)) _ = _
                rw [upd_eq]
                by_cases c : a < t
                · have h5 := hI.m2 k2 a n2 hw2 c
                  by_cases d : ((L.getD k2 default).v, (L.getD a default).v) = ((L.getD k default).v, (L.getD t default).v)
                  · rw [if_pos d]
                    rw [d, hm, ← g4] at h5
                    exact h5
                  · rw [if_neg d]; exact h5
                · have := way_a hw2 ha c
                  subst this
                  have := hw2.pd
                  rw [hp] at this
                  injection this with h2
                  injection h2 with h2 h3
                  subst h2; subst h3
                  rw [if_pos rfl]
            · have hc : Clash L t := ⟨hi, k, n, hp, k', a', n', g1, g2, g5, g6, hnm⟩
              rw [tErr_yes hc]
              have hb : (m != ((n : Nat) : Int)) = true := by
                simp only [bne_iff_ne, ne_eq]; omega
              simp only [Option.isSome_some, Option.getD_some, Bool.true_and, hb, if_true]
              exact ⟨trivial, fun h => by simp at h⟩
    · have hi := (dlv_only hd).1
      simp only [Bool.false_eq_true, if_false, if_true]
      have hc : ¬ Clash L t := fun h => by have := h.1; rw [hi] at this; cases this
      rw [tErr_no hc]
      have hpt : pend L (L.getD t default).node (t + 1) = (pend L (L.getD t default).node t).map (fun p => (p.1, p.2 + 1)) := by
        rw [hP, if_neg (by simp), ho, hi, hd]; rfl
      refine ⟨rfl, fun _ => same_many hI hi (fun nd => ?_) (fun nd k n h => ?_)⟩
      · rw [upA]
        by_cases c : nd = (L.getD t default).node
        · rw [if_pos c, c, hpt]
          simp only [Option.isSome_map]
          exact hI.inn _
        · rw [if_neg c, keepA nd c, hI.inn]
      · rw [upA]
        by_cases c : nd = (L.getD t default).node
        · rw [if_pos c]
          rw [c, hpt, Option.map_eq_some_iff] at h
          obtain ⟨⟨k', n'⟩, h1, h2⟩ := h
          injection h2 with h2 h3
          simp only at h2 h3
          subst h2; subst h3
          obtain ⟨g1, g2⟩ := hI.at_ _ k' n' h1
          have g3 := (pend_next L _ t k' n' (by omega) h1).2.1
          refine ⟨g1, ?_⟩
          show wrap64 (((σ.at_ (L.getD t default).node).getD noPc).n + 1) = _
          rw [g2, IntWalk.wrap64_in _ ⟨by omega, by omega⟩]
          omega
        · rw [if_neg c]
          rw [keepA nd c] at h
          exact hI.at_ nd k n h
  · have hi := (out_only ho).1
    simp only [if_true]
    have hc : ¬ Clash L t := fun h => by have := h.1; rw [hi] at this; cases this
    rw [tErr_no hc]
    have hpt : pend L (L.getD t default).node (t + 1) = none := by
      rw [hP, if_neg (by simp), ho]; rfl
    have delA : ∀ nd, ((del σ.at_ (L.getD t default).node nd).getD noPc) = if nd = (L.getD t default).node then noPc else (σ.at_ nd).getD noPc := fun nd => by
      unfold del; split <;> rfl
    refine ⟨rfl, fun _ => same_many hI hi (fun nd => ?_) (fun nd k n h => ?_)⟩
    · rw [delA]
      by_cases c : nd = (L.getD t default).node
      · rw [if_pos c, c, hpt]; rfl
      · rw [if_neg c, keepA nd c, hI.inn]
    · rw [delA]
      by_cases c : nd = (L.getD t default).node
      · rw [c, hpt] at h; cases h
      · rw [if_neg c]
        rw [keepA nd c] at h
        exact hI.at_ nd k n h
theorem firstE_cases (err : Nat → Int) (h : ∀ i, err i = 0 ∨ err i = 5) : ∀ (q i : Nat), (firstE err q i = 0 ∧ ∀ k, k < q → err (i + k) = 0) ∨ (firstE err q i = 5 ∧ ∃ k, k < q ∧ err (i + k) = 5)
  | 0, i => .inl ⟨rfl, fun k hk => by omega⟩
  | q + 1, i => by
    rw [firstE]
    rcases h i with h0 | h0
    · rw [if_pos h0]
      rcases firstE_cases err h q (i + 1) with ⟨h1, h2⟩ | ⟨h1, k, h2, h3⟩
      · refine .inl ⟨h1, fun k hk => ?_⟩
        rcases k with _ | k
        · exact h0
        · have := h2 k (by omega)
          rwa [show i + 1 + k = i + (k + 1) by omega] at this
      · exact .inr ⟨h1, k + 1, by omega, by rwa [show i + (k + 1) = i + 1 + k by omega]⟩
    · rw [if_neg (by omega)]
      exact .inr ⟨h0, 0, by omega, h0⟩
theorem ahit_iff (L : List Ent) (i : Nat) : ∀ n, ahit L i n = true ↔ ∃ k, k < n ∧ asame L i k = true ∧ aoff L i k = true
  | 0 => by simp [ahit]
  | n + 1 => by
    rw [ahit_succ, Bool.or_eq_true, ahit_iff L i n, Bool.and_eq_true]
    constructor
    · rintro (⟨k, h1, h2⟩ | h)
      · exact ⟨k, by omega, h2⟩
      · exact ⟨n, by omega, h⟩
    · rintro ⟨k, h1, h2⟩
      by_cases c : k = n
      · subst c; exact .inr h2
      · exact .inl ⟨k, by omega, h2⟩
/-- Two ways between the same views, of different lengths. -/
def Off (L : List Ent) : Prop := ∃ k a n k' a' n', Way L k a n ∧ Way L k' a' n' ∧ (L.getD k' default).v = (L.getD k default).v ∧ (L.getD a' default).v = (L.getD a default).v ∧ n' ≠ n
theorem pair_off {L : List Ent} {i k : Nat} (hi : i < L.length) (hk : k < L.length) : (asame L i k = true ∧ aoff L i k = true) ↔ ∃ a n a' n', Way L i a n ∧ Way L k a' n' ∧ (L.getD k default).v = (L.getD i default).v ∧ (L.getD a' default).v = (L.getD a default).v ∧ n' ≠ n := by
  constructor
  · rintro ⟨h1, h2⟩
    unfold asame at h1
    unfold aoff at h2
    simp only [Bool.and_eq_true, decide_eq_true_eq, bne_iff_ne, ne_eq] at h1 h2
    obtain ⟨⟨h3, h4⟩, h5⟩ := h1
    obtain ⟨⟨⟨h6, h7⟩, h8⟩, h9⟩ := h2
    rcases (nextP_form L i hi).1 with e | ⟨a, _, _, e⟩
    · omega
    · rcases (nextP_form L k hk).1 with e' | ⟨a', _, _, e'⟩
      · omega
      · rw [e, e', Int.toNat_natCast, Int.toNat_natCast] at h8
        exact ⟨a, (nextP L i).2, a', (nextP L k).2, way_of_next hi h3 (by rw [← e]), way_of_next hk h4 (by rw [← e']), h5.symm, h8.symm, fun h => h9 h.symm⟩
  · rintro ⟨a, n, a', n', h1, h2, h3, h4, h5⟩
    unfold asame aoff
    rw [h1.nx, h2.nx, h1.ki, h2.ki]
    simp only [Int.toNat_natCast, Bool.and_eq_true, decide_eq_true_eq, bne_iff_ne, ne_eq]
    exact ⟨⟨⟨trivial, trivial⟩, h3.symm⟩, ⟨⟨⟨by omega, by omega⟩, h4.symm⟩, fun h => h5 h.symm⟩⟩
theorem refA_iff (L : List Ent) : (refA L = 5 ∧ Off L) ∨ (refA L = 0 ∧ ¬ Off L) := by
  have h5 : ∀ i, aErr L i = 0 ∨ aErr L i = 5 := fun i => by
    unfold aErr; split
    · exact .inr rfl
    · exact .inl rfl
  rcases firstE_cases (aErr L) h5 L.length 0 with ⟨h1, h2⟩ | ⟨h1, i, h2, h3⟩
  · refine .inr ⟨h1, ?_⟩
    rintro ⟨k, a, n, k', a', n', w1, w2, e1, e2, e3⟩
    have l1 : k < L.length := by have := w1.lt; have := w1.al; omega
    have l2 : k' < L.length := by have := w2.lt; have := w2.al; omega
    have key : ∀ i j, i < L.length → j < i → ¬ (asame L i j = true ∧ aoff L i j = true) := fun i j hi hj hh => by
      have := h2 i hi
      rw [Nat.zero_add] at this
      unfold aErr at this
      rw [if_pos ((ahit_iff L i i).2 ⟨j, hj, hh⟩)] at this
      omega
    by_cases c : k' < k
    · exact key k k' l1 c ((pair_off l1 l2).2 ⟨a, n, a', n', w1, w2, e1, e2, e3⟩)
    · by_cases d : k = k'
      · subst d
        have := w1.nx
        rw [w2.nx] at this
        injection this with _ this
        exact e3 this
      · exact key k' k l2 (by omega) ((pair_off l2 l1).2 ⟨a', n', a, n, w2, w1, e1.symm, e2.symm, fun h => e3 h.symm⟩)
  · refine .inl ⟨h1, ?_⟩
    rw [Nat.zero_add] at h3
    unfold aErr at h3
    have hh : ahit L i i = true := by
      cases hx : ahit L i i
      · rw [hx] at h3; simp at h3
      · rfl
    obtain ⟨k, hk, hs⟩ := (ahit_iff L i i).1 hh
    obtain ⟨a, n, a', n', w1, w2, e⟩ := (pair_off h2 (by omega)).1 hs
    exact ⟨i, a, n, k, a', n', w1, w2, e⟩
theorem run_iff {L : List Ent} (hlen : L.length ≤ 1000) : (runT astep a0 L = 5 ∧ Off L) ∨ (runT astep a0 L = 0 ∧ ¬ Off L) := by
  rw [alike_run hlen]
  have h5 : ∀ i, tErr L i = 0 ∨ tErr L i = 5 := fun i => by
    by_cases c : Clash L i
    · exact .inr (tErr_yes c)
    · exact .inl (tErr_no c)
  rcases firstE_cases (tErr L) h5 L.length 0 with ⟨h1, h2⟩ | ⟨h1, i, h2, h3⟩
  · refine .inr ⟨h1, ?_⟩
    rintro ⟨k, a, n, k', a', n', w1, w2, e1, e2, e3⟩
    have key : ∀ i, i < L.length → ¬ Clash L i := fun i hi hc => by
      have := h2 i hi
      rw [Nat.zero_add, tErr_yes hc] at this
      omega
    by_cases c : a' < a
    · exact key a w1.al ⟨w1.ai, k, n, w1.pd, k', a', n', w2, c, e1, e2, e3⟩
    · by_cases d : a = a'
      · subst d
        have := w1.pd
        rw [w2.pd] at this
        injection this with this
        injection this with _ this
        exact e3 this
      · exact key a' w2.al ⟨w2.ai, k', n', w2.pd, k, a, n, w1, by omega, e1.symm, e2.symm, fun h => e3 h.symm⟩
  · refine .inl ⟨h1, ?_⟩
    rw [Nat.zero_add] at h3
    have hc : Clash L i := Classical.byContradiction fun hn => by rw [tErr_no hn] at h3; omega
    obtain ⟨hi, k, n, hp, k', a', n', w2, _, e1, e2, e3⟩ := hc
    exact ⟨k, i, n, k', a', n', way_of_pend h2 hi hp, w2, e1, e2, e3⟩
theorem alike_eq {L : List Ent} (hlen : L.length ≤ 1000) : runT astep a0 L = refA L := by
  rcases run_iff hlen with ⟨h1, h2⟩ | ⟨h1, h2⟩
  · rcases refA_iff L with ⟨h3, _⟩ | ⟨_, h4⟩
    · rw [h1, h3]
    · exact absurd h2 h4
  · rcases refA_iff L with ⟨_, h4⟩ | ⟨h3, _⟩
    · exact absurd h4 h2
    · rw [h1, h3]
theorem wrong_eq {L : List Ent} (hok : LOk L) (hlen : L.length ≤ 1000) : wr_ L = refW L := by
  have e0 : tst 0 L = refV L := views_eq hok
  have e1 : tst 1 L = refO L := order_eq hok hlen
  have e2 : tst 2 L = refN L := once_eq hok hlen
  have e3 : tst 3 L = refA L := alike_eq hlen
  unfold wr_ refW
  rw [e0, e1, e2, e3]
theorem acc_eq {L : List Ent} (hok : LOk L) (hlen : L.length ≤ 1000) : accP L = accR L := by
  have key : ∀ q i, accGo L i q = accRGo L i q := fun q => by
    induction q with
    | zero => intro i; rfl
    | succ q ih =>
      intro i
      rw [accGo, accRGo_succ, wrong_eq (hok.take i) (by rw [List.length_take]; omega), ih]
  exact key _ _
end Go.Proofs.Ytjihimapopbdpaa
