/- The walk over sorted edges, step by step; no program here. -/
import Derived.Test.YtmficjbgpcbhoaaDoorWalkP
namespace Go.Proofs.YtmficjbgpcbhoaaDoor
open Go.RowKit Sh
set_option linter.unusedVariables false

theorem ed_left {l m : List Edge} {i : Nat} (h : i < l.length) : ed (l ++ m) i = ed l i := by
  simp [ed, List.getD_eq_getElem?_getD, List.getElem?_append_left h]
theorem ed_right {l m : List Edge} {i : Nat} : ed (l ++ m) (l.length + i) = ed m i := by
  simp [ed, List.getD_eq_getElem?_getD, List.getElem?_append_right]
theorem ed_edsTo (l : List Sp) (s : Bool) (i k : Nat) (h : k < i) : ed (edsTo l s i) (2 * k) = ⟨(sp l k).f, s, true⟩ ∧ ed (edsTo l s i) (2 * k + 1) = ⟨IntKind.u64.wrap ((sp l k).t + 1), s, false⟩ := by
  induction i with
  | zero => omega
  | succ i ih =>
    simp only [edsTo]
    by_cases e : k = i
    · subst e
      have hl := edsTo_length l s k
      rw [show 2 * k = (edsTo l s k).length + 0 by omega, show (edsTo l s k).length + 0 + 1 = (edsTo l s k).length + 1 by omega, ed_right, ed_right]
      exact ⟨rfl, rfl⟩
    · have hl := edsTo_length l s i
      rw [ed_left (by omega), ed_left (by omega)]
      exact ih (by omega)

def allEds (a b : List Sp) : List Edge := edsTo a true a.length ++ edsTo b false b.length
theorem allEds_length (a b : List Sp) : (allEds a b).length = 2 * a.length + 2 * b.length := by
  simp only [allEds, List.length_append, edsTo_length]; omega
theorem allEds_a (a b : List Sp) (k : Nat) (h : k < a.length) : ed (allEds a b) (2 * k) = ⟨(sp a k).f, true, true⟩ ∧ ed (allEds a b) (2 * k + 1) = ⟨IntKind.u64.wrap ((sp a k).t + 1), true, false⟩ := by
  have hl := edsTo_length a true a.length
  unfold allEds
  rw [ed_left (by omega), ed_left (by omega)]
  exact ed_edsTo a true a.length k h
theorem allEds_b (a b : List Sp) (k : Nat) (h : k < b.length) : ed (allEds a b) (2 * a.length + 2 * k) = ⟨(sp b k).f, false, true⟩ ∧ ed (allEds a b) (2 * a.length + 2 * k + 1) = ⟨IntKind.u64.wrap ((sp b k).t + 1), false, false⟩ := by
  have hl := edsTo_length a true a.length
  unfold allEds
  rw [show 2 * a.length + 2 * k = (edsTo a true a.length).length + 2 * k by omega, show (edsTo a true a.length).length + 2 * k + 1 = (edsTo a true a.length).length + (2 * k + 1) by omega, ed_right, ed_right]
  exact ed_edsTo b false b.length k h

theorem wrap_in {t : Int} (h0 : 0 ≤ t) (h : t < 18446744073709551615) : IntKind.u64.wrap (t + 1) = t + 1 := by rw [IntKind.wrap_u64]; omega

theorem fam_a (a b : List Sp) (ha : Ok a) (ra : Rng a) : Fam (ed (allEds a b)) (allEds a b).length 0 a true := by
  refine ⟨fun k hk => ?_, fun j hj h => ?_⟩
  · obtain ⟨h1, h2⟩ := allEds_a a b k hk
    have := (ha k hk).2.1
    have := ra k hk
    rw [wrap_in (by omega) (by omega)] at h2
    rw [allEds_length]
    simp only [Nat.zero_add]
    exact ⟨by omega, h1, h2⟩
  · rw [allEds_length] at hj
    by_cases c : j < 2 * a.length
    · exact ⟨j / 2, by omega, by omega⟩
    · exfalso
      have hb := allEds_b a b ((j - 2 * a.length) / 2) (by omega)
      rcases (by omega : j = 2 * a.length + 2 * ((j - 2 * a.length) / 2) ∨ j = 2 * a.length + 2 * ((j - 2 * a.length) / 2) + 1) with e | e
      · rw [e, hb.1] at h; simp at h
      · rw [e, hb.2] at h; simp at h
theorem fam_b (a b : List Sp) (hb : Ok b) (rb : Rng b) : Fam (ed (allEds a b)) (allEds a b).length (2 * a.length) b false := by
  refine ⟨fun k hk => ?_, fun j hj h => ?_⟩
  · obtain ⟨h1, h2⟩ := allEds_b a b k hk
    have := (hb k hk).2.1
    have := rb k hk
    rw [wrap_in (by omega) (by omega)] at h2
    rw [allEds_length]
    exact ⟨by omega, h1, h2⟩
  · rw [allEds_length] at hj
    by_cases c : j < 2 * a.length
    · exfalso
      have ha := allEds_a a b (j / 2) (by omega)
      rcases (by omega : j = 2 * (j / 2) ∨ j = 2 * (j / 2) + 1) with e | e
      · rw [e, ha.1] at h; simp at h
      · rw [e, ha.2] at h; simp at h
    · exact ⟨(j - 2 * a.length) / 2, by omega, by omega⟩
theorem allEds_rng (a b : List Sp) (ra : Rng a) (rb : Rng b) (j : Nat) (hj : j < (allEds a b).length) : 0 ≤ (ed (allEds a b) j).p ∧ (ed (allEds a b) j).p < 18446744073709551616 := by
  rw [allEds_length] at hj
  by_cases c : j < 2 * a.length
  · have ha := allEds_a a b (j / 2) (by omega)
    have hr := ra (j / 2) (by omega)
    rcases (by omega : j = 2 * (j / 2) ∨ j = 2 * (j / 2) + 1) with e | e
    · rw [e, ha.1]; simp only; omega
    · rw [e, ha.2]; simp only [IntKind.wrap_u64]; omega
  · have hb := allEds_b a b ((j - 2 * a.length) / 2) (by omega)
    have hr := rb ((j - 2 * a.length) / 2) (by omega)
    rcases (by omega : j = 2 * a.length + 2 * ((j - 2 * a.length) / 2) ∨ j = 2 * a.length + 2 * ((j - 2 * a.length) / 2) + 1) with e | e
    · rw [e, hb.1]; simp only; omega
    · rw [e, hb.2]; simp only [IntKind.wrap_u64]; omega

/-- all that is known of the sorted row. -/
structure Ctx (a b : List Sp) (keep : Bool → Bool → Bool) (n : Nat) (D : Nat → Edge) : Prop where
  hn : n = (allEds a b).length
  ha : Ok a
  hb : Ok b
  ra : Rng a
  rb : Rng b
  pe : PermOn 0 n (ed (allEds a b)) D
  so : SortedOn D 0 n
  k0 : keep false false = false

noncomputable def KF (a b : List Sp) (keep : Bool → Bool → Bool) (x : Int) : Bool := keep (memB a x) (memB b x)
def QQ (D : Nat → Edge) (n i : Nat) : Int := if i < n then (D i).p else 18446744073709551616

section
variable {a b : List Sp} {keep : Bool → Bool → Bool} {n : Nat} {D : Nat → Edge}
theorem Ctx.rng (c : Ctx a b keep n D) (i : Nat) (hi : i < n) : 0 ≤ (D i).p ∧ (D i).p < 18446744073709551616 := by
  obtain ⟨y, hy, e⟩ := c.pe.src i ⟨by omega, hi⟩
  rw [e]
  exact allEds_rng a b c.ra c.rb y (by rw [← c.hn]; exact hy.2)
theorem Ctx.stat (c : Ctx a b keep n D) (i : Nat) (hi : i ≤ n) (x : Int) (h1 : ∀ j, j < i → (D j).p ≤ x) (h2 : ∀ j, i ≤ j → j < n → x < (D j).p) :
    KF a b keep x = keep (lastF D true i) (lastF D false i) := by
  have e1 := status (off := 0) (l := a) (s := true) (n := n) (E := ed (allEds a b)) (by rw [c.hn]; exact fam_a a b c.ha c.ra) c.pe c.so c.ha i hi x h1 h2
  have e2 := status (off := 2 * a.length) (l := b) (s := false) (n := n) (E := ed (allEds a b)) (by rw [c.hn]; exact fam_b a b c.hb c.rb) c.pe c.so c.hb i hi x h1 h2
  rw [KF, e1, e2]
/-- behind the last edge of a place: what is told holds up to the next place. -/
theorem Ctx.now (c : Ctx a b keep n D) (i : Nat) (hi : i < n) (hg : i + 1 = n ∨ (D (i + 1)).p ≠ (D i).p) (x : Int) (h1 : (D i).p ≤ x) (h2 : x < QQ D n (i + 1)) :
    KF a b keep x = keep (lastF D true (i + 1)) (lastF D false (i + 1)) := by
  refine c.stat (i + 1) hi x (fun j hj => ?_) (fun j g1 g2 => ?_)
  · by_cases e : j = i
    · subst e; exact h1
    · have := c.so j i (by omega) (by omega) hi; omega
  · unfold QQ at h2
    rw [if_pos (by omega)] at h2
    by_cases e : j = i + 1
    · subst e; exact h2
    · have := c.so (i + 1) j (by omega) (by omega) g2; omega
theorem Ctx.step_lt (c : Ctx a b keep n D) (i : Nat) (hi : i < n) (hg : i + 1 = n ∨ (D (i + 1)).p ≠ (D i).p) : (D i).p < QQ D n (i + 1) := by
  unfold QQ
  split
  · have := c.so i (i + 1) (by omega) (by omega) (by omega)
    rcases hg with h | h
    · omega
    · omega
  · exact (c.rng i hi).2
theorem Ctx.start (c : Ctx a b keep n D) : Desc (KF a b keep) (QQ D n 0) false 0 [] := by
  refine ⟨fun j hj => by simp at hj, fun j hj => by simp at hj, fun h => by simp at h, fun h => by simp at h, fun k hk => by simp at hk, fun x hx => ?_, by omega⟩
  simp at hx
  have e : memB [] x = false := by rw [memB_false]; rintro ⟨k, hk, _⟩; simp at hk
  rw [e]
  by_cases h0 : 0 < n
  · have := c.stat 0 (by omega) x (fun j hj => by omega) (fun j g1 g2 => by
      unfold QQ at hx
      rw [if_pos h0] at hx
      by_cases e : j = 0
      · subst e; exact hx
      · have := c.so 0 j (by omega) (by omega) g2; omega)
    rw [this]; simp [lastF, c.k0]
  · have := c.stat 0 (by omega) x (fun j hj => by omega) (fun j g1 g2 => by omega)
    rw [this]; simp [lastF, c.k0]
/-- at the end. -/
theorem Ctx.done (c : Ctx a b keep n D) {is : Bool} {fr : Int} {out : List Sp} (h : Desc (KF a b keep) (QQ D n n) is fr out) : is = false ∧ Ok out ∧ Rng out ∧ ∀ x, memB out x = KF a b keep x := by
  have hq : QQ D n n = 18446744073709551616 := by unfold QQ; rw [if_neg (by omega)]
  rw [hq] at h
  have hna : ∀ l : List Sp, Ok l → ∀ x, 18446744073709551615 ≤ x → memB l x = false := by
    intro l hl x hx
    rw [memB_false]
    rintro ⟨k, hk, m1, m2⟩
    have := (hl k hk).2.1
    omega
  have hK : ∀ x, 18446744073709551615 ≤ x → KF a b keep x = false := fun x hx => by rw [KF, hna a c.ha x hx, hna b c.hb x hx, c.k0]
  cases is with
  | true =>
    have := h.lt rfl
    have h1 := h.run rfl 18446744073709551615 (by omega) (by omega)
    rw [hK _ (by omega)] at h1
    cases h1
  | false =>
    refine ⟨rfl, h.ok, h.rng, fun x => ?_⟩
    by_cases hx : x < 18446744073709551616
    · exact h.low x (by simpa using hx)
    · rw [hK x (by omega), hna out h.ok x (by omega)]
end

end Go.Proofs.YtmficjbgpcbhoaaDoor
