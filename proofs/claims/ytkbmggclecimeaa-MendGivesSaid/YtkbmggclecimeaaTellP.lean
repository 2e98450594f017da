/- What is told of any spans, in plain words: each answer is one alone; no program here. -/
import Derived.Test.YtkbmggclecimeaaLackW
namespace Go.Proofs.Ytkbmggclecimeaa
open Go.RowKit Sh
set_option linter.unusedVariables false

/-- all that has K, or nothing if one of both may not be. -/
def BothIs (a b : List Sp) (K : Int → Bool) (out : List Sp) : Prop :=
  (Ok a ∧ Ok b → Ok out ∧ Rng out ∧ ∀ z, memB out z = K z) ∧ (¬ (Ok a ∧ Ok b) → out = [])
theorem BothIs.uniq {a b : List Sp} {K : Int → Bool} {x y : List Sp} (h : BothIs a b K x) (g : BothIs a b K y) : x = y := by
  by_cases c : Ok a ∧ Ok b
  · obtain ⟨h1, _, h2⟩ := h.1 c
    obtain ⟨g1, _, g2⟩ := g.1 c
    exact Ok.uniq h1 g1 (fun z => by rw [← memB_iff, ← memB_iff, h2, g2])
  · rw [h.2 c, g.2 c]
theorem ok1 {n : Int} (h : n < 18446744073709551615) : Ok [⟨n, n⟩] := by
  intro j hj
  obtain rfl : j = 0 := by simp at hj; omega
  rw [sp_zero]
  exact ⟨Int.le_refl n, h, fun h => by omega⟩
theorem rng1 {n : Int} (h0 : 0 ≤ n) (h : n < 18446744073709551616) : Rng [⟨n, n⟩] := by
  intro j hj
  obtain rfl : j = 0 := by simp at hj; omega
  rw [sp_zero]
  exact ⟨h0, h, h0, h⟩
def AddIs (a : List Sp) (n : Int) (out : List Sp) (b : Bool) : Prop :=
  (n = 18446744073709551615 → b = false ∧ (Ok a → out = a) ∧ (¬ Ok a → out = [])) ∧
  (n ≠ 18446744073709551615 → (Ok a → BothIs a [⟨n, n⟩] (fun z => memB a z || memB [⟨n, n⟩] z) out ∧ b = !memB a n) ∧ (¬ Ok a → out = [⟨n, n⟩] ∧ b = true))
theorem AddIs.uniq {a : List Sp} {n : Int} {x y : List Sp} {p q : Bool} (h : AddIs a n x p) (g : AddIs a n y q) : x = y ∧ p = q := by
  by_cases e : n = 18446744073709551615
  · obtain ⟨h1, h2, h3⟩ := h.1 e
    obtain ⟨g1, g2, g3⟩ := g.1 e
    refine ⟨?_, by rw [h1, g1]⟩
    by_cases o : Ok a
    · rw [h2 o, g2 o]
    · rw [h3 o, g3 o]
  · by_cases o : Ok a
    · obtain ⟨h1, h2⟩ := (h.2 e).1 o
      obtain ⟨g1, g2⟩ := (g.2 e).1 o
      exact ⟨h1.uniq g1, by rw [h2, g2]⟩
    · obtain ⟨h1, h2⟩ := (h.2 e).2 o
      obtain ⟨g1, g2⟩ := (g.2 e).2 o
      exact ⟨by rw [h1, g1], by rw [h2, g2]⟩
theorem reach_uniq {l : List Sp} {n r s : Int} (h : IsReach l n r) (g : IsReach l n s) : r = s := by
  rcases h with ⟨a, rfl⟩ | ⟨a, k, h1, h2, h3, rfl⟩ | ⟨a, h1, rfl⟩
  · rcases g with ⟨_, rfl⟩ | ⟨b, _⟩ | ⟨b, _⟩
    · rfl
    · exact absurd b a
    · exact absurd b a
  · rcases g with ⟨b, _⟩ | ⟨_, j, g1, g2, g3, rfl⟩ | ⟨_, g1, _⟩
    · exact absurd a b
    · by_cases e : k = j
      · rw [e]
      · exfalso
        by_cases c : k < j
        · have := a.rise k j c g1; omega
        · have := a.rise j k (by omega) h1; omega
    · exact absurd ⟨k, h1, h2, h3⟩ g1
  · rcases g with ⟨b, _⟩ | ⟨_, j, g1, g2, g3, _⟩ | ⟨_, _, rfl⟩
    · exact absurd a b
    · exact absurd ⟨j, g1, g2, g3⟩ h1
    · rfl
theorem cnt_cK {l : List Sp} (h : Ok l) (hr : Rng l) (N : Nat) (hN : (N : Int) = 18446744073709551616) : cnt l l.length = cK (memB l) N := by
  rw [cK_ov h hr, ov_all h]
  intro k hk
  have := hr k hk
  omega
theorem first_less {l : List Sp} {n : Int} {x y : List Sp} {B1 B2 : Int} (hr : Rng l) (ox : Ok x) (rx : Rng x) (oy : Ok y) (ry : Rng y)
    (mx : ∀ z, memB x z = (memB l z && decide (z < B1))) (my : ∀ z, memB y z = (memB l z && decide (z < B2))) (hc : cnt x x.length = cnt y y.length) (hB : B1 ≤ B2) (z : Int) (hz : memB y z = true) : memB x z = true := by
  obtain ⟨N, hN⟩ : ∃ N : Nat, (N : Int) = 18446744073709551616 := ⟨(18446744073709551616 : Int).toNat, by omega⟩
  apply Classical.byContradiction
  intro hx
  have hy := my z
  rw [hz] at hy
  have hlz : memB l z = true := by cases e : memB l z <;> simp [e] at hy ⊢
  have hzB : z < B2 := by rw [hlz] at hy; simpa using hy
  have hzC : B1 ≤ z := by
    apply Classical.byContradiction
    intro c
    exact hx (by rw [mx, hlz, decide_eq_true (by omega)]; rfl)
  obtain ⟨j, hj, j1, j2⟩ := memB_iff.1 hlz
  have hj2 := hr j hj
  obtain ⟨k, hk⟩ : ∃ k : Nat, (k : Int) = z := ⟨z.toNat, by omega⟩
  rw [cnt_cK ox rx N hN, cnt_cK oy ry N hN, cK_congr mx] at hc
  have h1 := cK_stop (memB l) B1 k (by omega) (N - k)
  rw [show k + (N - k) = N by omega] at h1
  have h2 := cK_mono (memB y) (k + 1) (N - (k + 1))
  rw [show k + 1 + (N - (k + 1)) = N by omega] at h2
  have h3 : cK (memB y) (k + 1) = cK (memB y) k + 1 := by simp only [cK]; rw [hk, hz]; rfl
  have h4 := cK_le (fun z => memB l z && decide (z < B1)) (memB y) (fun z hz => by
    simp at hz
    rw [my, hz.1, decide_eq_true (by omega)]; rfl) k
  omega
theorem first_uniq {l : List Sp} {n : Int} {x y : List Sp} (hr : Rng l) (h : FirstIs l n x) (g : FirstIs l n y) : x = y := by
  obtain ⟨ox, rx, ⟨B1, mx⟩, cx⟩ := h
  obtain ⟨oy, ry, ⟨B2, my⟩, cy⟩ := g
  refine Ok.uniq ox oy (fun z => ?_)
  rw [← memB_iff, ← memB_iff]
  by_cases hB : B1 ≤ B2
  · refine ⟨fun hz => ?_, first_less (n := n) hr ox rx oy ry mx my (by rw [cx, cy]) hB z⟩
    rw [mx] at hz
    simp at hz
    rw [my, hz.1, decide_eq_true (by omega)]; rfl
  · refine ⟨first_less (n := n) hr oy ry ox rx my mx (by rw [cx, cy]) (by omega) z, fun hz => ?_⟩
    rw [my] at hz
    simp at hz
    rw [mx, hz.1, decide_eq_true (by omega)]; rfl
def FirstAll (l : List Sp) (n : Int) (out : List Sp) : Prop := (Ok l → FirstIs l n out) ∧ (¬ Ok l → out = [])
theorem FirstAll.uniq {l : List Sp} {n : Int} {x y : List Sp} (hr : Rng l) (h : FirstAll l n x) (g : FirstAll l n y) : x = y := by
  by_cases c : Ok l
  · exact first_uniq hr (h.1 c) (g.1 c)
  · rw [h.2 c, g.2 c]

/-! ### one span taken off another -/
theorem sp_app (a b : List Sp) (k : Nat) : sp (a ++ b) k = if k < a.length then sp a k else sp b (k - a.length) := by
  simp only [sp, List.getD_eq_getElem?_getD]
  by_cases h : k < a.length
  · rw [if_pos h, List.getElem?_append_left h]
  · rw [if_neg h, List.getElem?_append_right (by omega)]
theorem mem_app (a b : List Sp) (z : Int) : mem (a ++ b) z ↔ mem a z ∨ mem b z := by
  induction a with
  | nil => simp [mem_nil]
  | cons x r ih => rw [List.cons_append, mem_cons, mem_cons, ih, or_assoc]
theorem ok_app {a b : List Sp} (ha : Ok a) (hb : Ok b) (h : ∀ k, a.length = k + 1 → ∀ j, j < b.length → (sp a k).t + 2 ≤ (sp b j).f) : Ok (a ++ b) := by
  intro j hj
  rw [List.length_append] at hj
  rw [sp_app]
  by_cases c : j < a.length
  · rw [if_pos c, sp_app, if_pos (by omega)]
    exact ha j c
  · rw [if_neg c]
    have h1 := hb (j - a.length) (by omega)
    refine ⟨h1.1, h1.2.1, fun h0 => ?_⟩
    rw [sp_app]
    by_cases c2 : j - 1 < a.length
    · rw [if_pos c2]
      have := h (j - 1) (by omega) (j - a.length) (by omega)
      exact this
    · rw [if_neg c2, show j - 1 - a.length = j - a.length - 1 by omega]
      exact h1.2.2 (by omega)
theorem rng_app {a b : List Sp} (ha : Rng a) (hb : Rng b) : Rng (a ++ b) := by
  intro j hj
  rw [List.length_append] at hj
  rw [sp_app]
  by_cases c : j < a.length
  · rw [if_pos c]; exact ha j c
  · rw [if_neg c]; exact hb _ (by omega)
structure CutIs (x y : Sp) (p : List Sp) : Prop where
  ok : Ok p
  rng : Rng p
  mem : ∀ z, mem p z ↔ (x.f ≤ z ∧ z ≤ x.t) ∧ ¬ (y.f ≤ z ∧ z ≤ y.t)
  inn : ∀ j, j < p.length → x.f ≤ (sp p j).f ∧ (sp p j).t ≤ x.t
  len : p.length ≤ 1 ∨ (p.length ≤ 2 ∧ x.f < y.f ∧ y.t < x.t)
def cutL (x y : Sp) : List Sp :=
  if y.t < x.f ∨ x.t < y.f then [x] else (if x.f < y.f then [⟨x.f, y.f - 1⟩] else []) ++ (if y.t < x.t then [⟨y.t + 1, x.t⟩] else [])
theorem cut_is (x y : Sp) (hx : x.f ≤ x.t ∧ x.t < 18446744073709551615) (hy : y.f ≤ y.t ∧ y.t < 18446744073709551615) (x0 : 0 ≤ x.f) (y0 : 0 ≤ y.f) : CutIs x y (cutL x y) := by
  have o1 : ∀ u : Sp, u.f ≤ u.t → u.t < 18446744073709551615 → Ok [u] := fun u a b j hj => by
    obtain rfl : j = 0 := by simp at hj; omega
    rw [sp_zero]; exact ⟨a, b, fun h => by omega⟩
  have r1 : ∀ u : Sp, 0 ≤ u.f → u.f ≤ u.t → u.t < 18446744073709551615 → Rng [u] := fun u a b c j hj => by
    obtain rfl : j = 0 := by simp at hj; omega
    rw [sp_zero]; omega
  have m1 : ∀ (u : Sp) z, Proofs.Ytkbmggclecimeaa.mem [u] z ↔ u.f ≤ z ∧ z ≤ u.t := fun u z => by
    rw [mem_cons]
    exact ⟨fun h => h.elim id (fun h => absurd h (mem_nil _)), .inl⟩
  have i1 : ∀ u : Sp, x.f ≤ u.f → u.t ≤ x.t → ∀ j, j < [u].length → x.f ≤ (sp [u] j).f ∧ (sp [u] j).t ≤ x.t := fun u a b j hj => by
    obtain rfl : j = 0 := by simp at hj; omega
    rw [sp_zero]; exact ⟨a, b⟩
  unfold cutL
  by_cases c : y.t < x.f ∨ x.t < y.f
  · rw [if_pos c]
    refine ⟨o1 x hx.1 hx.2, r1 x x0 hx.1 hx.2, fun z => ?_, i1 x (Int.le_refl _) (Int.le_refl _), .inl (by simp)⟩
    rw [m1]; omega
  · rw [if_neg c]
    by_cases c1 : x.f < y.f
    · rw [if_pos c1]
      by_cases c2 : y.t < x.t
      · rw [if_pos c2]
        refine ⟨ok_app (o1 _ (by simp only; omega) (by simp only; omega)) (o1 _ (by simp only; omega) hx.2) (fun k hk j hj => ?_), rng_app (r1 _ x0 (by simp only; omega) (by simp only; omega)) (r1 _ (by simp only; omega) (by simp only; omega) hx.2), fun z => ?_, fun j hj => ?_, .inr ⟨by simp, c1, c2⟩⟩
        · obtain rfl : k = 0 := by simp at hk; omega
          obtain rfl : j = 0 := by simp at hj; omega
          rw [sp_zero, sp_zero]; simp only; omega
        · rw [mem_app, m1, m1]; simp only; omega
        · rcases (by simp at hj; omega : j = 0 ∨ j = 1) with rfl | rfl
          · simp [sp]; omega
          · simp [sp]; omega
      · rw [if_neg c2, List.append_nil]
        refine ⟨o1 _ (by simp only; omega) (by simp only; omega), r1 _ x0 (by simp only; omega) (by simp only; omega), fun z => ?_, i1 _ (Int.le_refl _) (by simp only; omega), .inl (by simp)⟩
        rw [m1]; simp only; omega
    · rw [if_neg c1, List.nil_append]
      by_cases c2 : y.t < x.t
      · rw [if_pos c2]
        refine ⟨o1 _ (by simp only; omega) hx.2, r1 _ (by simp only; omega) (by simp only; omega) hx.2, fun z => ?_, i1 _ (by simp only; omega) (Int.le_refl _), .inl (by simp)⟩
        rw [m1]; simp only; omega
      · rw [if_neg c2]
        refine ⟨fun j hj => by simp at hj, fun j hj => by simp at hj, fun z => ?_, fun j hj => by simp at hj, .inl (by simp)⟩
        constructor
        · intro h; exact absurd h (mem_nil _)
        · intro h; omega

/-- where the inner loop of Minus stands: i spans of l are without y. -/
structure Off (l : List Sp) (y : Sp) (i : Nat) (out : List Sp) : Prop where
  ok : Ok out
  rng : Rng out
  mem : ∀ z, mem out z ↔ mem (l.take i) z ∧ ¬ (y.f ≤ z ∧ z ≤ y.t)
  top : ∀ j, j < out.length → 0 < i ∧ (sp out j).t ≤ (sp l (i - 1)).t
  len : out.length ≤ i ∨ (out.length ≤ i + 1 ∧ 0 < i ∧ y.t < (sp l (i - 1)).t)
theorem Off.nil (l : List Sp) (y : Sp) : Off l y 0 [] := ⟨fun j hj => by simp at hj, fun j hj => by simp at hj, fun z => by simp [mem_nil], fun j hj => by simp at hj, .inl (by simp)⟩
theorem Off.next {l : List Sp} {y : Sp} {i : Nat} {out p : List Sp} (g : Off l y i out) (hl : Ok l) (hi : i < l.length) (hy : y.f ≤ y.t) (c : CutIs (sp l i) y p) : Off l y (i + 1) (out ++ p) := by
  have hli := hl i hi
  refine ⟨ok_app g.ok c.ok (fun k hk j hj => ?_), rng_app g.rng c.rng, fun z => ?_, fun j hj => ?_, ?_⟩
  · have h1 := g.top k (by omega)
    have h2 := c.inn j hj
    have h3 := hli.2.2 h1.1
    omega
  · rw [mem_app, g.mem, c.mem, take_succ_sp hi, mem_snoc']
    constructor
    · rintro (h | h)
      · exact ⟨.inl h.1, h.2⟩
      · exact ⟨.inr h.1, h.2⟩
    · rintro ⟨h | h, h2⟩
      · exact .inl ⟨h, h2⟩
      · exact .inr ⟨h, h2⟩
  · rw [List.length_append] at hj
    refine ⟨by omega, ?_⟩
    rw [Nat.add_sub_cancel, sp_app]
    by_cases e : j < out.length
    · rw [if_pos e]
      have h1 := g.top j e
      have h3 := hli.2.2 h1.1
      omega
    · rw [if_neg e]
      exact (c.inn _ (by omega)).2
  · rw [List.length_append, Nat.add_sub_cancel]
    rcases g.len with h | ⟨h, h0, h1⟩
    · rcases c.len with k | ⟨k, k1, k2⟩
      · exact .inl (by omega)
      · exact .inr ⟨by omega, by omega, k2⟩
    · have h3 := hli.2.2 h0
      rcases c.len with k | ⟨k, k1, k2⟩
      · exact .inr ⟨by omega, by omega, by omega⟩
      · omega

end Go.Proofs.Ytkbmggclecimeaa
