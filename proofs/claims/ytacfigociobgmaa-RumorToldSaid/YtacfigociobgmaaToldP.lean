/- What is wanted of each node, and what its queue still has of it. -/
import Derived.Test.YtacfigociobgmaaTurnP
namespace Go.Proofs.Ytacfigociobgmaa
open Go.RowKit Sh
set_option linter.unusedVariables false

def wk (p : Int × Int) : Int := p.1
def wv (p : Int × Int) : Value := .int .i64 p.2
/-- want and the queue agree. -/
structure Inv (C : Int) (M : List It) (W : List (Int × Int)) : Prop where
  all : ∀ x ∈ M, (x.n, C - x.t) ∈ W ∧ 0 ≤ x.t ∧ x.t < C
  own : ∀ p ∈ W, p.2 = 0 ∨ ∃ x ∈ M, x.n = p.1 ∧ p.2 = C - x.t
theorem Inv.perm {C : Int} {M M' : List It} {W : List (Int × Int)} (h : Inv C M W) (p : M'.Perm M) : Inv C M' W :=
  ⟨fun x hx => h.all x (p.mem_iff.1 hx), fun q hq => by
    rcases h.own q hq with h | ⟨x, hx, h⟩
    · exact .inl h
    · exact .inr ⟨x, p.mem_iff.2 hx, h⟩⟩
theorem Inv.nil (C : Int) : Inv C [] [] := ⟨fun x hx => by simp at hx, fun p hp => by simp at hp⟩
/-- one more is told. -/
theorem Inv.step {C : Int} {A D : List It} {u : It} {W : List (Int × Int)} (h : Inv C (A ++ u :: D) W) (hn : ((A ++ u :: D).map It.n).Nodup) : Inv C (A ++ (tl C u).toList ++ D) (W.map fun z => if wk z = wk (u.n, C - u.t - 1) then (u.n, C - u.t - 1) else z) := by
  have hu := h.all u (by simp)
  have hne : ∀ x, x ∈ A ∨ x ∈ D → x.n ≠ u.n := by
    intro x hx he
    rw [List.map_append, List.map_cons, List.nodup_append] at hn
    obtain ⟨h1, h2, h3⟩ := hn
    rcases hx with hx | hx
    · exact h3 x.n (List.mem_map.2 ⟨x, hx, rfl⟩) u.n (by simp) he
    · exact (List.nodup_cons.1 h2).1 (List.mem_map.2 ⟨x, hx, he⟩)
  have old : ∀ x, x ∈ A ∨ x ∈ D → x ∈ A ++ u :: D := fun x hx => by
    rcases hx with hx | hx <;> simp [hx]
  refine ⟨fun x hx => ?_, fun p hp => ?_⟩
  · rcases List.mem_append.1 hx with hx | hx
    · rcases List.mem_append.1 hx with hx | hx
      · obtain ⟨a, b⟩ := h.all x (old x (.inl hx))
        exact ⟨List.mem_map.2 ⟨_, a, if_neg (hne x (.inl hx))⟩, b⟩
      · unfold tl at hx
        split at hx
        · rename_i hlt
          simp at hx
          subst hx
          exact ⟨List.mem_map.2 ⟨_, hu.1, by simp only [wk, if_true]; congr 1; omega⟩, by simp only; omega, hlt⟩
        · simp at hx
    · obtain ⟨a, b⟩ := h.all x (old x (.inr hx))
      exact ⟨List.mem_map.2 ⟨_, a, if_neg (hne x (.inr hx))⟩, b⟩
  · obtain ⟨p, hpW, rfl⟩ := List.mem_map.1 hp
    by_cases c : wk p = wk (u.n, C - u.t - 1)
    · rw [if_pos c]
      by_cases hlt : u.t + 1 < C
      · refine .inr ⟨⟨u.n, u.i, u.s, u.t + 1⟩, ?_, rfl, by simp only; omega⟩
        simp [tl, hlt]
      · left
        simp only
        have := hu.2
        omega
    · rw [if_neg c]
      rcases h.own p hpW with h0 | ⟨x, hx, hxn, hx2⟩
      · exact .inl h0
      · refine .inr ⟨x, ?_, hxn, hx2⟩
        rcases List.mem_append.1 hx with hx | hx
        · simp [hx]
        · rcases List.mem_cons.1 hx with rfl | hx
          · exact absurd hxn.symm c
          · simp [hx]
/-- told i of L. -/
def toldL (C : Int) (L : List It) (i : Nat) : List It := (L.take i).filterMap (tl C) ++ L.drop i
theorem toldL_zero (C : Int) (L : List It) : toldL C L 0 = L := by simp [toldL]
theorem toldL_nodes {C : Int} {L : List It} {i : Nat} (h : (L.map It.n).Nodup) : ((toldL C L i).map It.n).Nodup := by
  have e : L = L.take i ++ L.drop i := (List.take_append_drop i L).symm
  rw [e, List.map_append] at h
  unfold toldL
  rw [List.map_append]
  refine List.Nodup.sublist (List.Sublist.append ?_ (List.Sublist.refl _)) h
  generalize L.take i = T
  induction T with
  | nil => simp
  | cons x T ih =>
    rw [List.filterMap_cons]
    unfold tl
    split
    · rename_i hq
      exact List.Sublist.cons _ ih
    · rename_i y hq
      split at hq
      · injection hq with hq
        subst hq
        exact List.Sublist.cons_cons _ ih
      · cases hq
theorem toldL_step {C : Int} {L : List It} {i : Nat} (hi : i < L.length) {W : List (Int × Int)} (h : Inv C (toldL C L i) W) (hn : (L.map It.n).Nodup) : ((it L i).n, C - (it L i).t) ∈ W ∧ 0 ≤ (it L i).t ∧ (it L i).t < C ∧ Inv C (toldL C L (i + 1)) (W.map fun z => if wk z = wk ((it L i).n, C - (it L i).t - 1) then ((it L i).n, C - (it L i).t - 1) else z) := by
  have e : toldL C L i = (L.take i).filterMap (tl C) ++ it L i :: L.drop (i + 1) := by
    unfold toldL
    rw [List.drop_eq_getElem_cons hi, it_of hi]
  have hnn := toldL_nodes (C := C) (i := i) hn
  rw [e] at h hnn
  have hu := h.all (it L i) (by simp)
  refine ⟨hu.1, hu.2.1, hu.2.2, ?_⟩
  have := h.step hnn
  have e2 : toldL C L (i + 1) = (L.take i).filterMap (tl C) ++ (tl C (it L i)).toList ++ L.drop (i + 1) := by
    unfold toldL
    rw [List.take_succ_eq_append_getElem hi, List.filterMap_append, ← it_of hi]
    congr 2
  rw [e2]
  exact this

/-- how much is left to tell. -/
def wt (C : Int) (x : It) : Nat := (C - x.t).toNat
def sumW (C : Int) (M : List It) : Nat := (M.map (wt C)).sum
theorem sumW_append (C : Int) (A B : List It) : sumW C (A ++ B) = sumW C A + sumW C B := by simp [sumW]
theorem sumW_perm {C : Int} {A B : List It} (h : A.Perm B) : sumW C A = sumW C B := (h.map (wt C)).sum_nat
theorem sumW_told (C : Int) : ∀ U : List It, (∀ x ∈ U, x.t < C) → sumW C (U.filterMap (tl C)) + U.length ≤ sumW C U
  | [], _ => by simp [sumW]
  | x :: U, h => by
    have ih := sumW_told C U (fun y hy => h y (by simp [hy]))
    have hx := h x (by simp)
    rw [List.filterMap_cons]
    have e1 : sumW C (x :: U) = wt C x + sumW C U := by simp [sumW]
    rw [e1]
    cases hq : tl C x with
    | none =>
      simp only [List.length_cons, wt]
      omega
    | some y =>
      unfold tl at hq
      split at hq
      · injection hq with hq
        subst hq
        have e2 : sumW C (⟨x.n, x.i, x.s, x.t + 1⟩ :: U.filterMap (tl C)) = wt C ⟨x.n, x.i, x.s, x.t + 1⟩ + sumW C (U.filterMap (tl C)) := by simp [sumW]
        simp only
        rw [e2]
        simp only [List.length_cons, wt]
        omega
      · cases hq
theorem sumW_le (C : Int) (c : Nat) (hC : C ≤ c) : ∀ M : List It, (∀ x ∈ M, 0 ≤ x.t) → sumW C M ≤ M.length * c
  | [], _ => by simp [sumW]
  | x :: M, h => by
    have ih := sumW_le C c hC M (fun y hy => h y (by simp [hy]))
    have hx := h x (by simp)
    have e1 : sumW C (x :: M) = wt C x + sumW C M := by simp [sumW]
    rw [e1, List.length_cons, Nat.add_mul, Nat.one_mul]
    simp only [wt]
    omega

/-- where all is put, and nothing told. -/
structure Inv1 (C : Int) (M : List It) (W : List (Int × Int)) : Prop where
  all : ∀ x ∈ M, (x.n, C) ∈ W ∧ x.t = 0
  own : ∀ p ∈ W, p.2 = C ∧ ∃ x ∈ M, x.n = p.1
theorem Inv1.inv {C : Int} {M : List It} {W : List (Int × Int)} (h : Inv1 C M W) (hC : 0 < C) : Inv C M W :=
  ⟨fun x hx => by
    obtain ⟨a, b⟩ := h.all x hx
    rw [b]
    exact ⟨by rw [show C - 0 = C by omega]; exact a, Int.le_refl _, hC⟩, fun p hp => by
    obtain ⟨a, x, hx, hn⟩ := h.own p hp
    exact .inr ⟨x, hx, hn, by rw [(h.all x hx).2, a]; omega⟩⟩
/-- want is set to C, of the node that was put. -/
def setW (W : List (Int × Int)) (n C : Int) : List (Int × Int) → Prop := fun W' => (W' = (W.map fun z => if wk z = wk (n, C) then (n, C) else z) ∧ ∃ x ∈ W, wk x = wk (n, C)) ∨ (W' = W ++ [(n, C)] ∧ ∀ x ∈ W, wk x ≠ wk (n, C))
theorem setW_mem {W W' : List (Int × Int)} {n C : Int} (h : setW W n C W') (p : Int × Int) : p ∈ W' ↔ p = (n, C) ∨ (p ∈ W ∧ p.1 ≠ n) := by
  rcases h with ⟨rfl, x, hx, hxn⟩ | ⟨rfl, hno⟩
  · constructor
    · intro hp
      obtain ⟨z, hz, rfl⟩ := List.mem_map.1 hp
      by_cases c : wk z = wk (n, C)
      · rw [if_pos c]; exact .inl rfl
      · rw [if_neg c]; exact .inr ⟨hz, c⟩
    · rintro (rfl | ⟨hp, hpn⟩)
      · exact List.mem_map.2 ⟨x, hx, if_pos hxn⟩
      · exact List.mem_map.2 ⟨p, hp, if_neg hpn⟩
  · constructor
    · intro hp
      rcases List.mem_append.1 hp with hp | hp
      · exact .inr ⟨hp, hno p hp⟩
      · exact .inl (by simpa using hp)
    · rintro (rfl | ⟨hp, hpn⟩)
      · simp
      · simp [hp]
theorem Inv1.put {C : Int} {M M' : List It} {W W' : List (Int × Int)} {n : Int} (h : Inv1 C M W) (hM : (M' = M ∧ ∃ x ∈ M, x.n = n) ∨ ((∀ x ∈ M, x.n ≠ n) ∧ M'.Perm (putL M ⟨n, 1, 0, 0⟩))) (hW : setW W n C W') : Inv1 C M' W' := by
  rcases hM with ⟨rfl, x0, hx0, hn0⟩ | ⟨hno, hp⟩
  · refine ⟨fun x hx => ?_, fun p hp => ?_⟩
    · obtain ⟨a, b⟩ := h.all x hx
      refine ⟨(setW_mem hW _).2 ?_, b⟩
      by_cases c : x.n = n
      · exact .inl (by rw [c])
      · exact .inr ⟨a, c⟩
    · rcases (setW_mem hW p).1 hp with rfl | ⟨hp, hpn⟩
      · exact ⟨rfl, x0, hx0, hn0⟩
      · exact h.own p hp
  · have hmem : ∀ x, x ∈ M' ↔ x ∈ M ∨ x = ⟨n, 1, 0, 0⟩ := fun x => by
      rw [hp.mem_iff, put_out M ⟨n, 1, 0, 0⟩ hno]
      simp
    refine ⟨fun x hx => ?_, fun p hp => ?_⟩
    · rcases (hmem x).1 hx with hx | rfl
      · obtain ⟨a, b⟩ := h.all x hx
        exact ⟨(setW_mem hW _).2 (.inr ⟨a, hno x hx⟩), b⟩
      · exact ⟨(setW_mem hW _).2 (.inl rfl), rfl⟩
    · rcases (setW_mem hW p).1 hp with rfl | ⟨hp, hpn⟩
      · exact ⟨rfl, _, (hmem _).2 (.inr rfl), rfl⟩
      · obtain ⟨a, x, hx, hxn⟩ := h.own p hp
        exact ⟨a, x, (hmem x).2 (.inl hx), hxn⟩

end Go.Proofs.Ytacfigociobgmaa
