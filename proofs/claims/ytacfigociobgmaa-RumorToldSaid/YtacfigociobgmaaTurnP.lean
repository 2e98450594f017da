/- A queue of nodes, put and taken: what stays true. -/
import Derived.Test.YtacfigociobgmaaRowS
import Derived.Test.YtacfigociobgmaaEqs
namespace Go.Proofs.Ytacfigociobgmaa
open Go.RowKit Sh
set_option linter.unusedVariables false

/-- at most m items, each of a node, told less than cap. -/
structure OkM (cap : Int) (m : Nat) (M : List It) : Prop where
  len : M.length ≤ m
  itm : ∀ x ∈ M, 0 ≤ x.n ∧ x.n < 64 ∧ x.i = 1 ∧ x.s = 0 ∧ 0 ≤ x.t ∧ x.t < cap
theorem OkM.perm {cap : Int} {m : Nat} {M M' : List It} (h : OkM cap m M) (p : M'.Perm M) : OkM cap m M' :=
  ⟨by rw [p.length_eq]; exact h.len, fun x hx => h.itm x (p.mem_iff.1 hx)⟩
theorem OkM.up {cap : Int} {m m' : Nat} {M : List It} (h : OkM cap m M) (hm : m ≤ m') : OkM cap m' M := ⟨Nat.le_trans h.len hm, h.itm⟩
theorem OkM.nil (cap : Int) : OkM cap 0 [] := ⟨Nat.le_refl _, fun x hx => by simp at hx⟩
theorem OkM.take {cap : Int} {m : Nat} {M L : List It} (h : OkM cap m M) (hL : L.Perm M) (k : Nat) : OkM cap m ((L.take k).filterMap (tl cap) ++ L.drop k) := by
  have hL' := h.perm hL
  refine ⟨?_, fun x hx => ?_⟩
  · rw [List.length_append]
    have h1 := List.length_filterMap_le (tl cap) (L.take k)
    have h2 : (L.take k).length + (L.drop k).length = L.length := by rw [← List.length_append, List.take_append_drop]
    have := hL'.len
    omega
  · rcases List.mem_append.1 hx with hx | hx
    · obtain ⟨y, hy, hxy⟩ := List.mem_filterMap.1 hx
      obtain ⟨a, b, c, d, e, f⟩ := hL'.itm y (List.mem_of_mem_take hy)
      unfold tl at hxy
      split at hxy
      · rename_i hlt
        injection hxy with hxy
        subst hxy
        exact ⟨a, b, c, d, by simp only; omega, hlt⟩
      · cases hxy
    · exact hL'.itm x (List.mem_of_mem_drop hx)
theorem OkM.put {cap : Int} {m : Nat} {M : List It} (h : OkM cap m M) (n : Int) (n0 : 0 ≤ n) (n1 : n < 64) (hc : 0 < cap) : OkM cap (m + 1) (putL M ⟨n, 1, 0, 0⟩) := by
  refine ⟨Nat.le_trans (putL_len _ _) (by have := h.len; omega), fun x hx => ?_⟩
  rcases List.mem_append.1 hx with hx | hx
  · exact h.itm x (List.mem_filter.1 hx).1
  · simp at hx
    subst hx
    exact ⟨n0, n1, rfl, rfl, by simp, by simpa using hc⟩

/-- Put of a node with incarnation 1, whatever the queue has. -/
structure PutAny (w w' : World) (q : Nat) (mb : Option Nat) (M : List It) (n : Int) : Prop where
  ex : ∃ mb' M', IsQ w' q mb' M' ∧ ((M' = M ∧ ∃ x ∈ M, x.n = n) ∨ ((∀ x ∈ M, x.n ≠ n) ∧ M'.Perm (putL M ⟨n, 1, 0, 0⟩))) ∧ (mb' = mb ∨ (mb = none ∧ ∃ B, mb' = some B ∧ w.heap.size ≤ B))
  keep : Keep (QS q mb) w w'
theorem put_node {w : World} {q : Nat} {mb : Option Nat} {M : List It} {cap : Int} {m : Nat} (h : IsQ w q mb M) (hM : OkM cap m M) (hm : m ≤ 31) (n : Int) (n0 : 0 ≤ n) (n1 : n < 64) :
    Calls Try.prog 9 #[.pointer (some ⟨q, 0, none⟩), updV n 1 0] w fun e w' => (∃ r : Int, e = .returned (.int .i64 r)) ∧ PutAny w w' q mb M n := by
  have hmay : mayU n 0 = true := by simp [mayU]; omega
  by_cases c : ∃ x ∈ M, x.n = n
  · obtain ⟨x, hx, hxn⟩ := c
    obtain ⟨_, _, hi, hs, _, _⟩ := hM.itm x hx
    refine (put_old h n 1 0 hmay x hx hxn (by rw [newI_eq, hi, hs]; decide)).mono ?_
    rintro e w' ⟨rfl, hk⟩
    exact ⟨⟨70, rfl⟩, ⟨mb, M, h.keep0 hk, .inl ⟨rfl, x, hx, hxn⟩, .inl rfl⟩, hk.mono (fun _ h _ => absurd h id)⟩
  · have c' : ∀ x ∈ M, x.n ≠ n := fun x hx he => c ⟨x, hx, he⟩
    refine (put_new h (by have := hM.len; omega) n 1 0 hmay (fun x hx he => absurd he (c' x hx))).mono ?_
    rintro e w' ⟨rfl, ⟨L, B, hL, hs, hq, hB⟩, hk⟩
    have hl : L.length ≤ 32 := by rw [hL.length_eq]; have := putL_len M ⟨n, 1, 0, 0⟩; have := hM.len; omega
    rw [List.take_of_length_le hl] at hq
    refine ⟨⟨0, rfl⟩, ⟨some B, L, hq, .inr ⟨c', hL⟩, ?_⟩, hk⟩
    rcases hB with h | ⟨h, h'⟩
    · exact .inl h.symm
    · exact .inr ⟨h, B, rfl, h'⟩
/-- Take, whatever the queue has. -/
theorem take_node {w w' : World} {q : Nat} {mb : Option Nat} {v : Value} {n nodes : Int} {M L : List It} {k m : Nat} (h : TakeDone w w' q mb v n nodes M L k) (hq : IsQ w q mb M) (hM : OkM (capI nodes) m M) : IsQ w' q mb ((L.take k).filterMap (tl (capI nodes)) ++ L.drop k) ∧ OkM (capI nodes) m ((L.take k).filterMap (tl (capI nodes)) ++ L.drop k) :=
  ⟨h.que.perm (take_perm h.perm hq.nod k), hM.take h.perm k⟩

end Go.Proofs.Ytacfigociobgmaa
