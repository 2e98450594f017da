/- The document's doubts in order; what is left of them: plain. -/
import Derived.Test.YtojnmbpicmgcpaaRefS
namespace Go.Proofs.Ytojnmbpicmgcpaa
set_option linter.unusedVariables false
theorem allR_mem {R : List Db} {k : Nat} {x : Db} : x ∈ allR R k ↔ x ∈ R ∧ ∃ n : Nat, n < k ∧ x.n = n := by
  unfold allR
  rw [List.mem_flatMap]
  constructor
  · rintro ⟨n, hn, hx⟩
    obtain ⟨h1, h2⟩ := List.mem_filter.1 hx
    exact ⟨h1, n, List.mem_range.1 hn, of_decide_eq_true h2⟩
  · rintro ⟨hx, n, hn, e⟩
    exact ⟨n, List.mem_range.2 hn, List.mem_filter.2 ⟨hx, decide_eq_true e⟩⟩
theorem allR_srt {R : List Db} (hn : (R.map Db.n).Nodup) : ∀ k, SrtN (allR R k)
  | 0 => by unfold SrtN allR; simp
  | k + 1 => by
    rw [allR_succ]
    unfold SrtN
    rw [List.pairwise_append]
    refine ⟨allR_srt hn k, ?_, fun x hx y hy => ?_⟩
    · have h1 : R.Pairwise fun x y => x.n ≠ y.n := by
        have := List.pairwise_map.1 hn
        exact this
      refine (h1.filter _).imp_of_mem fun {a b} ha hb hab => ?_
      have e1 : a.n = k := of_decide_eq_true (List.mem_filter.1 ha).2
      have e2 : b.n = k := of_decide_eq_true (List.mem_filter.1 hb).2
      exact absurd (e1.trans e2.symm) hab
    · obtain ⟨_, n, h1, h2⟩ := allR_mem.1 hx
      have e2 : y.n = k := of_decide_eq_true (List.mem_filter.1 hy).2
      omega
theorem srt_nodup {L : List Db} (h : SrtN L) : L.Nodup := h.imp fun {a b} hab e => by subst e; omega
theorem allR_perm {R : List Db} (hn : (R.map Db.n).Nodup) (hr : ∀ x ∈ R, 0 ≤ x.n ∧ x.n < 64) : (allR R 64).Perm R := by
  have h2 : R.Nodup := (List.pairwise_map.1 hn).imp fun {a b} hab e => hab (by rw [e])
  refine (List.perm_ext_iff_of_nodup (srt_nodup (allR_srt hn 64)) h2).2 fun x => ?_
  rw [allR_mem]
  constructor
  · exact fun h => h.1
  · intro h
    have := hr x h
    exact ⟨h, x.n.toNat, by omega, by omega⟩
theorem srt_unique : ∀ {L M : List Db}, SrtN L → SrtN M → L.Perm M → L = M
  | [], M, _, _, h => (List.nil_perm.1 h).symm
  | a :: L, [], _, _, h => absurd h.symm (by simp)
  | a :: L, b :: M, h1, h2, h => by
    obtain ⟨p1, q1⟩ := List.pairwise_cons.1 h1
    obtain ⟨p2, q2⟩ := List.pairwise_cons.1 h2
    have e : a = b := by
      rcases List.mem_cons.1 (h.mem_iff.1 (List.mem_cons_self (a := a) (l := L))) with e | ha
      · exact e
      · rcases List.mem_cons.1 (h.mem_iff.2 (List.mem_cons_self (a := b) (l := M))) with e | hb
        · exact e.symm
        · have := p1 b hb
          have := p2 a ha
          omega
    subst e
    rw [srt_unique q1 q2 (List.Perm.cons_inv h)]
/-- What is left behind the first i. -/
def leftR (now : Int) (R L : List Db) (i : Nat) : List Db := R.filter fun x => (L.take i).all fun y => !(goneB now y && decide (y.n = x.n))
theorem leftR_zero (now : Int) (R L : List Db) : leftR now R L 0 = R := List.filter_eq_self.2 fun x _ => by simp
theorem leftR_succ {now : Int} {R L : List Db} {i : Nat} (h : i < L.length) : leftR now R L (i + 1) = if goneB now (db L i) then (leftR now R L i).filter (nb (db L i).n) else leftR now R L i := by
  unfold leftR
  rw [List.take_succ_eq_append_getElem h, ← db_of h]
  split
  · rename_i hg
    rw [List.filter_filter]
    refine List.filter_congr fun x _ => ?_
    rw [List.all_append]
    simp only [List.all_cons, List.all_nil, Bool.and_true, hg, Bool.true_and]
    unfold nb
    rw [Bool.and_comm]
    congr 1
    by_cases c : (db L i).n = x.n
    · simp [c]
    · have c' : x.n ≠ (db L i).n := fun h => c h.symm
      simp [c, c']
  · rename_i hg
    refine List.filter_congr fun x _ => ?_
    rw [List.all_append]
    simp [hg]
theorem leftR_all {now : Int} {R L : List Db} (hn : (R.map Db.n).Nodup) (hp : L.Perm R) : leftR now R L L.length = R.filter fun x => !goneB now x := by
  unfold leftR
  rw [List.take_length]
  refine List.filter_congr fun x hx => ?_
  cases hg : goneB now x with
  | true =>
    rw [Bool.not_true, Bool.eq_false_iff]
    intro h
    have := List.all_eq_true.1 h x (hp.mem_iff.2 hx)
    simp [hg] at this
  | false =>
    rw [Bool.not_false, List.all_eq_true]
    intro y hy
    by_cases e : y.n = x.n
    · have := nodup_one hn (hp.mem_iff.1 hy) hx e
      subst this
      simp [hg]
    · simp [e]
end Go.Proofs.Ytojnmbpicmgcpaa
