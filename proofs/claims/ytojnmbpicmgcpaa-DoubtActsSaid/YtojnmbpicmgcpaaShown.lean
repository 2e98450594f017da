/- The anchor of the statements about doubts; updates compared. -/
import Derived.Test.YtojnmbpicmgcpaaOver
namespace Go.Proofs.Ytojnmbpicmgcpaa
open Go.RowKit Sh
open Go.ChangeMaps (setBlock)
set_option linter.unusedVariables false

section
variable {P : Program} {d : Nat} {xs ys : Array Value} {f : Field} {fs : List Field} {a b : Value} {r s : Bool} {w : World}
theorem eqField_cons (hn : (f.name == "_") = false) (ha : (part f.type xs f.offset).run P w = .ok a w) (hb : (part f.type ys f.offset).run P w = .ok b w) (he : (Op.equalIn d f.type a b).run P w = .ok r w) (hr : (Op.eqFields d xs ys fs).run P w = .ok s w) : (Op.eqFields d xs ys (f :: fs)).run P w = .ok (r && s) w := by
  have hn' : f.name ≠ "_" := by simpa using hn
  rw [Op.eqFields]
  simp only [if_pos hn', Sem.run_bind, ha, hb, he, Result.andThen_ok]
  cases r
  · simp
  · simpa using hr
theorem eqField_nil : (Op.eqFields d xs ys []).run P w = .ok true w := by simp [Op.eqFields]
theorem eqAgg {t : TypeId} {fs : Array Field} (hu : P.underlying t = some (.struct fs)) (hp : P.stoodInHeld t = false) (h : (Op.eqFields d xs ys fs.toList).run P w = .ok r w) : (Op.equalIn (d + 1) t (.agg xs) (.agg ys)).run P w = .ok r w := by
  have hf : P.fieldsOf t = fs := by simp [Program.fieldsOf, hu]
  rw [run_equalIn_struct (P := P) w d t xs ys (by rw [hf]; exact hu) hp, hf]
  exact h
end

theorem eqs34 (w : World) (n i s : Int) : (Op.equalIn (9997 + 3) 34 (.agg #[.int .i64 n, .int .u64 i, .int .i64 s]) (.agg #[.int .i64 n, .int .u64 i, .int .i64 s])).run Try.prog w = .ok true w := by
  have h : (Op.equalIn (9997 + 3) 34 (.agg #[.int .i64 n, .int .u64 i, .int .i64 s]) (.agg #[.int .i64 n, .int .u64 i, .int .i64 s])).run Try.prog w = .ok (n == n && (i == i && (s == s && true))) w := by
    refine eqAgg Try.underlying34 (by kernel_rfl) ?_
    refine eqField_cons (by rfl) (by go_simp; rfl) (by go_simp; rfl) (by go_simp) ?_
    refine eqField_cons (by rfl) (by go_simp; rfl) (by go_simp; rfl) (by go_simp) ?_
    refine eqField_cons (by rfl) (by go_simp; rfl) (by go_simp; rfl) (by go_simp) ?_
    exact eqField_nil
  rw [h]
  simp
theorem eq34 (w : World) (n i s : Int) : (binOp .eql 34 (.agg #[.int .i64 n, .int .u64 i, .int .i64 s]) (.agg #[.int .i64 n, .int .u64 i, .int .i64 s])).run Try.prog w = .ok (.bool true) w := by
  have h := eqs34 w n i s
  simp only [binOp, Op.equal, Op.maxDepth, Sem.run_bind, h, Result.andThen_ok]
  rfl
theorem ne34 (w : World) (n i s : Int) : (binOp .neq 34 (.agg #[.int .i64 n, .int .u64 i, .int .i64 s]) (.agg #[.int .i64 n, .int .u64 i, .int .i64 s])).run Try.prog w = .ok (.bool false) w := by
  have h := eqs34 w n i s
  simp only [binOp, Op.equal, Op.maxDepth, Sem.run_bind, h, Result.andThen_ok]
  rfl



theorem Keep.drop {w w1 w2 : World} {q : Nat} {mb : Option Nat} (k1 : Keep (fun _ => False) w w1) (k2 : Keep (QS q mb) w1 w2) (hq : w.heap.size ≤ q) (hB : ∀ B, mb = some B → w.heap.size ≤ B) : Keep (fun _ => False) w w2 :=
  k1.trans k2 (by
    rintro i (h | h) hi
    · omega
    · have := hB i h
      omega)
theorem Keep.qs {w w' : World} {q : Nat} {mb : Option Nat} (k : Keep (fun k => mb = some k) w w') : Keep (QS q mb) w w' := k.mono (fun _ h _ => .inr h)
theorem IsQ.fresh (w : World) : IsQ (w.alloc (.cells #[.map none] 27)) w.heap.size none [] :=
  ⟨heap_alloc_new w _, fun B hB => (by cases hB), fun _ => rfl⟩

set_option maxRecDepth 100000 in
set_option maxHeartbeats 1000000 in
theorem shown10 (w : World) : Calls Try.prog 8 #[] w fun e w' => e = .returned (.bool true) ∧ Keep (fun _ => False) w w' := by
  go_enter Try.func8, Try.ntmps8
  go_wp2_with fail
  refine (raise_new (IsQ.fresh w) waitis_two 3 0 1 5 (by omega) (by omega) (by omega) (by simp)).mono ?_
  rintro e w1 ⟨rfl, ⟨B, t, ⟨rfl, _, _⟩, hq, hB⟩, hk⟩
  have hq' : IsQ w1 w.heap.size (some B) [⟨3, 0, 1, 2, 5, 0, 7⟩] := hq
  have HQ := Lib.hid hq'
  have hBs : w.heap.size ≤ B := by
    rcases hB with h | ⟨_, h⟩
    · cases h
    · simp at h; omega
  have K1 := Lib.hid (Keep.drop ((Keep.refl _ w).alloc _) hk (Nat.le_refl _) (fun B h => by cases h))
  clear hq hq' hk hB
  go_wp2_with fail
  refine (over_any HQ.out (by simp) 7).mono ?_
  rintro e w2 ⟨v, L, rfl, hp, hs, hq2, ⟨A, c, rfl, hrow⟩, hkp⟩
  have e1 : L = [⟨3, 0, 1, 2, 5, 0, 7⟩] := List.perm_singleton.1 hp
  subst e1
  have hf : ([⟨3, 0, 1, 2, 5, 0, 7⟩] : List Db).filter (goneB 7) = [⟨3, 0, 1, 2, 5, 0, 7⟩] := by simp [goneB]
  rw [hf] at hrow ⊢
  obtain ⟨g, rfl, hg, hu⟩ := hrow (by simp)
  have c0 := hu 0 (by simp) 0 (by omega)
  have c2 := hu 0 (by simp) 2 (by omega)
  simp only [db, upC, List.getD_cons_zero, Nat.zero_mul, Nat.zero_add, List.getElem?_cons_zero, List.getElem?_cons_succ] at c0 c2
  have K2 := Lib.hid (Keep.drop K1.out (Keep.qs (q := w.heap.size) hkp) (Nat.le_refl _) (fun B' h => by injection h with h; omega))
  clear hp hs hq2 hrow hkp hu hg hf
  go_wp2
  go_ret
  exact ⟨rfl, K2.out⟩

end Go.Proofs.Ytojnmbpicmgcpaa
