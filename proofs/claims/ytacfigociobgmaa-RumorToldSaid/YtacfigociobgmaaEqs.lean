/- Updates, compared. -/
import Derived.Test.YtacfigociobgmaaShown
namespace Go.Proofs.Ytacfigociobgmaa
open Go.RowKit Sh
set_option linter.unusedVariables false

section
variable {P : Program} {d : Nat} {xs ys : Array Value} {f : Field} {fs : List Field} {a b : Value} {r s : Bool} {w : World}
theorem eqField_cons (hn : (f.name == "_") = false) (ha : (part f.type xs f.offset).run P w = .ok a w) (hb : (part f.type ys f.offset).run P w = .ok b w) (he : (Op.equalIn d f.type a b).run P w = .ok r w) (hr : (Op.eqFields d xs ys fs).run P w = .ok s w) : (Op.eqFields d xs ys (f :: fs)).run P w = .ok (r && s) w := by
  have hn' : f.name ≠ "_" := by simpa using hn
  rw [Op.eqFields]
  simp only [if_pos hn', Sem.run_bind, ha, hb, he, Result.andThen_ok]
  cases r
  · simp
  · simpa using hr
theorem eqField_nil : (Op.eqFields d xs ys []).run P w = .ok true w := by simp [Op.eqFields]
theorem eqAgg {t : TypeId} {fs : Array Field} (hu : P.underlying t = some (.struct fs)) (hp : P.stoodInHeld t = false) (h : (Op.eqFields d xs ys fs.toList).run P w = .ok r w) : (Op.equalIn (d + 1) t (.agg xs) (.agg ys)).run P w = .ok r w := by
  have hf : P.fieldsOf t = fs := by simp [Program.fieldsOf, hu]
  rw [run_equalIn_struct (P := P) w d t xs ys (by rw [hf]; exact hu) hp, hf]
  exact h
end

theorem eqs33 (w : World) (n i s : Int) : (Op.equalIn (9997 + 3) 33 (.agg #[.int .i64 n, .int .u64 i, .int .i64 s]) (.agg #[.int .i64 n, .int .u64 i, .int .i64 s])).run Try.prog w = .ok true w := by
  have h : (Op.equalIn (9997 + 3) 33 (.agg #[.int .i64 n, .int .u64 i, .int .i64 s]) (.agg #[.int .i64 n, .int .u64 i, .int .i64 s])).run Try.prog w = .ok (n == n && (i == i && (s == s && true))) w := by
    refine eqAgg Try.underlying33 (by kernel_rfl) ?_
    refine eqField_cons (by rfl) (by go_simp; rfl) (by go_simp; rfl) (by go_simp) ?_
    refine eqField_cons (by rfl) (by go_simp; rfl) (by go_simp; rfl) (by go_simp) ?_
    refine eqField_cons (by rfl) (by go_simp; rfl) (by go_simp; rfl) (by go_simp) ?_
    exact eqField_nil
  rw [h]
  simp
theorem eq33 (w : World) (n i s : Int) : (binOp .eql 33 (.agg #[.int .i64 n, .int .u64 i, .int .i64 s]) (.agg #[.int .i64 n, .int .u64 i, .int .i64 s])).run Try.prog w = .ok (.bool true) w := by
  have h := eqs33 w n i s
  simp only [binOp, Op.equal, Op.maxDepth, Sem.run_bind, h, Result.andThen_ok]
  rfl
theorem ne33 (w : World) (n i s : Int) : (binOp .neq 33 (.agg #[.int .i64 n, .int .u64 i, .int .i64 s]) (.agg #[.int .i64 n, .int .u64 i, .int .i64 s])).run Try.prog w = .ok (.bool false) w := by
  have h := eqs33 w n i s
  simp only [binOp, Op.equal, Op.maxDepth, Sem.run_bind, h, Result.andThen_ok]
  rfl


end Go.Proofs.Ytacfigociobgmaa
