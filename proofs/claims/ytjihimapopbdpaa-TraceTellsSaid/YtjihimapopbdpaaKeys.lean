/- The kinds of keys that the tests' maps have; structs compared. -/
import Derived.Test.YtjihimapopbdpaaFn
namespace Go.Proofs.Ytjihimapopbdpaa
open Go.RowKit Sh
open Go.ChangeMaps (setBlock)
set_option linter.unusedVariables false

section
variable {P : Program} {d : Nat} {xs ys : Array Value} {f : Field} {fs : List Field} {a b : Value} {r s : Bool} {w : World}
theorem eqField_cons (hn : (f.name == "_") = false) (ha : (part f.type xs f.offset).run P w = .ok a w) (hb : (part f.type ys f.offset).run P w = .ok b w) (he : (Op.equalIn d f.type a b).run P w = .ok r w) (hr : (Op.eqFields d xs ys fs).run P w = .ok s w) : (Op.eqFields d xs ys (f :: fs)).run P w = .ok (r && s) w := by
  have hn' : f.name ≠ "_" := by simpa using hn
  rw [Op.eqFields]
  simp only [if_pos hn', Sem.run_bind, ha, hb, he, Result.andThen_ok]
  cases r
  · simp
  · simpa using hr
theorem eqField_nil : (Op.eqFields d xs ys []).run P w = .ok true w := by simp [Op.eqFields]
theorem eqAgg {t : TypeId} {fs : Array Field} (hu : P.underlying t = some (.struct fs)) (hp : P.stoodInHeld t = false) (h : (Op.eqFields d xs ys fs.toList).run P w = .ok r w) : (Op.equalIn (d + 1) t (.agg xs) (.agg ys)).run P w = .ok r w := by
  have hf : P.fieldsOf t = fs := by simp [Program.fieldsOf, hu]
  rw [run_equalIn_struct (P := P) w d t xs ys (by rw [hf]; exact hu) hp, hf]
  exact h
end

section
variable {P : Program} {κ : Type} [DecidableEq κ] {K : κ → Value} {kt : TypeId}
theorem int_find {q : IntKind} (n : Int) : ∀ (L : List (Int × Value × Nat)) (i : Nat), Instr.findNow (.int q) (.int q n) (L.map (mkE (fun n => .int q n))) i = some (pos n L i)
  | [], _ => rfl
  | p :: L, i => by
    by_cases c : p.1 = n
    · simp [Instr.findNow, Instr.sameNow, mkE, pos, c]
    · have cb : (n == p.1) = false := by rw [beq_eq_false_iff_ne]; exact fun h => c h.symm
      simp only [List.map_cons, Instr.findNow, Instr.sameNow, mkE, cb, if_true, pos, if_neg c]
      exact int_find n L (i + 1)
theorem keyOk_int {q : IntKind} (hkt : P.underlying kt = some (.int q)) : KeyOk (fun n : Int => .int q n) P kt where
  check w em a := MapKept.run_checkKey (w := w) hkt (by trivial) em 9999
  find w a L := MapKept.run_findKey (w := w) hkt (int_find a L 0)
  stays w a := by simp [Instr.keyThatStays, Instr.sameBits]
theorem ask_find (heq : ∀ w a b, (Op.equal kt (K a) (K b)).run P w = .ok (decide (a = b)) w) (w : World) (a : κ) : ∀ (L : List (κ × Value × Nat)) (i : Nat), (Instr.findAsking kt (K a) (L.map (mkE K)) i).run P w = .ok (pos a L i) w
  | [], _ => by simp [Instr.findAsking, pos]
  | p :: L, i => by
    by_cases c : p.1 = a
    · simp [Instr.findAsking, mkE, pos, c, heq]
    · have cb : decide (a = p.1) = false := decide_eq_false fun h => c h.symm
      have := ask_find heq w a L (i + 1)
      simp only [List.map_cons, Instr.findAsking, mkE, Sem.run_bind, heq, cb, Result.andThen_ok, pos, if_neg c]
      simpa [mkE] using this
theorem keyOk_agg {fs : Array Field} (hkt : P.underlying kt = some (.struct fs)) (heq : ∀ w a b, (Op.equal kt (K a) (K b)).run P w = .ok (decide (a = b)) w)
    (hs : ∀ a, Instr.sameBits 10000 (K a) (K a) = true) (hck : ∀ (w : World) (em : Bool) (a : κ), (Instr.checkKey em 10000 kt (K a)).run P w = .ok () w) : KeyOk K P kt where
  check := hck
  find w a L := by
    have h1 := Go.run_findKey_eq (P := P) (w := w) (k := kt) (by simp [hkt]) (K a) (L.map (mkE K))
    rw [h1]
    exact ask_find heq w a L 0
  stays w a := by simp [Instr.keyThatStays, hs]
end

structure Vw where
  id : Int
  mem : Int
  deriving DecidableEq
structure Mg where
  snd : Int
  num : Int
  text : ByteArray
  deriving DecidableEq
def vwV (v : Vw) : Value := .agg #[.int .u64 v.id, .int .u64 v.mem]
def mgV (m : Mg) : Value := .agg #[.int .i64 m.snd, .int .u64 m.num, .string m.text]
def nrV (a : Int × Int) : Value := .agg #[.int .u64 a.1, .int .u64 a.2]
def wdV (a : Int × Mg) : Value := .agg #[.int .i64 a.1, .int .i64 a.2.snd, .int .u64 a.2.num, .string a.2.text]
def prV (a : Int × Int × Int) : Value := .agg #[.int .i64 a.1, .int .i64 a.2.1, .int .i64 a.2.2]
def wyV (a : Vw × Vw) : Value := .agg #[.int .u64 a.1.id, .int .u64 a.1.mem, .int .u64 a.2.id, .int .u64 a.2.mem]
def plV (a : Vw × Int) : Value := .agg #[.int .u64 a.1.id, .int .u64 a.1.mem, .int .u64 a.2]

theorem eqs36 (d : Nat) (w : World) (a b : Vw) : (Op.equalIn (d + 2) 36 (vwV a) (vwV b)).run Try.prog w = .ok (decide (a = b)) w := by
  obtain ⟨a1, a2⟩ := a; obtain ⟨b1, b2⟩ := b
  have h : (Op.equalIn (d + 2) 36 (vwV ⟨a1, a2⟩) (vwV ⟨b1, b2⟩)).run Try.prog w = .ok (a1 == b1 && (a2 == b2 && true)) w := by
    refine eqAgg Try.underlying36 (by kernel_rfl) ?_
    refine eqField_cons (by rfl) (by go_simp; rfl) (by go_simp; rfl) (by go_simp) ?_
    refine eqField_cons (by rfl) (by go_simp; rfl) (by go_simp; rfl) (by go_simp) ?_
    exact eqField_nil
  rw [h]
  congr 1
  simp only [Vw.mk.injEq, Bool.and_true, Bool.decide_and]
  rfl
theorem ba_beq (a b : ByteArray) : (a == b) = decide (a = b) := by
  cases a; cases b
  rename_i x y
  show (x == y) = _
  rw [Bool.eq_iff_iff]
  simp
theorem eqs38 (d : Nat) (w : World) (a b : Mg) : (Op.equalIn (d + 2) 38 (mgV a) (mgV b)).run Try.prog w = .ok (decide (a = b)) w := by
  obtain ⟨a1, a2, a3⟩ := a; obtain ⟨b1, b2, b3⟩ := b
  have h : (Op.equalIn (d + 2) 38 (mgV ⟨a1, a2, a3⟩) (mgV ⟨b1, b2, b3⟩)).run Try.prog w = .ok (a1 == b1 && (a2 == b2 && ((a3.toList == b3.toList) && true))) w := by
    refine eqAgg Try.underlying38 (by kernel_rfl) ?_
    refine eqField_cons (by rfl) (by go_simp; rfl) (by go_simp; rfl) (by go_simp) ?_
    refine eqField_cons (by rfl) (by go_simp; rfl) (by go_simp; rfl) (by go_simp) ?_
    refine eqField_cons (by rfl) (by go_simp; rfl) (by go_simp; rfl) (by go_simp) ?_
    exact eqField_nil
  rw [h, ← beq_toListBytes, ba_beq]
  congr 1
  rw [Bool.eq_iff_iff]
  simp
theorem eqs65 (d : Nat) (w : World) (a b : Int × Int) : (Op.equalIn (d + 2) 65 (nrV a) (nrV b)).run Try.prog w = .ok (decide (a = b)) w := by
  obtain ⟨a1, a2⟩ := a; obtain ⟨b1, b2⟩ := b
  have h : (Op.equalIn (d + 2) 65 (nrV ⟨a1, a2⟩) (nrV ⟨b1, b2⟩)).run Try.prog w = .ok (a1 == b1 && (a2 == b2 && true)) w := by
    refine eqAgg Try.underlying65 (by kernel_rfl) ?_
    refine eqField_cons (by rfl) (by go_simp; rfl) (by go_simp; rfl) (by go_simp) ?_
    refine eqField_cons (by rfl) (by go_simp; rfl) (by go_simp; rfl) (by go_simp) ?_
    exact eqField_nil
  rw [h]
  congr 1
  rw [Bool.eq_iff_iff]
  simp
theorem eqs71 (d : Nat) (w : World) (a b : Int × Mg) : (Op.equalIn (d + 3) 71 (wdV a) (wdV b)).run Try.prog w = .ok (decide (a = b)) w := by
  obtain ⟨a1, a2⟩ := a; obtain ⟨b1, b2⟩ := b
  have h : (Op.equalIn (d + 3) 71 (wdV ⟨a1, a2⟩) (wdV ⟨b1, b2⟩)).run Try.prog w = .ok (a1 == b1 && (decide (a2 = b2) && true)) w := by
    refine eqAgg Try.underlying71 (by kernel_rfl) ?_
    refine eqField_cons (by rfl) (by go_simp; rfl) (by go_simp; rfl) (by go_simp) ?_
    refine eqField_cons (a := mgV a2) (b := mgV b2) (by rfl) (by go_simp; rfl) (by go_simp; rfl) (eqs38 d w a2 b2) ?_
    exact eqField_nil
  rw [h]
  congr 1
  rw [Bool.eq_iff_iff]
  simp
theorem eqs73 (d : Nat) (w : World) (a b : Int × Int × Int) : (Op.equalIn (d + 2) 73 (prV a) (prV b)).run Try.prog w = .ok (decide (a = b)) w := by
  obtain ⟨a1, a2, a3⟩ := a; obtain ⟨b1, b2, b3⟩ := b
  have h : (Op.equalIn (d + 2) 73 (prV ⟨a1, a2, a3⟩) (prV ⟨b1, b2, b3⟩)).run Try.prog w = .ok (a1 == b1 && (a2 == b2 && (a3 == b3 && true))) w := by
    refine eqAgg Try.underlying73 (by kernel_rfl) ?_
    refine eqField_cons (by rfl) (by go_simp; rfl) (by go_simp; rfl) (by go_simp) ?_
    refine eqField_cons (by rfl) (by go_simp; rfl) (by go_simp; rfl) (by go_simp) ?_
    refine eqField_cons (by rfl) (by go_simp; rfl) (by go_simp; rfl) (by go_simp) ?_
    exact eqField_nil
  rw [h]
  congr 1
  rw [Bool.eq_iff_iff]
  simp
theorem eqs79 (d : Nat) (w : World) (a b : Vw × Vw) : (Op.equalIn (d + 3) 79 (wyV a) (wyV b)).run Try.prog w = .ok (decide (a = b)) w := by
  obtain ⟨a1, a2⟩ := a; obtain ⟨b1, b2⟩ := b
  have h : (Op.equalIn (d + 3) 79 (wyV ⟨a1, a2⟩) (wyV ⟨b1, b2⟩)).run Try.prog w = .ok (decide (a1 = b1) && (decide (a2 = b2) && true)) w := by
    refine eqAgg Try.underlying79 (by kernel_rfl) ?_
    refine eqField_cons (a := vwV a1) (b := vwV b1) (by rfl) (by go_simp; rfl) (by go_simp; rfl) (eqs36 d w a1 b1) ?_
    refine eqField_cons (a := vwV a2) (b := vwV b2) (by rfl) (by go_simp; rfl) (by go_simp; rfl) (eqs36 d w a2 b2) ?_
    exact eqField_nil
  rw [h]
  congr 1
  rw [Bool.eq_iff_iff]
  simp
theorem eqs62 (d : Nat) (w : World) (a b : Vw × Int) : (Op.equalIn (d + 3) 62 (plV a) (plV b)).run Try.prog w = .ok (decide (a = b)) w := by
  obtain ⟨a1, a2⟩ := a; obtain ⟨b1, b2⟩ := b
  have h : (Op.equalIn (d + 3) 62 (plV ⟨a1, a2⟩) (plV ⟨b1, b2⟩)).run Try.prog w = .ok (decide (a1 = b1) && (a2 == b2 && true)) w := by
    refine eqAgg Try.underlying62 (by kernel_rfl) ?_
    refine eqField_cons (a := vwV a1) (b := vwV b1) (by rfl) (by go_simp; rfl) (by go_simp; rfl) (eqs36 d w a1 b1) ?_
    refine eqField_cons (by rfl) (by go_simp; rfl) (by go_simp; rfl) (by go_simp) ?_
    exact eqField_nil
  rw [h]
  congr 1
  rw [Bool.eq_iff_iff]
  simp

theorem key34 : KeyOk (fun n : Int => .int .u64 n) Try.prog 34 := keyOk_int Try.underlying34
theorem key3 : KeyOk (fun n : Int => .int .i64 n) Try.prog 3 := keyOk_int Try.underlying3
theorem ckI {n : Nat} {kt : TypeId} {q : IntKind} (hkt : Try.prog.underlying kt = some (.int q)) (em : Bool) (a : Int) (w : World) : (Instr.checkKey em (n + 1) kt (.int q a)).run Try.prog w = .ok () w := MapKept.run_checkKey (w := w) hkt (by trivial) em n
theorem ckS {n : Nat} (em : Bool) (a : ByteArray) (w : World) : (Instr.checkKey em (n + 1) 9 (.string a)).run Try.prog w = .ok () w := MapKept.run_checkKey (w := w) Try.underlying9 (by trivial) em n
theorem ck36 {n : Nat} (em : Bool) (a b : Int) (w : World) : (Instr.checkKey em (n + 2) 36 (.agg #[.int .u64 a, .int .u64 b])).run Try.prog w = .ok () w := by
  show (Instr.checkKey em (n + 1 + 1) 36 _).run Try.prog w = _
  rw [Instr.checkKey]
  go_simp
  simp only [ckI Try.underlying34, Result.andThen_ok]
theorem ck38 {n : Nat} (em : Bool) (a b : Int) (c : ByteArray) (w : World) : (Instr.checkKey em (n + 2) 38 (.agg #[.int .i64 a, .int .u64 b, .string c])).run Try.prog w = .ok () w := by
  show (Instr.checkKey em (n + 1 + 1) 38 _).run Try.prog w = _
  rw [Instr.checkKey]
  go_simp
  simp only [ckI Try.underlying34, ckI Try.underlying3, ckS, Result.andThen_ok]
theorem key65 : KeyOk nrV Try.prog 65 := by
  refine keyOk_agg Try.underlying65 (fun w a b => eqs65 9998 w a b) (fun a => by simp [nrV, Instr.sameBits]) (fun w em a => ?_)
  show (Instr.checkKey em (9998 + 1 + 1) 65 (nrV a)).run Try.prog w = _
  unfold nrV
  rw [Instr.checkKey]
  go_simp
  simp only [ckI (n := 9998) Try.underlying34, Result.andThen_ok]
theorem key71 : KeyOk wdV Try.prog 71 := by
  refine keyOk_agg Try.underlying71 (fun w a b => eqs71 9997 w a b) (fun a => by simp [wdV, Instr.sameBits, ba_beq]) (fun w em a => ?_)
  show (Instr.checkKey em (9997 + 1 + 1 + 1) 71 (wdV a)).run Try.prog w = _
  unfold wdV
  rw [Instr.checkKey]
  go_simp
  simp only [ckI (n := 9998) Try.underlying3, ck38 (n := 9997), Result.andThen_ok]
theorem key73 : KeyOk prV Try.prog 73 := by
  refine keyOk_agg Try.underlying73 (fun w a b => eqs73 9998 w a b) (fun a => by simp [prV, Instr.sameBits]) (fun w em a => ?_)
  show (Instr.checkKey em (9998 + 1 + 1) 73 (prV a)).run Try.prog w = _
  unfold prV
  rw [Instr.checkKey]
  go_simp
  simp only [ckI (n := 9998) Try.underlying3, Result.andThen_ok]
theorem key79 : KeyOk wyV Try.prog 79 := by
  refine keyOk_agg Try.underlying79 (fun w a b => eqs79 9997 w a b) (fun a => by simp [wyV, Instr.sameBits]) (fun w em a => ?_)
  show (Instr.checkKey em (9997 + 1 + 1 + 1) 79 (wyV a)).run Try.prog w = _
  unfold wyV
  rw [Instr.checkKey]
  go_simp
  simp only [ck36 (n := 9997), Result.andThen_ok]

theorem neq_of {t : TypeId} {xs ys : Array Value} {r : Bool} {w : World} (h : (Op.equalIn 10000 t (.agg xs) (.agg ys)).run Try.prog w = .ok r w) : (binOp .neq t (.agg xs) (.agg ys)).run Try.prog w = .ok (.bool !r) w := by
  simp only [binOp, Op.equal, Op.maxDepth, Sem.run_bind, h, Result.andThen_ok]
  rfl
theorem neq38 (w : World) (a b : Mg) : (binOp .neq 38 (mgV a) (mgV b)).run Try.prog w = .ok (.bool !decide (a = b)) w := neq_of (eqs38 9998 w a b)
theorem neq62 (w : World) (a b : Vw × Int) : (binOp .neq 62 (plV a) (plV b)).run Try.prog w = .ok (.bool !decide (a = b)) w := neq_of (eqs62 9997 w a b)

end Go.Proofs.Ytjihimapopbdpaa
