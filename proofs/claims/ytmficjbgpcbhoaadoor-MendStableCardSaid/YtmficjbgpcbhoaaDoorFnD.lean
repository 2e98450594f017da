/- A map with keys of any kind, as the heap has it: as a function from keys to values. Look-up, store, delete. -/
import Derived.Test.YtmficjbgpcbhoaaDoorFirst
import Derived.Maps.RangeRun
import Derived.Carry
namespace Go.Proofs.YtmficjbgpcbhoaaDoor
open Go.RowKit Sh
open Go.ChangeMaps (setBlock)
set_option linter.unusedVariables false

theorem block_set {w : World} {B : Nat} {o o' : Obj} (h : w.heap[B]? = some o') : (setBlock w B o).heap[B]? = some o := by
  have hlt : B < w.heap.size := (Array.getElem?_eq_some_iff.1 h).1
  simp [setBlock, hlt]
theorem block_other {w : World} {B k : Nat} {o : Obj} (h : k ≠ B) : (setBlock w B o).heap[k]? = w.heap[k]? := by
  simp only [setBlock]
  rw [Array.getElem?_setIfInBounds_ne (Ne.symm h)]
theorem keep_setBlock {S : Nat → Prop} {a b : World} (h : Keep S a b) (B : Nat) (o : Obj) (hB : B < a.heap.size → S B) : Keep S a (setBlock b B o) :=
  h.trans (T := fun k => k = B) ⟨rfl, rfl, rfl, by simp [setBlock], fun k _ hk => block_other hk⟩ (by rintro i rfl hi; exact hB hi)

section
variable {κ : Type} [DecidableEq κ]
def pos (a : κ) : List (κ × Value × Nat) → Nat → Option (Nat × Value)
  | [], _ => none
  | p :: L, i => if p.1 = a then some (i, p.2.1) else pos a L (i + 1)
def fnOf (L : List (κ × Value × Nat)) (a : κ) : Option Value := (pos a L 0).map (·.2)

theorem pos_shift (a : κ) : ∀ (L : List (κ × Value × Nat)) (i : Nat), pos a L (i + 1) = (pos a L i).map (fun p => (p.1 + 1, p.2))
  | [], _ => rfl
  | p :: L, i => by
    by_cases c : p.1 = a
    · simp [pos, c]
    · simp [pos, c, pos_shift a L (i + 1)]
theorem fnOf_nil (a : κ) : fnOf ([] : List (κ × Value × Nat)) a = none := rfl
theorem fnOf_cons (p : κ × Value × Nat) (L : List (κ × Value × Nat)) (a : κ) : fnOf (p :: L) a = if p.1 = a then some p.2.1 else fnOf L a := by
  by_cases c : p.1 = a
  · simp [fnOf, pos, c]
  · simp [fnOf, pos, c, pos_shift a L 0, Option.map_map, Function.comp_def]
theorem pos_none {a : κ} : ∀ {L : List (κ × Value × Nat)} {i : Nat}, pos a L i = none → ∀ p ∈ L, p.1 ≠ a
  | [], _, _ => by simp
  | p :: L, i, h => by
    by_cases c : p.1 = a
    · simp [pos, c] at h
    · simp only [pos, if_neg c] at h
      intro q hq
      rcases List.mem_cons.1 hq with rfl | hq
      · exact c
      · exact pos_none h q hq
theorem fn_out {a : κ} : ∀ {L : List (κ × Value × Nat)}, (∀ p ∈ L, p.1 ≠ a) → fnOf L a = none
  | [], _ => rfl
  | p :: L, h => by rw [fnOf_cons, if_neg (h p (by simp))]; exact fn_out fun q hq => h q (by simp [hq])
theorem fn_push {a : κ} (v : Value) (c : Nat) (b : κ) : ∀ {L : List (κ × Value × Nat)}, (∀ p ∈ L, p.1 ≠ a) → fnOf (L ++ [(a, v, c)]) b = if b = a then some v else fnOf L b
  | [], _ => by
    rw [List.nil_append, fnOf_cons, fnOf_nil]
    by_cases e : b = a
    · subst e; simp
    · rw [if_neg e, if_neg (fun h => e h.symm)]
  | p :: L, h => by
    rw [List.cons_append, fnOf_cons, fnOf_cons, fn_push v c b fun q hq => h q (by simp [hq])]
    have := h p (by simp)
    by_cases e : b = a
    · subst e; simp [this]
    · simp only [if_neg e]
theorem fn_modify {a : κ} (v u : Value) (b : κ) : ∀ {L : List (κ × Value × Nat)} {j : Nat}, pos a L 0 = some (j, u) → (L.modify j fun p => (p.1, v, p.2.2)).map (·.1) = L.map (·.1) ∧ (∃ h : j < L.length, (L[j]).1 = a) ∧ fnOf (L.modify j fun p => (p.1, v, p.2.2)) b = if b = a then some v else fnOf L b
  | [], j, h => by simp [pos] at h
  | p :: L, j, h => by
    by_cases c : p.1 = a
    · simp only [pos, if_pos c, Option.some.injEq, Prod.mk.injEq] at h
      obtain ⟨rfl, rfl⟩ := h
      refine ⟨by simp, ⟨by simp, by simpa using c⟩, ?_⟩
      rw [List.modify_zero_cons, fnOf_cons, fnOf_cons]
      by_cases e : b = a
      · subst e; simp [c]
      · have e2 : ¬ p.1 = b := fun h => e (by rw [← h, c])
        simp [e, e2]
    · simp only [pos, if_neg c, pos_shift a L 0, Option.map_eq_some_iff, Prod.exists, Prod.mk.injEq] at h
      obtain ⟨j', u', h1, rfl, rfl⟩ := h
      obtain ⟨h2, ⟨h3, h4⟩, h5⟩ := fn_modify v u' b h1
      refine ⟨by simpa using h2, ⟨by simpa using h3, by simpa using h4⟩, ?_⟩
      rw [List.modify_succ_cons, fnOf_cons, fnOf_cons, h5]
      by_cases e : b = a
      · subst e; simp [c]
      · simp only [if_neg e]
theorem fn_erase {a : κ} (u : Value) (b : κ) : ∀ {L : List (κ × Value × Nat)} {j : Nat}, (L.map (·.1)).Nodup → pos a L 0 = some (j, u) → fnOf (L.eraseIdx j) b = if b = a then none else fnOf L b
  | [], j, _, h => by simp [pos] at h
  | p :: L, j, hn, h => by
    rw [List.map_cons, List.nodup_cons] at hn
    by_cases c : p.1 = a
    · simp only [pos, if_pos c, Option.some.injEq, Prod.mk.injEq] at h
      obtain ⟨rfl, rfl⟩ := h
      rw [List.eraseIdx_cons_zero, fnOf_cons]
      by_cases e : b = a
      · subst e
        rw [if_pos rfl]
        exact fn_out fun q hq he => hn.1 (List.mem_map.2 ⟨q, hq, by rw [he, c]⟩)
      · have e2 : ¬ p.1 = b := fun h => e (by rw [← h, c])
        simp [e, e2]
    · simp only [pos, if_neg c, pos_shift a L 0, Option.map_eq_some_iff, Prod.exists, Prod.mk.injEq] at h
      obtain ⟨j', u', h1, rfl, rfl⟩ := h
      rw [List.eraseIdx_cons_succ, fnOf_cons, fnOf_cons, fn_erase u' b hn.2 h1]
      by_cases e : b = a
      · subst e; simp [c]
      · simp only [if_neg e]

variable (K : κ → Value)
def mkE (p : κ × Value × Nat) : MapEntry := { key := K p.1, val := p.2.1, born := p.2.2 }

/-- What the machine must know of a kind of keys. -/
structure KeyOk (P : Program) (kt : TypeId) : Prop where
  check : ∀ (w : World) (em : Bool) (a : κ), (Instr.checkKey em 10000 kt (K a)).run P w = .ok () w
  find : ∀ (w : World) (a : κ) (L : List (κ × Value × Nat)), (Instr.findKey kt (K a) (L.map (mkE K))).run P w = .ok (pos a L 0) w
  stays : ∀ (w : World) (a : κ), (Instr.keyThatStays (K a) (K a)).run P w = .ok (K a) w

/-- Block B of w is a map that is the function m. -/
structure IsFn {ν : Type} (V : ν → Value) (w : World) (B : Nat) (m : κ → Option ν) : Prop where
  out : ∃ L c, w.heap[B]? = some (.map (L.map (mkE K)).toArray c) ∧ (L.map (·.1)).Nodup ∧ ∀ a, fnOf L a = (m a).map V

variable {K} {ν : Type} {V : ν → Value}
theorem IsFn.keep {S : Nat → Prop} {w w' : World} {B : Nat} {m : κ → Option ν} (h : IsFn K V w B m) (k : Keep S w w') (hn : ¬ S B) : IsFn K V w' B m := by
  obtain ⟨L, c, h1, h2⟩ := h
  exact ⟨L, c, k.old h1 hn, h2⟩
theorem IsFn.lt {w : World} {B : Nat} {m : κ → Option ν} (h : IsFn K V w B m) : B < w.heap.size := by
  obtain ⟨L, c, h1, h2⟩ := h
  exact (Array.getElem?_eq_some_iff.1 h1).1
theorem IsFn.made (w : World) : IsFn K V (w.alloc (.map #[] 0)) w.heap.size (fun _ => none) :=
  ⟨[], 0, heap_alloc_new w _, by simp, fun a => rfl⟩

variable {P : Program} {t kt et : TypeId}
theorem IsFn.look {w : World} {B : Nat} {m : κ → Option ν} (h : IsFn K V w B m) (ko : KeyOk K P kt) (ht : P.underlying t = some (.map kt et)) {z : Value} (hz : (zeroValue et).run P w = .ok z w) (a : κ) (ok : Bool) :
    (Instr.lookup t (.map (some B)) (K a) ok).run P w = .ok (if ok then .tuple #[((m a).map V).getD z, .bool (m a).isSome] else ((m a).map V).getD z) w := by
  obtain ⟨L, c, h1, h2, h3⟩ := h
  have hk := ko.check w (L.map (mkE K)).toArray.isEmpty a
  have hq := ko.find w a L
  have h3 := h3 a
  have es : (m a).isSome = (pos a L 0).isSome := by
    rw [show (m a).isSome = ((m a).map V).isSome by cases m a <;> rfl, ← h3]; simp [fnOf]
  rw [es, ← h3]
  unfold fnOf
  simp only [Instr.lookup, Sem.run_bind, run_underlying ht, MapKept.run_getObj_map h1, Result.andThen, Sem.run_pure, hk, hq]
  cases hp : pos a L 0 with
  | none => simp [hz]
  | some p => obtain ⟨j, v⟩ := p; simp
theorem IsFn.upd {w : World} {B : Nat} {m : κ → Option ν} (h : IsFn K V w B m) (ko : KeyOk K P kt) (ht : P.underlying t = some (.map kt et)) (a : κ) (v : ν) :
    ∃ o, (Instr.mapUpdate t (.map (some B)) (K a) (V v)).run P w = .ok () (setBlock w B o) ∧ IsFn K V (setBlock w B o) B (fun b => if b = a then some v else m b) := by
  obtain ⟨L, c, h1, h2, h3⟩ := h
  have hk := ko.check w false a
  have hq := ko.find w a L
  cases hp : pos a L 0 with
  | none =>
    rw [hp] at hq
    have hout := pos_none hp
    refine ⟨.map ((L.map (mkE K)).toArray.push { key := K a, val := V v, born := c }) (c + 1), ?_, ⟨L ++ [(a, V v, c)], c + 1, ?_, ?_, ?_⟩⟩
    · simp only [Instr.mapUpdate, Sem.run_bind, run_underlying ht, MapKept.run_getObj_map h1, Result.andThen, hk, hq]
      rw [MapKept.run_setObj_map _ h1]
      rfl
    · rw [block_set h1]
      simp [mkE]
    · rw [List.map_append, List.nodup_append]
      refine ⟨h2, by simp, ?_⟩
      intro x hx b hb
      obtain ⟨p, hpL, rfl⟩ := List.mem_map.1 hx
      have hb2 : b = a := by simpa using hb
      rw [hb2]
      exact hout p hpL
    · intro b
      rw [fn_push _ _ _ hout, h3]
      split <;> rfl
  | some p =>
    obtain ⟨j, u⟩ := p
    rw [hp] at hq
    obtain ⟨e1, ⟨hj, e2⟩, _⟩ := fn_modify (V v) u a hp
    have hs : (((((L.map (mkE K)).toArray)[j]?).map (·.key)).getD (K a)) = K a := by
      simp [hj, mkE, e2]
    refine ⟨.map ((L.map (mkE K)).toArray.modify j fun e => { e with key := K a, val := V v }) c, ?_, ⟨L.modify j fun p => (p.1, V v, p.2.2), c, ?_, ?_, ?_⟩⟩
    · simp only [Instr.mapUpdate, Sem.run_bind, run_underlying ht, MapKept.run_getObj_map h1, Result.andThen, hk, hq, hs, ko.stays]
      rw [MapKept.run_setObj_map _ h1]
      rfl
    · rw [block_set h1]
      congr 2
      apply Array.ext
      · simp
      · intro i h1 h2
        simp only [Array.getElem_modify, List.getElem_toArray, List.getElem_map, List.getElem_modify]
        by_cases c : j = i
        · subst c
          simp [mkE, e2]
        · simp [mkE, c]
    · rw [e1]; exact h2
    · intro b
      rw [(fn_modify (V v) u b hp).2.2, h3]
      split <;> rfl
theorem IsFn.del {w : World} {B : Nat} {m : κ → Option ν} (h : IsFn K V w B m) (ko : KeyOk K P kt) (ht : P.underlying t = some (.map kt et)) (a : κ) (kt' ty : TypeId) :
    ∃ o, (Builtin.delete_ #[t, kt'] ty #[.map (some B), K a]).run P w = .ok (.tuple #[]) (setBlock w B o) ∧ IsFn K V (setBlock w B o) B (fun b => if b = a then none else m b) := by
  obtain ⟨L, c, h1, h2, h3⟩ := h
  have hk := ko.check w (L.map (mkE K)).toArray.isEmpty a
  have hq := ko.find w a L
  cases hp : pos a L 0 with
  | none =>
    rw [hp] at hq
    refine ⟨.map (L.map (mkE K)).toArray c, ?_, ⟨L, c, block_set h1, h2, fun b => ?_⟩⟩
    · simp only [Builtin.delete_, List.getElem?_toArray, List.getElem?_cons_zero, List.getElem?_cons_succ, Sem.run_bind, run_underlying ht, MapKept.run_getObj_map h1, Result.andThen, hk, hq]
      rw [MapKept.run_setObj_map _ h1]
      rfl
    · by_cases e : b = a
      · subst e
        rw [if_pos rfl, fn_out (pos_none hp)]
        rfl
      · rw [if_neg e, h3]
  | some p =>
    obtain ⟨j, u⟩ := p
    rw [hp] at hq
    refine ⟨.map ((L.map (mkE K)).toArray.eraseIdxIfInBounds j) c, ?_, ⟨L.eraseIdx j, c, ?_, ?_, ?_⟩⟩
    · simp only [Builtin.delete_, List.getElem?_toArray, List.getElem?_cons_zero, List.getElem?_cons_succ, Sem.run_bind, run_underlying ht, MapKept.run_getObj_map h1, Result.andThen, hk, hq]
      rw [MapKept.run_setObj_map _ h1]
      rfl
    · rw [block_set h1]
      congr 2
      simp only [List.eraseIdxIfInBounds_toArray]
      congr 1
      rw [List.eraseIdx_eq_take_drop_succ, List.eraseIdx_eq_take_drop_succ, List.map_append, List.map_take, List.map_drop]
    · rw [List.eraseIdx_eq_take_drop_succ] at *
      exact h2.sublist (by rw [List.map_append, List.map_take, List.map_drop]; conv => rhs; rw [← List.take_append_drop j (L.map (·.1))]
                           exact List.Sublist.append (List.Sublist.refl _) (by rw [← List.drop_drop]; exact List.drop_sublist _ _))
    · intro b
      rw [fn_erase u b h2 hp]
      split
      · rfl
      · exact h3 b
end


section
variable {P : Program} {κ : Type} [DecidableEq κ] {K : κ → Value} {kt : TypeId}
theorem int_find {q : IntKind} (n : Int) : ∀ (L : List (Int × Value × Nat)) (i : Nat), Instr.findNow (.int q) (.int q n) (L.map (mkE (fun n => .int q n))) i = some (pos n L i)
  | [], _ => rfl
  | p :: L, i => by
    by_cases c : p.1 = n
    · simp [Instr.findNow, Instr.sameNow, mkE, pos, c]
    · have cb : (n == p.1) = false := by rw [beq_eq_false_iff_ne]; exact fun h => c h.symm
      simp only [List.map_cons, Instr.findNow, Instr.sameNow, mkE, cb, if_true, pos, if_neg c]
      exact int_find n L (i + 1)
theorem keyOk_int {q : IntKind} (hkt : P.underlying kt = some (.int q)) : KeyOk (fun n : Int => .int q n) P kt where
  check w em a := MapKept.run_checkKey (w := w) hkt (by trivial) em 9999
  find w a L := MapKept.run_findKey (w := w) hkt (int_find a L 0)
  stays w a := by simp [Instr.keyThatStays, Instr.sameBits]
end
theorem key3 : KeyOk (fun n : Int => .int .i64 n) Tryd.prog 3 := keyOk_int Tryd.underlying3
def iV (n : Int) : Value := .int .i64 n
def uV (n : Int) : Value := .int .u64 n
end Go.Proofs.YtmficjbgpcbhoaaDoor
