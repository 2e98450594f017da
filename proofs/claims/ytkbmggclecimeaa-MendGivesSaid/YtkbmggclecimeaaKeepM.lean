/- A map of messages, as the heap has it: what a look-up and a store do there. -/
import Derived.Test.YtkbmggclecimeaaArgsW
import Derived.Maps.RangeRun
import Derived.Carry
namespace Go.Proofs.Ytkbmggclecimeaa
open Go.RowKit Sh
open Go.ChangeMaps (setBlock)
set_option linter.unusedVariables false

structure Ent where
  k : Int
  s : Int
  m : Int
def Ent.msg (e : Ent) : Value := .agg #[.int .i64 e.s, .int .u64 e.m, .string ⟨#[]⟩]
def Ent.at (e : Ent) (j : Nat) : MapEntry := { key := .int .u64 e.k, val := e.msg, born := j }
def entsL (E : List Ent) : List MapEntry := E.zipIdx.map fun p => p.1.at p.2
def ents (E : List Ent) : Array MapEntry := (entsL E).toArray
theorem ents_push (E : List Ent) (e : Ent) : (ents E).push (e.at E.length) = ents (E ++ [e]) := by
  simp [ents, entsL, List.zipIdx_append]
theorem find_in (n : Int) : ∀ (E : List Ent) (o i : Nat), (∃ e ∈ E, e.k = n) → ∃ e ∈ E, e.k = n ∧ ∃ j, Instr.findNow (.int .u64) (.int .u64 n) ((E.zipIdx o).map fun p => p.1.at p.2) i = some (some (j, e.msg))
  | [], _, _, h => by obtain ⟨e, he, _⟩ := h; simp at he
  | x :: E, o, i, h => by
    by_cases c : n = x.k
    · exact ⟨x, by simp, c.symm, i, by simp [Instr.findNow, Instr.sameNow, Ent.at, c]⟩
    · obtain ⟨e, he, hk⟩ := h
      have he' : e ∈ E := by
        rcases List.mem_cons.1 he with rfl | h
        · exact absurd hk.symm c
        · exact h
      obtain ⟨e', h1, h2, j, h3⟩ := find_in n E (o + 1) (i + 1) ⟨e, he', hk⟩
      refine ⟨e', by simp [h1], h2, j, ?_⟩
      have cb : (n == x.k) = false := by rw [beq_eq_false_iff_ne]; exact c
      simp only [List.zipIdx_cons, List.map_cons, Instr.findNow, Instr.sameNow, Ent.at, cb]
      simpa [Ent.at] using h3
theorem find_out (n : Int) : ∀ (E : List Ent) (o i : Nat), (∀ e ∈ E, e.k ≠ n) → Instr.findNow (.int .u64) (.int .u64 n) ((E.zipIdx o).map fun p => p.1.at p.2) i = some none
  | [], _, _, _ => by simp [Instr.findNow]
  | x :: E, o, i, h => by
    have cb : (n == x.k) = false := by rw [beq_eq_false_iff_ne]; exact fun c => h x (by simp) c.symm
    have := find_out n E (o + 1) (i + 1) (fun e he => h e (by simp [he]))
    simp only [List.zipIdx_cons, List.map_cons, Instr.findNow, Instr.sameNow, Ent.at, cb]
    simpa [Ent.at] using this

structure IsMapE (w : World) (B : Nat) (E : List Ent) : Prop where
  block : w.heap[B]? = some (.map (ents E) E.length)

theorem zero27 (w : World) : (zeroValue 27).run Try.prog w = .ok (.agg #[.int .i64 0, .int .u64 0, .string ⟨#[]⟩]) w := by kernel_rfl
theorem lookup_in {w : World} {B : Nat} {E : List Ent} (h : IsMapE w B E) {n : Int} (hn : ∃ e ∈ E, e.k = n) :
    ∃ e : Ent, (Instr.lookup 33 (.map (some B)) (.int .u64 n) true).run Try.prog w = .ok (.tuple #[.agg #[.int .i64 e.s, .int .u64 e.m, .string ⟨#[]⟩], .bool true]) w := by
  obtain ⟨e, _, _, j, hf⟩ := find_in n E 0 0 hn
  refine ⟨e, ?_⟩
  have hk := MapKept.run_checkKey (w := w) Try.underlying25 (k := .int .u64 n) (by trivial) (ents E).isEmpty 9999
  have hq := MapKept.run_findKey (w := w) (l := (ents E).toList) Try.underlying25 hf
  simp only [Instr.lookup, Sem.run_bind, run_underlying Try.underlying33, MapKept.run_getObj_map h.block, Result.andThen, Sem.run_pure, hk, hq]
  rfl
theorem lookup_out {w : World} {B : Nat} {E : List Ent} (h : IsMapE w B E) {n : Int} (hn : ∀ e ∈ E, e.k ≠ n) :
    (Instr.lookup 33 (.map (some B)) (.int .u64 n) true).run Try.prog w = .ok (.tuple #[.agg #[.int .i64 0, .int .u64 0, .string ⟨#[]⟩], .bool false]) w := by
  have hf := find_out n E 0 0 hn
  have hk := MapKept.run_checkKey (w := w) Try.underlying25 (k := .int .u64 n) (by trivial) (ents E).isEmpty 9999
  have hq := MapKept.run_findKey (w := w) (l := (ents E).toList) Try.underlying25 hf
  simp only [Instr.lookup, Sem.run_bind, run_underlying Try.underlying33, MapKept.run_getObj_map h.block, Result.andThen, Sem.run_pure, hk, hq, zero27]
  rfl
theorem update_out {w : World} {B : Nat} {E : List Ent} (h : IsMapE w B E) {n : Int} (hn : ∀ e ∈ E, e.k ≠ n) (s m : Int) :
    (Instr.mapUpdate 33 (.map (some B)) (.int .u64 n) (.agg #[.int .i64 s, .int .u64 m, .string ⟨#[]⟩])).run Try.prog w = .ok () (setBlock w B (.map (ents (E ++ [⟨n, s, m⟩])) (E.length + 1))) := by
  have hf := find_out n E 0 0 hn
  have hk := MapKept.run_checkKey (w := w) Try.underlying25 (k := .int .u64 n) (by trivial) false 9999
  have hq := MapKept.run_findKey (w := w) (l := (ents E).toList) Try.underlying25 hf
  simp only [Instr.mapUpdate, Sem.run_bind, run_underlying Try.underlying33, MapKept.run_getObj_map h.block, Result.andThen, hk, hq]
  rw [MapKept.run_setObj_map _ h.block, ← ents_push]
  rfl

theorem block_set {w : World} {B : Nat} {o o' : Obj} (h : w.heap[B]? = some o') : (setBlock w B o).heap[B]? = some o := by
  have hlt : B < w.heap.size := (Array.getElem?_eq_some_iff.1 h).1
  simp [setBlock, hlt]
theorem block_other {w : World} {B k : Nat} {o : Obj} (h : k ≠ B) : (setBlock w B o).heap[k]? = w.heap[k]? := by
  simp only [setBlock]
  rw [Array.getElem?_setIfInBounds_ne (Ne.symm h)]
theorem keep_setBlock {S : Nat → Prop} {a b : World} (h : Keep S a b) (B : Nat) (o : Obj) (hB : B < a.heap.size → S B) : Keep S a (setBlock b B o) :=
  h.trans (T := fun k => k = B) ⟨rfl, rfl, rfl, by simp [setBlock], fun k _ hk => block_other hk⟩ (by rintro i rfl hi; exact hB hi)
theorem IsMapE.keep {S : Nat → Prop} {w w' : World} {B : Nat} {E : List Ent} (h : IsMapE w B E) (k : Keep S w w') (hn : ¬ S B) : IsMapE w' B E := ⟨k.old h.block hn⟩
theorem ents_old (E : List Ent) : ∀ x ∈ (ents E).toList, x.born < E.length := by
  intro x hx
  simp only [ents, entsL, List.mem_map] at hx
  obtain ⟨⟨e, j⟩, hp, rfl⟩ := hx
  have := List.mem_zipIdx hp
  simp [Ent.at]
  omega
theorem ents_nodup (E : List Ent) : ((ents E).toList.map (·.born)).Nodup := by
  have : (ents E).toList.map (·.born) = List.range' 0 E.length := by
    simp only [ents, entsL, List.map_map]
    rw [show ((fun x : MapEntry => x.born) ∘ fun p : Ent × Nat => p.1.at p.2) = Prod.snd from rfl, List.zipIdx_map_snd]
  rw [this]
  exact List.nodup_range'
theorem ents_mem {E : List Ent} {x : MapEntry} (h : x ∈ (ents E).toList) : ∃ e ∈ E, ∃ j, x = e.at j := by
  simp only [ents, entsL, List.mem_map] at h
  obtain ⟨⟨e, j⟩, hp, rfl⟩ := h
  have := List.mem_zipIdx hp
  exact ⟨e, by
    rw [this.2.2]; exact List.getElem_mem _, j, rfl⟩

end Go.Proofs.Ytkbmggclecimeaa
