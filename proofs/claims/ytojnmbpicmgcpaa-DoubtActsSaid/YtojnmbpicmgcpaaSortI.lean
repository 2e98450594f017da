/- The library's sort of ints, laid; rows of ints and of doubts. -/
import Derived.Test.YtojnmbpicmgcpaaDrop
import Derived.Shelf.Sort.Plain
import Derived.Shelf.Slices.In.SortNone
import Derived.Shelf.Lays
namespace Go.Proofs.Ytojnmbpicmgcpaa
open Go.Shelf Go.RowKit Go.Lib Go.Sort Sh
set_option linter.unusedVariables false
def Try.sortInts_ren : Go.Shelf.Ren := ⟨fun | 189 => 30 | 125 => 41 | 257 => 40 | 128 => 55 | 129 => 56 | 294 => 46 | 295 => 47 | 296 => 48 | 297 => 49 | 298 => 50 | 299 => 51 | 216 => 52 | 300 => 53 | 301 => 54 | 328 => 60 | 329 => 61 | 330 => 62 | 331 => 63 | 332 => 64 | 215 => 65 | 343 => 67 | n => n, fun | 28 => 69 | 3 => 3 | 46 => 81 | 0 => 0 | 51 => 52 | 53 => 32 | 4 => 4 | 183 => 85 | 182 => 84 | 131 => 90 | 5 => 5 | 9 => 9 | 218 => 95 | 222 => 99 | 228 => 101 | 229 => 102 | n => n, fun | n => n⟩
theorem Try.sortInts : Go.Proofs.Lays.n189 Try.prog Try.sortInts_ren := {
  mixed := by kernel_rfl
  f125 := Try.func41.trans (congrArg some (by kernel_rfl))
  f128 := Try.func55.trans (congrArg some (by kernel_rfl))
  f129 := Try.func56.trans (congrArg some (by kernel_rfl))
  f189 := Try.func30.trans (congrArg some (by kernel_rfl))
  f215 := Try.func65.trans (congrArg some (by kernel_rfl))
  f216 := Try.func52.trans (congrArg some (by kernel_rfl))
  f257 := Try.func40.trans (congrArg some (by kernel_rfl))
  f294 := Try.func46.trans (congrArg some (by kernel_rfl))
  f295 := Try.func47.trans (congrArg some (by kernel_rfl))
  f296 := Try.func48.trans (congrArg some (by kernel_rfl))
  f297 := Try.func49.trans (congrArg some (by kernel_rfl))
  f298 := Try.func50.trans (congrArg some (by kernel_rfl))
  f299 := Try.func51.trans (congrArg some (by kernel_rfl))
  f300 := Try.func53.trans (congrArg some (by kernel_rfl))
  f301 := Try.func54.trans (congrArg some (by kernel_rfl))
  f328 := Try.func60.trans (congrArg some (by kernel_rfl))
  f329 := Try.func61.trans (congrArg some (by kernel_rfl))
  f330 := Try.func62.trans (congrArg some (by kernel_rfl))
  f331 := Try.func63.trans (congrArg some (by kernel_rfl))
  f332 := Try.func64.trans (congrArg some (by kernel_rfl))
  f343 := Try.func67.trans (congrArg some (by kernel_rfl))
  t0 := Try.underlying0
  a0 := Try.isAgg0
  z0 := Try.sizeOf0
  v0 := Try.zeroValue0
  t3 := Try.underlying3
  a3 := Try.isAgg3
  z3 := Try.sizeOf3
  v3 := Try.zeroValue3
  t4 := Try.underlying4
  a4 := Try.isAgg4
  z4 := Try.sizeOf4
  v4 := Try.zeroValue4
  t5 := Try.underlying5
  a5 := Try.isAgg5
  z5 := Try.sizeOf5
  v5 := Try.zeroValue5
  t9 := Try.underlying9
  a9 := Try.isAgg9
  z9 := Try.sizeOf9
  v9 := Try.zeroValue9
  t28 := Try.underlying69
  a28 := Try.isAgg69
  z28 := Try.sizeOf69
  v28 := Try.zeroValue69
  t46 := Try.underlying81
  a46 := Try.isAgg81
  z46 := Try.sizeOf81
  v46 := Try.zeroValue81
  t51 := Try.underlying52
  a51 := Try.isAgg52
  z51 := Try.sizeOf52
  v51 := Try.zeroValue52
  t53 := Try.underlying32
  a53 := Try.isAgg32
  z53 := Try.sizeOf32
  v53 := Try.zeroValue32
  t131 := Try.underlying90
  a131 := Try.isAgg90
  z131 := Try.sizeOf90
  v131 := Try.zeroValue90
  t182 := Try.underlying84
  a182 := Try.isAgg84
  z182 := Try.sizeOf84
  v182 := Try.zeroValue84
  t183 := Try.underlying85
  a183 := Try.isAgg85
  z183 := Try.sizeOf85
  v183 := Try.zeroValue85
  t218 := Try.underlying95
  a218 := Try.isAgg95
  z218 := Try.sizeOf95
  v218 := Try.zeroValue95
  t222 := Try.underlying99
  a222 := Try.isAgg99
  z222 := Try.sizeOf99
  v222 := Try.zeroValue99
  t228 := Try.underlying101
  a228 := Try.isAgg101
  z228 := Try.sizeOf101
  v228 := Try.zeroValue101
  t229 := Try.underlying102
  a229 := Try.isAgg102
  z229 := Try.sizeOf102
  v229 := Try.zeroValue102 }

def IntAt (w : World) (g : Nat) (S : List Int) : Prop := ∀ i, i < S.length → w.cell? ⟨g, i, none⟩ = some (.int .i64 (S.getD i 0))
theorem int_holds {w : World} {base g c : Nat} {R : List Int} (h : w.ownsRow base 3 1 (.slice (some ⟨g, 0, none⟩) R.length c) R.length (R.map (Value.int .i64))) : Holds (Value.int .i64) w g 0 R.toArray := by
  intro j hj
  have hj' : j < R.length := by simpa using hj
  obtain ⟨a, b⟩ := own_cell h j (by omega)
  refine ⟨?_, by rw [Nat.zero_add]; exact b⟩
  rw [Nat.zero_add, a]
  simp [hj']
theorem holds_int {w : World} {g : Nat} {S : List Int} (h : Holds (Value.int .i64) w g 0 S.toArray) : IntAt w g S := by
  intro i hi
  have := (h i (by simpa using hi)).1
  rw [Nat.zero_add] at this
  rw [this]
  simp [hi]
theorem keep_put {enc : Int → Value} (w : World) (g n : Nat) (d : Array Int) (os : Array Obj) : Keep (fun k => k = g) w (grow (putRow enc (Sort.ahead w n) g 0 d) os) := by
  have k1 : Keep (fun k => k = g) w (putRow enc (Sort.ahead w n) g 0 d) := by
    refine ⟨rfl, rfl, rfl, ?_, ?_⟩
    · rw [size_putRow]
      exact Nat.le_refl _
    · intro k hk hne
      unfold putRow mapBlock
      simp only [Array.getElem?_modify, if_neg (Ne.symm hne)]
      rfl
  refine ⟨k1.os, k1.tape, k1.output, ?_, ?_⟩
  · rw [size_grow]
    have := k1.size
    omega
  · intro k hk hne
    rw [heap_grow_old _ _ (Nat.lt_of_lt_of_le hk k1.size)]
    exact k1.block k hk hne
theorem sort_ints {w : World} {base c : Nat} {A : Option Addr} {R : List Int} (h : w.ownsRow base 3 1 (.slice A R.length c) R.length (R.map (Value.int .i64))) (hsz : R.length < 100000) :
    Calls Try.prog 30 #[.slice A R.length c] w fun e w' => e = .returned (.tuple #[]) ∧ ∃ S : List Int, S.Perm R ∧ S.Pairwise (· ≤ ·) ∧ (0 < R.length → ∃ g, A = some ⟨g, 0, none⟩ ∧ base ≤ g ∧ IntAt w' g S) ∧ Keep (fun k => base ≤ k) w w' := by
  by_cases h0 : R.length = 0
  · have hc := Any.slices_Sort_int_none Try.sortInts A c w
    change Calls Try.prog 30 _ _ _ at hc
    rw [h0]
    refine hc.mono ?_
    rintro e w' ⟨rfl, rfl⟩
    exact ⟨rfl, [], by rw [List.length_eq_zero_iff.1 h0], List.Pairwise.nil, fun h => absurd h (by omega), Keep.refl _ _⟩
  · obtain ⟨g, rfl⟩ : ∃ g, A = some ⟨g, 0, none⟩ := by
      rcases h.2 with ⟨e0, h00⟩ | ⟨g, cap', cur, e0, _⟩
      · exact absurd h00 h0
      · injection e0 with e1 e2 e3
        exact ⟨g, e1⟩
    have hb := own_block h rfl
    have hc := Any.slices_Sort_int Try.sortInts g 0 c R w (int_holds h) hb.2.1 (by omega)
    change Calls Try.prog 30 _ _ _ at hc
    refine hc.mono ?_
    rintro e w' ⟨rfl, n, os, rfl⟩
    have hp := List.mergeSort_perm R (fun x y => decide (x ≤ y))
    refine ⟨rfl, _, hp, ?_, fun _ => ⟨g, rfl, hb.1, holds_int ?_⟩, (keep_put w g n _ os).mono (fun k hk _ => by rw [hk]; exact hb.1)⟩
    · have := List.pairwise_mergeSort (le := fun x y : Int => decide (x ≤ y)) (fun a b c h1 h2 => by simp at *; omega) (fun a b => by simp; omega) R
      exact this.imp (fun h => by simpa using h)
    · refine holds_grow _ _ _ _ _ _ (by rw [size_putRow]; exact hb.2.1) (holds_putRow _ _ _ _ R.toArray _ (int_holds h) (by simp [hp.length_eq]))

def dbCells : List Db → List Value
  | [] => []
  | e :: E => dbC e ++ dbCells E
theorem dbCells_length (E : List Db) : (dbCells E).length = E.length * 7 := by
  induction E with
  | nil => rfl
  | cons e E ih => simp [dbCells, dbC, ih]; omega
theorem dbCells_append (E F : List Db) : dbCells (E ++ F) = dbCells E ++ dbCells F := by
  induction E with
  | nil => rfl
  | cons e E ih => simp [dbCells, ih]
def db (L : List Db) (i : Nat) : Db := L.getD i default
theorem db_of {L : List Db} {i : Nat} (h : i < L.length) : db L i = L[i] := by simp [db, h]
theorem db_mem {L : List Db} {i : Nat} (h : i < L.length) : db L i ∈ L := by rw [db_of h]; exact List.getElem_mem h
theorem dbCells_get : ∀ (E : List Db) (i c : Nat), i < E.length → c < 7 → (dbCells E)[i * 7 + c]? = (dbC (db E i))[c]?
  | [], i, c, h, _ => by simp at h
  | e :: E, 0, c, h, hc => by
    simp only [dbCells, db, List.getD_cons_zero, Nat.zero_mul, Nat.zero_add]
    rw [List.getElem?_append_left (by simp [dbC]; omega)]
  | e :: E, i + 1, c, h, hc => by
    have := dbCells_get E i c (by simpa using h) hc
    simp only [dbCells, db, List.getD_cons_succ] at this ⊢
    rw [List.getElem?_append_right (by simp [dbC]; omega), ← this]
    congr 1
    simp [dbC]; omega
theorem dbC_one (e : Db) : ∀ u ∈ dbC e, u.oneCell' = true := by
  intro u hu
  simp [dbC] at hu
  rcases hu with rfl | rfl | rfl | rfl | rfl | rfl | rfl <;> rfl
theorem dbCells_one (E : List Db) : ∀ u ∈ dbCells E, u.oneCell' = true := by
  induction E with
  | nil => intro u hu; simp [dbCells] at hu
  | cons e E ih =>
    intro u hu
    rcases List.mem_append.1 hu with h | h
    · exact dbC_one e u h
    · exact ih u h
/-- The row of doubts in block g. -/
def DRow (w : World) (g : Nat) (L : List Db) : Prop := ∀ i, i < L.length → ∀ c, c < 7 → w.cell? ⟨g, i * 7 + c, none⟩ = (dbC (db L i))[c]?
theorem own_drow {w : World} {base g cap : Nat} {R : List Db} (h : w.ownsRow base 55 7 (.slice (some ⟨g, 0, none⟩) R.length cap) R.length (dbCells R)) : DRow w g R := fun i hi c hc =>
  (own_cell h (i * 7 + c) (by omega)).1.trans (dbCells_get R i c hi hc)
theorem DRow.keep {S : Nat → Prop} {w w' : World} {g : Nat} {L : List Db} (h : DRow w g L) (k : Keep S w w') (hn : ¬ S g) : DRow w' g L := fun i hi c hc => by
  have hs : ∃ v, (dbC (db L i))[c]? = some v := ⟨_, List.getElem?_eq_getElem (by simp [dbC]; omega)⟩
  obtain ⟨v, hv⟩ := hs
  have hc := (h i hi c hc).trans hv
  rw [hv]
  exact (World.cell?_of_block (k.block g (World.block_lt_of_cell? w _ hc) hn)).trans hc

end Go.Proofs.Ytojnmbpicmgcpaa
