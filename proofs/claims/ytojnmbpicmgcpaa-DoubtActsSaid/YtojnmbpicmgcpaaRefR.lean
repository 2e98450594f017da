/- The document's doubts: one is stored anew. -/
import Derived.Test.YtojnmbpicmgcpaaRefA
import Derived.Deep.MidRow
namespace Go.Proofs.Ytojnmbpicmgcpaa
open Go.RowKit Sh
set_option linter.unusedVariables false

def setL (cs : Array Value) : Nat → List Value → Array Value
  | _, [] => cs
  | o, v :: r => setL (cs.setIfInBounds o v) (o + 1) r
theorem setL_size : ∀ (vs : List Value) (cs : Array Value) (o : Nat), (setL cs o vs).size = cs.size
  | [], _, _ => rfl
  | v :: r, cs, o => by rw [setL, setL_size r]; simp
theorem setL_get : ∀ (vs : List Value) (cs : Array Value) (o k : Nat), k < cs.size → (setL cs o vs)[k]? = if o ≤ k ∧ k < o + vs.length then vs[k - o]? else cs[k]?
  | [], cs, o, k, h => by
    rw [setL, if_neg (by simp)]
  | v :: r, cs, o, k, h => by
    rw [setL, setL_get r _ (o + 1) k (by simpa using h)]
    by_cases c1 : o + 1 ≤ k ∧ k < o + 1 + r.length
    · rw [if_pos c1, if_pos (by simp; omega), show k - o = (k - (o + 1)) + 1 by omega, List.getElem?_cons_succ]
    · rw [if_neg c1]
      by_cases c2 : k = o
      · subst c2
        rw [if_pos (by simp)]
        simp [h]
      · rw [if_neg (by simp; omega), Array.getElem?_setIfInBounds_ne (fun e => c2 e.symm)]
theorem heap_setCells {w : World} {b : Nat} {t : TypeId} {fr : Nat × Nat} : ∀ (vs : List Value) (o : Nat) (w : World) (cs : Array Value), w.heap[b]? = some (.cells cs t fr) → (w.setCells b o vs).heap[b]? = some (.cells (setL cs o vs) t fr)
  | [], _, _, _, h => h
  | v :: r, o, w, cs, h => by
    rw [World.setCells, setL]
    exact heap_setCells (w := w) r (o + 1) _ _ (heap_setCell_at h o v)
theorem keep_setCells {S : Nat → Prop} {a : World} {b : Nat} (hS : b < a.heap.size → S b) : ∀ (vs : List Value) (o : Nat) (w : World), Keep S a w → Keep S a (w.setCells b o vs)
  | [], _, _, h => h
  | v :: r, o, w, h => by
    rw [World.setCells]
    exact keep_setCells hS r (o + 1) _ (h.setCell ⟨b, o, none⟩ v hS)
theorem db_set {R : List Db} {j : Nat} (y : Db) (i : Nat) (hi : i < R.length) : db (R.set j y) i = if i = j then y else db R i := by
  unfold db
  rw [List.getD_eq_getElem?_getD, List.getElem?_set]
  by_cases c : i = j
  · subst c
    rw [if_pos rfl, if_pos hi, if_pos rfl]
    rfl
  · rw [if_neg (fun h => c h.symm), if_neg c, List.getD_eq_getElem?_getD]
/-- a doubt stored anew in its row. -/
theorem own_set {w : World} {base g cap : Nat} {R : List Db} (h : w.ownsRow base 65 7 (.slice (some ⟨g, 0, none⟩) R.length cap) R.length (dbCells R)) (j : Nat) (hj : j < R.length) (y : Db) :
    (w.setCells g (j * 7) (dbC y)).ownsRow base 65 7 (.slice (some ⟨g, 0, none⟩) R.length cap) R.length (dbCells (R.set j y)) := by
  obtain ⟨h1, h2⟩ := h
  rcases h2 with ⟨e0, h0⟩ | ⟨g', cap', cur, e0, hb, hg, hn, hm, hs, ht⟩
  · omega
  · injection e0 with e1 e2 e3
    injection e1 with e1
    injection e1 with e1
    subst e1 e3
    refine ⟨by rw [dbCells_length, List.length_set], .inr ⟨g, cap, setL cur (j * 7) (dbC y), rfl, hb, heap_setCells (w := w) _ _ _ _ hg, hn, hm, by rw [setL_size, hs], ?_⟩⟩
    refine List.ext_getElem? fun k => ?_
    by_cases hk : k < R.length * 7
    · obtain ⟨i, c, hc, rfl⟩ : ∃ i c, c < 7 ∧ k = i * 7 + c := ⟨k / 7, k % 7, Nat.mod_lt _ (by omega), by omega⟩
      have hi : i < R.length := by omega
      rw [List.getElem?_take_of_lt hk, Array.getElem?_toList, setL_get _ _ _ _ (by rw [hs]; have := Nat.mul_le_mul_right 7 hn; omega), dbCells_get _ i c (by simpa using hi) hc, db_set y i hi]
      have l7 : (dbC y).length = 7 := rfl
      rw [l7]
      by_cases e : i = j
      · subst e
        rw [if_pos (by omega), if_pos rfl, show i * 7 + c - i * 7 = c by omega]
      · rw [if_neg (by omega), if_neg e, ← dbCells_get R i c hi hc, ← ht, List.getElem?_take_of_lt hk, Array.getElem?_toList]
    · rw [List.getElem?_eq_none (by simp; omega), List.getElem?_eq_none (by rw [dbCells_length, List.length_set]; omega)]
theorem own_there {w : World} {base g cap : Nat} {R : List Db} (h : w.ownsRow base 65 7 (.slice (some ⟨g, 0, none⟩) R.length cap) R.length (dbCells R)) (j : Nat) (hj : j < R.length) : w.there g (j * 7) 7 := fun c hc => by
  obtain ⟨h1, h2⟩ := own_cell h (j * 7 + c) (by omega)
  refine ⟨?_, h2⟩
  rw [h1, List.getElem?_eq_getElem (by rw [dbCells_length]; omega)]
  rfl
theorem size65 : (Try.prog.info? 65).map (·.size) = some 7 := by kernel_rfl
/-- What Raise comes to. -/
inductive ROut (R : List Db) (n i : Int) (k : Nat) (now : Int) (u : Nat → Nat) : Bool → Int → List Db → Prop
  | old (x : Db) (hx : x ∈ R) (hn : x.n = n) (hi : i < x.i) : ROut R n i k now u false 70 R
  | has (x : Db) (hx : x ∈ R) (hn : x.n = n) (hi : x.i = i) (F : Nat) (hF : F < 18446744073709551616) (hf : x.f = (F : Int)) (hb : F.testBit k = true) : ROut R n i k now u false 0 R
  | told (j : Nat) (hj : j < R.length) (hn : (db R j).n = n) (hi : (db R j).i = i) (F : Nat) (hF : F < 18446744073709551616) (hf : (db R j).f = (F : Int)) (hb : F.testBit k = false) (t : Nat) (ht : (db R j).t = (t : Int)) (ht2 : t < 1000) :
      ROut R n i k now u true 0 (R.set j ⟨n, i, (db R j).s, ((F ||| 2 ^ k : Nat) : Int), (db R j).c, (t : Int) + 1, sat (db R j).c (u (t + 1) : Nat)⟩)
  | new (h : ∀ x ∈ R, x.n = n → x.i < i) : ROut R n i k now u true 0 (R.filter (nb n) ++ [⟨n, i, 1, (2 : Int) ^ k, now, 0, sat now (u 0 : Nat)⟩])
structure RRaiseIs (w w' : World) (r : Nat) (v : Value) (R' : List Db) : Prop where
  ex : ∃ v', IsRf w' r v' R' ∧ ∀ g, v'.ownBlock = some g → v.ownBlock = some g ∨ w.heap.size ≤ g
  keep : Keep (RS r v) w w'
/-- What holds of each doubt. -/
structure Dok (x : Db) : Prop where
  f : ∃ F : Nat, F < 18446744073709551616 ∧ x.f = (F : Int)
  t : ∃ t : Nat, t < 1000 ∧ x.t = (t : Int)
  c : 0 ≤ x.c ∧ x.c < 18446744073709551616
theorem mem_db {R : List Db} {x : Db} (h : x ∈ R) : ∃ j, j < R.length ∧ db R j = x := by
  obtain ⟨j, hj, rfl⟩ := List.mem_iff_getElem.1 h
  exact ⟨j, hj, db_of hj⟩
end Go.Proofs.Ytojnmbpicmgcpaa
