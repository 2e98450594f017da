/- The plain model of a shelf: a ring of places, and low; its cells; no program here. -/
import Derived.WalkKit
import Derived.Deep.Draws
namespace Go.Proofs.YtmficjbgpcbhoaaDoor.Sh
open Go.RowKit

structure Plc where
  n : Int
  s : Int
  num : Int
  text : ByteArray

structure St where
  ring : Nat → Plc
  low : Int

def noPlc : Plc := ⟨0, 0, 0, ByteArray.empty⟩
def fresh : St := ⟨fun _ => noPlc, 0⟩

def pf (p : Plc) : Nat → Value
  | 0 => .int .u64 p.n
  | 1 => .int .i64 p.s
  | 2 => .int .u64 p.num
  | _ => .string p.text

def cells (st : St) : Array Value := Array.ofFn (n := 257) fun k => if k.val = 256 then .int .u64 st.low else pf (st.ring (k.val / 4)) (k.val % 4)

theorem cells_size (st : St) : (cells st).size = 257 := by simp [cells]
theorem cells_at (st : St) (k : Nat) (h : k < 257) : (cells st)[k]? = some (if k = 256 then .int .u64 st.low else pf (st.ring (k / 4)) (k % 4)) := by
  simp [cells, h]

/-- The shelf lies whole in block b. -/
structure IsShelf (w : World) (b : Nat) (st : St) : Prop where
  block : w.heap[b]? = some (.cells (cells st) 32 (0, 0))

theorem IsShelf.lt {w : World} {b : Nat} {st : St} (h : IsShelf w b st) : b < w.heap.size := (Array.getElem?_eq_some_iff.1 h.block).1
theorem IsShelf.cell {w : World} {b : Nat} {st : St} (h : IsShelf w b st) (k : Nat) (hk : k < 257) : w.cell? ⟨b, k, none⟩ = some (if k = 256 then .int .u64 st.low else pf (st.ring (k / 4)) (k % 4)) := by
  simp [World.cell?, h.block, cells_at st k hk]
theorem IsShelf.free {w : World} {b : Nat} {st : St} (h : IsShelf w b st) (k : Nat) : w.frozen? ⟨b, k, none⟩ = false := by
  simp [World.frozen?, h.block]
theorem IsShelf.low {w : World} {b : Nat} {st : St} (h : IsShelf w b st) : w.cell? ⟨b, 256, none⟩ = some (.int .u64 st.low) := h.cell 256 (by omega)
theorem IsShelf.num {w : World} {b : Nat} {st : St} (h : IsShelf w b st) (i : Nat) (hi : i < 64) : w.cell? ⟨b, i * 4, none⟩ = some (.int .u64 (st.ring i).n) := by
  rw [h.cell (i * 4) (by omega), if_neg (by omega)]
  have e1 : i * 4 / 4 = i := by omega
  have e2 : i * 4 % 4 = 0 := by omega
  rw [e1, e2]; rfl
theorem IsShelf.sender {w : World} {b : Nat} {st : St} (h : IsShelf w b st) (i : Nat) (hi : i < 64) : w.cell? ⟨b, i * 4 + 1, none⟩ = some (.int .i64 (st.ring i).s) := by
  rw [h.cell (i * 4 + 1) (by omega), if_neg (by omega)]
  have e1 : (i * 4 + 1) / 4 = i := by omega
  have e2 : (i * 4 + 1) % 4 = 1 := by omega
  rw [e1, e2]; rfl
theorem IsShelf.mnum {w : World} {b : Nat} {st : St} (h : IsShelf w b st) (i : Nat) (hi : i < 64) : w.cell? ⟨b, i * 4 + 2, none⟩ = some (.int .u64 (st.ring i).num) := by
  rw [h.cell (i * 4 + 2) (by omega), if_neg (by omega)]
  have e1 : (i * 4 + 2) / 4 = i := by omega
  have e2 : (i * 4 + 2) % 4 = 2 := by omega
  rw [e1, e2]; rfl
theorem IsShelf.text {w : World} {b : Nat} {st : St} (h : IsShelf w b st) (i : Nat) (hi : i < 64) : w.cell? ⟨b, i * 4 + 3, none⟩ = some (.string (st.ring i).text) := by
  rw [h.cell (i * 4 + 3) (by omega), if_neg (by omega)]
  have e1 : (i * 4 + 3) / 4 = i := by omega
  have e2 : (i * 4 + 3) % 4 = 3 := by omega
  rw [e1, e2]; rfl

/-- a place is overwritten. -/
def St.set (st : St) (i : Nat) (p : Plc) : St := { st with ring := fun k => if k = i then p else st.ring k }
def St.setLow (st : St) (l : Int) : St := { st with low := l }

theorem cells_set (st : St) (i : Nat) (hi : i < 64) (p : Plc) :
    ((((cells st).setIfInBounds (i * 4) (.int .u64 p.n)).setIfInBounds (i * 4 + 1) (.int .i64 p.s)).setIfInBounds (i * 4 + 2) (.int .u64 p.num)).setIfInBounds (i * 4 + 3) (.string p.text) = cells (st.set i p) := by
  apply Array.ext_getElem?
  intro k
  simp only [Array.getElem?_setIfInBounds]
  rcases Nat.lt_or_ge k 257 with hk | hk
  · rw [cells_at _ k hk, cells_at _ k hk]
    simp only [Array.size_setIfInBounds, cells_size]
    by_cases e : k / 4 = i ∧ k ≠ 256
    · obtain ⟨e, hk6⟩ := e
      have hm : k % 4 < 4 := Nat.mod_lt _ (by omega)
      have hset : (st.set i p).ring (k / 4) = p := by simp [St.set, e]
      rw [hset]
      rcases (by omega : k % 4 = 0 ∨ k % 4 = 1 ∨ k % 4 = 2 ∨ k % 4 = 3) with h | h | h | h
      · have : k = i * 4 := by omega
        subst this; simp [h, pf]; omega
      · have : k = i * 4 + 1 := by omega
        subst this; simp [h, pf]; omega
      · have : k = i * 4 + 2 := by omega
        subst this; simp [h, pf]; omega
      · have : k = i * 4 + 3 := by omega
        subst this; simp [h, pf]; omega
    · rw [if_neg (by omega), if_neg (by omega), if_neg (by omega), if_neg (by omega)]
      by_cases h6 : k = 256
      · simp [h6, St.set]
      · have : ¬ k / 4 = i := fun h => e ⟨h, h6⟩
        simp [h6, St.set, this]
  · have h1 : (cells st)[k]? = none := Array.getElem?_eq_none (by rw [cells_size]; exact hk)
    have h2 : (cells (st.set i p))[k]? = none := Array.getElem?_eq_none (by rw [cells_size]; exact hk)
    rw [h1, h2]
    rw [if_neg (by omega), if_neg (by omega), if_neg (by omega), if_neg (by omega)]

theorem cells_setLow (st : St) (l : Int) : (cells st).setIfInBounds 256 (.int .u64 l) = cells (st.setLow l) := by
  apply Array.ext_getElem?
  intro k
  simp only [Array.getElem?_setIfInBounds]
  rcases Nat.lt_or_ge k 257 with hk | hk
  · rw [cells_at _ k hk, cells_at _ k hk]
    simp only [cells_size]
    by_cases e : 256 = k
    · subst e; simp [St.setLow]
    · rw [if_neg e, if_neg (by omega), if_neg (by omega)]; rfl
  · have h1 : (cells st)[k]? = none := Array.getElem?_eq_none (by rw [cells_size]; exact hk)
    have h2 : (cells (st.setLow l))[k]? = none := Array.getElem?_eq_none (by rw [cells_size]; exact hk)
    rw [h1, h2, if_neg (by omega)]

theorem heap_setCell_at {w : World} {b : Nat} {c : Array Value} {t : TypeId} {fr : Nat × Nat} (h : w.heap[b]? = some (.cells c t fr)) (o : Nat) (v : Value) :
    (w.setCell ⟨b, o, none⟩ v).heap[b]? = some (.cells (c.setIfInBounds o v) t fr) := by
  simp only [World.setCell, Array.getElem?_modify, h]; simp

theorem IsShelf.put {w : World} {b : Nat} {st : St} (h : IsShelf w b st) (i : Nat) (hi : i < 64) (p : Plc) :
    IsShelf ((((w.setCell ⟨b, i * 4, none⟩ (.int .u64 p.n)).setCell ⟨b, i * 4 + 1, none⟩ (.int .i64 p.s)).setCell ⟨b, i * 4 + 2, none⟩ (.int .u64 p.num)).setCell ⟨b, i * 4 + 3, none⟩ (.string p.text)) b (st.set i p) :=
  ⟨by rw [← cells_set st i hi p]; exact heap_setCell_at (heap_setCell_at (heap_setCell_at (heap_setCell_at h.block _ _) _ _) _ _) _ _⟩
theorem IsShelf.putLow {w : World} {b : Nat} {st : St} (h : IsShelf w b st) (l : Int) : IsShelf (w.setCell ⟨b, 256, none⟩ (.int .u64 l)) b (st.setLow l) :=
  ⟨by rw [← cells_setLow]; exact heap_setCell_at h.block _ _⟩

/-! ### What a call leaves as it was: all blocks of before, but those of S. -/
structure Keep (S : Nat → Prop) (w w' : World) : Prop where
  os : w'.os = w.os
  tape : w'.tape = w.tape
  output : w'.output = w.output
  size : w.heap.size ≤ w'.heap.size
  block : ∀ k, k < w.heap.size → ¬ S k → w'.heap[k]? = w.heap[k]?

theorem Keep.refl (S : Nat → Prop) (w : World) : Keep S w w := ⟨rfl, rfl, rfl, Nat.le_refl _, fun _ _ _ => rfl⟩
theorem Keep.trans {S T : Nat → Prop} {a b c : World} (h : Keep S a b) (k : Keep T b c) (hs : ∀ i, T i → i < a.heap.size → S i) : Keep S a c :=
  ⟨k.os.trans h.os, k.tape.trans h.tape, k.output.trans h.output, Nat.le_trans h.size k.size,
    fun i hi hn => (k.block i (Nat.lt_of_lt_of_le hi h.size) (fun ht => hn (hs i ht hi))).trans (h.block i hi hn)⟩
theorem Keep.step {S : Nat → Prop} {a b c : World} (h : Keep S a b) (k : Keep S b c) : Keep S a c := h.trans k fun _ h _ => h
theorem Keep.mono {S T : Nat → Prop} {a b : World} (h : Keep S a b) (hs : ∀ i, S i → i < a.heap.size → T i) : Keep T a b :=
  ⟨h.os, h.tape, h.output, h.size, fun i hi hn => h.block i hi fun hi' => hn (hs i hi' hi)⟩
theorem Keep.drew {S : Nat → Prop} {a b : World} (h : Keep S a b) : Keep S a b.drew := ⟨h.os, h.tape, h.output, h.size, h.block⟩
theorem Keep.drewN {S : Nat → Prop} {a b : World} (h : Keep S a b) (n : Nat) : Keep S a (b.drewN n) := ⟨h.os, h.tape, h.output, h.size, h.block⟩
theorem Keep.alloc {S : Nat → Prop} {a b : World} (h : Keep S a b) (o : Obj) : Keep S a (b.alloc o) :=
  h.trans (T := S) ⟨rfl, rfl, rfl, by simp, fun k hk _ => Below.heap_alloc _ _ _ hk⟩ fun _ h _ => h
theorem Keep.setCell {S : Nat → Prop} {a b : World} (h : Keep S a b) (p : Addr) (u : Value) (hp : p.block < a.heap.size → S p.block) : Keep S a (b.setCell p u) :=
  h.trans (T := fun k => k = p.block) ⟨rfl, rfl, rfl, by simp [World.setCell], fun k _ hk => Below.heap_setCell _ _ _ _ hk⟩ (by rintro i rfl hi; exact hp hi)
theorem Keep.setAt {b : Nat} {a w : World} (h : Keep (fun k => k = b) a w) (o : Nat) (u : Value) : Keep (fun k => k = b) a (w.setCell ⟨b, o, none⟩ u) := h.setCell ⟨b, o, none⟩ u fun _ => rfl
theorem Keep.grown {S : Nat → Prop} {a b c : World} {row : Option Nat} (h : Keep S a b) (hg : b.grownBy c row) (hr : ∀ k, row = some k → k < a.heap.size → S k) : Keep S a c :=
  h.trans (T := fun k => row = some k) ⟨hg.os, hg.tape, hg.output, hg.size, fun k hk hn => hg.block k hk (fun e => hn e.symm)⟩ (fun i hi hl => hr i hi hl)
theorem Keep.below {a b : World} (h : Keep (fun _ => False) a b) : Below a.heap.size a b := ⟨h.os, h.tape, h.output, h.size, fun k hk => h.block k hk (fun h => h)⟩
theorem Keep.old {S : Nat → Prop} {a b : World} (h : Keep S a b) {k : Nat} {o : Obj} (ho : a.heap[k]? = some o) (hn : ¬ S k) : b.heap[k]? = some o :=
  (h.block k (Array.getElem?_eq_some_iff.1 ho).1 hn).trans ho
theorem IsShelf.keep {S : Nat → Prop} {w w' : World} {b : Nat} {st : St} (h : IsShelf w b st) (k : Keep S w w') (hn : ¬ S b) : IsShelf w' b st := ⟨k.old h.block hn⟩

end Go.Proofs.YtmficjbgpcbhoaaDoor.Sh
