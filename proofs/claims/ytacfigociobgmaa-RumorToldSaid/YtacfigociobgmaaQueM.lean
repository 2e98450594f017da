/- Items of a queue, in order: plain facts; a queue as the heap has it. -/
import Derived.Test.YtacfigociobgmaaCap
namespace Go.Proofs.Ytacfigociobgmaa
open Go.RowKit Sh
open Go.ChangeMaps (setBlock)
set_option linter.unusedVariables false

structure It where
  n : Int
  i : Int
  s : Int
  t : Int
deriving instance Inhabited for It
def itV (x : It) : Value := .agg #[.int .i64 x.n, .int .u64 x.i, .int .i64 x.s, .int .i64 x.t]
def itC (x : It) : List Value := [.int .i64 x.n, .int .u64 x.i, .int .i64 x.s, .int .i64 x.t]
def it (L : List It) (i : Nat) : It := L.getD i default
theorem it_of {L : List It} {i : Nat} (h : i < L.length) : it L i = L[i] := by simp [it, h]
theorem it_mem {L : List It} {i : Nat} (h : i < L.length) : it L i ∈ L := by rw [it_of h]; exact List.getElem_mem h

/-- what is told ahead. -/
def cfI (x y : It) : Int := orI (cmpI x.t y.t) (cmpI x.n y.n)
def Lt (x y : It) : Prop := x.t < y.t ∨ (x.t = y.t ∧ x.n < y.n)
theorem cfI_lt (x y : It) : cfI x y < 0 ↔ Lt x y := by
  simp only [cfI, orI, cmpI, Lt]
  repeat' split
  all_goals omega
theorem Lt.irrefl (x : It) : ¬ Lt x x := by unfold Lt; omega
theorem Lt.asymm {x y : It} (h : Lt x y) : ¬ Lt y x := by unfold Lt at *; omega
theorem Lt.trans {x y z : It} (h : Lt x y) (k : Lt y z) : Lt x z := by unfold Lt at *; omega
theorem Lt.ntrans {x y z : It} (h : ¬ Lt x y) (k : ¬ Lt y z) : ¬ Lt x z := by unfold Lt at *; omega
theorem Lt.total {x y : It} (h : x.n ≠ y.n) (k : ¬ Lt y x) : Lt x y := by unfold Lt at *; omega

def Srt (L : List It) : Prop := L.Pairwise Lt
theorem Srt.unique : ∀ {L K : List It}, Srt L → Srt K → L.Perm K → L = K
  | [], K, _, _, hp => hp.nil_eq
  | a :: L, [], _, _, hp => by simp at hp
  | a :: L, b :: K, hl, hk, hp => by
    have hl' := List.pairwise_cons.1 hl
    have hk' := List.pairwise_cons.1 hk
    have ab : a = b := by
      rcases List.mem_cons.1 (hp.mem_iff.1 (List.mem_cons_self)) with h | h
      · exact h
      · rcases List.mem_cons.1 (hp.mem_iff.2 (List.mem_cons_self (a := b))) with h2 | h2
        · exact h2.symm
        · exact absurd (hl'.1 b h2) (Lt.asymm (hk'.1 a h))
    subst ab
    rw [Srt.unique hl'.2 hk'.2 (List.Perm.cons_inv hp)]
theorem Srt.at {L : List It} (h : Srt L) {i j : Nat} (hij : i < j) (hj : j < L.length) : Lt (it L i) (it L j) := by
  rw [it_of (by omega), it_of hj]
  exact List.pairwise_iff_getElem.1 h i j (by omega) hj hij

/-- Block q of w is a queue of the items M (in whatever order); mb: its map, if it has one. -/
structure IsQ (w : World) (q : Nat) (mb : Option Nat) (M : List It) : Prop where
  cell : w.heap[q]? = some (.cells #[.map mb] 27 (0, 0))
  mp : ∀ B, mb = some B → B ≠ q ∧ ∃ M1 : List It, M1.Perm M ∧ IsMp It.n itV w B M1
  non : mb = none → M = []
def QS (q : Nat) (mb : Option Nat) (k : Nat) : Prop := k = q ∨ mb = some k
theorem IsQ.keep {S : Nat → Prop} {w w' : World} {q : Nat} {mb : Option Nat} {M : List It} (h : IsQ w q mb M) (k : Keep S w w') (hn : ∀ j, QS q mb j → ¬ S j) : IsQ w' q mb M :=
  ⟨k.old h.cell (hn q (.inl rfl)), fun B hB => by
    obtain ⟨h1, M1, h2, h3⟩ := h.mp B hB
    exact ⟨h1, M1, h2, h3.keep k (hn B (.inr hB))⟩, h.non⟩
theorem IsQ.keep0 {w w' : World} {q : Nat} {mb : Option Nat} {M : List It} (h : IsQ w q mb M) (k : Keep (fun _ => False) w w') : IsQ w' q mb M := h.keep k fun _ _ h => h
theorem IsQ.perm {w : World} {q : Nat} {mb : Option Nat} {M M' : List It} (h : IsQ w q mb M) (hp : M.Perm M') : IsQ w q mb M' :=
  ⟨h.cell, fun B hB => by
    obtain ⟨h1, M1, h2, h3⟩ := h.mp B hB
    exact ⟨h1, M1, h2.trans hp, h3⟩, fun hn => by rw [h.non hn] at hp; exact hp.symm.eq_nil⟩
theorem IsQ.nod {w : World} {q : Nat} {mb : Option Nat} {M : List It} (h : IsQ w q mb M) : (M.map It.n).Nodup := by
  cases mb with
  | none => rw [h.non rfl]; simp
  | some B =>
    obtain ⟨h1, M1, h2, h3⟩ := h.mp B rfl
    exact (h2.map It.n).nodup_iff.1 h3.nod
theorem IsQ.lt {w : World} {q : Nat} {mb : Option Nat} {M : List It} (h : IsQ w q mb M) : q < w.heap.size := (Array.getElem?_eq_some_iff.1 h.cell).1
theorem IsQ.blt {w : World} {q B : Nat} {M : List It} (h : IsQ w q (some B) M) : B < w.heap.size := by
  obtain ⟨h1, M1, h2, h3⟩ := h.mp B rfl
  exact h3.lt
theorem IsQ.c0 {w : World} {q : Nat} {mb : Option Nat} {M : List It} (h : IsQ w q mb M) : w.cell? ⟨q, 0, none⟩ = some (.map mb) := by
  have := h.cell
  simp [World.cell?, this]

/-- The row of items in block g. -/
def RowAt (w : World) (g : Nat) (L : List It) : Prop := ∀ i, i < L.length → w.cell? ⟨g, i * 4, none⟩ = some (.int .i64 (it L i).n) ∧ w.cell? ⟨g, i * 4 + 1, none⟩ = some (.int .u64 (it L i).i) ∧ w.cell? ⟨g, i * 4 + 2, none⟩ = some (.int .i64 (it L i).s) ∧ w.cell? ⟨g, i * 4 + 3, none⟩ = some (.int .i64 (it L i).t)
theorem RowAt.keep {S : Nat → Prop} {w w' : World} {g : Nat} {L : List It} (h : RowAt w g L) (k : Keep S w w') (hn : ¬ S g) : RowAt w' g L := fun i hi => by
  have key : ∀ {o : Nat} {v : Value}, w.cell? ⟨g, o, none⟩ = some v → w'.cell? ⟨g, o, none⟩ = some v := fun hc => (World.cell?_of_block (k.block g (World.block_lt_of_cell? w _ hc) hn)).trans hc
  obtain ⟨a, b, c, d⟩ := h i hi
  exact ⟨key a, key b, key c, key d⟩

end Go.Proofs.Ytacfigociobgmaa
