/- The bytes of a row, as the walks read them. -/
import Derived.SizedLaws
import Derived.ChangeSlices
import Derived.Test.YtojnmbpicmgcpaaLawNew
namespace Go.Proofs.Ytojnmbpicmgcpaa
open Go.RowKit Sh Go.ChangeShapes Go.WideShapes
set_option linter.unusedVariables false

structure IsB (w : World) (v : Value) (l : List Int) : Prop where
  ex : ∃ A c, v = .slice A l.length c ∧ l.length ≤ c ∧ l.length ≤ 140737488351232 ∧ (0 < l.length → ∃ g o, A = some ⟨g, o, none⟩ ∧ ∀ i, i < l.length → w.cell? ⟨g, o + i, none⟩ = some (.int .u8 (l.getD i 0)))
  rng : ∀ i, i < l.length → 0 ≤ l.getD i 0 ∧ l.getD i 0 ≤ 255
theorem IsB.keep {w w' : World} {v : Value} {l : List Int} (h : IsB w v l) (k : Keep (fun _ => False) w w') : IsB w' v l := by
  obtain ⟨A, c, h1, h2, h3, h4⟩ := h.ex
  refine ⟨⟨A, c, h1, h2, h3, fun h0 => ?_⟩, h.rng⟩
  obtain ⟨g, o, e, hc⟩ := h4 h0
  exact ⟨g, o, e, fun i hi => k.cell (hc i hi)⟩

theorem getD_mem {l : List Int} {i : Nat} (h : i < l.length) : l.getD i 0 ∈ l := by
  have : l.getD i 0 = l[i] := by simp [h]
  rw [this]; exact List.getElem_mem h

/-- A slice of whole numbers as the row lays it. -/
def IsRow (k : IntKind) (w : World) (a : Option Addr) (len cap : Nat) (zs : List Int) : Prop :=
  (a = none ∧ len = 0 ∧ cap = 0 ∧ zs = []) ∨
  ∃ x, a = some x ∧ len ≤ cap ∧ cap ≤ maxLen ∧ zs.length = cap ∧ (∀ i, i < zs.length → w.cell? (x.add i) = some (.int k (zs.getD i 0))) ∧ ∀ n ∈ zs, (Lit.int k n).wf = true
theorem sized_ints {H : Type} {enc : TypeId × Value → H} {P : Program} {W : World} {base : Nat} {spare : Nat → Bool} {held : Bool} {t e : TypeId} {k : IntKind} {a : Option Addr} {len cap : Nat} {d : DataW H} {ps : List MemPlace} {ts : List TypeId} {ds : List (DataW H)} {j : Nat}
    (hsz : (DataW.weightsEach P ts ds).all (· ≤ reachBytes) = true) (ht : ts[j]? = some t) (hd : ds[j]? = some d) (hu : P.underlying t = some (.slice e)) (he : P.underlying e = some (.int k)) (hc : P.cellsOf e = 1) {B : Nat} (hB : P.bytesOf e = B)
    (h : DataW.Trod enc P W base spare held t (.slice a len cap) d ps) : len * B ≤ 140737488351232 := by
  obtain ⟨fuel, hf⟩ := h
  rcases open_ints hu he hc hf with ⟨hcs, _⟩ | ⟨x, l, c, zs, hcs, _, hl, _, hz, hx, _, _⟩
  · simp [Value.cells] at hcs
    obtain ⟨rfl, rfl, rfl⟩ := hcs
    simp
  · simp [Value.cells] at hcs
    obtain ⟨rfl, rfl, rfl⟩ := hcs
    obtain ⟨hx, _⟩ := Prod.mk.inj hx
    subst hx
    have z := sized_slice hsz ht hd hu
    rw [hB] at z
    have hl2 : len ≤ zs.length := by
      rw [hz]
      split
      · exact hl
      · exact Nat.le_refl _
    have h1 : (lits (H := H) k (zs.take len)).length + (lits (H := H) k (zs.drop len)).length = zs.length := by
      simp [lits]
      omega
    rw [h1] at z
    exact Nat.le_trans (Nat.mul_le_mul_right _ hl2) z
theorem IsB.ofRow {w : World} {a : Option Addr} {len cap : Nat} {zs : List Int} (h : IsRow .u8 w a len cap zs) (y : len * 1 ≤ 140737488351232) : ∃ bs, IsB w (.slice a len cap) bs := by
  rcases h with ⟨rfl, rfl, rfl, rfl⟩ | ⟨x, rfl, h1, h2, h3, h4, h5⟩
  · exact ⟨[], ⟨none, 0, rfl, by simp, by simp, fun h => absurd h (by simp)⟩, fun i hi => by simp at hi⟩
  · have hl : (zs.take len).length = len := by simp; omega
    have hg : ∀ i, i < len → (zs.take len).getD i 0 = zs.getD i 0 := fun i hi => by
      simp [List.getD_eq_getElem?_getD, List.getElem?_take_of_lt hi]
    refine ⟨zs.take len, ⟨some x, cap, by rw [hl], by omega, by omega, fun h0 => ?_⟩, fun i hi => ?_⟩
    · rw [hl] at h0
      have hs : x.spot = none := by
        have := h4 0 (by omega)
        simp only [Addr.add, if_true, World.cell?] at this
        cases e : x.spot with
        | none => rfl
        | some s =>
          rw [e] at this
          split at this <;> simp at this
      obtain ⟨g, o, s⟩ := x
      simp only at hs
      subst hs
      refine ⟨g, o, rfl, fun i hi => ?_⟩
      rw [hl] at hi
      rw [hg i hi, ← h4 i (by omega)]
      congr 1
      unfold Addr.add
      split
      · rename_i e; rw [e]; rfl
      · rfl
    · rw [hl] at hi
      rw [hg i hi]
      exact wf_u8 (h5 _ (getD_mem (by omega)))

end Go.Proofs.Ytojnmbpicmgcpaa
