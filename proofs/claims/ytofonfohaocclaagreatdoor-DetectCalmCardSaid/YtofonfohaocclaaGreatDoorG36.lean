/- What a row lays: words, and a slice of what happens to a detector. DetectSays: the walk, as the row wants it. -/
import Derived.SizedLaws
import Derived.ChangeSlices
import Derived.Deep.Slices
import Derived.Deep.SlicePairs
import Derived.Test.YtofonfohaocclaaGreatDoorG34
import Derived.Test.YtofonfohaocclaaGreatDoorSays
namespace Go.Proofs.YtofonfohaocclaaGreatDoor
open Go.RowKit Sh Go.ChangeShapes Go.WideShapes Go.Deep
set_option linter.unusedVariables false

/-- A slice of whole numbers as the row lays it. -/
def IsRow (k : IntKind) (w : World) (a : Option Addr) (len cap : Nat) (zs : List Int) : Prop :=
  (a = none ∧ len = 0 ∧ cap = 0 ∧ zs = []) ∨
  ∃ x, a = some x ∧ len ≤ cap ∧ cap ≤ maxLen ∧ zs.length = cap ∧ (∀ i, i < zs.length → w.cell? (x.add i) = some (.int k (zs.getD i 0))) ∧ ∀ n ∈ zs, (Lit.int k n).wf = true
theorem sized_ints {H : Type} {enc : TypeId × Value → H} {P : Program} {W : World} {base : Nat} {spare : Nat → Bool} {held : Bool} {t e : TypeId} {k : IntKind} {a : Option Addr} {len cap : Nat} {d : DataW H} {ps : List MemPlace} {ts : List TypeId} {ds : List (DataW H)} {j : Nat}
    (hsz : (DataW.weightsEach P ts ds).all (· ≤ reachBytes) = true) (ht : ts[j]? = some t) (hd : ds[j]? = some d) (hu : P.underlying t = some (.slice e)) (he : P.underlying e = some (.int k)) (hc : P.cellsOf e = 1) {B : Nat} (hB : P.bytesOf e = B)
    (h : DataW.Trod enc P W base spare held t (.slice a len cap) d ps) : len * B ≤ 140737488351232 := by
  obtain ⟨fuel, hf⟩ := h
  rcases open_ints hu he hc hf with ⟨hcs, _⟩ | ⟨x, l, c, zs, hcs, _, hl, _, hz, hx, _, _⟩
  · simp [Value.cells] at hcs
    obtain ⟨rfl, rfl, rfl⟩ := hcs
    simp
  · simp [Value.cells] at hcs
    obtain ⟨rfl, rfl, rfl⟩ := hcs
    obtain ⟨hx, _⟩ := Prod.mk.inj hx
    subst hx
    have z := sized_slice hsz ht hd hu
    rw [hB] at z
    have hl2 : len ≤ zs.length := by
      rw [hz]
      split
      · exact hl
      · exact Nat.le_refl _
    have h1 : (lits (H := H) k (zs.take len)).length + (lits (H := H) k (zs.drop len)).length = zs.length := by
      simp [lits]
      omega
    rw [h1] at z
    exact Nat.le_trans (Nat.mul_le_mul_right _ hl2) z
theorem u64_of_wf {n : Int} (h : (Lit.int .u64 n).wf = true) : 0 ≤ n ∧ n < 18446744073709551616 := by
  simp [Lit.wf] at h
  simp only [show IntKind.u64.min = 0 from rfl, show IntKind.u64.max = 18446744073709551615 from by decide] at h
  omega
theorem u8_of_wf {n : Int} (h : (Lit.int .u8 n).wf = true) : 0 ≤ n ∧ n ≤ 255 := by
  simp [Lit.wf] at h
  exact h
theorem WArg.ofRow {w : World} {a : Option Addr} {len cap : Nat} {zs : List Int} (h : IsRow .u64 w a len cap zs) : ∃ L, WArg w (.slice a len cap) L := by
  rcases h with ⟨rfl, rfl, rfl, rfl⟩ | ⟨x, rfl, h1, h2, h3, h4, h5⟩
  · exact ⟨[], ⟨none, 0, rfl, fun h => absurd h (by simp)⟩, fun x hx => by cases hx⟩
  · have hl : (zs.take len).length = len := by simp; omega
    refine ⟨zs.take len, ⟨some x, cap, by rw [hl], fun h0 => ?_⟩, fun y hy => u64_of_wf (h5 y (List.mem_of_mem_take hy))⟩
    rw [hl] at h0
    have hs : x.spot = none := by
      have := h4 0 (by omega)
      simp only [Addr.add, if_true, World.cell?] at this
      cases e : x.spot with
      | none => rfl
      | some s =>
        rw [e] at this
        split at this <;> simp at this
    obtain ⟨g, o, s⟩ := x
    simp only at hs
    subst hs
    refine ⟨g, o, rfl, fun i hi => ?_⟩
    have hi' : i < zs.length := by omega
    have hc := h4 i hi'
    rw [List.getD_eq_getElem?_getD, List.getElem?_eq_getElem hi', Option.getD_some] at hc
    rw [List.getElem_take, ← hc]
    congr 1
    unfold Addr.add
    split
    · rename_i e; rw [e]; rfl
    · rfl
instance : Inhabited ActD := ⟨⟨0, 0, 0, 0, 0, 0, .slice none 0 0, [], ⟨0, 0, 0⟩⟩⟩
section
variable {H : Type} {enc : TypeId × Value → H} {W : World} {base : Nat} {spare : Nat → Bool} {held : Bool}
theorem some_get {α : Type} {xs : List α} {i n : Nat} (h : xs.length = n) (hi : i < n) : ∃ x, xs[i]? = some x := ⟨_, List.getElem?_eq_getElem (by omega)⟩
theorem list3 {α : Type} {l : List α} (h : l.length = 3) : ∃ a b c, l = [a, b, c] := by
  match l, h with
  | [a, b, c], _ => exact ⟨a, b, c, rfl⟩
theorem list10 {α : Type} {l : List α} (h : l.length = 10) : ∃ a b c d e f g i j k, l = [a, b, c, d, e, f, g, i, j, k] := by
  match l, h with
  | [a, b, c, d, e, f, g, i, j, k], _ => exact ⟨a, b, c, d, e, f, g, i, j, k, rfl⟩
set_option maxRecDepth 100000 in
theorem up_of_trod {fuel : Nat} {cs : List Value} {x : DataW H × List MemPlace} (h : DataW.trod enc Tryz.prog W base spare held fuel 52 cs = some x) : ∃ u : Up, cs = uC u ∧ 0 ≤ u.i ∧ u.i < 18446744073709551616 := by
  obtain ⟨xs, n, rfl, _, hl, hx, hf⟩ := DataW.trod_struct Tryz.underlying52 h
  obtain ⟨a, b, c, rfl⟩ := list3 (hl.trans (by kernel_rfl))
  obtain ⟨y0, hy0⟩ := some_get hx (show 0 < 3 by omega)
  obtain ⟨y1, hy1⟩ := some_get hx (show 1 < 3 by omega)
  obtain ⟨y2, hy2⟩ := some_get hx (show 2 < 3 by omega)
  have g0 : DataW.trod enc Tryz.prog W base spare held n 3 [a] = xs[0]? := hf 0 _ rfl
  have g1 : DataW.trod enc Tryz.prog W base spare held n 29 [b] = xs[1]? := hf 1 _ rfl
  have g2 : DataW.trod enc Tryz.prog W base spare held n 3 [c] = xs[2]? := hf 2 _ rfl
  rw [hy0] at g0
  rw [hy1] at g1
  rw [hy2] at g2
  obtain ⟨na, ea, _, wa⟩ := DataW.trod_int Tryz.underlying3 g0
  obtain ⟨nb, eb, _, wb⟩ := DataW.trod_int Tryz.underlying29 g1
  obtain ⟨nc, ec, _, wc⟩ := DataW.trod_int Tryz.underlying3 g2
  simp only [List.cons.injEq, and_true] at ea eb ec
  subst ea; subst eb; subst ec
  exact ⟨⟨na, nb, nc⟩, rfl, u64_of_wf wb⟩
/-- Places that hold so many cells each. -/
theorem lies {α : Type} {k : Nat} {enc' : α → List Value} (hlen : ∀ e, (enc' e).length = k) (hk : 0 < k) {x : Addr} {len : Nat} (E : Nat → α) (hE : ∀ i, i < len → W.cells? base (x.add (i * k)) k = some (enc' (E i))) (h0 : 0 < len) :
    ∃ g o, some x = some (⟨g, o, none⟩ : Addr) ∧ ∀ i, i < len → ∀ (t : Nat) (u : Value), (enc' (E i))[t]? = some u → W.cell? ⟨g, o + i * k + t, none⟩ = some u := by
  have cell : ∀ i, i < len → ∀ j, j < k → W.cell? ((x.add (i * k)).add j) = (enc' (E i))[j]? := fun i h j hj => by
    obtain ⟨_, _, hcell⟩ := World.cells?_some (hE i h)
    exact hcell j hj
  have hs : x.spot = none := by
    have := cell 0 h0 0 hk
    have hne : ∃ u, (enc' (E 0))[0]? = some u := ⟨_, List.getElem?_eq_getElem (by rw [hlen]; exact hk)⟩
    obtain ⟨u, hu⟩ := hne
    rw [hu] at this
    simp only [Addr.add, Nat.zero_mul, if_true, World.cell?] at this
    cases e : x.spot with
    | none => rfl
    | some s =>
      rw [e] at this
      split at this <;> simp at this
  obtain ⟨g, o, s⟩ := x
  simp only at hs
  subst hs
  refine ⟨g, o, rfl, fun i h t u hu => ?_⟩
  have ht : t < k := by rw [← hlen (E i)]; exact (List.getElem?_eq_some_iff.1 hu).1
  have := cell i h t ht
  rw [add_add, add_plain] at this
  rw [← hu, ← this]
  congr 2
  omega
theorem news_of_trod {fuel : Nat} {v : Value} {x : DataW H × List MemPlace} (h : DataW.trod enc Tryz.prog W base spare held fuel 49 [v] = some x) : ∃ N : List Up, (∃ A c, v = .slice A N.length c ∧ (0 < N.length → ∃ g o, A = some ⟨g, o, none⟩ ∧ ∀ i (hi : i < N.length), W.cell? ⟨g, o + i * 3, none⟩ = some (.int .i64 N[i].n) ∧ W.cell? ⟨g, o + i * 3 + 1, none⟩ = some (.int .u64 N[i].i) ∧ W.cell? ⟨g, o + i * 3 + 2, none⟩ = some (.int .i64 N[i].s))) ∧ ∀ u ∈ N, 0 ≤ u.i ∧ u.i < 18446744073709551616 := by
  rcases open_slice Tryz.underlying49 h with ⟨hcs, _⟩ | ⟨x, l, c, m, n, D, Pl, hcs, _, hl, _, hmm, hx, hi⟩
  · simp at hcs
    subst hcs
    exact ⟨[], ⟨none, 0, rfl, fun h => absurd h (by simp)⟩, fun u hu => by cases hu⟩
  · simp at hcs
    subst hcs
    have hlm : l ≤ m := by rw [hmm]; split <;> omega
    rw [show Tryz.prog.cellsOf 52 = 3 by kernel_rfl] at hi
    have each : ∀ i, i < l → ∃ e : Up, W.cells? base (x.add (i * 3)) 3 = some (uC e) ∧ 0 ≤ e.i ∧ e.i < 18446744073709551616 := fun i h => by
      obtain ⟨cs', h1, h2⟩ := hi i (by omega)
      obtain ⟨e, rfl, he⟩ := up_of_trod h2
      exact ⟨e, h1, he⟩
    obtain ⟨E, hE⟩ := choose_lt (α := Up) (p := fun i e => W.cells? base (x.add (i * 3)) 3 = some (uC e) ∧ 0 ≤ e.i ∧ e.i < 18446744073709551616) each
    refine ⟨(List.range l).map E, ⟨some x, c, by simp, fun h0 => ?_⟩, fun e he => ?_⟩
    · simp only [List.length_map, List.length_range] at h0
      obtain ⟨g, o, hg, hc⟩ := lies (enc' := uC) (k := 3) (fun _ => rfl) (by omega) E (fun i h => (hE i h).1) h0
      refine ⟨g, o, hg, fun i h => ?_⟩
      simp only [List.length_map, List.length_range] at h
      rw [List.getElem_map, List.getElem_range]
      exact ⟨hc i h 0 _ rfl, hc i h 1 _ rfl, hc i h 2 _ rfl⟩
    · obtain ⟨i, hi, rfl⟩ := List.mem_map.1 he
      exact (hE i (by simpa using hi)).2
set_option maxRecDepth 100000 in
theorem act_of_trod {fuel : Nat} {cs : List Value} {x : DataW H × List MemPlace} (h : DataW.trod enc Tryz.prog W base spare held fuel 64 cs = some x) : ∃ e : ActD, cs = acC e ∧ ActOk W e := by
  obtain ⟨xs, n, rfl, _, hl, hx, hf⟩ := DataW.trod_struct Tryz.underlying64 h
  obtain ⟨a, b, c, d, e, f, g, i, j, k, rfl⟩ := list10 (hl.trans (by kernel_rfl))
  obtain ⟨y0, hy0⟩ := some_get hx (show 0 < 3 by omega)
  obtain ⟨y1, hy1⟩ := some_get hx (show 1 < 3 by omega)
  obtain ⟨y2, hy2⟩ := some_get hx (show 2 < 3 by omega)
  have g0 : DataW.trod enc Tryz.prog W base spare held n 3 [a] = xs[0]? := hf 0 _ rfl
  have g1 : DataW.trod enc Tryz.prog W base spare held n 62 [b, c, d, e, f, g] = xs[1]? := hf 1 _ rfl
  have g2 : DataW.trod enc Tryz.prog W base spare held n 52 [i, j, k] = xs[2]? := hf 2 _ rfl
  rw [hy0] at g0
  rw [hy1] at g1
  rw [hy2] at g2
  obtain ⟨na, ea, _, wa⟩ := DataW.trod_int Tryz.underlying3 g0
  obtain ⟨u, hu, hui⟩ := up_of_trod g2
  obtain ⟨xs2, n2, _, _, _, hx2, hf2⟩ := DataW.trod_struct Tryz.underlying62 g1
  obtain ⟨z0, hz0⟩ := some_get hx2 (show 0 < 6 by omega)
  obtain ⟨z1, hz1⟩ := some_get hx2 (show 1 < 6 by omega)
  obtain ⟨z2, hz2⟩ := some_get hx2 (show 2 < 6 by omega)
  obtain ⟨z3, hz3⟩ := some_get hx2 (show 3 < 6 by omega)
  obtain ⟨z4, hz4⟩ := some_get hx2 (show 4 < 6 by omega)
  obtain ⟨z5, hz5⟩ := some_get hx2 (show 5 < 6 by omega)
  have k0 : DataW.trod enc Tryz.prog W base spare held n2 3 [b] = xs2[0]? := hf2 0 _ rfl
  have k1 : DataW.trod enc Tryz.prog W base spare held n2 3 [c] = xs2[1]? := hf2 1 _ rfl
  have k2 : DataW.trod enc Tryz.prog W base spare held n2 3 [d] = xs2[2]? := hf2 2 _ rfl
  have k3 : DataW.trod enc Tryz.prog W base spare held n2 29 [e] = xs2[3]? := hf2 3 _ rfl
  have k4 : DataW.trod enc Tryz.prog W base spare held n2 3 [f] = xs2[4]? := hf2 4 _ rfl
  have k5 : DataW.trod enc Tryz.prog W base spare held n2 49 [g] = xs2[5]? := hf2 5 _ rfl
  rw [hz0] at k0
  rw [hz1] at k1
  rw [hz2] at k2
  rw [hz3] at k3
  rw [hz4] at k4
  rw [hz5] at k5
  obtain ⟨nb, eb, _, wb⟩ := DataW.trod_int Tryz.underlying3 k0
  obtain ⟨nc, ec, _, wc⟩ := DataW.trod_int Tryz.underlying3 k1
  obtain ⟨nd, ed, _, wd⟩ := DataW.trod_int Tryz.underlying3 k2
  obtain ⟨ne, ee, _, we⟩ := DataW.trod_int Tryz.underlying29 k3
  obtain ⟨nf, ef, _, wf⟩ := DataW.trod_int Tryz.underlying3 k4
  obtain ⟨N, hN, hNi⟩ := news_of_trod k5
  simp only [List.cons.injEq, and_true] at ea eb ec ed ee ef
  simp only [uC, List.cons.injEq, and_true] at hu
  obtain ⟨rfl, rfl, rfl⟩ := hu
  subst ea; subst eb; subst ec; subst ed; subst ee; subst ef
  exact ⟨⟨na, nb, nc, nd, ne, nf, g, N, u⟩, rfl, ⟨hN, hNi, hui⟩⟩
theorem acts_of_trod {a : Option Addr} {len cap : Nat} {d : DataW H} {ps : List MemPlace} {ts : List TypeId} {ds : List (DataW H)} {j : Nat}
    (hsz : (DataW.weightsEach Tryz.prog ts ds).all (· ≤ reachBytes) = true) (ht : ts[j]? = some 59) (hd : ds[j]? = some d)
    (h : DataW.Trod enc Tryz.prog W base spare held 59 (.slice a len cap) d ps) : ∃ L, ActsR W (.slice a len cap) L := by
  obtain ⟨fuel, hf⟩ := h
  rcases open_slice Tryz.underlying59 hf with ⟨hcs, _⟩ | ⟨x, l, c, m, n, D, Pl, hcs, _, hl, _, hmm, hx, hi⟩
  · simp [Value.cells] at hcs
    obtain ⟨rfl, rfl, rfl⟩ := hcs
    exact ⟨[], ⟨none, 0, rfl, fun h => absurd h (by simp)⟩, fun e he => by cases he⟩
  · simp [Value.cells] at hcs
    obtain ⟨rfl, rfl, rfl⟩ := hcs
    have hlm : len ≤ m := by rw [hmm]; split <;> omega
    rw [show Tryz.prog.cellsOf 64 = 10 by kernel_rfl] at hi
    have each : ∀ i, i < len → ∃ e : ActD, W.cells? base (x.add (i * 10)) 10 = some (acC e) ∧ ActOk W e := fun i h => by
      obtain ⟨cs', h1, h2⟩ := hi i (by omega)
      obtain ⟨e, rfl, he⟩ := act_of_trod h2
      exact ⟨e, h1, he⟩
    obtain ⟨E, hE⟩ := choose_lt (α := ActD) (p := fun i e => W.cells? base (x.add (i * 10)) 10 = some (acC e) ∧ ActOk W e) each
    refine ⟨(List.range len).map E, ⟨some x, cap, by simp, fun h0 => ?_⟩, fun e he => ?_⟩
    · simp only [List.length_map, List.length_range] at h0
      obtain ⟨g, o, hg, hc⟩ := lies (enc' := acC) (k := 10) (fun _ => rfl) (by omega) E (fun i h => (hE i h).1) h0
      refine ⟨g, o, hg, fun i h t u hu => ?_⟩
      simp only [List.length_map, List.length_range] at h
      rw [List.getElem_map, List.getElem_range] at hu
      exact hc i h t u hu
    · obtain ⟨i, hi, rfl⟩ := List.mem_map.1 he
      exact (hE i (by simpa using hi)).2
end
end Go.Proofs.YtofonfohaocclaaGreatDoor

namespace Go.Proofs.YtofonfohaocclaaGreatDoor
open Go.RowKit Sh
set_option linter.unusedVariables false
theorem says_row (a0 : Int) (a1 : Option Addr) (len1 cap1 : Nat) (z1 : List Int) (a2 : Option Addr) (len2 cap2 : Nat) (z2 : List ActD) (w : World)
    (w0 : (Lit.int .u8 a0).wf = true) (w1 : IsRow .u64 w a1 len1 cap1 z1) (y1 : len1 * 8 ≤ 140737488351232) (w2 : ActsR w (.slice a2 len2 cap2) z2)
    (hL : laidMet Tryz.prog [("math/bits.deBruijn64tab", Rows.laid_math_bits_deBruijn64tab)] w) :
    Calls Tryz.prog 6 #[.int .u8 a0, .slice a1 len1 cap1, .slice a2 len2 cap2] w fun e w' => e = .returned (.bool true) ∧ Below w.heap.size w w' := by
  obtain ⟨L, h1⟩ := WArg.ofRow w1
  have hT := B.tab_of_laid hL
  refine (says_law (u8_of_wf w0) h1 w2 hT (World.block_lt_of_cell? w _ (hT 0 (by decide)))).mono ?_
  rintro e w' ⟨rfl, hk⟩
  exact ⟨rfl, hk.below⟩
end Go.Proofs.YtofonfohaocclaaGreatDoor
