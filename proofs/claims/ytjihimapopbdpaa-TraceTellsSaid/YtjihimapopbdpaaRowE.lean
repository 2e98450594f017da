/- A row that is a slice of entries. -/
import Derived.SizedLaws
import Derived.ChangeSlices
import Derived.Deep.Slices
import Derived.Deep.SlicePairs
import Derived.Test.YtjihimapopbdpaaShown
namespace Go.Proofs.Ytjihimapopbdpaa
open Go.RowKit Sh Go.ChangeShapes Go.WideShapes Go.Deep
set_option linter.unusedVariables false

theorem u64_of_wf {n : Int} (h : (Lit.int .u64 n).wf = true) : 0 ≤ n ∧ n < 18446744073709551616 := by
  simp [Lit.wf] at h
  simp only [show IntKind.u64.min = 0 from rfl, show IntKind.u64.max = 18446744073709551615 from by decide] at h
  omega
theorem i64_of_wf {n : Int} (h : (Lit.int .i64 n).wf = true) : -9223372036854775808 ≤ n ∧ n ≤ 9223372036854775807 := by
  simp [Lit.wf] at h
  simp only [show IntKind.i64.min = -9223372036854775808 from by decide] at h
  omega
structure EOk (e : Ent) : Prop where
  node : -9223372036854775808 ≤ e.node ∧ e.node ≤ 9223372036854775807
  id : 0 ≤ e.id ∧ e.id < 18446744073709551616
  mem : 0 ≤ e.mem ∧ e.mem < 18446744073709551616
  n : 0 ≤ e.n ∧ e.n < 18446744073709551616
  num : 0 ≤ e.num ∧ e.num < 18446744073709551616

instance : Inhabited Ent := ⟨⟨0, false, 0, 0, 0, 0, 0, 0, ⟨#[]⟩⟩⟩
section
variable {H : Type} {enc : TypeId × Value → H} {W : World} {base : Nat} {spare : Nat → Bool} {held : Bool}
theorem list9 {α : Type} {l : List α} (h : l.length = 9) : ∃ a b c d e f g i j, l = [a, b, c, d, e, f, g, i, j] := by
  match l, h with
  | [a, b, c, d, e, f, g, i, j], _ => exact ⟨a, b, c, d, e, f, g, i, j, rfl⟩
theorem some_get {α : Type} {xs : List α} {i n : Nat} (h : xs.length = n) (hi : i < n) : ∃ x, xs[i]? = some x := ⟨_, List.getElem?_eq_getElem (by omega)⟩
theorem ent_of_trod {fuel : Nat} {cs : List Value} {x : DataW H × List MemPlace} (h : DataW.trod enc Try.prog W base spare held fuel 42 cs = some x) : ∃ e : Ent, cs = (entA e).toList ∧ EOk e := by
  obtain ⟨xs, n, rfl, _, hl, hx, hf⟩ := DataW.trod_struct Try.underlying42 h
  obtain ⟨a, b, c, d, e, f, g, i, j, rfl⟩ := list9 (hl.trans (by kernel_rfl))
  obtain ⟨y0, hy0⟩ := some_get hx (show 0 < 3 by omega)
  obtain ⟨y1, hy1⟩ := some_get hx (show 1 < 3 by omega)
  obtain ⟨y2, hy2⟩ := some_get hx (show 2 < 3 by omega)
  have g0 : DataW.trod enc Try.prog W base spare held n 3 [a] = xs[0]? := hf 0 _ rfl
  have g1 : DataW.trod enc Try.prog W base spare held n 4 [b] = xs[1]? := hf 1 _ rfl
  have g2 : DataW.trod enc Try.prog W base spare held n 40 [c, d, e, f, g, i, j] = xs[2]? := hf 2 _ rfl
  rw [hy0] at g0
  rw [hy1] at g1
  rw [hy2] at g2
  obtain ⟨na, ea, _, wa⟩ := DataW.trod_int Try.underlying3 g0
  obtain ⟨nb, eb, _⟩ := DataW.trod_bool Try.underlying4 g1
  obtain ⟨xs2, n2, rfl, _, _, hx2, hf2⟩ := DataW.trod_struct Try.underlying40 g2
  obtain ⟨z0, hz0⟩ := some_get hx2 (show 0 < 4 by omega)
  obtain ⟨z1, hz1⟩ := some_get hx2 (show 1 < 4 by omega)
  obtain ⟨z2, hz2⟩ := some_get hx2 (show 2 < 4 by omega)
  obtain ⟨z3, hz3⟩ := some_get hx2 (show 3 < 4 by omega)
  have k0 : DataW.trod enc Try.prog W base spare held n2 3 [c] = xs2[0]? := hf2 0 _ rfl
  have k1 : DataW.trod enc Try.prog W base spare held n2 36 [d, e] = xs2[1]? := hf2 1 _ rfl
  have k2 : DataW.trod enc Try.prog W base spare held n2 34 [f] = xs2[2]? := hf2 2 _ rfl
  have k3 : DataW.trod enc Try.prog W base spare held n2 38 [g, i, j] = xs2[3]? := hf2 3 _ rfl
  rw [hz0] at k0
  rw [hz1] at k1
  rw [hz2] at k2
  rw [hz3] at k3
  obtain ⟨nc, ec, _, wc⟩ := DataW.trod_int Try.underlying3 k0
  obtain ⟨nf, ef, _, wf⟩ := DataW.trod_int Try.underlying34 k2
  obtain ⟨xs3, n3, rfl, _, _, hx3, hf3⟩ := DataW.trod_struct Try.underlying36 k1
  obtain ⟨u0, hu0⟩ := some_get hx3 (show 0 < 2 by omega)
  obtain ⟨u1, hu1⟩ := some_get hx3 (show 1 < 2 by omega)
  have l0 : DataW.trod enc Try.prog W base spare held n3 34 [d] = xs3[0]? := hf3 0 _ rfl
  have l1 : DataW.trod enc Try.prog W base spare held n3 34 [e] = xs3[1]? := hf3 1 _ rfl
  rw [hu0] at l0
  rw [hu1] at l1
  obtain ⟨nd, ed, _, wd⟩ := DataW.trod_int Try.underlying34 l0
  obtain ⟨ne, ee, _, we⟩ := DataW.trod_int Try.underlying34 l1
  obtain ⟨xs4, n4, _, _, _, hx4, hf4⟩ := DataW.trod_struct Try.underlying38 k3
  obtain ⟨t0, ht0⟩ := some_get hx4 (show 0 < 3 by omega)
  obtain ⟨t1, ht1⟩ := some_get hx4 (show 1 < 3 by omega)
  obtain ⟨t2, ht2⟩ := some_get hx4 (show 2 < 3 by omega)
  have m0 : DataW.trod enc Try.prog W base spare held n4 3 [g] = xs4[0]? := hf4 0 _ rfl
  have m1 : DataW.trod enc Try.prog W base spare held n4 34 [i] = xs4[1]? := hf4 1 _ rfl
  have m2 : DataW.trod enc Try.prog W base spare held n4 9 [j] = xs4[2]? := hf4 2 _ rfl
  rw [ht0] at m0
  rw [ht1] at m1
  rw [ht2] at m2
  obtain ⟨ng, eg, _, wg⟩ := DataW.trod_int Try.underlying3 m0
  obtain ⟨ni, ei, _, wi⟩ := DataW.trod_int Try.underlying34 m1
  obtain ⟨nj, ej, _⟩ := DataW.trod_string Try.underlying9 m2
  simp only [List.cons.injEq, and_true] at ea eb ec ed ee ef eg ei ej
  subst ea; subst eb; subst ec; subst ed; subst ee; subst ef; subst eg; subst ei; subst ej
  exact ⟨⟨na, nb, nc, nd, ne, nf, ng, ni, nj⟩, rfl, ⟨i64_of_wf wa, u64_of_wf wd, u64_of_wf we, u64_of_wf wf, u64_of_wf wi⟩⟩

theorem ents_of_trod {a : Option Addr} {len cap : Nat} {d : DataW H} {ps : List MemPlace} {ts : List TypeId} {ds : List (DataW H)} {j : Nat}
    (hsz : (DataW.weightsEach Try.prog ts ds).all (· ≤ reachBytes) = true) (ht : ts[j]? = some 22) (hd : ds[j]? = some d)
    (h : DataW.Trod enc Try.prog W base spare held 22 (.slice a len cap) d ps) : ∃ L, IsEs W (.slice a len cap) L ∧ ∀ e ∈ L, EOk e := by
  obtain ⟨fuel, hf⟩ := h
  rcases open_slice Try.underlying22 hf with ⟨hcs, _⟩ | ⟨x, l, c, m, n, D, Pl, hcs, _, hl, _, hmm, hx, hi⟩
  · simp [Value.cells] at hcs
    obtain ⟨rfl, rfl, rfl⟩ := hcs
    exact ⟨[], ⟨none, 0, rfl, by simp, by simp, fun h => absurd h (by simp)⟩, fun e he => by simp at he⟩
  · simp [Value.cells] at hcs
    obtain ⟨rfl, rfl, rfl⟩ := hcs
    obtain ⟨hx, _⟩ := Prod.mk.inj hx
    subst hx
    have hlm : len ≤ m := by rw [hmm]; split <;> omega
    have z := sized_slice hsz ht hd Try.underlying22
    rw [show Try.prog.bytesOf 42 = 80 by kernel_rfl] at z
    simp only [List.length_map, List.length_range] at z
    have hz : len ≤ 17592186044416 := by
      have := reachBytes_lt
      omega
    rw [show Try.prog.cellsOf 42 = 9 by kernel_rfl] at hi
    have each : ∀ i, i < len → ∃ e : Ent, W.cells? base (x.add (i * 9)) 9 = some (entA e).toList ∧ EOk e := fun i h => by
      obtain ⟨cs', h1, h2⟩ := hi i (by omega)
      obtain ⟨e, rfl, he⟩ := ent_of_trod h2
      exact ⟨e, h1, he⟩
    obtain ⟨E, hE⟩ := choose_lt (α := Ent) (p := fun i e => W.cells? base (x.add (i * 9)) 9 = some (entA e).toList ∧ EOk e) each
    refine ⟨(List.range len).map E, ⟨some x, cap, by simp, by simpa using hl, by simpa using hz, fun h0 => ?_⟩, fun e he => ?_⟩
    · simp only [List.length_map, List.length_range] at h0
      have cell : ∀ i, i < len → ∀ j, j < 9 → W.cell? ((x.add (i * 9)).add j) = (entA (E i))[j]? := fun i h j hj => by
        obtain ⟨_, _, hcell⟩ := World.cells?_some (hE i h).1
        have := hcell j hj
        rw [this]
        simp
      have hs : x.spot = none := by
        have := cell 0 h0 0 (by omega)
        simp only [Addr.add, Nat.zero_mul, if_true, World.cell?] at this
        cases e : x.spot with
        | none => rfl
        | some s =>
          rw [e] at this
          split at this <;> simp [entA] at this
      obtain ⟨g, o, s⟩ := x
      simp only at hs
      subst hs
      refine ⟨g, o, rfl, fun i h j hj => ?_⟩
      simp only [List.length_map, List.length_range] at h
      have := cell i h j hj
      rw [add_add, add_plain] at this
      rw [List.getElem_map, List.getElem_range, ← this]
      congr 2
      omega
    · obtain ⟨i, hi, rfl⟩ := List.mem_map.1 he
      exact (hE i (by simpa using hi)).2
end
theorem begins_row0 : True := trivial

end Go.Proofs.Ytjihimapopbdpaa
