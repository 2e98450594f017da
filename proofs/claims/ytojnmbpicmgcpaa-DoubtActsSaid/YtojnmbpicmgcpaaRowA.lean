/- A row that is a slice of acts. -/
import Derived.SizedLaws
import Derived.ChangeSlices
import Derived.Deep.Slices
import Derived.Deep.SlicePairs
import Derived.Test.YtojnmbpicmgcpaaLawActs
namespace Go.Proofs.Ytojnmbpicmgcpaa
open Go.RowKit Sh Go.ChangeShapes Go.WideShapes Go.Deep
set_option linter.unusedVariables false

theorem u64_of_wf {n : Int} (h : (Lit.int .u64 n).wf = true) : 0 ≤ n ∧ n < 18446744073709551616 := by
  simp [Lit.wf] at h
  simp only [show IntKind.u64.min = 0 from rfl, show IntKind.u64.max = 18446744073709551615 from by decide] at h
  omega
theorem i64_of_wf {n : Int} (h : (Lit.int .i64 n).wf = true) : -9223372036854775808 ≤ n ∧ n ≤ 9223372036854775807 := by
  simp [Lit.wf] at h
  simp only [show IntKind.i64.min = -9223372036854775808 from by decide] at h
  omega
instance : Inhabited Ac := ⟨⟨0, 0, 0, 0, 0, 0, 0, 0⟩⟩
section
variable {H : Type} {enc : TypeId × Value → H} {W : World} {base : Nat} {spare : Nat → Bool} {held : Bool}
theorem list8 {α : Type} {l : List α} (h : l.length = 8) : ∃ a b c d e f g i, l = [a, b, c, d, e, f, g, i] := by
  match l, h with
  | [a, b, c, d, e, f, g, i], _ => exact ⟨a, b, c, d, e, f, g, i, rfl⟩
theorem some_get {α : Type} {xs : List α} {i n : Nat} (h : xs.length = n) (hi : i < n) : ∃ x, xs[i]? = some x := ⟨_, List.getElem?_eq_getElem (by omega)⟩
theorem float_of_trod {P : Program} {t : TypeId} {k : FloatKind} (ht : P.underlying t = some (.float k)) {fuel : Nat} {cs : List Value} {x : DataW H × List MemPlace} (h : DataW.trod enc P W base spare held fuel t cs = some x) : ∃ b : Nat, cs = [.float k b] ∧ (Lit.float k b).wf = true := by
  cases fuel with
  | zero => simp [DataW.trod] at h
  | succ n =>
    unfold DataW.trod at h
    rw [ht] at h
    split at h <;> simp_all
set_option maxRecDepth 100000 in
theorem act_of_trod {fuel : Nat} {cs : List Value} {x : DataW H × List MemPlace} (h : DataW.trod enc Try.prog W base spare held fuel 37 cs = some x) : ∃ e : Ac, cs = acC e ∧ AOk e := by
  obtain ⟨xs, n, rfl, _, hl, hx, hf⟩ := DataW.trod_struct Try.underlying37 h
  obtain ⟨a, b, c, d, e, f, g, i, rfl⟩ := list8 (hl.trans (by kernel_rfl))
  obtain ⟨y0, hy0⟩ := some_get hx (show 0 < 6 by omega)
  obtain ⟨y1, hy1⟩ := some_get hx (show 1 < 6 by omega)
  obtain ⟨y2, hy2⟩ := some_get hx (show 2 < 6 by omega)
  obtain ⟨y3, hy3⟩ := some_get hx (show 3 < 6 by omega)
  obtain ⟨y4, hy4⟩ := some_get hx (show 4 < 6 by omega)
  obtain ⟨y5, hy5⟩ := some_get hx (show 5 < 6 by omega)
  have g0 : DataW.trod enc Try.prog W base spare held n 3 [a] = xs[0]? := hf 0 _ rfl
  have g1 : DataW.trod enc Try.prog W base spare held n 3 [b] = xs[1]? := hf 1 _ rfl
  have g2 : DataW.trod enc Try.prog W base spare held n 3 [c] = xs[2]? := hf 2 _ rfl
  have g3 : DataW.trod enc Try.prog W base spare held n 34 [d, e, f] = xs[3]? := hf 3 _ rfl
  have g4 : DataW.trod enc Try.prog W base spare held n 32 [g] = xs[4]? := hf 4 _ rfl
  have g5 : DataW.trod enc Try.prog W base spare held n 35 [i] = xs[5]? := hf 5 _ rfl
  rw [hy0] at g0
  rw [hy1] at g1
  rw [hy2] at g2
  rw [hy3] at g3
  rw [hy4] at g4
  rw [hy5] at g5
  obtain ⟨na, ea, _, wa⟩ := DataW.trod_int Try.underlying3 g0
  obtain ⟨nb, eb, _, wb⟩ := DataW.trod_int Try.underlying3 g1
  obtain ⟨nc, ec, _, wc⟩ := DataW.trod_int Try.underlying3 g2
  obtain ⟨ng, eg, _, wg⟩ := DataW.trod_int Try.underlying32 g4
  obtain ⟨ni, ei, wi⟩ := float_of_trod Try.underlying35 g5
  obtain ⟨xs2, n2, _, _, _, hx2, hf2⟩ := DataW.trod_struct Try.underlying34 g3
  obtain ⟨z0, hz0⟩ := some_get hx2 (show 0 < 3 by omega)
  obtain ⟨z1, hz1⟩ := some_get hx2 (show 1 < 3 by omega)
  obtain ⟨z2, hz2⟩ := some_get hx2 (show 2 < 3 by omega)
  have k0 : DataW.trod enc Try.prog W base spare held n2 3 [d] = xs2[0]? := hf2 0 _ rfl
  have k1 : DataW.trod enc Try.prog W base spare held n2 32 [e] = xs2[1]? := hf2 1 _ rfl
  have k2 : DataW.trod enc Try.prog W base spare held n2 3 [f] = xs2[2]? := hf2 2 _ rfl
  rw [hz0] at k0
  rw [hz1] at k1
  rw [hz2] at k2
  obtain ⟨nd, ed, _, wd⟩ := DataW.trod_int Try.underlying3 k0
  obtain ⟨ne, ee, _, we⟩ := DataW.trod_int Try.underlying32 k1
  obtain ⟨nf, ef, _, wf⟩ := DataW.trod_int Try.underlying3 k2
  simp only [List.cons.injEq, and_true] at ea eb ec ed ee ef eg ei
  subst ea; subst eb; subst ec; subst ed; subst ee; subst ef; subst eg; subst ei
  have hb : ni < 18446744073709551616 := by
    simp [Lit.wf] at wi
    exact wi
  have hm := i64_of_wf wc
  exact ⟨⟨na, nb, nc, nd, ne, nf, ng, ni⟩, rfl, ⟨⟨hm.1, by have := hm.2; show nc < _; omega⟩, u64_of_wf wg, hb⟩⟩

theorem acts_of_trod {a : Option Addr} {len cap : Nat} {d : DataW H} {ps : List MemPlace} {ts : List TypeId} {ds : List (DataW H)} {j : Nat}
    (hsz : (DataW.weightsEach Try.prog ts ds).all (· ≤ reachBytes) = true) (ht : ts[j]? = some 22) (hd : ds[j]? = some d)
    (h : DataW.Trod enc Try.prog W base spare held 22 (.slice a len cap) d ps) : ∃ L, IsAcs W (.slice a len cap) L := by
  obtain ⟨fuel, hf⟩ := h
  rcases open_slice Try.underlying22 hf with ⟨hcs, _⟩ | ⟨x, l, c, m, n, D, Pl, hcs, _, hl, _, hmm, hx, hi⟩
  · simp [Value.cells] at hcs
    obtain ⟨rfl, rfl, rfl⟩ := hcs
    exact ⟨[], ⟨none, 0, rfl, by simp, fun h => absurd h (by simp)⟩, fun e he => by simp at he⟩
  · simp [Value.cells] at hcs
    obtain ⟨rfl, rfl, rfl⟩ := hcs
    obtain ⟨hx, _⟩ := Prod.mk.inj hx
    subst hx
    have hlm : len ≤ m := by rw [hmm]; split <;> omega
    have z := sized_slice hsz ht hd Try.underlying22
    rw [show Try.prog.bytesOf 37 = 64 by kernel_rfl] at z
    simp only [List.length_map, List.length_range] at z
    have hz : len ≤ 140737488351232 := by
      have := reachBytes_lt
      omega
    rw [show Try.prog.cellsOf 37 = 8 by kernel_rfl] at hi
    have each : ∀ i, i < len → ∃ e : Ac, W.cells? base (x.add (i * 8)) 8 = some (acC e) ∧ AOk e := fun i h => by
      obtain ⟨cs', h1, h2⟩ := hi i (by omega)
      obtain ⟨e, rfl, he⟩ := act_of_trod h2
      exact ⟨e, h1, he⟩
    obtain ⟨E, hE⟩ := choose_lt (α := Ac) (p := fun i e => W.cells? base (x.add (i * 8)) 8 = some (acC e) ∧ AOk e) each
    refine ⟨(List.range len).map E, ⟨some x, cap, by simp, by simpa using hz, fun h0 => ?_⟩, fun e he => ?_⟩
    · simp only [List.length_map, List.length_range] at h0
      have cell : ∀ i, i < len → ∀ j, j < 8 → W.cell? ((x.add (i * 8)).add j) = (acC (E i))[j]? := fun i h j hj => by
        obtain ⟨_, _, hcell⟩ := World.cells?_some (hE i h).1
        exact hcell j hj
      have hs : x.spot = none := by
        have := cell 0 h0 0 (by omega)
        simp only [Addr.add, Nat.zero_mul, if_true, World.cell?] at this
        cases e : x.spot with
        | none => rfl
        | some s =>
          rw [e] at this
          split at this <;> simp [acC] at this
      obtain ⟨g, o, s⟩ := x
      simp only at hs
      subst hs
      refine ⟨g, o, rfl, fun i h j hj => ?_⟩
      simp only [List.length_map, List.length_range] at h
      have := cell i h j hj
      rw [add_add, add_plain] at this
      rw [List.getElem_map, List.getElem_range, ← this]
      congr 2
      omega
    · obtain ⟨i, hi, rfl⟩ := List.mem_map.1 he
      exact (hE i (by simpa using hi)).2
end
theorem acts_row (a0 : Option Addr) (len0 cap0 : Nat) (z0 : List Ac) (w : World) (w0 : IsAcs w (.slice a0 len0 cap0) z0) :
    Calls Try.prog 3 #[.slice a0 len0 cap0] w fun e w' => e = .returned (.bool true) ∧ Below w.heap.size w w' := by
  refine (acts_law w0).mono ?_
  rintro e w' ⟨rfl, hk⟩
  exact ⟨rfl, hk.below⟩
end Go.Proofs.Ytojnmbpicmgcpaa
