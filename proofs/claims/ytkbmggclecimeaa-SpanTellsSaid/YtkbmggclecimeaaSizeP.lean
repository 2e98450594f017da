/- A row that is a slice of pairs of words, read as spans; SpanTells, as the row asks for it. -/
import Derived.Test.YtkbmggclecimeaaSizeM
import Derived.Test.YtkbmggclecimeaaTellL
import Derived.Deep.SlicePairs
namespace Go.Proofs.Ytkbmggclecimeaa
open Go.RowKit Go.ChangeShapes Go.WideShapes Go.Deep
set_option linter.unusedVariables false
def vInt : Value → Int
  | .int _ n => n
  | _ => 0
theorem u64_of_wf {n : Int} (h : (Lit.int .u64 n).wf = true) : 0 ≤ n ∧ n < 18446744073709551616 := by
  simp [Lit.wf] at h
  simp only [show IntKind.u64.min = 0 from rfl, show IntKind.u64.max = 18446744073709551615 from by decide] at h
  omega
theorem isl_of_trod {H : Type} {enc : TypeId × Value → H} {P : Program} {W : World} {base : Nat} {spare : Nat → Bool} {held : Bool} {t e : TypeId} {f0 f1 : Field} {a : Option Addr} {len cap : Nat} {d : DataW H} {ps : List MemPlace} {ts : List TypeId} {ds : List (DataW H)} {j : Nat}
    (hsz : (DataW.weightsEach P ts ds).all (· ≤ reachBytes) = true) (ht : ts[j]? = some t) (hd : ds[j]? = some d) (hu : P.underlying t = some (.slice e)) (he : P.underlying e = some (.struct #[f0, f1]))
    (ce : P.cellsOf e = 2) (o0 : f0.offset = 0) (o1 : f1.offset = 1) (c0 : P.cellsOf f0.type = 1) (c1 : P.cellsOf f1.type = 1) (u0 : P.underlying f0.type = some (.int .u64)) (u1 : P.underlying f1.type = some (.int .u64)) (hB : P.bytesOf e = 16)
    (h : DataW.Trod enc P W base spare held t (.slice a len cap) d ps) : ∃ l, IsL W (.slice a len cap) l ∧ Rng l := by
  obtain ⟨fuel, hf⟩ := h
  rcases open_slice_pairs hu he ce o0 o1 c0 c1 hf with ⟨hcs, _⟩ | ⟨x, l, c, m, n, V0, V1, D0, D1, P0, P1, hcs, _, hl, _, hmm, hx, hi⟩
  · simp [Value.cells] at hcs
    obtain ⟨rfl, rfl, rfl⟩ := hcs
    exact ⟨[], IsL.nil W, fun i hi => by simp at hi⟩
  · simp [Value.cells] at hcs
    obtain ⟨rfl, rfl, rfl⟩ := hcs
    obtain ⟨hx, _⟩ := Prod.mk.inj hx
    subst hx
    have hlm : len ≤ m := by rw [hmm]; split <;> omega
    have z := sized_slice hsz ht hd hu
    rw [hB] at z
    simp only [List.length_map, List.length_range] at z
    have hz : len ≤ 17592186044416 := by
      have := reachBytes_lt
      omega
    have each : ∀ i, i < len → W.cell? (x.add (i * 2)) = some (.int .u64 (vInt (V0 i))) ∧ W.cell? (x.add (i * 2 + 1)) = some (.int .u64 (vInt (V1 i))) ∧ (Lit.int .u64 (vInt (V0 i))).wf = true ∧ (Lit.int .u64 (vInt (V1 i))).wf = true := fun i h => by
      obtain ⟨h0, h1, t0, t1⟩ := hi i (by omega)
      obtain ⟨n0, e0, _, w0⟩ := DataW.trod_int u0 t0
      obtain ⟨n1, e1, _, w1⟩ := DataW.trod_int u1 t1
      injection e0 with e0
      injection e1 with e1
      rw [e0] at h0 ⊢
      rw [e1] at h1 ⊢
      exact ⟨h0, h1, w0, w1⟩
    have hsp : ∀ i, i < len → sp ((List.range len).map fun i => (⟨vInt (V0 i), vInt (V1 i)⟩ : Sp)) i = ⟨vInt (V0 i), vInt (V1 i)⟩ := fun i h => by
      simp [sp, h]
    refine ⟨(List.range len).map fun i => ⟨vInt (V0 i), vInt (V1 i)⟩, ⟨some x, cap, by simp, by simpa using hl, by simpa using hz, fun h0 => ?_⟩, fun i h => ?_⟩
    · simp only [List.length_map, List.length_range] at h0
      have hs : x.spot = none := by
        have := (each 0 h0).1
        simp only [Addr.add, Nat.zero_mul, if_true, World.cell?] at this
        cases e : x.spot with
        | none => rfl
        | some s =>
          rw [e] at this
          split at this <;> simp at this
      obtain ⟨g, o, s⟩ := x
      simp only at hs
      subst hs
      refine ⟨g, o, rfl, fun i h => ?_⟩
      simp only [List.length_map, List.length_range] at h
      rw [hsp i h]
      obtain ⟨a1, a2, _, _⟩ := each i h
      rw [add_plain] at a1 a2
      exact ⟨a1, a2⟩
    · simp only [List.length_map, List.length_range] at h
      rw [hsp i h]
      obtain ⟨_, _, w1, w2⟩ := each i h
      have := u64_of_wf w1
      have := u64_of_wf w2
      simp only
      omega
theorem tells_row (a0 : Option Addr) (len0 cap0 : Nat) (z0 : List Sp) (a1 : Option Addr) (len1 cap1 : Nat) (z1 : List Sp) (a2 : Int) (w : World) (w0 : IsL w (.slice a0 len0 cap0) z0) (y0 : Rng z0) (w1 : IsL w (.slice a1 len1 cap1) z1) (y1 : Rng z1) (w2 : (Lit.int .u64 a2).wf = true) :
    Calls Try.prog 9 #[.slice a0 len0 cap0, .slice a1 len1 cap1, .int .u64 a2] w fun e w' => e = .returned (.bool true) ∧ Below w.heap.size w w' := by
  obtain ⟨r0, r1⟩ := u64_of_wf w2
  refine (tells_walk w0 w1 y0 y1 a2 r0 r1).mono ?_
  rintro e w' ⟨rfl, hk⟩
  exact ⟨rfl, hk.below⟩
end Go.Proofs.Ytkbmggclecimeaa
