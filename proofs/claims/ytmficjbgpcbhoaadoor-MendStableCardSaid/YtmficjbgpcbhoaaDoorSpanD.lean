/- Walks of spans: Same, in, Many. -/
import Derived.Test.YtmficjbgpcbhoaaDoorSpanC
namespace Go.Proofs.YtmficjbgpcbhoaaDoor
open Go.RowKit Sh
set_option linter.unusedVariables false
attribute [local irreducible] Go.wpStill

section
variable {P : Program} {d : Nat} {xs ys : Array Value} {f : Field} {fs : List Field} {a b : Value} {r s : Bool} {w : World}
theorem eqField_cons (hn : (f.name == "_") = false) (ha : (part f.type xs f.offset).run P w = .ok a w) (hb : (part f.type ys f.offset).run P w = .ok b w) (he : (Op.equalIn d f.type a b).run P w = .ok r w) (hr : (Op.eqFields d xs ys fs).run P w = .ok s w) : (Op.eqFields d xs ys (f :: fs)).run P w = .ok (r && s) w := by
  have hn' : f.name ≠ "_" := by simpa using hn
  rw [Op.eqFields]
  simp only [if_pos hn', Sem.run_bind, ha, hb, he, Result.andThen_ok]
  cases r
  · simp
  · simpa using hr
theorem eqField_nil : (Op.eqFields d xs ys []).run P w = .ok true w := by simp [Op.eqFields]
theorem eqAgg {t : TypeId} {fs : Array Field} (hu : P.underlying t = some (.struct fs)) (hp : P.stoodInHeld t = false) (h : (Op.eqFields d xs ys fs.toList).run P w = .ok r w) : (Op.equalIn (d + 1) t (.agg xs) (.agg ys)).run P w = .ok r w := by
  have hf : P.fieldsOf t = fs := by simp [Program.fieldsOf, hu]
  rw [run_equalIn_struct (P := P) w d t xs ys (by rw [hf]; exact hu) hp, hf]
  exact h
end

theorem eq46 (d : Nat) (w : World) (x0 x1 y0 y1 : Int) : (Op.equalIn (d + 2) 36 (.agg #[.int .u64 x0, .int .u64 x1]) (.agg #[.int .u64 y0, .int .u64 y1])).run Tryd.prog w = .ok (x0 == y0 && (x1 == y1 && true)) w := by
  refine eqAgg Tryd.underlying36 (by kernel_rfl) ?_
  refine eqField_cons (by rfl) (by go_simp; rfl) (by go_simp; rfl) (by go_simp) ?_
  refine eqField_cons (by rfl) (by go_simp; rfl) (by go_simp; rfl) (by go_simp) ?_
  exact eqField_nil

theorem ne46 (x y : Sp) (w : World) : (binOp .neq 36 (.agg #[.int .u64 x.f, .int .u64 x.t]) (.agg #[.int .u64 y.f, .int .u64 y.t])).run Tryd.prog w = .ok (.bool (!decide (x = y))) w := by
  have h := eq46 9998 w x.f x.t y.f y.t
  have e : (x.f == y.f && (x.t == y.t && true)) = decide (x = y) := by
    rw [Bool.eq_iff_iff]
    cases x; cases y
    simp
  rw [e] at h
  simp only [binOp, Op.equal, Op.maxDepth, Sem.run_bind, h, Result.andThen_ok]
  rfl

set_option maxHeartbeats 1000000 in
theorem same_any (va vb : Value) (a b : List Sp) (w : World) (ha : IsL w va a) (hb : IsL w vb b) :
    Calls Tryd.prog 9 #[va, vb] w fun e w' => e = .returned (.bool (decide (a = b))) ∧ Keep (fun _ => False) w w' := by
  obtain ⟨A, ca, rfl, hca, hla, hA⟩ := ha.ex
  obtain ⟨B, cb, rfl, hcb, hlb, hB⟩ := hb.ex
  have HA := Lib.hid hA
  have HB := Lib.hid hB
  clear ha hb hA hB
  by_cases hl : a.length = b.length
  · have el : ((a.length : Int) != (b.length : Int)) = false := by simp; omega
    have HL := Lib.hid hl
    clear hl
    go_enter Tryd.func9, Tryd.ntmps9
    go_wp2_with fail
    go_loopg [5] a.length (fun q u wr => ∃ i : Nat, i + q = a.length ∧ u = .int .i64 i ∧ (∀ k, k < i → sp a k = sp b k) ∧ Keep (fun _ => False) w wr)
    case atStart => exact ⟨0, by omega, rfl, fun k hk => by omega, Keep.refl _ w⟩
    case round =>
      obtain ⟨i, hq, rfl, hs, hK⟩ := hrel
      have HS := Lib.hid hs
      have HK := Lib.hid hK
      have HQ := Lib.hid hq
      clear hs hK hq
      by_cases hlt : i < a.length
      · have hltb : i < b.length := by rw [← HL.out]; exact hlt
        obtain ⟨ga, oa, rfl, hac⟩ := HA.out (by omega)
        obtain ⟨gb, ob, rfl, hbc⟩ := HB.out (by omega)
        obtain ⟨x0, x1⟩ := hac i hlt
        obtain ⟨y0, y1⟩ := hbc i hltb
        have x0 := HK.out.cell x0
        have x1 := HK.out.cell x1
        have y0 := HK.out.cell y0
        have y1 := HK.out.cell y1
        have hb0 : 0 ≤ (i : Int) := by omega
        have hb1 : (i : Int) < (a.length : Int) := by omega
        have hb2 : (i : Int) < (b.length : Int) := by omega
        have hne := ne46 (sp a i) (sp b i)
        clear hac hbc
        by_cases e : sp a i = sp b i
        · have hd : (!decide (sp a i = sp b i)) = false := by simp [e]
          rw [hd] at hne
          have HE := Lib.hid e
          clear hd e
          go_wp2_with fail
          refine still_lit (by kernel_rfl) (by kernel_rfl) ?_
          repeat still_step
          refine wpStill_nil ?_
          clear hne
          go_wp2
          go_roundg (a.length - (i + 1))
          case measure => have := HQ.out; omega
          case rel =>
            refine ⟨i + 1, by omega, by go_num, fun k hk => ?_, HK.out.drew⟩
            by_cases ek : k = i
            · subst ek; exact HE.out
            · exact HS.out k (by omega)
        · have hd : (!decide (sp a i = sp b i)) = true := by simp [e]
          rw [hd] at hne
          have hab : decide (a = b) = false := decide_eq_false (fun h => e (by rw [h]))
          have HAB := Lib.hid hab
          clear hd e hab
          go_wp2_with fail
          refine still_lit (by kernel_rfl) (by kernel_rfl) ?_
          repeat still_step
          refine wpStill_nil ?_
          clear hne
          go_wp2
          go_ret
          exact ⟨by rw [HAB.out]; rfl, HK.out.drew⟩
      · have hab : decide (a = b) = true := decide_eq_true (by
          refine List.ext_getElem HL.out fun k h1 h2 => ?_
          have := HS.out k (by have := HQ.out; omega)
          rwa [sp_of h1, sp_of h2] at this)
        have HAB := Lib.hid hab
        clear hab
        go_wp2
        go_ret
        exact ⟨by rw [HAB.out]; rfl, HK.out⟩
  · have el : ((a.length : Int) != (b.length : Int)) = true := by rw [bne_iff_ne]; omega
    have hab : decide (a = b) = false := decide_eq_false (fun h => hl (by rw [h]))
    have HAB := Lib.hid hab
    clear hab hl
    go_enter Tryd.func9, Tryd.ntmps9
    go_wp2
    go_ret
    exact ⟨by rw [HAB.out]; rfl, Keep.refl _ w⟩

/-- A slice of bytes that is only read. -/
structure IsB (w : World) (v : Value) (l : List Int) : Prop where
  ex : ∃ A c, v = .slice A l.length c ∧ l.length ≤ c ∧ l.length ≤ 140737488351232 ∧ (0 < l.length → ∃ g o, A = some ⟨g, o, none⟩ ∧ ∀ i, i < l.length → w.cell? ⟨g, o + i, none⟩ = some (.int .u8 (l.getD i 0)))
  rng : ∀ i, i < l.length → 0 ≤ l.getD i 0 ∧ l.getD i 0 ≤ 255
theorem IsB.keep {w w' : World} {v : Value} {l : List Int} (h : IsB w v l) (k : Keep (fun _ => False) w w') : IsB w' v l := by
  obtain ⟨A, c, h1, h2, h3, h4⟩ := h.ex
  refine ⟨⟨A, c, h1, h2, h3, fun h0 => ?_⟩, h.rng⟩
  obtain ⟨g, o, e, hc⟩ := h4 h0
  exact ⟨g, o, e, fun i hi => k.cell (hc i hi)⟩

theorem getD_mem {l : List Int} {i : Nat} (h : i < l.length) : l.getD i 0 ∈ l := by
  have : l.getD i 0 = l[i] := by simp [h]
  rw [this]; exact List.getElem_mem h

end Go.Proofs.YtmficjbgpcbhoaaDoor
