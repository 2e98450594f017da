/- The document's Minus: walk. -/
import Derived.Test.YtkbmggclecimeaaTellD
namespace Go.Proofs.Ytkbmggclecimeaa
open Go.RowKit Sh
set_option linter.unusedVariables false

theorem own_keep {w w' : World} {base : Nat} {e : TypeId} {size : Nat} {v : Value} {n : Nat} {xs : List Value} (h : w.ownsRow base e size v n xs) (k : Keep (fun _ => False) w w') : w'.ownsRow base e size v n xs := by
  obtain ⟨h1, h2⟩ := h
  refine ⟨h1, ?_⟩
  rcases h2 with h2 | ⟨g, cap, cur, hv, hg, hh, r⟩
  · exact .inl h2
  · exact .inr ⟨g, cap, cur, hv, hg, k.old hh (fun h => h), r⟩
theorem isl_read {w : World} {ad : Addr} {c n : Nat} {l : List Sp} (h : IsL w (.slice (some ad) n c) l) : ∀ j u, (spCells l)[j]? = some u → w.cell? (ad.add j) = some u := by
  obtain ⟨A, c', e, _, _, hA⟩ := h.ex
  injection e with e1 e2 e3
  subst e1
  by_cases h0 : 0 < l.length
  · obtain ⟨g, o, e, hc⟩ := hA h0
    injection e with e
    subst e
    exact read_cells hc
  · intro j u h
    have : l = [] := List.eq_nil_of_length_eq_zero (by omega)
    subst this
    simp [spCells] at h

theorem rminus_not {w : World} {va vb : Value} {a b : List Sp} (ha : IsL w va a) (ra : Rng a) (hb : IsL w vb b) (rb : Rng b) (hn : ¬ (Ok a ∧ Ok b)) :
    Calls Try.prog 38 #[va, vb] w fun e w' => e = .returned (.slice none 0 0) ∧ Keep (fun _ => False) w w' := by
  have HA := Lib.hid ha
  have RA := Lib.hid ra
  have HB := Lib.hid hb
  have RB := Lib.hid rb
  by_cases oa : Ok a
  · have HO := Lib.hid (okB_true oa)
    have HN := Lib.hid (okB_false (fun h => hn ⟨oa, h⟩ : ¬ Ok b))
    clear ha ra hb rb oa hn
    go_enter Try.func38, Try.ntmps38
    go_wp2_with fail
    refine (rmay_any va a _ HA.out RA.out).mono ?_
    rintro e w1 ⟨rfl, hk1⟩
    rw [HO.out]
    have HK1 := Lib.hid hk1
    clear hk1
    go_wp2_with fail
    refine (rmay_any vb b _ (HB.out.keep HK1.out) RB.out).mono ?_
    rintro e w2 ⟨rfl, hk2⟩
    rw [HN.out]
    have HK2 := Lib.hid (HK1.out.step hk2)
    clear hk2
    go_wp2
    go_ret
    exact ⟨rfl, HK2.out⟩
  · have HN := Lib.hid (okB_false oa)
    clear ha ra hb rb oa hn
    go_enter Try.func38, Try.ntmps38
    go_wp2_with fail
    refine (rmay_any va a _ HA.out RA.out).mono ?_
    rintro e w1 ⟨rfl, hk1⟩
    rw [HN.out]
    have HK1 := Lib.hid hk1
    clear hk1
    go_wp2
    go_ret
    exact ⟨rfl, HK1.out⟩

set_option maxRecDepth 100000 in
set_option maxHeartbeats 4000000 in
theorem rminus_ok {w : World} {va vb : Value} {a b : List Sp} (ha : IsL w va a) (hb : IsL w vb b) (ra : Rng a) (rb : Rng b) (oa : Ok a) (ob : Ok b) (hsa : a.length ≤ 1000) (hsb : b.length ≤ 1000) :
    Calls Try.prog 38 #[va, vb] w fun e w' => (∃ u out, e = .returned u ∧ IsL w' u out ∧ Ok out ∧ Rng out ∧ ∀ z, mem out z ↔ mem a z ∧ ¬ mem b z) ∧ Keep (fun _ => False) w w' := by
  have HA := Lib.hid ha
  have HB := Lib.hid hb
  have RA := Lib.hid ra
  have RB := Lib.hid rb
  have OA := Lib.hid oa
  have OB := Lib.hid ob
  have BA := Lib.hid (okB_true oa)
  have BB := Lib.hid (okB_true ob)
  obtain ⟨Ab, cb, rfl, _, hlb, hB⟩ := hb.ex
  have EB := Lib.hid hB
  obtain ⟨i0, hi, hz0, hz1, hz2⟩ := info_parts info46
  have Hi := Lib.hid hi
  have Hz0 := Lib.hid hz0
  have Hz1 := Lib.hid hz1
  have Hz2 := Lib.hid hz2
  clear ha hb ra rb oa ob hB hi hz0 hz1 hz2
  go_enter Try.func38, Try.ntmps38
  go_wp2_with fail
  refine (rmay_any _ a _ HA.out RA.out).mono ?_
  rintro e w1 ⟨rfl, hk1⟩
  rw [BA.out]
  have HK1 := Lib.hid hk1
  clear hk1
  go_wp2_with fail
  refine (rmay_any _ b _ (HB.out.keep HK1.out) RB.out).mono ?_
  rintro e w2 ⟨rfl, hk2⟩
  rw [BB.out]
  have HK2 := Lib.hid (HK1.out.step hk2)
  clear hk2
  go_wp2_with fail
  go_loopg [5, 6] b.length (fun q v5 v6 wr => ∃ (k : Nat) (l : List Sp), k + q = b.length ∧ v6 = .int .i64 k ∧ IsL wr v5 l ∧ Ok l ∧ Rng l ∧ l.length ≤ a.length + k ∧ (∀ z, mem l z ↔ mem a z ∧ ¬ mem (b.take k) z) ∧ Keep (fun _ => False) w wr)
  case atStart => exact ⟨0, a, by omega, rfl, HA.out.keep HK2.out, OA.out, RA.out, by omega, fun z => by simp [mem_nil], HK2.out⟩
  case round =>
    obtain ⟨k, l, hq, rfl, hl, ol, rl, hll, hml, hK⟩ := hrel
    have HQ := Lib.hid hq
    have HL := Lib.hid hl
    have OL := Lib.hid ol
    have RL := Lib.hid rl
    have HML := Lib.hid hml
    have HK := Lib.hid hK
    obtain ⟨A5, c5, rfl, _, _, hA5⟩ := hl.ex
    have E5 := Lib.hid hA5
    clear hq hl ol rl hml hK hA5
    by_cases hk : k < b.length
    · obtain ⟨gb, ob, rfl, hcb⟩ := EB.out (by omega)
      obtain ⟨z0, z1⟩ := hcb k hk
      have z0 := HK.out.cell z0
      have z1 := HK.out.cell z1
      have hyo := OB.out k hk
      have hyr := RB.out k hk
      obtain ⟨y0, hy0⟩ : ∃ y, y = (sp b k).f := ⟨_, rfl⟩
      obtain ⟨y1, hy1⟩ : ∃ y, y = (sp b k).t := ⟨_, rfl⟩
      rw [← hy0] at z0 hyo hyr
      rw [← hy1] at z1 hyo hyr
      have SY := Lib.hid (show sp b k = ⟨y0, y1⟩ by rw [hy0, hy1])
      have HY : Hid (0 ≤ y0 ∧ y0 ≤ y1 ∧ y1 < 18446744073709551615) := ⟨hyr.1, hyo.1, hyo.2.1⟩
      have Z0 := Lib.hid z0
      have Z1 := Lib.hid z1
      clear hcb hy0 hy1 hyo hyr z0 z1
      go_wp2_with fail
      obtain ⟨wo, rfl⟩ : ∃ wo : World, wo = wr := ⟨_, rfl⟩
      go_loopg [7, 8] l.length (fun q v7 v8 wi => ∃ (i : Nat) (out : List Sp), i + q = l.length ∧ v8 = .int .i64 i ∧ Off l ⟨y0, y1⟩ i out ∧ wi.ownsRow wo.heap.size 46 2 v7 out.length (spCells out) ∧ Keep (fun _ => False) wo wi)
      case atStart => exact ⟨0, [], by omega, rfl, Off.nil _ _, World.ownsRow_lit wo #[] 0 (Nat.le_refl _) (by simp [maxLen]) rfl, (Keep.refl _ wo).alloc _⟩
      case round =>
        obtain ⟨i, out, hqi, rfl, hoff, how, hKi⟩ := hrel
        have HQI := Lib.hid hqi
        have HOFF := Lib.hid hoff
        have HOW := Lib.hid how
        have HKI := Lib.hid hKi
        obtain ⟨A7, c7, rfl⟩ := own_shape how
        have hol : out.length ≤ l.length + 1 := by have := hoff.len; omega
        clear hqi hoff how hKi
        by_cases hi : i < l.length
        · obtain ⟨gl, ol, rfl, hcl⟩ := E5.out (by omega)
          obtain ⟨x0c, x1c⟩ := hcl i hi
          have hxo := OL.out i hi
          have hxr := RL.out i hi
          obtain ⟨x0, hx0⟩ : ∃ y, y = (sp l i).f := ⟨_, rfl⟩
          obtain ⟨x1, hx1⟩ : ∃ y, y = (sp l i).t := ⟨_, rfl⟩
          rw [← hx0] at x0c hxo hxr
          rw [← hx1] at x1c hxo hxr
          have SX := Lib.hid (show sp l i = ⟨x0, x1⟩ by rw [hx0, hx1])
          have HX : Hid (0 ≤ x0 ∧ x0 ≤ x1 ∧ x1 < 18446744073709551615) := ⟨hxr.1, hxo.1, hxo.2.1⟩
          have CC : Hid (∀ W, Keep (fun _ => False) wo W → W.cell? ⟨gl, ol + i * 2, none⟩ = some (.int .u64 x0) ∧ W.cell? ⟨gl, ol + i * 2 + 1, none⟩ = some (.int .u64 x1) ∧ W.cell? ⟨gb, ob + k * 2, none⟩ = some (.int .u64 y0) ∧ W.cell? ⟨gb, ob + k * 2 + 1, none⟩ = some (.int .u64 y1)) := fun W kk => ⟨kk.cell x0c, kk.cell x1c, kk.cell Z0.out, kk.cell Z1.out⟩
          have CI : Hid (CutIs (sp l i) ⟨y0, y1⟩ (cutL ⟨x0, x1⟩ ⟨y0, y1⟩)) := by
            have := cut_is (sp l i) ⟨y0, y1⟩ (by rw [SX.out]; exact ⟨HX.out.2.1, HX.out.2.2⟩) ⟨HY.out.2.1, HY.out.2.2⟩ (by rw [SX.out]; exact HX.out.1) HY.out.1
            rwa [SX.out] at this ⊢
          have hoffn := HOFF.out.next OL.out hi HY.out.2.1 CI.out
          have hpl : (cutL ⟨x0, x1⟩ ⟨y0, y1⟩).length ≤ 2 := by have := CI.out.len; omega
          obtain ⟨p, hp⟩ : ∃ p, p = cutL ⟨x0, x1⟩ ⟨y0, y1⟩ := ⟨_, rfl⟩
          rw [← hp] at hoffn hpl
          have CG : Hid (∀ W, Calls Try.prog 57 #[.agg #[.int .u64 x0, .int .u64 x1], .agg #[.int .u64 y0, .int .u64 y1]] W fun e w' => (∃ ad c, e = .returned (.slice (some ad) p.length c) ∧ IsL w' (.slice (some ad) p.length c) p) ∧ Keep (fun _ => False) W w') := fun W => by rw [hp]; exact cut_gen W x0 x1 y0 y1 HX.out HY.out
          have HON := Lib.hid hoffn
          have HKD : Hid (Keep (fun _ => False) wo wr.drew) := HKI.out.drew
          have HOD : Hid (wr.drew.ownsRow wo.heap.size 46 2 (.slice A7 out.length c7) out.length (spCells out)) := HOW.out
          obtain ⟨f0, f1, f2, f3⟩ := CC.out wr.drew HKD.out
          obtain ⟨e0, e1, e2, e3⟩ := CC.out wr HKI.out
          clear hcl hx0 hx1 hxo hxr hp hoffn x0c x1c
          go_upto_region 11 with fail
          go_region_held3 (fun W => W.cell? ⟨gl, ol + i * 2, none⟩ = some (.int .u64 x0) ∧ W.cell? ⟨gl, ol + i * 2 + 1, none⟩ = some (.int .u64 x1) ∧ W.cell? ⟨gb, ob + k * 2, none⟩ = some (.int .u64 y0) ∧ W.cell? ⟨gb, ob + k * 2 + 1, none⟩ = some (.int .u64 y1)) (go_keep)
            (first
              | (go_at_call 57; refine (CG.out _).mono ?_; rintro e w5 ⟨⟨ad, cc, rfl, hp5⟩, hk5⟩; obtain ⟨g0, g1, g2, g3⟩ := CC.out w5 (HKD.out.step hk5))
              | (refine step_append_own (by rfl) _ _ _ (by rfl) wo.heap.size 46 i0 (.agg #[.int .u64 0, .int .u64 0]) 2 16 Try.underlying43 Hi.out Hz0.out Hz1.out Hz2.out rfl (by decide) (.slice A7 out.length c7) out.length (spCells out) (by rfl) (own_keep HOD.out hk5) ad p.length cc (spCells p) (by rfl) (spCells_length p) (isl_read hp5) (spCells_one p) (by simp only [maxLen]; omega) (by omega) (HKD.out.step hk5).size ?_; intro v6 w6 hown6 hg6; have hk6 : Keep (fun _ => False) wo w6 := (HKD.out.step hk5).grown hg6 (fun k hk hlt => by have := (HOD.out.lt k hk).1; omega); obtain ⟨j0, j1, j2, j3⟩ := CC.out w6 hk6))
          have hown7 : w6.ownsRow wo.heap.size 46 2 v6 (out ++ p).length (spCells (out ++ p)) := by rw [List.length_append, spCells_append]; exact hown6
          obtain ⟨A8, c8, rfl⟩ := own_shape hown7
          have HO7 := Lib.hid hown7
          have HK6 := Lib.hid hk6
          clear hown6 hown7 hk6 hg6 hp5 hk5
          go_wp2
          go_roundg (l.length - (i + 1))
          case measure => have := HQI.out; omega
          case rel => exact ⟨i + 1, out ++ p, by omega, by go_num, HON.out, HO7.out, HK6.out⟩
        · obtain rfl : l.length = i := by have := HQI.out; omega
          have HFIN := HOFF.out
          have M1 : Hid (∀ z, mem out z ↔ mem a z ∧ ¬ mem (b.take (k + 1)) z) := fun z => by
            rw [HFIN.mem, List.take_of_length_le (Nat.le_refl _), HML.out, take_succ_sp hk, mem_snoc', SY.out]
            constructor
            · rintro ⟨⟨h1, h2⟩, h3⟩
              exact ⟨h1, fun h => h.elim h2 h3⟩
            · rintro ⟨h1, h2⟩
              exact ⟨⟨h1, fun h => h2 (.inl h)⟩, fun h => h2 (.inr h)⟩
          have HO := Lib.hid (IsL.ofOwn HOW.out (by omega))
          have OO := Lib.hid HFIN.ok
          have RO := Lib.hid HFIN.rng
          have HKN := Lib.hid (HK.out.step HKI.out)
          clear HFIN
          go_wp2
          go_roundg (b.length - (k + 1))
          case measure => have := HQ.out; omega
          case rel => exact ⟨k + 1, out, by omega, by go_num, HO.out, OO.out, RO.out, by omega, M1.out, HKN.out⟩
    · obtain rfl : b.length = k := by have := HQ.out; omega
      have R1 : Hid (∀ z, mem l z ↔ mem a z ∧ ¬ mem b z) := fun z => by
        have := HML.out z
        rwa [List.take_of_length_le (Nat.le_refl _)] at this
      go_wp2
      go_ret
      exact ⟨⟨_, l, rfl, HL.out, OL.out, RL.out, R1.out⟩, HK.out⟩

theorem rminus_gen {w : World} {va vb : Value} {a b : List Sp} (ha : IsL w va a) (hb : IsL w vb b) (ra : Rng a) (rb : Rng b) (hsa : a.length ≤ 1000) (hsb : b.length ≤ 1000) :
    Calls Try.prog 38 #[va, vb] w fun e w' => (∃ u out, e = .returned u ∧ IsL w' u out ∧ BothIs a b (fun z => memB a z && !memB b z) out) ∧ Keep (fun _ => False) w w' := by
  by_cases c : Ok a ∧ Ok b
  · refine (rminus_ok ha hb ra rb c.1 c.2 hsa hsb).mono ?_
    rintro e w' ⟨⟨u, out, rfl, h1, h2, h3, h4⟩, hk⟩
    refine ⟨⟨u, out, rfl, h1, fun _ => ⟨h2, h3, fun z => ?_⟩, fun d => absurd c d⟩, hk⟩
    rw [Bool.eq_iff_iff, memB_iff, h4, Bool.and_eq_true, memB_iff, Bool.not_eq_true', memB_false]
  · refine (rminus_not ha ra hb rb c).mono ?_
    rintro e w' ⟨rfl, hk⟩
    exact ⟨⟨_, [], rfl, IsL.nil _, fun d => absurd d c, fun _ => rfl⟩, hk⟩

end Go.Proofs.Ytkbmggclecimeaa
