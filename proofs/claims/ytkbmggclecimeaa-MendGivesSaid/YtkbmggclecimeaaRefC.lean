/- The document's Join: walk. -/
import Derived.Test.YtkbmggclecimeaaRefB
namespace Go.Proofs.Ytkbmggclecimeaa
open Go.RowKit Sh
set_option linter.unusedVariables false

set_option maxRecDepth 100000 in
set_option maxHeartbeats 4000000 in
theorem rjoin_any (va vb : Value) (a b : List Sp) (w : World) (ha : IsL w va a) (hb : IsL w vb b) (ra : Rng a) (rb : Rng b) (oa : Ok a) (ob : Ok b) (hsz : a.length + b.length ≤ 268435456) :
    Calls Try.prog 22 #[va, vb] w fun e w' => (∃ u out, e = .returned u ∧ IsL w' u out ∧ Ok out ∧ Rng out ∧ ∀ z, memB out z = (memB a z || memB b z)) ∧ Keep (fun _ => False) w w' := by
  have HA := Lib.hid ha
  have HB := Lib.hid hb
  have RA := Lib.hid ra
  have RB := Lib.hid rb
  have OA := Lib.hid oa
  have OB := Lib.hid ob
  have BA := Lib.hid (okB_true oa)
  have BB := Lib.hid (okB_true ob)
  obtain ⟨Aa, ca, rfl, _, hla, hA⟩ := ha.ex
  obtain ⟨Ab, cb, rfl, _, hlb, hB⟩ := hb.ex
  have EA := Lib.hid hA
  have EB := Lib.hid hB
  obtain ⟨i0, hi, hz0, hz1, hz2⟩ := info_parts info46
  have Hi := Lib.hid hi
  have Hz0 := Lib.hid hz0
  have Hz1 := Lib.hid hz1
  have Hz2 := Lib.hid hz2
  clear ha hb ra rb oa ob hA hB hi hz0 hz1 hz2
  go_enter Try.func22, Try.ntmps22
  go_wp2_with fail
  refine (rmay_any _ a _ HA.out RA.out).mono ?_
  rintro e w1 ⟨rfl, hk1⟩
  rw [BA.out]
  have HK1 := Lib.hid hk1
  clear hk1
  go_wp2_with fail
  refine (rmay_any _ b _ (HB.out.keep HK1.out) RB.out).mono ?_
  rintro e w2 ⟨rfl, hk2⟩
  rw [BB.out]
  have HK2 := Lib.hid (HK1.out.step hk2)
  clear hk2
  go_wp2_with fail
  go_loopg [5, 6, 7] (a.length + b.length) (fun q v5 v6 v7 wr => ∃ (i k : Nat) (l : List Sp), i ≤ a.length ∧ k ≤ b.length ∧ i + k + q = a.length + b.length ∧ v6 = .int .i64 i ∧ v7 = .int .i64 k ∧ Mrg a b i k l ∧ wr.ownsRow w.heap.size 46 2 v5 l.length (spCells l) ∧ Keep (fun _ => False) w wr)
  case atStart => exact ⟨0, 0, [], by omega, by omega, by omega, rfl, rfl, Mrg.nil a b, World.ownsRow_lit w2 #[] 0 HK2.out.size (by simp [maxLen]) rfl, HK2.out.alloc _⟩
  case round =>
    obtain ⟨i, k, l, hia, hkb, hq, rfl, rfl, hm, ho, hK⟩ := hrel
    have HQ := Lib.hid hq
    have HM := Lib.hid hm
    have HOW := Lib.hid ho
    have HK := Lib.hid hK
    obtain ⟨A3, c3, rfl⟩ := own_shape ho
    have hml := hm.len
    have HML := Lib.hid hml
    have hll : l.length ≤ 536870912 := by omega
    clear hq hm ho hK hml
    by_cases hi : i < a.length
    · have i1 : (i : Int) < (a.length : Int) := by omega
      have i2 : decide (i < a.length) = true := decide_eq_true hi
      have i3 : decide ((i : Int) < (a.length : Int)) = true := decide_eq_true i1
      obtain ⟨ga, oa, rfl, hca⟩ := EA.out (by omega)
      obtain ⟨x0, x1⟩ := hca i hi
      have x0 := HK.out.cell x0
      have x1 := HK.out.cell x1
      obtain ⟨f, hfx⟩ : ∃ f, f = (sp a i).f := ⟨_, rfl⟩
      obtain ⟨t, htx⟩ : ∃ t, t = (sp a i).t := ⟨_, rfl⟩
      rw [← hfx] at x0
      rw [← htx] at x1
      have SX := Lib.hid (show sp a i = ⟨f, t⟩ by rw [hfx, htx])
      clear hca hfx htx
      by_cases hk : k < b.length
      · have k1 : ¬ (b.length : Int) ≤ (k : Int) := by omega
        have k2 : decide (b.length ≤ k) = false := decide_eq_false (by omega)
        have k3 : decide ((b.length : Int) ≤ (k : Int)) = false := decide_eq_false k1
        have k4 : ¬ b.length ≤ k := by omega
        obtain ⟨gb, ob, rfl, hcb⟩ := EB.out (by omega)
        obtain ⟨z0, z1⟩ := hcb k hk
        have z0 := HK.out.cell z0
        have z1 := HK.out.cell z1
        obtain ⟨f2, hfz⟩ : ∃ f, f = (sp b k).f := ⟨_, rfl⟩
        obtain ⟨t2, htz⟩ : ∃ t, t = (sp b k).t := ⟨_, rfl⟩
        rw [← hfz] at z0
        rw [← htz] at z1
        have SZ := Lib.hid (show sp b k = ⟨f2, t2⟩ by rw [hfz, htz])
        clear hcb hfz htz
        by_cases hc : f ≤ f2
        · have t1 : decide (f ≤ f2) = true := decide_eq_true hc
          have ML : Hid (Mrg a b (i + 1) k (l ++ [(⟨f, t⟩ : Sp)])) := by
            have := HM.out.left OA.out RA.out hi (fun _ => by rw [SX.out, SZ.out]; exact hc)
            rwa [SX.out] at this
          have HOWd : Hid ((wr.alloc (.cells #[.int .u64 f, .int .u64 t] 46)).drew.ownsRow w.heap.size 46 2 (.slice A3 l.length c3) l.length (spCells l)) := HOW.out.alloc _
          have HKd : Hid (Keep (fun _ => False) w (wr.alloc (.cells #[.int .u64 f, .int .u64 t] 46)).drew) := (HK.out.alloc _).drew
          go_upto_region 7 with fail
          refine sb_lit (by kernel_rfl) (by kernel_rfl) ?_
          repeat (refine sb_step (fun K hK => ?_); go_simp; refine hK _ ?_; clear hK K)
          refine sb_nil ?_
          go_wp2_with (at_builtin; refine wpList_append_own_at _ rfl _ _ 43 rfl w.heap.size 46 i0 (.agg #[.int .u64 0, .int .u64 0]) 2 16 Try.underlying43 Hi.out Hz0.out Hz1.out Hz2.out rfl (by decide) _ _ _ rfl HOWd.out ⟨wr.heap.size, 0, none⟩ 1 1 (spCells [⟨f, t⟩]) rfl rfl ?c1 ?c2 ?c3 ?c4 ?c5 ?_)
          case c1 =>
            first
              | exact World.news_of_block (cs := #[.int .u64 f, .int .u64 t]) (t := 46) (fr := (0, 0)) (heap_alloc_new wr _)
              | (intro j u h; simpa [spCells] using h)
          case c2 => exact spCells_one _
          case c3 => simp only [maxLen]; omega
          case c4 => omega
          case c5 => have := HK.out.size; simp; omega
          intro v' w' hown hg _ _
          obtain ⟨A', c', rfl⟩ := own_shape hown
          have hK' : Keep (fun _ => False) w w' := HKd.out.grown hg (by
            intro k hk hlt
            have := (HOWd.out.lt k hk).1
            omega)
          have hlen : (l ++ [(⟨f, t⟩ : Sp)]).length = l.length + 1 := by simp
          have hown' : w'.ownsRow w.heap.size 46 2 (.slice A' (l.length + 1) c') (l ++ [(⟨f, t⟩ : Sp)]).length (spCells (l ++ [(⟨f, t⟩ : Sp)])) := by
            rw [hlen, spCells_append]; exact hown
          have HO' := Lib.hid hown'
          have HK' := Lib.hid hK'
          clear hown hown' hK' hg hlen
          go_wp2
          go_roundg (a.length + b.length - (i + 1 + k))
          case measure => have := HQ.out; omega
          case rel => exact ⟨i + 1, k, _, by omega, by omega, by have := HQ.out; omega, by go_num, rfl, ML.out, HO'.out, HK'.out⟩
        · have t1 : decide (f ≤ f2) = false := decide_eq_false hc
          have MR : Hid (Mrg a b i (k + 1) (l ++ [(⟨f2, t2⟩ : Sp)])) := by
            have := HM.out.right OB.out RB.out hk (fun _ => by rw [SX.out, SZ.out]; simp only; omega)
            rwa [SZ.out] at this
          have HOWd : Hid ((wr.alloc (.cells #[.int .u64 f2, .int .u64 t2] 46)).drew.ownsRow w.heap.size 46 2 (.slice A3 l.length c3) l.length (spCells l)) := HOW.out.alloc _
          have HKd : Hid (Keep (fun _ => False) w (wr.alloc (.cells #[.int .u64 f2, .int .u64 t2] 46)).drew) := (HK.out.alloc _).drew
          go_upto_region 7 with fail
          refine sb_lit (by kernel_rfl) (by kernel_rfl) ?_
          repeat (refine sb_step (fun K hK => ?_); go_simp; refine hK _ ?_; clear hK K)
          refine sb_nil ?_
          go_wp2_with (at_builtin; refine wpList_append_own_at _ rfl _ _ 43 rfl w.heap.size 46 i0 (.agg #[.int .u64 0, .int .u64 0]) 2 16 Try.underlying43 Hi.out Hz0.out Hz1.out Hz2.out rfl (by decide) _ _ _ rfl HOWd.out ⟨wr.heap.size, 0, none⟩ 1 1 (spCells [⟨f2, t2⟩]) rfl rfl ?c1 ?c2 ?c3 ?c4 ?c5 ?_)
          case c1 =>
            first
              | exact World.news_of_block (cs := #[.int .u64 f2, .int .u64 t2]) (t := 46) (fr := (0, 0)) (heap_alloc_new wr _)
              | (intro j u h; simpa [spCells] using h)
          case c2 => exact spCells_one _
          case c3 => simp only [maxLen]; omega
          case c4 => omega
          case c5 => have := HK.out.size; simp; omega
          intro v' w' hown hg _ _
          obtain ⟨A', c', rfl⟩ := own_shape hown
          have hK' : Keep (fun _ => False) w w' := HKd.out.grown hg (by
            intro k hk hlt
            have := (HOWd.out.lt k hk).1
            omega)
          have hlen : (l ++ [(⟨f2, t2⟩ : Sp)]).length = l.length + 1 := by simp
          have hown' : w'.ownsRow w.heap.size 46 2 (.slice A' (l.length + 1) c') (l ++ [(⟨f2, t2⟩ : Sp)]).length (spCells (l ++ [(⟨f2, t2⟩ : Sp)])) := by
            rw [hlen, spCells_append]; exact hown
          have HO' := Lib.hid hown'
          have HK' := Lib.hid hK'
          clear hown hown' hK' hg hlen
          go_wp2
          go_roundg (a.length + b.length - (i + k + 1))
          case measure => have := HQ.out; omega
          case rel => exact ⟨i, k + 1, _, by omega, by omega, by have := HQ.out; omega, rfl, by go_num, MR.out, HO'.out, HK'.out⟩
      · have k1 : (b.length : Int) ≤ (k : Int) := by omega
        have k2 : decide (b.length ≤ k) = true := decide_eq_true (by omega)
        have k3 : decide ((b.length : Int) ≤ (k : Int)) = true := decide_eq_true k1
        have k4 : b.length ≤ k := by omega
        have ML : Hid (Mrg a b (i + 1) k (l ++ [(⟨f, t⟩ : Sp)])) := by
          have := HM.out.left OA.out RA.out hi (fun h => absurd h hk)
          rwa [SX.out] at this
        have HOWd : Hid ((wr.alloc (.cells #[.int .u64 f, .int .u64 t] 46)).drew.ownsRow w.heap.size 46 2 (.slice A3 l.length c3) l.length (spCells l)) := HOW.out.alloc _
        have HKd : Hid (Keep (fun _ => False) w (wr.alloc (.cells #[.int .u64 f, .int .u64 t] 46)).drew) := (HK.out.alloc _).drew
        go_upto_region 7 with fail
        refine sb_lit (by kernel_rfl) (by kernel_rfl) ?_
        repeat (refine sb_step (fun K hK => ?_); go_simp; refine hK _ ?_; clear hK K)
        refine sb_nil ?_
        go_wp2_with (at_builtin; refine wpList_append_own_at _ rfl _ _ 43 rfl w.heap.size 46 i0 (.agg #[.int .u64 0, .int .u64 0]) 2 16 Try.underlying43 Hi.out Hz0.out Hz1.out Hz2.out rfl (by decide) _ _ _ rfl HOWd.out ⟨wr.heap.size, 0, none⟩ 1 1 (spCells [⟨f, t⟩]) rfl rfl ?c1 ?c2 ?c3 ?c4 ?c5 ?_)
        case c1 =>
          first
            | exact World.news_of_block (cs := #[.int .u64 f, .int .u64 t]) (t := 46) (fr := (0, 0)) (heap_alloc_new wr _)
            | (intro j u h; simpa [spCells] using h)
        case c2 => exact spCells_one _
        case c3 => simp only [maxLen]; omega
        case c4 => omega
        case c5 => have := HK.out.size; simp; omega
        intro v' w' hown hg _ _
        obtain ⟨A', c', rfl⟩ := own_shape hown
        have hK' : Keep (fun _ => False) w w' := HKd.out.grown hg (by
          intro k hk hlt
          have := (HOWd.out.lt k hk).1
          omega)
        have hlen : (l ++ [(⟨f, t⟩ : Sp)]).length = l.length + 1 := by simp
        have hown' : w'.ownsRow w.heap.size 46 2 (.slice A' (l.length + 1) c') (l ++ [(⟨f, t⟩ : Sp)]).length (spCells (l ++ [(⟨f, t⟩ : Sp)])) := by
          rw [hlen, spCells_append]; exact hown
        have HO' := Lib.hid hown'
        have HK' := Lib.hid hK'
        clear hown hown' hK' hg hlen
        go_wp2
        go_roundg (a.length + b.length - (i + 1 + k))
        case measure => have := HQ.out; omega
        case rel => exact ⟨i + 1, k, _, by omega, by omega, by have := HQ.out; omega, by go_num, rfl, ML.out, HO'.out, HK'.out⟩
    · have i1 : ¬ (i : Int) < (a.length : Int) := by omega
      have i2 : decide (i < a.length) = false := decide_eq_false hi
      have i3 : decide ((i : Int) < (a.length : Int)) = false := decide_eq_false i1
      by_cases hk : k < b.length
      · have k1 : ¬ (b.length : Int) ≤ (k : Int) := by omega
        have k2 : decide (b.length ≤ k) = false := decide_eq_false (by omega)
        have k3 : decide ((b.length : Int) ≤ (k : Int)) = false := decide_eq_false k1
        have k4 : ¬ b.length ≤ k := by omega
        have k5 : decide (k < b.length) = true := decide_eq_true hk
        have k6 : decide ((k : Int) < (b.length : Int)) = true := decide_eq_true (by omega)
        have k7 : (k : Int) < (b.length : Int) := by omega
        obtain ⟨gb, ob, rfl, hcb⟩ := EB.out (by omega)
        obtain ⟨z0, z1⟩ := hcb k hk
        have z0 := HK.out.cell z0
        have z1 := HK.out.cell z1
        obtain ⟨f2, hfz⟩ : ∃ f, f = (sp b k).f := ⟨_, rfl⟩
        obtain ⟨t2, htz⟩ : ∃ t, t = (sp b k).t := ⟨_, rfl⟩
        rw [← hfz] at z0
        rw [← htz] at z1
        have SZ := Lib.hid (show sp b k = ⟨f2, t2⟩ by rw [hfz, htz])
        clear hcb hfz htz
        have MR : Hid (Mrg a b i (k + 1) (l ++ [(⟨f2, t2⟩ : Sp)])) := by
          have := HM.out.right OB.out RB.out hk (fun h => absurd h hi)
          rwa [SZ.out] at this
        have HOWd : Hid ((wr.alloc (.cells #[.int .u64 f2, .int .u64 t2] 46)).drew.ownsRow w.heap.size 46 2 (.slice A3 l.length c3) l.length (spCells l)) := HOW.out.alloc _
        have HKd : Hid (Keep (fun _ => False) w (wr.alloc (.cells #[.int .u64 f2, .int .u64 t2] 46)).drew) := (HK.out.alloc _).drew
        go_upto_region 7 with fail
        refine sb_lit (by kernel_rfl) (by kernel_rfl) ?_
        repeat (refine sb_step (fun K hK => ?_); go_simp; refine hK _ ?_; clear hK K)
        refine sb_nil ?_
        go_wp2_with (at_builtin; refine wpList_append_own_at _ rfl _ _ 43 rfl w.heap.size 46 i0 (.agg #[.int .u64 0, .int .u64 0]) 2 16 Try.underlying43 Hi.out Hz0.out Hz1.out Hz2.out rfl (by decide) _ _ _ rfl HOWd.out ⟨wr.heap.size, 0, none⟩ 1 1 (spCells [⟨f2, t2⟩]) rfl rfl ?c1 ?c2 ?c3 ?c4 ?c5 ?_)
        case c1 =>
          first
            | exact World.news_of_block (cs := #[.int .u64 f2, .int .u64 t2]) (t := 46) (fr := (0, 0)) (heap_alloc_new wr _)
            | (intro j u h; simpa [spCells] using h)
        case c2 => exact spCells_one _
        case c3 => simp only [maxLen]; omega
        case c4 => omega
        case c5 => have := HK.out.size; simp; omega
        intro v' w' hown hg _ _
        obtain ⟨A', c', rfl⟩ := own_shape hown
        have hK' : Keep (fun _ => False) w w' := HKd.out.grown hg (by
          intro k hk hlt
          have := (HOWd.out.lt k hk).1
          omega)
        have hlen : (l ++ [(⟨f2, t2⟩ : Sp)]).length = l.length + 1 := by simp
        have hown' : w'.ownsRow w.heap.size 46 2 (.slice A' (l.length + 1) c') (l ++ [(⟨f2, t2⟩ : Sp)]).length (spCells (l ++ [(⟨f2, t2⟩ : Sp)])) := by
          rw [hlen, spCells_append]; exact hown
        have HO' := Lib.hid hown'
        have HK' := Lib.hid hK'
        clear hown hown' hK' hg hlen
        go_wp2
        go_roundg (a.length + b.length - (i + k + 1))
        case measure => have := HQ.out; omega
        case rel => exact ⟨i, k + 1, _, by omega, by omega, by have := HQ.out; omega, rfl, by go_num, MR.out, HO'.out, HK'.out⟩
      · have k5 : decide (k < b.length) = false := decide_eq_false hk
        have k6 : decide ((k : Int) < (b.length : Int)) = false := decide_eq_false (by omega)
        have k7 : ¬ (k : Int) < (b.length : Int) := by omega
        have hall : ∀ z, mem l z ↔ mem a z ∨ mem b z := fun z => by
          have := HM.out.mem z
          rwa [List.take_of_length_le (by omega), List.take_of_length_le (by omega)] at this
        have HALL := Lib.hid hall
        clear hall
        go_wp2_with fail
        refine (glued_any _ l _ (IsL.ofOwn (base := w.heap.size) HOW.out (by omega)) HM.out.rng HM.out.ris (by have := HML.out; omega)).mono ?_
        rintro e w3 ⟨⟨u, out, rfl, ho3, hg3⟩, hk3⟩
        have R1 : Hid (∃ u' out', Ending.returned u = .returned u' ∧ IsL w3 u' out' ∧ Ok out' ∧ Rng out' ∧ ∀ z, memB out' z = (memB a z || memB b z)) :=
          ⟨u, out, rfl, IsL.ofOwn ho3 (by have := hg3.len; omega), hg3.ok, hg3.rng, fun z => by
            have h1 := hg3.mem z
            rw [List.take_of_length_le (Nat.le_refl _), HALL.out] at h1
            rw [Bool.eq_iff_iff, Bool.or_eq_true, memB_iff, memB_iff, memB_iff]
            exact h1⟩
        have HK3 := Lib.hid (HK.out.step hk3)
        clear ho3 hg3 hk3
        go_wp2
        go_ret
        exact ⟨R1.out, HK3.out⟩

theorem rjoin_not1 {w : World} {va vb : Value} {a : List Sp} (ha : IsL w va a) (ra : Rng a) (hn : ¬ Ok a) :
    Calls Try.prog 22 #[va, vb] w fun e w' => e = .returned (.slice none 0 0) ∧ Keep (fun _ => False) w w' := by
  have HA := Lib.hid ha
  have RA := Lib.hid ra
  have HN := Lib.hid (okB_false hn)
  clear ha ra hn
  go_enter Try.func22, Try.ntmps22
  go_wp2_with fail
  refine (rmay_any va a _ HA.out RA.out).mono ?_
  rintro e w1 ⟨rfl, hk1⟩
  rw [HN.out]
  have HK1 := Lib.hid hk1
  clear hk1
  go_wp2
  go_ret
  exact ⟨rfl, HK1.out⟩
theorem rjoin_not2 {w : World} {va vb : Value} {a b : List Sp} (ha : IsL w va a) (ra : Rng a) (oa : Ok a) (hb : IsL w vb b) (rb : Rng b) (hn : ¬ Ok b) :
    Calls Try.prog 22 #[va, vb] w fun e w' => e = .returned (.slice none 0 0) ∧ Keep (fun _ => False) w w' := by
  have HA := Lib.hid ha
  have RA := Lib.hid ra
  have HB := Lib.hid hb
  have RB := Lib.hid rb
  have HO := Lib.hid (okB_true oa)
  have HN := Lib.hid (okB_false hn)
  clear ha ra hb rb oa hn
  go_enter Try.func22, Try.ntmps22
  go_wp2_with fail
  refine (rmay_any va a _ HA.out RA.out).mono ?_
  rintro e w1 ⟨rfl, hk1⟩
  rw [HO.out]
  have HK1 := Lib.hid hk1
  clear hk1
  go_wp2_with fail
  refine (rmay_any vb b _ (HB.out.keep HK1.out) RB.out).mono ?_
  rintro e w2 ⟨rfl, hk2⟩
  rw [HN.out]
  have HK2 := Lib.hid (HK1.out.step hk2)
  clear hk2
  go_wp2
  go_ret
  exact ⟨rfl, HK2.out⟩

end Go.Proofs.Ytkbmggclecimeaa
