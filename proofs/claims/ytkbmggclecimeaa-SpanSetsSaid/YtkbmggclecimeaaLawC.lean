/- The law SpanSets, walked. -/
import Derived.Test.YtkbmggclecimeaaSpanG
namespace Go.Proofs.Ytkbmggclecimeaa
open Go.RowKit Sh
set_option linter.unusedVariables false

theorem info5 : (Try.prog.info? 5).map (fun i => (i.zero, i.size, i.bytes)) = some (some (.int .u8 0), 1, 1) := by kernel_rfl

def bCells (l : List Int) : List Value := l.map (fun n => .int .u8 n)
theorem bCells_one (l : List Int) : ∀ u ∈ bCells l, u.oneCell' = true := by
  intro u hu
  obtain ⟨n, _, rfl⟩ := List.mem_map.1 hu
  rfl
theorem IsB.ofOwn {w : World} {base : Nat} {v : Value} {l : List Int} (h : w.ownsRow base 5 1 v l.length (bCells l)) (hl : l.length ≤ 140737488351232) (hr : ∀ i, i < l.length → 0 ≤ l.getD i 0 ∧ l.getD i 0 ≤ 255) : IsB w v l := by
  rcases h.2 with ⟨rfl, h0⟩ | ⟨g, cap, cur, rfl, hb, hg, hn, hc, hs, ht⟩
  · exact ⟨⟨none, 0, by rw [h0], by omega, hl, fun h1 => by omega⟩, hr⟩
  · refine ⟨⟨some ⟨g, 0, none⟩, cap, rfl, hn, hl, fun h0 => ⟨g, 0, rfl, fun i hi => ?_⟩⟩, hr⟩
    have e : (bCells l)[i]? = some (.int .u8 (l.getD i 0)) := by simp [bCells, hi]
    rw [← e, ← ht, List.getElem?_take_of_lt (by omega)]
    simp [World.cell?, hg]
theorem ownsRow_empty {w : World} {g base : Nat} {t : TypeId} {size : Nat} (h : w.heap[g]? = some (.cells #[] t (0, 0))) (hb : base ≤ g) : w.ownsRow base t size (.slice (some ⟨g, 0, none⟩) 0 0) 0 [] :=
  ⟨by simp, .inr ⟨g, 0, #[], rfl, hb, h, Nat.le_refl _, by simp, by simp, by simp⟩⟩
/-- the last j, backwards. -/
def bk (a : List Int) (j : Nat) : List Int := (a.drop (a.length - j)).reverse
theorem bk_succ (a : List Int) (j k : Nat) (h : k + j + 1 = a.length) : bk a (j + 1) = bk a j ++ [a.getD k 0] := by
  unfold bk
  rw [show a.length - (j + 1) = k by omega, show a.length - j = k + 1 by omega, List.drop_eq_getElem_cons (by omega), List.reverse_cons]
  simp [show k < a.length by omega]
theorem bk_length (a : List Int) (j : Nat) (h : j ≤ a.length) : (bk a j).length = j := by simp [bk]; omega
theorem bk_zero (a : List Int) : bk a 0 = [] := by simp [bk]
theorem bk_all (a : List Int) : bk a a.length = a.reverse := by simp [bk]

set_option maxRecDepth 100000 in
set_option maxHeartbeats 4000000 in
theorem sets_law {w : World} {va vb : Value} {a b : List Int} (ha : IsB w va a) (hb : IsB w vb b) :
    Calls Try.prog 7 #[va, vb] w fun e w' => e = .returned (.bool true) ∧ Keep (fun _ => False) w w' := by
  have HA := Lib.hid ha
  have HB := Lib.hid hb
  have SA := Lib.hid (KB_small ha)
  have SB := Lib.hid (KB_small hb)
  obtain ⟨A, ca, rfl, _, hla, hAc⟩ := ha.ex
  obtain ⟨B, cb, rfl, _, _, _⟩ := hb.ex
  have HAC := Lib.hid hAc
  have HAR := Lib.hid ha.rng
  obtain ⟨i0, hi, hz0, hz1, hz2⟩ := info_parts info5
  have Hi := Lib.hid hi
  have Hz0 := Lib.hid hz0
  have Hz1 := Lib.hid hz1
  have Hz2 := Lib.hid hz2
  clear ha hb hAc hi hz0 hz1 hz2
  by_cases hs : a.length ≤ 100 ∧ b.length ≤ 100
  · have d1 : decide ((100 : Int) < (a.length : Int)) = false := by simp; omega
    have d2 : decide ((100 : Int) < (b.length : Int)) = false := by simp; omega
    have f1 : ¬ (100 : Int) < (a.length : Int) := by omega
    have f2 : ¬ (100 : Int) < (b.length : Int) := by omega
    have hla1 := hs.1
    clear hs
    go_enter Try.func7, Try.ntmps7
    go_wp2_with fail
    refine (shown12 w).mono ?_
    rintro e w1 ⟨rfl, hk1⟩
    have HK1 := Lib.hid hk1
    clear hk1 d1 d2 f1 f2
    go_wp2_with fail
    refine (made_set (HA.out.keep HK1.out)).mono ?_
    rintro e w2 ⟨⟨x, rfl, hx⟩, hk2⟩
    have HK2 := Lib.hid (HK1.out.step hk2)
    have HX := Lib.hid hx
    clear hk2 hx
    go_wp2_with fail
    refine (made_set (HB.out.keep HK2.out)).mono ?_
    rintro e w3 ⟨⟨y, rfl, hy⟩, hk3⟩
    have HK3 := Lib.hid (HK2.out.step hk3)
    have HY := Lib.hid hy
    have HX3 := Lib.hid (HX.out.keep hk3)
    clear hk3 hy HX
    go_wp2_with fail
    refine (join_set HX3.out HY.out SA.out SB.out).mono ?_
    rintro e w4 ⟨⟨jj, rfl, hj⟩, hk4⟩
    have HK4 := Lib.hid (HK3.out.step hk4)
    have HJ := Lib.hid hj
    have HX4 := Lib.hid (HX3.out.keep hk4)
    have HY4 := Lib.hid (HY.out.keep hk4)
    clear hk4 hj HX3 HY
    go_wp2_with fail
    refine (minus_set HX4.out HY4.out SA.out SB.out).mono ?_
    rintro e w5 ⟨⟨mm, rfl, hm⟩, hk5⟩
    have HK5 := Lib.hid (HK4.out.step hk5)
    have HM := Lib.hid hm
    have HJ5 := Lib.hid (HJ.out.keep hk5)
    have HX5 := Lib.hid (HX4.out.keep hk5)
    have HY5 := Lib.hid (HY4.out.keep hk5)
    clear hk5 hm HX4 HY4 HJ HK1 HK2 HK3 HK4
    go_wp2_with fail
    go_loopg [9, 10] a.length (fun q v9 v10 wr => ∃ j : Nat, j + q = a.length ∧ v10 = .int .i64 ((a.length : Int) - 1 - j) ∧ wr.ownsRow w5.heap.size 5 1 v9 j (bCells (bk a j)) ∧ Keep (fun _ => False) w5 wr)
    case atStart =>
      refine ⟨0, by omega, by go_num, by rw [bk_zero]; exact ownsRow_empty (heap_alloc_new w5 _) (Nat.le_refl _), (Keep.refl _ w5).alloc _⟩
    case round =>
      obtain ⟨j, hq, rfl, ho, hK⟩ := hrel
      have HO := Lib.hid ho
      have HK := Lib.hid hK
      have HQ := Lib.hid hq
      obtain ⟨A9, c9, rfl⟩ := own_shape ho
      clear ho hK hq
      by_cases hlt : j < a.length
      · obtain ⟨k, hk⟩ : ∃ k, k + j + 1 = a.length := ⟨a.length - 1 - j, by omega⟩
        have hkv : (a.length : Int) - 1 - j = (k : Int) := by omega
        have hkl : k < a.length := by omega
        obtain ⟨g, o, rfl, hc⟩ := HAC.out (by omega)
        have c0 := HK.out.cell (HK5.out.cell (hc k hkl))
        have hst := bk_succ a j k hk
        obtain ⟨u, hu⟩ : ∃ u, u = a.getD k 0 := ⟨_, rfl⟩
        rw [← hu] at c0 hst
        clear hu
        have HST := Lib.hid hst
        have HKE := Lib.hid hk
        rw [hkv]
        clear hc hst hk
        go_wp2_with (at_builtin; refine wpList_append_own_at _ rfl _ _ 22 rfl w5.heap.size 5 i0 (.int .u8 0) 1 1 Try.underlying22 Hi.out Hz0.out Hz1.out Hz2.out rfl (by decide) _ _ _ rfl (HO.out.alloc _) ⟨wr.heap.size, 0, none⟩ 1 1 (bCells [u]) rfl rfl ?c1 ?c2 ?c3 ?c4 ?c5 ?_)
        case c1 =>
          refine World.news_of_block (cs := (bCells [u]).toArray) (t := 5) (fr := (0, 0)) ?_
          have h := heap_alloc_new wr (.cells (bCells [u]).toArray 5)
          simpa [bCells] using h
        case c2 => exact bCells_one _
        case c3 => simp only [maxLen]; omega
        case c4 => omega
        case c5 => have := HK.out.size; simp; omega
        intro v' w' hown hg _ _
        obtain ⟨A', c', rfl⟩ := own_shape hown
        have hK' : Keep (fun _ => False) w5 w' := (HK.out.alloc _).grown hg (by
          intro k hk hlt
          have := ((HO.out.alloc (.cells (bCells [u]).toArray 5)).lt k hk).1
          omega)
        have hown' : w'.ownsRow w5.heap.size 5 1 (.slice A' (j + 1) c') (j + 1) (bCells (bk a (j + 1))) := by
          rw [HST.out, show bCells (bk a j ++ [u]) = bCells (bk a j) ++ bCells [u] by simp [bCells]]; exact hown
        have HO' := Lib.hid hown'
        have HK' := Lib.hid hK'
        clear hown hown' hK' hg
        go_wp2
        go_roundg (a.length - (j + 1))
        case measure => have := HQ.out; omega
        case rel => exact ⟨j + 1, by omega, by go_num, HO'.out, HK'.out⟩
      · obtain rfl : j = a.length := by have := HQ.out; omega
        have hbk : IsB wr (.slice A9 a.length c9) a.reverse := by
          have h := HO.out
          rw [bk_all] at h
          refine IsB.ofOwn (base := w5.heap.size) (by rw [List.length_reverse]; exact h) (by rw [List.length_reverse]; omega) (fun i hi => ?_)
          have hm : a.reverse.getD i 0 ∈ a := List.mem_reverse.1 (getD_mem hi)
          obtain ⟨k, hk, e⟩ := List.mem_iff_getElem.1 hm
          have := HAR.out k hk
          simp [hk, e] at this
          simpa using this
        have HBK := Lib.hid hbk
        have HKw := Lib.hid (HK5.out.step HK.out)
        have HX6 := Lib.hid (HX5.out.keep HK.out)
        have HY6 := Lib.hid (HY5.out.keep HK.out)
        have HJ6 := Lib.hid (HJ5.out.keep HK.out)
        have HM6 := Lib.hid (HM.out.keep HK.out)
        obtain ⟨wo, hwo⟩ : ∃ wo : World, wo = wr := ⟨_, rfl⟩
        rw [← hwo] at HBK HKw HX6 HY6 HJ6 HM6 ⊢
        clear hbk HO HK HX5 HY5 HJ5 HM hwo
        have hneg : ¬ (0 : Int) ≤ (a.length : Int) - 1 - (a.length : Int) := by omega
        go_wp2
        clear hneg
        go_loopg [11, 12] 256 (fun q v11 v12 wr => ∃ i : Nat, i + q = 256 ∧ v12 = .int .i64 i ∧ v11 = .int .u64 (cK (KB a) i) ∧ Keep (fun _ => False) wo wr)
        case atStart => exact ⟨0, by omega, by go_num, by simp [cK], Keep.refl _ wo⟩
        case round =>
          obtain ⟨i, hq, rfl, rfl, hK⟩ := hrel
          have HK := Lib.hid hK
          have HQ := Lib.hid hq
          clear hK hq
          by_cases hlt : i < 256
          · have hw : IntKind.u64.wrap (i : Int) = (i : Int) := by rw [IntKind.wrap_u64]; omega
            have hcr := cK_rng (KB a) i
            have hcs : cK (KB a) (i + 1) = cK (KB a) i + cond (KB a i) 1 0 := rfl
            obtain ⟨c, hc⟩ : ∃ c, c = cK (KB a) i := ⟨_, rfl⟩
            rw [← hc] at hcs hcr ⊢
            have HCR := Lib.hid hcr
            have HCS := Lib.hid hcs
            clear hcr hcs hc
            go_wp2_with fail
            refine (has_set (HJ6.out.keep HK.out) i).mono ?_
            rintro e w6 ⟨rfl, hk6⟩
            have HK6 := Lib.hid (HK.out.step hk6)
            clear hk6
            go_wp2_with fail
            refine (in_any _ a i _ (HA.out.keep (HKw.out.step HK6.out))).mono ?_
            rintro e w7 ⟨rfl, rfl⟩
            have e1 : decide ((i : Int) ∈ a) = KB a i := rfl
            rw [e1]
            clear e1
            obtain ⟨p, hp⟩ : ∃ p, p = KB a i := ⟨_, rfl⟩
            obtain ⟨r, hr⟩ : ∃ r, r = KB b i := ⟨_, rfl⟩
            have e1 : decide ((i : Int) ∈ a) = p := hp.symm
            have e2 : decide ((i : Int) ∈ b) = r := hr.symm
            have E1 := Lib.hid e1
            have E2 := Lib.hid e2
            rw [← hp, ← hr]
            have HCS' : Hid (cK (KB a) (i + 1) = c + cond p 1 0) := by rw [hp]; exact HCS.out
            have HP := Lib.hid hp
            have HR := Lib.hid hr
            clear hp hr e1 e2 HCS
            cases p
            case true =>
              have hd : IntKind.u64.wrap (c + 1) = c + 1 := by rw [IntKind.wrap_u64]; have := HCR.out; omega
              cases r
              all_goals
                go_wp2_with fail
                refine (has_set (HM6.out.keep HK6.out) i).mono ?_
                rintro e w8 ⟨rfl, hk8⟩
                rw [← HP.out, ← HR.out]
                have HK8 := Lib.hid (HK6.out.step hk8)
                clear hk8
                go_wp2_with fail
                refine (in_any _ a i _ (HA.out.keep (HKw.out.step HK8.out))).mono ?_
                rintro e w9 ⟨rfl, rfl⟩
                rw [E1.out]
                go_wp2_with fail
                refine (in_any _ b i _ (HB.out.keep (HKw.out.step HK8.out))).mono ?_
                rintro e w9 ⟨rfl, rfl⟩
                rw [E2.out]
                go_wp2_with fail
                refine (in_any _ a i _ (HA.out.keep (HKw.out.step HK8.out))).mono ?_
                rintro e w9 ⟨rfl, rfl⟩
                rw [E1.out]
                go_wp2
                go_roundg (256 - (i + 1))
                case measure => have := HQ.out; omega
                case rel => exact ⟨i + 1, by omega, by go_num, by rw [HCS'.out]; rfl, HK8.out⟩
            case false =>
              cases r
              all_goals
                go_wp2_with fail
                refine (in_any _ b i _ (HB.out.keep (HKw.out.step HK6.out))).mono ?_
                rintro e w7 ⟨rfl, rfl⟩
                rw [E2.out]
                go_wp2_with fail
                refine (has_set (HM6.out.keep HK6.out) i).mono ?_
                rintro e w8 ⟨rfl, hk8⟩
                rw [← HP.out, ← HR.out]
                have HK8 := Lib.hid (HK6.out.step hk8)
                clear hk8
                go_wp2_with fail
                refine (in_any _ a i _ (HA.out.keep (HKw.out.step HK8.out))).mono ?_
                rintro e w9 ⟨rfl, rfl⟩
                rw [E1.out]
                go_wp2_with fail
                refine (in_any _ a i _ (HA.out.keep (HKw.out.step HK8.out))).mono ?_
                rintro e w9 ⟨rfl, rfl⟩
                rw [E1.out]
                go_wp2
                go_roundg (256 - (i + 1))
                case measure => have := HQ.out; omega
                case rel => exact ⟨i + 1, by omega, by go_num, by rw [HCS'.out]; simp, HK8.out⟩
          · obtain rfl : i = 256 := by have := HQ.out; omega
            have SAB := Lib.hid (SA.out.or SB.out)
            have SMI := Lib.hid (SA.out.minus (KB b))
            obtain ⟨c, hc⟩ : ∃ c, c = cK (KB a) 256 := ⟨_, rfl⟩
            rw [← hc]
            have HC := Lib.hid hc
            clear hc
            go_wp2_with fail
            refine (may_set (HX6.out.keep HK.out)).mono ?_
            rintro e w6 ⟨rfl, hk6⟩
            have HK6 := Lib.hid (HK.out.step hk6)
            clear hk6
            go_wp2_with fail
            refine (may_set (HJ6.out.keep HK6.out)).mono ?_
            rintro e w7 ⟨rfl, hk7⟩
            have HK7 := Lib.hid (HK6.out.step hk7)
            clear hk7
            go_wp2_with fail
            refine (may_set (HM6.out.keep HK7.out)).mono ?_
            rintro e w8 ⟨rfl, hk8⟩
            have HK8 := Lib.hid (HK7.out.step hk8)
            clear hk8
            go_wp2_with fail
            refine (many_set (HX6.out.keep HK8.out) SA.out).mono ?_
            rintro e w9 ⟨rfl, hk9⟩
            have HK9 := Lib.hid (HK8.out.step hk9)
            rw [← HC.out]
            clear hk9
            go_wp2_with fail
            refine (made_set (HBK.out.keep HK9.out)).mono ?_
            rintro e w10 ⟨⟨v1, rfl, h1⟩, hk10⟩
            have HK10 := Lib.hid (HK9.out.step hk10)
            have V1 := Lib.hid h1
            clear hk10 h1
            go_wp2_with fail
            refine (same_set (HX6.out.keep HK10.out) V1.out (fun x => by simp [KB])).mono ?_
            rintro e w11 ⟨rfl, hk11⟩
            have HK11 := Lib.hid (HK10.out.step hk11)
            clear hk11 V1
            go_wp2_with fail
            refine (join_set (HY6.out.keep HK11.out) (HX6.out.keep HK11.out) SB.out SA.out).mono ?_
            rintro e w12 ⟨⟨v2, rfl, h2⟩, hk12⟩
            have HK12 := Lib.hid (HK11.out.step hk12)
            have V2 := Lib.hid h2
            clear hk12 h2
            go_wp2_with fail
            refine (same_set (HJ6.out.keep HK12.out) V2.out (fun x => Bool.or_comm _ _)).mono ?_
            rintro e w13 ⟨rfl, hk13⟩
            have HK13 := Lib.hid (HK12.out.step hk13)
            clear hk13 V2
            go_wp2_with fail
            refine (join_set (HM6.out.keep HK13.out) (HY6.out.keep HK13.out) SMI.out SB.out).mono ?_
            rintro e w14 ⟨⟨v3, rfl, h3⟩, hk14⟩
            have HK14 := Lib.hid (HK13.out.step hk14)
            have V3 := Lib.hid h3
            clear hk14 h3
            go_wp2_with fail
            refine (same_set V3.out (HJ6.out.keep HK14.out) (fun x => by cases KB a x <;> cases KB b x <;> rfl)).mono ?_
            rintro e w15 ⟨rfl, hk15⟩
            have HK15 := Lib.hid (HKw.out.step (HK14.out.step hk15))
            clear hk15 V3
            go_wp2
            go_ret
            exact ⟨rfl, HK15.out⟩
  · have big : (100 : Int) < (a.length : Int) ∨ (¬ (100 : Int) < (a.length : Int) ∧ (100 : Int) < (b.length : Int)) := by omega
    clear hs
    rcases big with h1 | ⟨h1, h2⟩
    all_goals
      go_enter Try.func7, Try.ntmps7
      go_wp2_with fail
      refine (shown12 w).mono ?_
      rintro e w1 ⟨rfl, hk1⟩
      have HK1 := Lib.hid hk1
      clear hk1
      go_wp2
      go_ret
      exact ⟨rfl, HK1.out⟩

end Go.Proofs.Ytkbmggclecimeaa
