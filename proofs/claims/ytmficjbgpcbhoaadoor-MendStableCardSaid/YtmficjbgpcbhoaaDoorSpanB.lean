/- Walks of spans: walk. -/
import Derived.Test.YtmficjbgpcbhoaaDoorSpanA
import Derived.Test.YtmficjbgpcbhoaaDoorEdgeA
import Derived.Test.YtmficjbgpcbhoaaDoorSortG
import Derived.Test.YtmficjbgpcbhoaaDoorWalkQ
namespace Go.Proofs.YtmficjbgpcbhoaaDoor
open Go.RowKit Sh
set_option linter.unusedVariables false
attribute [local irreducible] Go.wpStill

theorem info36 : (Tryd.prog.info? 36).map (fun i => (i.zero, i.size, i.bytes)) = some (some (.agg #[.int .u64 0, .int .u64 0]), 2, 16) := by kernel_rfl

theorem two_cells {w : World} {b : Nat} {x y : Value} {t : TypeId} (h : w.heap[b]? = some (.cells #[x, y] t (0, 0))) :
    w.cell? ⟨b, 0, none⟩ = some x ∧ w.cell? ⟨b, 1, none⟩ = some y ∧ w.frozen? ⟨b, 0, none⟩ = false ∧ w.frozen? ⟨b, 1, none⟩ = false := by
  simp [World.cell?, World.frozen?, h]
theorem three_cells {w : World} {b : Nat} {x y z : Value} {t : TypeId} (h : w.heap[b]? = some (.cells #[x, y, z] t (0, 0))) :
    w.cell? ⟨b, 0, none⟩ = some x ∧ w.cell? ⟨b, 1, none⟩ = some y ∧ w.cell? ⟨b, 2, none⟩ = some z := by
  simp [World.cell?, h]

/-- what walk leaves. -/
def WalkPost (a b : List Sp) (keep : Bool → Bool → Bool) (w : World) (e : Ending) (w' : World) : Prop :=
  ∃ v out, e = .returned v ∧ w'.ownsRow w.heap.size 36 2 v out.length (spCells out) ∧ Ok out ∧ Rng out ∧ (∀ x, memB out x = KF a b keep x) ∧ out.length ≤ 2 * a.length + 2 * b.length ∧ Keep (fun _ => False) w w'

set_option maxRecDepth 100000 in
set_option maxHeartbeats 2000000 in
theorem walk_any (va vb : Value) (a b : List Sp) (kf : Nat) (keep : Bool → Bool → Bool) (w : World) (ha : IsL w va a) (hb : IsL w vb b) (ra : Rng a) (rb : Rng b) (oa : Ok a) (ob : Ok b) (hsz : a.length + b.length ≤ 268435456) (k0 : keep false false = false) (hkk : kf = 19 ∨ kf = 19)
    (hkf : ∀ (x y : Bool) (W : World), Calls Tryd.prog kf #[.bool x, .bool y] W fun e w' => e = .returned (.bool (keep x y)) ∧ W = w') :
    Calls Tryd.prog 18 #[va, vb, .func (.func kf) #[] #[]] w (WalkPost a b keep w) := by
  have HA := Lib.hid ha
  have HB := Lib.hid hb
  have RA := Lib.hid ra
  have RB := Lib.hid rb
  have OA := Lib.hid oa
  have OB := Lib.hid ob
  have HKF := Lib.hid hkf
  have K0 := Lib.hid k0
  have HKK := Lib.hid hkk
  obtain ⟨i0, hi, hz0, hz1, hz2⟩ := info_parts info36
  have Hi := Lib.hid hi
  have Hz0 := Lib.hid hz0
  have Hz1 := Lib.hid hz1
  have Hz2 := Lib.hid hz2
  clear hi hz0 hz1 hz2
  clear ha hb ra rb oa ob hkf k0 hkk
  go_enter Tryd.func18, Tryd.ntmps18
  go_wp2_with fail
  go_step3
  go_wp2_with fail
  have hB0 : (w.alloc (.cells #[.slice none 0 0] 50)).heap[w.heap.size]? = some (.cells #[.slice none 0 0] 50 (0, 0)) := heap_alloc_new w _
  refine (edges_any w _ va (.slice none 0 0) a [] true w.heap.size HA.out ((Keep.refl _ w).alloc _) (Nat.le_refl _) hB0 (World.ownsRow_nil _ _ _ _) (by simp; omega) RA.out).mono ?_
  rintro e w1 ⟨rfl, ⟨lv1, hB1, ho1⟩, hK1⟩
  have HB1 := Lib.hid hB1
  have HO1 := Lib.hid ho1
  have HK1 := Lib.hid hK1
  clear hB0 hB1 ho1 hK1
  go_wp2_with fail
  refine (edges_any w _ vb lv1 b _ false w.heap.size HB.out HK1.out (Nat.le_refl _) HB1.out HO1.out (by simp only [List.nil_append, edsTo_length]; omega) RB.out).mono ?_
  rintro e w2 ⟨rfl, ⟨lv, hB2, ho2⟩, hK2⟩
  have ho2' : w2.ownsRow (w.heap.size + 1) 52 3 lv (allEds a b).length (edCells (allEds a b)) := by simpa only [allEds, List.nil_append] using ho2
  obtain ⟨A, cap, rfl⟩ := own_shape ho2'
  have hn0 := allEds_length a b
  obtain ⟨n, hn⟩ : ∃ n, n = (allEds a b).length := ⟨_, rfl⟩
  have HN := Lib.hid hn
  rw [← hn] at hn0 ho2' hB2
  have cB2 := cell_of_one hB2
  have HB2 := Lib.hid hB2
  have HO2 := Lib.hid ho2'
  have HK2 := Lib.hid hK2
  have hnl : n ≤ 536870912 := by omega
  have HN0 := Lib.hid hn0
  clear ho2 hB2 ho2' hK2 HB1 HO1 HK1 hn hn0
  go_upto_region 5 with fail
  go_cut [] (fun wx => ∃ D, Ctx a b keep n D ∧ (0 < n → ∃ g, A = some ⟨g, 0, none⟩ ∧ w.heap.size < g ∧ n ≤ cap ∧ cap ≤ 9223372036854775807 ∧ IsE wx g n D) ∧ wx.heap[w.heap.size]? = some (.cells #[.slice A n cap] 50 (0, 0)) ∧ Keep (fun _ => False) w wx)
  case first =>
    by_cases h0 : 0 < n
    · have ho3 := HO2.out
      rw [HN.out] at ho3
      obtain ⟨g, cap', he, hg1, hg2, hg3, hE⟩ := IsE.ofOwn ho3 (by rw [← HN.out]; exact h0)
      simp only [Value.slice.injEq] at he
      obtain ⟨rfl, _, rfl⟩ := he
      rw [← HN.out] at hE hg2
      have HE := Lib.hid hE
      clear ho3 hE
      go_wp2_with fail
      refine (sort_any g n cap _ _ HE.out hg2 (by omega) (by omega)).mono ?_
      rintro e w3 ⟨rfl, ⟨D, hE3, hP3, hS3⟩, hK3⟩
      have hK3' : Keep (fun _ => False) w w3 := HK2.out.trans hK3 (by rintro i rfl hi; omega)
      have HH := Lib.hid (show w3.heap[w.heap.size]? = _ from hK3.old HB2.out (by omega))
      have HE3 := Lib.hid hE3
      have HC : Hid (Ctx a b keep n D) := ⟨HN.out, OA.out, OB.out, RA.out, RB.out, hP3, hS3, K0.out⟩
      have HK3 := Lib.hid hK3'
      clear hE3 hP3 hS3 hK3 hK3'
      go_wp2
      go_meet
      exact ⟨D, HC.out, fun _ => ⟨g, rfl, by omega, hg2, hg3, HE3.out⟩, HH.out, HK3.out⟩
    · obtain rfl : n = 0 := by omega
      go_wp2_with fail
      refine (sort_none A cap _).mono ?_
      rintro e w3 ⟨rfl, rfl⟩
      have HC : Hid (Ctx a b keep 0 (ed (allEds a b))) := ⟨HN.out, OA.out, OB.out, RA.out, RB.out, PermOn.refl _ _ _, fun x y h1 h2 h3 => by omega, K0.out⟩
      go_wp2
      go_meet
      exact ⟨_, HC.out, fun h => by omega, HB2.out, HK2.out⟩
  case rest =>
    obtain ⟨wa, rfl⟩ : ∃ wa : World, wa = wc := ⟨_, rfl⟩
    obtain ⟨D, hC, hE, hB3, hK3⟩ := hcut
    have HC := Lib.hid hC
    have HE := Lib.hid hE
    have HB3 := Lib.hid hB3
    have HK3 := Lib.hid hK3
    have cB3 := cell_of_one hB3
    clear hC hE hB3 hK3 HB2 HO2 HK2 cB2
    go_wp2_with fail
    have cB4 := cell_of_one (((Keep.refl (fun _ => False) wa).alloc (.cells #[.bool false, .bool false] 56)).old HB3.out (fun h => h))
    go_step3
    go_wp2_with fail
    clear cB4
    have hblt : w.heap.size < wa.heap.size := (Array.getElem?_eq_some_iff.1 HB3.out).1
    have hst : Keep (fun k => k = wa.heap.size) (wa.alloc (.cells #[.bool false, .bool false] 56)) (wa.alloc (.cells #[.bool false, .bool false] 56)) := Keep.refl _ _
    have hbi : (wa.alloc (.cells #[.bool false, .bool false] 56)).heap[wa.heap.size]? = some (.cells #[.bool false, .bool false] 56 (0, 0)) := heap_alloc_new wa _
    have HST := Lib.hid hst
    have HBI := Lib.hid hbi
    obtain ⟨wL, hwL⟩ : ∃ wL, wL = wa.alloc (.cells #[.bool false, .bool false] 56) := ⟨_, rfl⟩
    have HL1 : Hid (Keep (fun _ => False) wa wL) := by rw [hwL]; exact (Keep.refl _ wa).alloc _
    have HLS : Hid (wL.heap.size = wa.heap.size + 1) := by rw [hwL]; simp [Hid]
    rw [← hwL] at HST HBI ⊢
    clear hwL hst hbi
    go_loopg [6, 10, 11, 26] n (fun q v6 v10 v11 v26 wr => ∃ (i : Nat) (inA inB is : Bool) (fr : Int) (out : List Sp), i + q = n ∧ v26 = .int .i64 i ∧ v10 = .int .u64 fr ∧ v11 = .bool is ∧
      inA = lastF D true i ∧ inB = lastF D false i ∧ Desc (KF a b keep) (QQ D n i) is fr out ∧ out.length ≤ i ∧ wr.heap[wa.heap.size]? = some (.cells #[.bool inA, .bool inB] 56 (0, 0)) ∧
      wr.ownsRow (wa.heap.size + 1) 36 2 v6 out.length (spCells out) ∧ Keep (fun k => k = wa.heap.size) wL wr)
    case atStart => exact ⟨0, false, false, false, 0, [], by omega, rfl, rfl, rfl, rfl, rfl, HC.out.start, by simp, HBI.out, World.ownsRow_nil _ _ _ _, HST.out⟩
    case round =>
      obtain ⟨i, inA, inB, is, fr, out, hq, rfl, rfl, rfl, hiA, hiB, hD, hol, hbi, hown, hkr⟩ := hrel
      have HQ := Lib.hid hq
      have HiA := Lib.hid hiA
      have HiB := Lib.hid hiB
      have HD := Lib.hid hD
      have HBI := Lib.hid hbi
      have HOW := Lib.hid hown
      have HKR := Lib.hid hkr
      obtain ⟨A6, c6, rfl⟩ := own_shape hown
      have hbilt : wa.heap.size < wr.heap.size := (Array.getElem?_eq_some_iff.1 hbi).1
      have HCB := Lib.hid (cell_of_one (hkr.old (HL1.out.old HB3.out (fun h => h)) (by omega)))
      clear hq hiA hiB hD hbi hown hkr cB3
      by_cases hlt : i < n
      · obtain ⟨g, rfl, hg1, hg2, hg3, hE⟩ := HE.out (by omega)
        have hgl := hE.lt
        have HEr := Lib.hid ((hE.keepF HL1.out).keep HKR.out (by omega))
        clear hE
        obtain ⟨x0, x1, x2⟩ := HEr.out.at_ i hlt
        have hr0 := HC.out.rng i hlt
        obtain ⟨y, hy⟩ : ∃ y, y = D i := ⟨_, rfl⟩
        rw [← hy] at x0 x1 x2 hr0
        obtain ⟨p, xa, xi⟩ := y
        have HY := Lib.hid hy.symm
        obtain ⟨b0, b1, f0, f1⟩ := two_cells HBI.out
        simp only at x0 x1 x2 hr0
        have HR0 := Lib.hid hr0
        clear hy hr0
        go_upto_if 32 with fail
        go_cut [] (fun wx => wx.heap[wa.heap.size]? = some (.cells #[.bool (lastF D true (i + 1)), .bool (lastF D false (i + 1))] 56 (0, 0)) ∧ wx.heap[wr.heap.size]? = some (.cells #[.int .u64 p, .bool xa, .bool xi] 52 (0, 0)) ∧
          wx.ownsRow (wa.heap.size + 1) 36 2 (.slice A6 out.length c6) out.length (spCells out) ∧ Keep (fun k => k = wa.heap.size) wL wx ∧ Keep (fun k => k = wa.heap.size) wr wx)
        case first =>
          have hsz1 : ∀ (o : Nat) (u : Value), (wr.setCell ⟨wa.heap.size, o, none⟩ u).heap.size = wr.heap.size := fun o u => by simp [World.setCell]
          have hX : ∀ (o : Nat) (u : Value), ((wr.setCell ⟨wa.heap.size, o, none⟩ u).alloc (.cells #[.int .u64 p, .bool xa, .bool xi] 52)).heap[wr.heap.size]? = some (.cells #[.int .u64 p, .bool xa, .bool xi] 52 (0, 0)) := fun o u => by
            have h := heap_alloc_new (wr.setCell ⟨wa.heap.size, o, none⟩ u) (.cells #[.int .u64 p, .bool xa, .bool xi] 52)
            rwa [hsz1 o u] at h
          have HX := Lib.hid hX
          have hBX : ∀ (o : Nat) (u : Value), ((wr.setCell ⟨wa.heap.size, o, none⟩ u).alloc (.cells #[.int .u64 p, .bool xa, .bool xi] 52)).heap[wa.heap.size]? = some (.cells (#[.bool inA, .bool inB].setIfInBounds o u) 56 (0, 0)) := fun o u =>
            (Below.heap_alloc _ _ _ (by rw [hsz1]; exact hbilt)).trans (heap_setCell_at HBI.out o u)
          have HBX := Lib.hid hBX
          have hown1 : ∀ (o : Nat) (u : Value), ((wr.setCell ⟨wa.heap.size, o, none⟩ u).alloc (.cells #[.int .u64 p, .bool xa, .bool xi] 52)).ownsRow (wa.heap.size + 1) 36 2 (.slice A6 out.length c6) out.length (spCells out) := fun o u =>
            (ownsRow_setCell_other HOW.out (fun e => by
              have h : wa.heap.size + 1 ≤ wa.heap.size := (HOW.out.lt _ e).1
              omega) _).alloc _
          have hk1 : ∀ (o : Nat) (u : Value), Keep (fun k => k = wa.heap.size) wr ((wr.setCell ⟨wa.heap.size, o, none⟩ u).alloc (.cells #[.int .u64 p, .bool xa, .bool xi] 52)) := fun o u => ((Keep.refl _ wr).setAt _ _).alloc _
          have HOW1 := Lib.hid hown1
          have HK1 := Lib.hid hk1
          clear hsz1 hX hBX hown1 hk1
          cases xa with
          | true =>
            have e1 : lastF D true (i + 1) = xi := by simp only [lastF, HY.out, if_true]
            have e2 : lastF D false (i + 1) = inB := by simp only [lastF, HY.out]; simp; exact HiB.out.symm
            have E1 := Lib.hid e1
            have E2 := Lib.hid e2
            clear e1 e2
            go_wp2
            go_meet
            refine ⟨by rw [E1.out, E2.out]; exact HBX.out 0 _, HX.out _ _, HOW1.out _ _, HKR.out.trans (HK1.out _ _) (fun i h _ => h), HK1.out _ _⟩
          | false =>
            have e1 : lastF D true (i + 1) = inA := by simp only [lastF, HY.out]; simp; exact HiA.out.symm
            have e2 : lastF D false (i + 1) = xi := by simp only [lastF, HY.out, if_true]
            have E1 := Lib.hid e1
            have E2 := Lib.hid e2
            clear e1 e2
            go_wp2
            go_meet
            refine ⟨by rw [E1.out, E2.out]; exact HBX.out 1 _, HX.out _ _, HOW1.out _ _, HKR.out.trans (HK1.out _ _) (fun i h _ => h), HK1.out _ _⟩
        case rest =>
          obtain ⟨hbi, hx, hown, hk, hkw⟩ := hcut
          have HBI2 := Lib.hid hbi
          have HX := Lib.hid hx
          have HOW2 := Lib.hid hown
          have HK2 := Lib.hid hk
          have HEx := Lib.hid (HEr.out.keep hkw (by omega))
          have cBx := cell_of_one (hkw.old (HKR.out.old (HL1.out.old HB3.out (fun h => h)) (by omega)) (by omega))
          obtain ⟨lA, hlA⟩ : ∃ z, z = lastF D true (i + 1) := ⟨_, rfl⟩
          obtain ⟨lB, hlB⟩ : ∃ z, z = lastF D false (i + 1) := ⟨_, rfl⟩
          rw [← hlA, ← hlB] at hbi
          have HLA := Lib.hid hlA
          have HLB := Lib.hid hlB
          obtain ⟨b0, b1, f0, f1⟩ := two_cells hbi
          obtain ⟨y0, y1, y2⟩ := three_cells hx
          have hbilt2 : wa.heap.size < wc.heap.size := (Array.getElem?_eq_some_iff.1 hbi).1
          have HKW := Lib.hid hkw
          clear hbi hx hown hk hkw hlA hlB
          have hb0 : 0 ≤ (i : Int) := by omega
          have hb1 : (i : Int) < (n : Int) := by omega
          have hw0 : IntKind.i64.wrap ((i : Int) + 1) = (i : Int) + 1 := IntWalk.i64_in _ (by omega)
          have hb4 : 0 ≤ (i : Int) + 1 := by omega
          by_cases hmid : i + 1 < n ∧ (D (i + 1)).p = p
          · obtain ⟨z0, z1, z2⟩ := HEx.out.at_ (i + 1) hmid.1
            have hqq : QQ D n (i + 1) = QQ D n i := by unfold QQ; rw [if_pos hmid.1, if_pos hlt, hmid.2, HY.out]
            rw [hmid.2] at z0
            have hd : decide ((i : Int) + 1 < (n : Int)) = true := by simp; omega
            have hb5 : (i : Int) + 1 < (n : Int) := by omega
            have he : (p == p) = true := by simp
            have HQQ := Lib.hid hqq
            clear hmid hqq
            go_upto_region 14 with fail
            refine still_lit (by kernel_rfl) (by kernel_rfl) ?_
            repeat still_step
            refine wpStill_nil ?_
            clear hd hw0
            go_wp2
            go_roundg (n - (i + 1))
            case measure => have := HQ.out; omega
            case rel =>
              refine ⟨i + 1, lastF D true (i + 1), lastF D false (i + 1), is, fr, out, by have := HQ.out; omega, by go_num, rfl, rfl, rfl, rfl, by rw [HQQ.out]; exact HD.out, by omega, HBI2.out, HOW2.out, HK2.out.drew⟩
          · have hg : i + 1 = n ∨ (D (i + 1)).p ≠ (D i).p := by
              rw [HY.out]
              by_cases h : i + 1 < n
              · exact .inr fun e => hmid ⟨h, e⟩
              · exact .inl (by omega)
            have hlt2 := HC.out.step_lt i hlt hg
            have hnow := HC.out.now i hlt hg
            rw [HY.out] at hlt2 hnow
            simp only at hlt2 hnow
            rw [← HLA.out, ← HLB.out] at hnow
            obtain ⟨nw, hnw⟩ : ∃ nw, nw = keep lA lB := ⟨_, rfl⟩
            rw [← hnw] at hnow
            have hD := HD.out
            have hQ0 : QQ D n i = p := by unfold QQ; rw [if_pos hlt, HY.out]
            rw [hQ0] at hD
            have hxs : wr.heap.size < wc.heap.size := (Array.getElem?_eq_some_iff.1 HX.out).1
            have HG := Lib.hid hg
            have HL2 := Lib.hid hlt2
            have HNOW := Lib.hid hnow
            have HNW := Lib.hid hnw
            have HD2 := Lib.hid hD
            have HMID := Lib.hid hmid
            clear hg hlt2 hnow hnw hD hQ0 hmid
            go_upto_region 14 with fail
            go_cut [54] (fun v wx => v = .bool false ∧ wx = wc.drew)
            case first =>
              by_cases h : i + 1 < n
              · obtain ⟨z0, z1, z2⟩ := HEx.out.at_ (i + 1) h
                have hd : decide ((i : Int) + 1 < (n : Int)) = true := by simp; omega
                have hb5 : (i : Int) + 1 < (n : Int) := by omega
                have he : ((D (i + 1)).p == p) = false := by
                  rw [beq_eq_false_iff_ne]; exact fun e => HMID.out ⟨h, e⟩
                refine still_lit (by kernel_rfl) (by kernel_rfl) ?_
                repeat still_step
                refine wpStill_nil ?_
                go_wp2
                go_meet
                exact ⟨rfl, rfl⟩
              · have hd : decide ((i : Int) + 1 < (n : Int)) = false := by simp; omega
                refine still_lit (by kernel_rfl) (by kernel_rfl) ?_
                repeat still_step
                refine wpStill_nil ?_
                go_wp2
                go_meet
                exact ⟨rfl, rfl⟩
            case rest =>
              obtain ⟨rfl, rfl⟩ := hcut
              have hkd : Keep (fun k => k = wa.heap.size) wL wc.drew := HK2.out.drew
              have hod : wc.drew.ownsRow (wa.heap.size + 1) 36 2 (.slice A6 out.length c6) out.length (spCells out) := HOW2.out.drew
              have hbd : wc.drew.heap[wa.heap.size]? = some (.cells #[.bool (lastF D true (i + 1)), .bool (lastF D false (i + 1))] 56 (0, 0)) := HBI2.out
              have hxd : wc.drew.heap[wr.heap.size]? = some (.cells #[.int .u64 p, .bool xa, .bool xi] 52 (0, 0)) := HX.out
              obtain ⟨wd, hwd⟩ : ∃ wd, wd = wc.drew := ⟨_, rfl⟩
              rw [← hwd] at hkd hod hbd hxd ⊢
              have HKD := Lib.hid hkd
              have HOD := Lib.hid hod
              have HBD := Lib.hid hbd
              rw [← HLA.out, ← HLB.out] at hbd
              obtain ⟨b0, b1, f0, f1⟩ := two_cells hbd
              obtain ⟨y0, y1, y2⟩ := three_cells hxd
              have hds : wc.heap.size = wd.heap.size := by rw [hwd]; rfl
              rw [hds] at hbilt2 hxs
              clear hwd hkd hod hbd hxd cBx
              go_upto_region 15 with fail
              go_cut [14] (fun v wx => v = .bool nw ∧ wx = wd)
              case first =>
                rcases HKK.out with rfl | rfl
                · go_wp2_with fail
                  refine (HKF.out lA lB _).mono ?_
                  rintro e w1 ⟨rfl, rfl⟩
                  go_wp2
                  go_meet
                  exact ⟨by rw [HNW.out], rfl⟩
                · go_wp2_with fail
                  refine (HKF.out lA lB _).mono ?_
                  rintro e w1 ⟨rfl, rfl⟩
                  go_wp2
                  go_meet
                  exact ⟨by rw [HNW.out], rfl⟩
              case rest =>
                obtain ⟨rfl, hwx⟩ := hcut
                rw [hwx]
                clear hwx
                cases is with
                | false =>
                  cases nw with
                  | true =>
                    have hd := HD2.out.open_ HL2.out HR0.out.1 HR0.out.2 HNOW.out
                    have HDD := Lib.hid hd
                    clear hd
                    go_wp2
                    go_roundg (n - (i + 1))
                    case measure => have := HQ.out; omega
                    case rel => exact ⟨i + 1, _, _, true, p, out, by have := HQ.out; omega, by go_num, rfl, rfl, rfl, rfl, HDD.out, by omega, HBD.out, HOD.out, HKD.out⟩
                  | false =>
                    have hd := HD2.out.off HL2.out HNOW.out
                    have HDD := Lib.hid hd
                    clear hd
                    go_wp2
                    go_roundg (n - (i + 1))
                    case measure => have := HQ.out; omega
                    case rel => exact ⟨i + 1, _, _, false, fr, out, by have := HQ.out; omega, by go_num, rfl, rfl, rfl, rfl, HDD.out, by omega, HBD.out, HOD.out, HKD.out⟩
                | true =>
                  cases nw with
                  | true =>
                    have hd := HD2.out.on HL2.out HNOW.out
                    have HDD := Lib.hid hd
                    clear hd
                    go_wp2
                    go_roundg (n - (i + 1))
                    case measure => have := HQ.out; omega
                    case rel => exact ⟨i + 1, _, _, true, fr, out, by have := HQ.out; omega, by go_num, rfl, rfl, rfl, rfl, HDD.out, by omega, HBD.out, HOD.out, HKD.out⟩
                  | false =>
                    have hd := HD2.out.shut HL2.out HR0.out.2 HNOW.out
                    have hlt0 := HD2.out.lt rfl
                    have hwp : IntKind.u64.wrap (p - 1) = p - 1 := by rw [IntKind.wrap_u64]; have := HR0.out; omega
                    have HDD := Lib.hid hd
                    clear hd
                    go_wp2_with (at_builtin; refine wpList_append_own_at _ rfl _ _ 33 rfl (wa.heap.size + 1) 36 i0 (.agg #[.int .u64 0, .int .u64 0]) 2 16 Tryd.underlying33 Hi.out Hz0.out Hz1.out Hz2.out rfl (by decide) _ _ _ rfl (HOD.out.alloc _) ⟨wd.heap.size, 0, none⟩ 1 1 (spCells [⟨fr, p - 1⟩]) rfl rfl ?c1 ?c2 ?c3 ?c4 ?c5 ?_)
                    case c1 =>
                      refine World.news_of_block (cs := (spCells [⟨fr, p - 1⟩]).toArray) (t := 36) (fr := (0, 0)) ?_
                      have h := heap_alloc_new wd (.cells (spCells [⟨fr, p - 1⟩]).toArray 36)
                      simpa [spCells] using h
                    case c2 => exact spCells_one _
                    case c3 => simp only [maxLen]; omega
                    case c4 => omega
                    case c5 => simp; omega
                    intro v' w' hown hg _ _
                    obtain ⟨A', c', rfl⟩ := own_shape hown
                    have hkd : Keep (fun k => k = wa.heap.size) wL w' := (HKD.out.alloc _).grown hg (by
                      intro k hk hlt
                      have := ((HOD.out.alloc (.cells #[.int .u64 fr, .int .u64 (p - 1)] 36)).lt k hk).1
                      have := HLS.out
                      omega)
                    have hne : some wa.heap.size ≠ (Value.slice A6 out.length c6).ownBlock := by
                      intro e
                      have := (HOD.out.lt wa.heap.size e.symm).1
                      omega
                    have hbd : w'.heap[wa.heap.size]? = some (.cells #[.bool (lastF D true (i + 1)), .bool (lastF D false (i + 1))] 56 (0, 0)) := by
                      rw [hg.block wa.heap.size (by simp; omega) hne]
                      simp only [Below.heap_alloc _ _ wa.heap.size hbilt2]
                      exact HBD.out
                    have hlen : (out ++ [(⟨fr, p - 1⟩ : Sp)]).length = out.length + 1 := by simp
                    have hown' : w'.ownsRow (wa.heap.size + 1) 36 2 (.slice A' (out.length + 1) c') (out ++ [(⟨fr, p - 1⟩ : Sp)]).length (spCells (out ++ [(⟨fr, p - 1⟩ : Sp)])) := by
                      rw [hlen, spCells_append]; exact hown
                    have HKE := Lib.hid hkd
                    have HOE := Lib.hid hown'
                    have HBE := Lib.hid hbd
                    have HLE := Lib.hid hlen
                    clear hkd hown hown' hbd hne hg hlen
                    go_wp2
                    go_roundg (n - (i + 1))
                    case measure => have := HQ.out; omega
                    case rel => exact ⟨i + 1, _, _, false, fr, _, by have := HQ.out; omega, by go_num, rfl, rfl, rfl, rfl, HDD.out, by rw [HLE.out]; omega, HBE.out, HOE.out, HKE.out⟩
      · obtain rfl : i = n := by have := HQ.out; omega
        go_wp2
        rw [Exit.noGoto_ret]
        go_ret
        have hd := HC.out.done HD.out
        refine ⟨_, out, rfl, ?_, hd.2.1, hd.2.2.1, hd.2.2.2, by have := HN0.out; omega, ?_⟩
        · exact ⟨HOW.out.1, HOW.out.2.imp id (fun ⟨g, cap, cur, h1, h2, h3⟩ => ⟨g, cap, cur, h1, by omega, h3⟩)⟩
        · exact (HK3.out.trans HL1.out (fun i h _ => h)).trans HKR.out (by rintro i rfl hi; omega)

end Go.Proofs.YtmficjbgpcbhoaaDoor
