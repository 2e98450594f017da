/- The stable sort of edges: the merge of two runs. -/
import Derived.Test.YtmficjbgpcbhoaaDoorSortD
import Derived.Test.YtmficjbgpcbhoaaDoorSortE
namespace Go.Proofs.YtmficjbgpcbhoaaDoor
open Go.RowKit Sh
set_option linter.unusedVariables false
attribute [local irreducible] Go.wpStill

/-- what a sort of a part leaves. -/
def SortPost (g n : Nat) (d : Nat → Edge) (a b : Nat) (w : World) (e : Ending) (w' : World) : Prop :=
  e = .returned (.tuple #[]) ∧ (∃ d', IsE w' g n d' ∧ PermOn a b d d' ∧ SortedOn d' a b) ∧ Keep (fun j => j = g) w w'

/-- the bounds of the search. -/
structure Lim (a m b mid lo r0 : Nat) : Prop where
  h1 : a ≤ lo
  h2 : lo ≤ r0
  h3 : r0 ≤ m
  h4 : mid + m ≤ b + lo
  h5 : m + r0 ≤ mid + m
  h6 : lo = a ∨ mid + m - lo = b
  h7 : r0 = m ∨ mid + m - r0 = m

set_option maxRecDepth 100000 in
set_option maxHeartbeats 2000000 in
theorem sym_gen (g n cap : Nat) (d : Nat → Edge) (a m b : Nat) (w : World) (h : IsE w g n d) (hc : n ≤ cap) (hm : n ≤ 4611686018427387904) (h1 : a + 2 ≤ m) (h2 : m + 2 ≤ b) (hb : b ≤ n) (hR : Runs d a m b)
    (IH : ∀ (d' : Nat → Edge) (a' m' b' : Nat) (w' : World), b' - a' < b - a → IsE w' g n d' → a' < m' → m' < b' → b' ≤ n → Runs d' a' m' b' → Calls Tryd.prog 27 #[.slice (some ⟨g, 0, none⟩) n cap, .int .i64 a', .int .i64 m', .int .i64 b', cmpF] w' (SortPost g n d' a' b' w')) :
    Calls Tryd.prog 27 #[.slice (some ⟨g, 0, none⟩) n cap, .int .i64 a, .int .i64 m, .int .i64 b, cmpF] w (SortPost g n d a b w) := by
  have HI := Lib.hid h
  have HR := Lib.hid hR
  have HIH := Lib.hid IH
  clear h hR IH
  obtain ⟨mid, hmid⟩ : ∃ mid : Nat, ((a : Int) + (b : Int)) / 2 = (mid : Int) := ⟨(a + b) / 2, by omega⟩
  have hmid1 : 2 * mid ≤ a + b := by omega
  have hmid2 : a + b ≤ 2 * mid + 1 := by omega
  have HMID := Lib.hid hmid
  clear hmid
  have e1 : ((m : Int) - (a : Int) == 1) = false := by rw [beq_eq_false_iff_ne]; omega
  have e2 : ((b : Int) - (m : Int) == 1) = false := by rw [beq_eq_false_iff_ne]; omega
  go_enter Tryd.func27, Tryd.ntmps27
  go_upto_if 140 with fail
  rw [HMID.out]
  go_cut [20, 21] (fun s20 s21 wx => ∃ lo r0 : Nat, s20 = .int .i64 lo ∧ s21 = .int .i64 r0 ∧ Lim a m b mid lo r0 ∧ w = wx)
  case first => as_aux_lemma =>
    by_cases hgt : mid < m
    · go_wp2
      go_meet
      exact ⟨mid + m - b, mid, by congr 1; omega, rfl, ⟨by omega, by omega, by omega, by omega, by omega, .inr (by omega), .inr (by omega)⟩, rfl⟩
    · go_wp2
      go_meet
      exact ⟨a, m, rfl, rfl, ⟨by omega, by omega, by omega, by omega, by omega, .inl rfl, .inl rfl⟩, rfl⟩
  case rest => as_aux_lemma =>
    obtain ⟨lo, r0, rfl, rfl, hlim, rfl⟩ := hcut
    have HLim := Lib.hid hlim
    clear hlim
    go_wp2_with fail
    go_loopg [20, 21] (r0 - lo + 1) (fun q v u wr => ∃ (s r : Nat), s + q = r + 1 ∧ lo ≤ s ∧ s ≤ r ∧ r ≤ r0 ∧ v = .int .i64 s ∧ u = .int .i64 r ∧ IsE wr g n d ∧ (∀ c, lo ≤ c → c < s → (d c).p ≤ (d (mid + m - 1 - c)).p) ∧ (∀ c, r ≤ c → c < r0 → (d (mid + m - 1 - c)).p < (d c).p) ∧ Keep (fun j => j = g) w wr)
    case atStart => exact ⟨lo, r0, by have := HLim.out.h2; omega, by omega, HLim.out.h2, by omega, rfl, rfl, HI.out, fun y g1 g2 => by omega, fun y g1 g2 => by omega, Keep.refl _ w⟩
    case round => as_aux_lemma =>
      obtain ⟨s, r, hq, hi, hij, hjb, rfl, rfl, hI, hl, hg, hK⟩ := hrel
      have HII := Lib.hid hI
      have HL := Lib.hid hl
      have HG := Lib.hid hg
      have HK := Lib.hid hK
      have HQ := Lib.hid hq
      clear hI hl hg hK hq
      obtain ⟨l1, l2, l3, l4, l5, l6, l7⟩ := HLim.out
      have L6 := Lib.hid l6
      have L7 := Lib.hid l7
      clear l6 l7
      by_cases hlt : s < r
      · as_aux_lemma =>
        obtain ⟨c, hc'⟩ : ∃ c : Nat, ((s : Int) + (r : Int)) / 2 = (c : Int) := ⟨(s + r) / 2, by omega⟩
        have hic : s ≤ c := by omega
        have hcj : c < r := by omega
        have HCC := Lib.hid hc'
        clear hc'
        obtain ⟨P, hP⟩ : ∃ P : Nat, P = mid + m - 1 - c := ⟨_, rfl⟩
        have hPn : P < n := by omega
        have hPm : m ≤ P := by omega
        have hwP : IntKind.i64.wrap ((mid : Int) + (m : Int) - 1 - (c : Int)) = (P : Int) := by rw [IntWalk.i64_in _ (by omega)]; omega
        have HP := Lib.hid hP
        have HWP := Lib.hid hwP
        clear hP hwP
        go_wp2_with fail
        rw [HCC.out]
        have hI := HII.out
        have hb0 : 0 ≤ (c : Int) := by omega
        have hb1 : (c : Int) < (n : Int) := by omega
        have hb2 : 0 ≤ (P : Int) := by omega
        have hb3 : (P : Int) < (n : Int) := by omega
        obtain ⟨x0, x1, x2⟩ := hI.at_ c (by omega)
        obtain ⟨y0, y1, y2⟩ := hI.at_ P (by omega)
        have hwP := HWP.out
        clear hI HWP
        refine still_tail 11 (by kernel_rfl) (by kernel_rfl) ?_
        simp only [List.take_succ_cons, List.take_zero, List.drop_succ_cons, List.drop_zero]
        repeat still_step
        try refine wpStill_nil ?_
        go_wp2_with fail
        refine (cmp_any (d P) (d c) _).mono ?_
        rintro e w1 ⟨rfl, hK0⟩
        have hK1 := (Keep.refl (fun _ => False) wr).drew.step hK0
        clear hK0
        have HI1 := Lib.hid (HII.out.keepF hK1)
        have HK1 := Lib.hid (HK.out.step (hK1.mono fun _ h _ => h.elim))
        clear hK1 hb0 hb1 hb2 hb3 x0 x1 x2 y0 y1 y2 hwP
        by_cases hl : (d P).p < (d c).p
        · have hcmp : cmpV (d P) (d c) = -1 := by simp [cmpV, hl]
          rw [hcmp]
          rw [HP.out] at hl
          have HLL := Lib.hid hl
          clear hcmp hl
          go_wp2
          go_roundg (c + 1 - s)
          case measure => have := HQ.out; omega
          case rel =>
            refine ⟨s, c, by omega, hi, hic, by omega, rfl, by go_num, HI1.out, HL.out, fun y g1 g2 => ?_, HK1.out⟩
            have t1 := HR.out.r.le (x := mid + m - 1 - y) (y := mid + m - 1 - c) (by omega) (by omega) (by omega)
            have t2 := HR.out.l.le (x := c) (y := y) (by omega) g1 (by omega)
            have := HLL.out
            omega
        · obtain ⟨v, hv⟩ : ∃ v, v = cmpV (d P) (d c) := ⟨_, rfl⟩
          have hv0 : 0 ≤ v := by rw [hv]; unfold cmpV; rw [if_neg hl]; split <;> omega
          have hvd : decide (v < 0) = false := by simp; omega
          rw [← hv]
          have hle : (d c).p ≤ (d P).p := by omega
          rw [HP.out] at hle
          have HLL := Lib.hid hle
          clear hv hl hle
          go_wp2
          go_roundg (r + 1 - (c + 1))
          case measure => have := HQ.out; omega
          case rel =>
            refine ⟨c + 1, r, by omega, by omega, by omega, hjb, by go_num, rfl, HI1.out, fun y g1 g2 => ?_, HG.out, HK1.out⟩
            have t1 := HR.out.l.le (x := y) (y := c) (by omega) (by omega) (by omega)
            have t2 := HR.out.r.le (x := mid + m - 1 - c) (y := mid + m - 1 - y) (by omega) (by omega) (by omega)
            have := HLL.out
            omega
      · as_aux_lemma =>
        obtain rfl : r = s := by omega
        obtain ⟨t, ht⟩ : ∃ t : Nat, t = mid + m - r := ⟨_, rfl⟩
        have hsum : r + t = mid + m := by omega
        have ht1 : m ≤ t := by omega
        have ht2 : t ≤ b := by omega
        have hA : r < m → m < t → (d (t - 1)).p ≤ (d r).p := by
          intro g1 g2
          have := L7.out
          have := HG.out r (by omega) (by omega)
          rw [show mid + m - 1 - r = t - 1 by omega] at this
          omega
        have hB : a < r → t < b → (d (r - 1)).p ≤ (d t).p := by
          intro g1 g2
          have := L6.out
          have := HL.out (r - 1) (by omega) (by omega)
          rw [show mid + m - 1 - (r - 1) = t by omega] at this
          exact this
        have hRR := rot_runs d a m b r t mid HR.out (by omega) (by omega) ht1 ht2 hsum hA hB
        have HRR := Lib.hid hRR
        have hti : (mid : Int) + (m : Int) - (r : Int) = (t : Int) := by omega
        have HTI := Lib.hid hti
        clear ht hA hB hRR hti
        go_upto_region 39 with fail
        rw [HTI.out]
        go_cut [185] (fun s185 wx => s185 = .bool (decide (r < m ∧ m < t)) ∧ wr = wx)
        case first => as_aux_lemma =>
          by_cases c1 : r < m
          · by_cases c2 : m < t
            · go_wp2
              go_meet
              exact ⟨by simp; omega, rfl⟩
            · go_wp2
              go_meet
              exact ⟨by simp; omega, rfl⟩
          · go_wp2
            go_meet
            exact ⟨by simp; omega, rfl⟩
        case rest => as_aux_lemma =>
          obtain ⟨rfl, rfl⟩ := hcut
          go_upto_if 185 with fail
          go_cut [] (fun wx => IsE wx g n (rot d r m t) ∧ Keep (fun j => j = g) w wx)
          case first => as_aux_lemma =>
            by_cases c1 : r < m ∧ m < t
            · have cb : decide (r < m ∧ m < t) = true := decide_eq_true c1
              go_wp2_with fail
              refine (rotate_any g n cap d r m t _ HII.out hc hm (by omega) (by omega) (by omega)).mono ?_
              rintro e w1 ⟨rfl, hI1, hK1⟩
              have HI1 := Lib.hid hI1
              have HK1 := Lib.hid (HK.out.step hK1)
              clear hI1 hK1
              go_wp2
              go_meet
              exact ⟨HI1.out, HK1.out⟩
            · have cb : decide (r < m ∧ m < t) = false := decide_eq_false c1
              go_wp2
              go_meet
              refine ⟨HII.out.congr fun k hk => ?_, HK.out⟩
              simp only [rot]
              repeat' split
              all_goals first | rfl | (exfalso; omega) | (congr 1; omega)
          case rest => as_aux_lemma =>
            obtain ⟨hI1, hK1⟩ := hcut
            have HI1 := Lib.hid hI1
            have HK1 := Lib.hid hK1
            clear hI1 hK1
            obtain ⟨r1, r2, r3⟩ := HRR.out
            have R1 := Lib.hid r1
            have R2 := Lib.hid r2
            have R3 := Lib.hid r3
            have PR := Lib.hid ((PermOn.rot d r m t (by omega) (by omega)).mono (by omega : a ≤ r) ht2)
            obtain ⟨D1, hD1⟩ : ∃ D, D = rot d r m t := ⟨_, rfl⟩
            rw [← hD1] at HI1 R1 R2 R3 PR
            clear HRR r1 r2 r3 hD1 HII HK HL HG HQ HLim L6 L7
            go_upto_region 41 with fail
            go_cut [199] (fun s199 wx => s199 = .bool (decide (a < r ∧ r < mid)) ∧ wc = wx)
            case first => as_aux_lemma =>
              by_cases c1 : a < r
              · by_cases c2 : r < mid
                · go_wp2
                  go_meet
                  exact ⟨by simp; omega, rfl⟩
                · go_wp2
                  go_meet
                  exact ⟨by simp; omega, rfl⟩
              · go_wp2
                go_meet
                exact ⟨by simp; omega, rfl⟩
            case rest => as_aux_lemma =>
              obtain ⟨rfl, rfl⟩ := hcut
              go_upto_if 199 with fail
              go_cut [] (fun wx => ∃ D2, IsE wx g n D2 ∧ PermOn a mid D1 D2 ∧ SortedOn D2 a mid ∧ Keep (fun j => j = g) w wx)
              case first => as_aux_lemma =>
                by_cases c1 : a < r ∧ r < mid
                · have cb : decide (a < r ∧ r < mid) = true := decide_eq_true c1
                  go_wp2_with fail
                  refine (HIH.out D1 a r mid _ (by omega) HI1.out (by omega) (by omega) (by omega) R1.out).mono ?_
                  rintro e w1 ⟨rfl, ⟨D2, hI2, hP2, hS2⟩, hK2⟩
                  have HI2 := Lib.hid hI2
                  have HP2 := Lib.hid hP2
                  have HS2 := Lib.hid hS2
                  have HK2 := Lib.hid (HK1.out.step hK2)
                  clear hI2 hP2 hS2 hK2
                  go_wp2
                  go_meet
                  exact ⟨D2, HI2.out, HP2.out, HS2.out, HK2.out⟩
                · have cb : decide (a < r ∧ r < mid) = false := decide_eq_false c1
                  go_wp2
                  go_meet
                  refine ⟨D1, HI1.out, PermOn.refl _ _ _, ?_, HK1.out⟩
                  by_cases c2 : a < r
                  · exact R1.out.l.congr' (by omega)
                  · exact R1.out.r.congr'' (by omega)
              case rest => as_aux_lemma =>
                obtain ⟨D2, hI2, hP2, hS2, hK2⟩ := hcut
                have HI2 := Lib.hid hI2
                have HP2 := Lib.hid hP2
                have HS2 := Lib.hid hS2
                have HK2 := Lib.hid hK2
                have RR2 := Lib.hid (R2.out.congr (d := D1) (e := D2) (by omega) ht2 fun x g1 g2 => hP2.out x (by omega))
                have X2 := Lib.hid (cross_perm D1 D2 a mid b hP2 R3.out)
                clear hI2 hP2 hS2 hK2 HI1 HK1
                by_cases c1 : mid < t ∧ t < b
                · as_aux_lemma =>
                  obtain ⟨c2, c3⟩ := c1
                  go_wp2_with fail
                  refine (HIH.out D2 mid t b _ (by omega) HI2.out (by omega) (by omega) (by omega) RR2.out).mono ?_
                  rintro e w1 ⟨rfl, ⟨D3, hI3, hP3, hS3⟩, hK3⟩
                  have HI3 := Lib.hid hI3
                  have HP3 := Lib.hid hP3
                  have HS3 := Lib.hid hS3
                  have HK3 := Lib.hid (HK2.out.step hK3)
                  clear hI3 hP3 hS3 hK3
                  go_wp2
                  go_end0
                  refine ⟨rfl, ⟨D3, HI3.out, (PR.out.trans (HP2.out.mono (Nat.le_refl _) (by omega))).trans (HP3.out.mono (by omega) (Nat.le_refl _)), ?_⟩, HK3.out⟩
                  exact sorted_join D3 a mid b (HS2.out.congr fun x g1 g2 => HP3.out.out x (by omega)) HS3.out (cross_perm' D2 D3 a mid b HP3.out X2.out)
                · as_aux_lemma =>
                  have hS3 : SortedOn D2 mid b := by
                    by_cases c2 : mid < t
                    · exact RR2.out.l.congr' (by omega)
                    · exact RR2.out.r.congr'' (by omega)
                  have HS3 := Lib.hid hS3
                  clear hS3
                  by_cases c2 : mid < t
                  · have c3 : ¬ t < b := by omega
                    clear c1
                    go_wp2
                    go_end0
                    exact ⟨rfl, ⟨D2, HI2.out, PR.out.trans (HP2.out.mono (Nat.le_refl _) (by omega)), sorted_join D2 a mid b HS2.out HS3.out X2.out⟩, HK2.out⟩
                  · clear c1
                    go_wp2
                    go_end0
                    exact ⟨rfl, ⟨D2, HI2.out, PR.out.trans (HP2.out.mono (Nat.le_refl _) (by omega)), sorted_join D2 a mid b HS2.out HS3.out X2.out⟩, HK2.out⟩

end Go.Proofs.YtmficjbgpcbhoaaDoor
