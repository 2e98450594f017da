/- The stable sort of edges: whole. -/
import Derived.Test.YtmficjbgpcbhoaaDoorSortF
import Derived.Test.YtmficjbgpcbhoaaDoorSortK
namespace Go.Proofs.YtmficjbgpcbhoaaDoor
open Go.RowKit Sh
set_option linter.unusedVariables false

theorem sym_any (g n cap : Nat) (hc : n ≤ cap) (hm : n ≤ 4611686018427387904) : ∀ (q : Nat) (d : Nat → Edge) (a m b : Nat) (w : World), b - a ≤ q → IsE w g n d → a < m → m < b → b ≤ n → Runs d a m b →
    Calls Tryd.prog 27 #[.slice (some ⟨g, 0, none⟩) n cap, .int .i64 a, .int .i64 m, .int .i64 b, cmpF] w (SortPost g n d a b w) := by
  intro q
  induction q with
  | zero => intro d a m b w h1 h2 h3 h4; omega
  | succ q ih =>
    intro d a m b w hq h h1 h2 hb hR
    by_cases e1 : m = a + 1
    · subst e1
      exact sym_one g n cap d a b w h hc hm h2 hb hR.r
    · by_cases e2 : b = m + 1
      · subst e2
        exact sym_last g n cap d a m w h hc hm (by omega) hb hR.l
      · exact sym_gen g n cap d a m b w h hc hm (by omega) (by omega) hb hR (fun d' a' m' b' w' hlt hI g1 g2 g3 g4 => ih d' a' m' b' w' (by omega) hI g1 g2 g3 g4)

set_option maxHeartbeats 1000000 in
theorem stable_any (g n cap : Nat) (d : Nat → Edge) (w : World) (h : IsE w g n d) (hc : n ≤ cap) (hm : n ≤ 4611686018427387904) (hn : n ≤ 1073741824) :
    Calls Tryd.prog 25 #[.slice (some ⟨g, 0, none⟩) n cap, .int .i64 n, cmpF] w (SortPost g n d 0 n w) := by
  have HI := Lib.hid h
  clear h
  go_enter Tryd.func25, Tryd.ntmps25
  go_wp2_with fail
  go_loopg [7, 8] n (fun q v u wr => ∃ (j a : Nat) (D : Nat → Edge), a = j * 20 ∧ a + q = n ∧ v = .int .i64 a ∧ u = .int .i64 ((a : Int) + 20) ∧ IsE wr g n D ∧ PermOn 0 n d D ∧ BTo D j 20 ∧ Keep (fun j => j = g) w wr)
  case atStart => exact ⟨0, 0, d, rfl, by omega, rfl, rfl, HI.out, PermOn.refl _ _ _, BTo.zero _ _, Keep.refl _ w⟩
  case round =>
    obtain ⟨j, a, D, hja, hq, rfl, rfl, hI, hP, hB, hK⟩ := hrel
    have HII := Lib.hid hI
    have HP := Lib.hid hP
    have HB := Lib.hid hB
    have HK := Lib.hid hK
    have HQ := Lib.hid hq
    have HJ := Lib.hid hja
    clear hI hP hB hK hja
    by_cases hle : a + 20 ≤ n
    · clear hq
      go_wp2_with fail
      rw [show (a : Int) + 20 = ((a + 20 : Nat) : Int) by omega]
      refine (insertion_any g n cap D a (a + 20) _ HII.out hc hm (by omega) hle).mono ?_
      rintro e w1 ⟨rfl, ⟨D1, hI1, hP1, hS1⟩, hK1⟩
      have HI1 := Lib.hid hI1
      have HP1 := Lib.hid hP1
      have HS1 := Lib.hid hS1
      have HK1 := Lib.hid (HK.out.step hK1)
      have HM := Lib.hid (show n - (a + 20) < gk by have := HQ.out; omega)
      have HE := Lib.hid (show a + 20 + (n - (a + 20)) = n by omega)
      clear hI1 hP1 hS1 hK1
      go_wp2
      go_roundg (n - (a + 20))
      case measure => exact HM.out
      case rel =>
        refine ⟨j + 1, a + 20, D1, by have := HJ.out; omega, HE.out, by go_num, by go_num, HI1.out, HP.out.trans (HP1.out.mono (by omega) hle), ?_, HK1.out⟩
        refine HB.out.succ (b := a + 20) (by rw [← HJ.out]; exact HP1.out) ?_
        rw [← HJ.out]; exact HS1.out
    · have han : a ≤ n := by omega
      clear hq
      go_wp2_with fail
      refine (insertion_any g n cap D a n _ HII.out hc hm han (Nat.le_refl _)).mono ?_
      rintro e w1 ⟨rfl, ⟨D1, hI1, hP1, hS1⟩, hK1⟩
      have hB1 : BFrom D1 n 0 20 := BTo.all (q := j) (fun i hi => (HB.out i hi).congr fun x g1 g2 => hP1.out x (by have := block_le (k := 20) hi; have := HJ.out; omega)) (by have := HJ.out; omega) (by rw [← HJ.out]; exact hS1)
      have HI1 := Lib.hid hI1
      have HB1 := Lib.hid hB1
      have HP1 := Lib.hid (HP.out.trans (hP1.mono (by omega) (Nat.le_refl _)))
      have HK1 := Lib.hid (HK.out.step hK1)
      clear hI1 hP1 hS1 hK1 hB1 HII HP HB HK
      go_wp2_with fail
      go_loopg [6] (2 * n + 1) (fun q v wr => ∃ (k : Nat) (D : Nat → Edge), 0 < k ∧ q + k = 2 * n + 21 ∧ v = .int .i64 k ∧ IsE wr g n D ∧ PermOn 0 n d D ∧ BFrom D n 0 k ∧ Keep (fun j => j = g) w wr)
      case atStart =>
        exact ⟨20, D1, by omega, by omega, rfl, HI1.out, HP1.out, HB1.out, HK1.out⟩
      case round =>
        clear HI1 HB1 HP1 HK1
        obtain ⟨k, D, hk0, hq, rfl, hI, hP, hB, hK⟩ := hrel
        have HII := Lib.hid hI
        have HP := Lib.hid hP
        have HB := Lib.hid hB
        have HK := Lib.hid hK
        have hk1 : k ≤ 2 * n + 21 := by omega
        have HQ' := Lib.hid hq
        clear hI hP hB hK hq
        by_cases hkn : k < n
        · go_wp2_with fail
          go_loopg [7, 8] n (fun q v u wr => ∃ (j a : Nat) (D : Nat → Edge), a = j * (2 * k) ∧ a + q = n ∧ v = .int .i64 a ∧ u = .int .i64 ((a : Int) + 2 * (k : Int)) ∧ IsE wr g n D ∧ PermOn 0 n d D ∧ BFrom D n a k ∧ BTo D j (2 * k) ∧ Keep (fun j => j = g) w wr)
          case atStart => exact ⟨0, 0, D, by omega, by omega, rfl, by simp, HII.out, HP.out, HB.out, BTo.zero _ _, HK.out⟩
          case round =>
            clear HII HB HP HK
            obtain ⟨j, a, D, hja, hqa, rfl, rfl, hI, hP, hB, hT, hK⟩ := hrel
            have HII := Lib.hid hI
            have HP := Lib.hid hP
            have HB := Lib.hid hB
            have HT := Lib.hid hT
            have HK := Lib.hid hK
            have HJ := Lib.hid hja
            have HQA := Lib.hid hqa
            have han : a ≤ n := by omega
            clear hI hP hB hK hja hT hqa
            by_cases hle : a + 2 * k ≤ n
            · go_wp2_with fail
              rw [show (a : Int) + (k : Int) = ((a + k : Nat) : Int) by omega, show (a : Int) + 2 * (k : Int) = ((a + 2 * k : Nat) : Int) by omega]
              have hR := HB.out.runs hle (Nat.le_refl _)
              rw [Nat.min_eq_left (by omega)] at hR
              refine (sym_any g n cap hc hm n D a (a + k) (a + 2 * k) _ (by omega) HII.out (by omega) (by omega) hle hR).mono ?_
              rintro e w2 ⟨rfl, ⟨D2, hI2, hP2, hS2⟩, hK2⟩
              have HI2 := Lib.hid hI2
              have HP2 := Lib.hid hP2
              have HS2 := Lib.hid hS2
              have HK2 := Lib.hid (HK.out.step hK2)
              have HM := Lib.hid (show n - (a + 2 * k) < gk by have := HQA.out; omega)
              have HE := Lib.hid (show a + 2 * k + (n - (a + 2 * k)) = n by omega)
              clear hI2 hP2 hS2 hK2 hR
              go_wp2
              go_roundg (n - (a + 2 * k))
              case measure => exact HM.out
              case rel =>
                refine ⟨j + 1, a + 2 * k, D2, by rw [Nat.add_mul, ← HJ.out]; omega, HE.out, by go_num, by go_num, HI2.out, HP.out.trans (HP2.out.mono (by omega) hle), HB.out.two HP2.out, ?_, HK2.out⟩
                refine HT.out.succ (b := a + 2 * k) (by rw [← HJ.out]; exact HP2.out) ?_
                rw [← HJ.out]; exact HS2.out
            · by_cases hmn : a + k < n
              · go_wp2_with fail
                rw [show (a : Int) + (k : Int) = ((a + k : Nat) : Int) by omega]
                have hR := HB.out.runs (Nat.le_refl n) (by omega)
                rw [Nat.min_eq_left (by omega)] at hR
                refine (sym_any g n cap hc hm n D a (a + k) n _ (by omega) HII.out (by omega) hmn (Nat.le_refl _) hR).mono ?_
                rintro e w2 ⟨rfl, ⟨D2, hI2, hP2, hS2⟩, hK2⟩
                have hB2 : BFrom D2 n 0 (2 * k) := BTo.all (q := j) (fun i hi => (HT.out i hi).congr fun x g1 g2 => hP2.out x (by have := block_le (k := 2 * k) hi; have := HJ.out; omega)) (by have := HJ.out; omega) (by rw [← HJ.out]; exact hS2)
                have HI2 := Lib.hid hI2
                have HB2 := Lib.hid hB2
                have HP2 := Lib.hid (HP.out.trans (hP2.mono (by omega) (Nat.le_refl _)))
                have HK2 := Lib.hid (HK.out.step hK2)
                have HM := Lib.hid (HQ'.out)
                clear hI2 hP2 hS2 hK2 hB2 hR
                go_wp2
                go_roundg (2 * n + 21 - 2 * k)
                case measure => have := HM.out; omega
                case rel => exact ⟨2 * k, D2, by omega, by omega, by go_num, HI2.out, HP2.out, HB2.out, HK2.out⟩
              · have hB2 : BFrom D n 0 (2 * k) := BTo.all (q := j) HT.out (by have := HJ.out; omega) (by
                  have hR := HB.out.runs (Nat.le_refl n) (by omega)
                  rw [Nat.min_eq_right (by omega)] at hR
                  rw [← HJ.out]; exact hR.l)
                have HB2 := Lib.hid hB2
                have HM := Lib.hid (HQ'.out)
                clear hB2
                go_wp2
                go_roundg (2 * n + 21 - 2 * k)
                case measure => have := HM.out; omega
                case rel => exact ⟨2 * k, D, by omega, by omega, by go_num, HII.out, HP.out, HB2.out, HK.out⟩
        · go_wp2
          go_end0
          exact ⟨rfl, ⟨D, HII.out, HP.out, HB.out.all (by omega)⟩, HK.out⟩

set_option maxHeartbeats 400000 in
theorem sort_any (g n cap : Nat) (d : Nat → Edge) (w : World) (h : IsE w g n d) (hc : n ≤ cap) (hm : n ≤ 4611686018427387904) (hn : n ≤ 1073741824) :
    Calls Tryd.prog 23 #[.slice (some ⟨g, 0, none⟩) n cap, cmpF] w (SortPost g n d 0 n w) := by
  have HI := Lib.hid h
  clear h
  go_enter Tryd.func23, Tryd.ntmps23
  go_wp2_with fail
  refine (stable_any g n cap d _ HI.out hc hm hn).mono ?_
  rintro e w1 ⟨rfl, hS, hK⟩
  have HS := Lib.hid hS
  have HK := Lib.hid hK
  clear hS hK
  go_wp2
  go_end0
  exact ⟨rfl, HS.out, HK.out⟩

set_option maxHeartbeats 400000 in
theorem insertion_none (A : Option Addr) (cap : Nat) (w : World) :
    Calls Tryd.prog 26 #[.slice A 0 cap, .int .i64 0, .int .i64 0, cmpF] w fun e w' => e = .returned (.tuple #[]) ∧ w = w' := by
  go_enter Tryd.func26, Tryd.ntmps26
  go_wp2
  refine wp_loop_rounds 1 ?_
  rw [rounds_succ]
  go_wp2
  go_end0
  exact ⟨rfl, rfl⟩

set_option maxHeartbeats 400000 in
theorem stable_none (A : Option Addr) (cap : Nat) (w : World) :
    Calls Tryd.prog 25 #[.slice A 0 cap, .int .i64 0, cmpF] w fun e w' => e = .returned (.tuple #[]) ∧ w = w' := by
  go_enter Tryd.func25, Tryd.ntmps25
  go_wp2
  refine wp_loop_rounds 1 ?_
  rw [rounds_succ]
  go_wp2_with fail
  refine (insertion_none A cap _).mono ?_
  rintro e w1 ⟨rfl, rfl⟩
  go_wp2_with fail
  refine wp_loop_rounds 1 ?_
  rw [rounds_succ]
  go_wp2
  go_end0
  exact ⟨rfl, rfl⟩

set_option maxHeartbeats 400000 in
/-- nothing to sort: a slice without elements. -/
theorem sort_none (A : Option Addr) (cap : Nat) (w : World) :
    Calls Tryd.prog 23 #[.slice A 0 cap, cmpF] w fun e w' => e = .returned (.tuple #[]) ∧ w = w' := by
  go_enter Tryd.func23, Tryd.ntmps23
  go_wp2_with fail
  refine (stable_none A cap _).mono ?_
  rintro e w1 ⟨rfl, rfl⟩
  go_wp2
  go_end0
  exact ⟨rfl, rfl⟩

end Go.Proofs.YtmficjbgpcbhoaaDoor
