/- Walks of spans: at, Has. -/
import Derived.Test.YtkbmggclecimeaaSpanA
import Derived.Test.YtkbmggclecimeaaWalkP
namespace Go.Proofs.Ytkbmggclecimeaa
open Go.RowKit Sh
set_option linter.unusedVariables false

def atV (x : Sp) (n : Int) : Int := if x.t < n then -1 else 1
set_option maxHeartbeats 400000 in
theorem atcmp_any (x : Sp) (n : Int) (w : World) :
    Calls Try.prog 67 #[.agg #[.int .u64 x.f, .int .u64 x.t], .int .u64 n] w fun e w' => e = .returned (.int .i64 (atV x n)) ∧ Keep (fun _ => False) w w' := by
  by_cases h1 : x.t < n
  · have e : atV x n = -1 := if_pos h1
    have E := Lib.hid e
    clear e
    go_enter Try.func67, Try.ntmps67
    go_wp2
    go_ret
    exact ⟨by rw [E.out]; rfl, (Keep.refl _ w).alloc _⟩
  · have e : atV x n = 1 := if_neg h1
    have E := Lib.hid e
    clear e
    go_enter Try.func67, Try.ntmps67
    go_wp2
    go_ret
    exact ⟨by rw [E.out]; rfl, (Keep.refl _ w).alloc _⟩

/-- the place of the first span that ends at n, or above. -/
structure IsAt (l : List Sp) (n : Int) (r : Nat) : Prop where
  le : r ≤ l.length
  lo : ∀ k, k < r → (sp l k).t < n
  hi : ∀ k, r ≤ k → k < l.length → n ≤ (sp l k).t

theorem Ok.mono {l : List Sp} (h : Ok l) (k j : Nat) (h1 : k ≤ j) (h2 : j < l.length) : (sp l k).t ≤ (sp l j).t := by
  by_cases e : k = j
  · subst e; exact Int.le_refl _
  · have := h.rise k j (by omega) h2
    have := (h j h2).1
    omega

set_option maxHeartbeats 1000000 in
theorem bsearch_any (v : Value) (l : List Sp) (n : Int) (w : World) (h : IsL w v l) (hO : Ok l) :
    Calls Try.prog 66 #[v, .int .u64 n, .func (.func 67) #[] #[]] w fun e w' => (∃ r : Nat, e = .returned (.tuple #[.int .i64 r, .bool false]) ∧ IsAt l n r) ∧ Keep (fun _ => False) w w' := by
  obtain ⟨A, cp, rfl, hcp, hlen, hA⟩ := h.ex
  have HA := Lib.hid hA
  have HO := Lib.hid hO
  clear hA h hO
  go_enter Try.func66, Try.ntmps66
  go_wp2
  go_loopg [9, 10] (l.length + 1) (fun q v u wr => ∃ (i j : Nat), i + q = j + 1 ∧ i ≤ j ∧ j ≤ l.length ∧ v = .int .i64 i ∧ u = .int .i64 j ∧ (∀ k, k < i → (sp l k).t < n) ∧ (∀ k, j ≤ k → k < l.length → n ≤ (sp l k).t) ∧ Keep (fun _ => False) w wr)
  case atStart => exact ⟨0, l.length, by omega, by omega, by omega, rfl, rfl, fun k hk => by omega, fun k h1 h2 => by omega, Keep.refl _ w⟩
  case round =>
    obtain ⟨i, j, hq, hij, hjl, rfl, rfl, hl, hg, hK⟩ := hrel
    have HL := Lib.hid hl
    have HG := Lib.hid hg
    have HK := Lib.hid hK
    have HQ := Lib.hid hq
    clear hl hg hK hq
    by_cases hlt : i < j
    · obtain ⟨g, o, rfl, hc⟩ := HA.out (by omega)
      obtain ⟨c, hc'⟩ : ∃ c : Nat, ((i : Int) + (j : Int)) / 2 = (c : Int) := ⟨(i + j) / 2, by omega⟩
      have hic : i ≤ c := by omega
      have hcj : c < j := by omega
      obtain ⟨c0, c1⟩ := hc c (by omega)
      have c0 := HK.out.cell c0
      have c1 := HK.out.cell c1
      clear hc
      have hwc : (0 : Int) ≤ c := by omega
      have hAt := atcmp_any (sp l c) n
      by_cases hl : (sp l c).t < n
      · have hv : atV (sp l c) n = -1 := if_pos hl
        rw [hv] at hAt
        have HAt := Lib.hid hAt
        have HLL := Lib.hid hl
        clear hAt hv hl
        go_wp2_with fail
        refine (HAt.out _).mono ?_
        rintro e w1 ⟨rfl, hK1⟩
        have HK1 := Lib.hid (HK.out.step hK1)
        clear hK1
        go_wp2
        go_roundg (j + 1 - (c + 1))
        case measure => have := HQ.out; omega
        case rel => exact ⟨c + 1, j, by omega, by omega, hjl, by go_num, rfl, fun k hk => Int.lt_of_le_of_lt (HO.out.mono k c (by omega) (by omega)) HLL.out, HG.out, HK1.out⟩
      · have hv : atV (sp l c) n = 1 := if_neg hl
        rw [hv] at hAt
        have HAt := Lib.hid hAt
        have HLL := Lib.hid (Int.not_lt.1 hl)
        clear hAt hv hl
        go_wp2_with fail
        refine (HAt.out _).mono ?_
        rintro e w1 ⟨rfl, hK1⟩
        have HK1 := Lib.hid (HK.out.step hK1)
        clear hK1
        go_wp2
        go_roundg (c + 1 - i)
        case measure => have := HQ.out; omega
        case rel => exact ⟨i, c, by omega, hic, by omega, rfl, by go_num, HL.out, fun k g1 g2 => Int.le_trans HLL.out (HO.out.mono c k g1 g2), HK1.out⟩
    · obtain rfl : j = i := by omega
      have hat : IsAt l n j := ⟨hjl, HL.out, HG.out⟩
      have HAt := Lib.hid hat
      clear hat
      by_cases hjn : j < l.length
      · obtain ⟨g, o, rfl, hc⟩ := HA.out (by omega)
        obtain ⟨c0, c1⟩ := hc j hjn
        have c0 := HK.out.cell c0
        have c1 := HK.out.cell c1
        clear hc
        have hv : atV (sp l j) n = 1 := if_neg (by have := HG.out j (Nat.le_refl _) hjn; omega)
        have hAc := atcmp_any (sp l j) n
        rw [hv] at hAc
        have HAc := Lib.hid hAc
        clear hAc hv
        go_wp2_with fail
        refine (HAc.out _).mono ?_
        rintro e w1 ⟨rfl, hK1⟩
        have HK1 := Lib.hid (HK.out.step hK1)
        clear hK1
        go_wp2
        go_ret2
        exact ⟨⟨j, rfl, HAt.out⟩, HK1.out⟩
      · go_wp2
        go_ret2
        exact ⟨⟨j, rfl, HAt.out⟩, HK.out⟩

set_option maxHeartbeats 400000 in
theorem at_span (v : Value) (l : List Sp) (n : Int) (w : World) (h : IsL w v l) (hO : Ok l) :
    Calls Try.prog 55 #[v, .int .u64 n] w fun e w' => (∃ r : Nat, e = .returned (.int .i64 r) ∧ IsAt l n r) ∧ Keep (fun _ => False) w w' := by
  have H := Lib.hid h
  have HO := Lib.hid hO
  clear h hO
  go_enter Try.func55, Try.ntmps55
  go_wp2_with fail
  refine (bsearch_any v l n _ H.out HO.out).mono ?_
  rintro e w1 ⟨⟨r, rfl, hat⟩, hK⟩
  have HAt := Lib.hid hat
  have HK := Lib.hid hK
  clear hat hK
  go_wp2
  go_ret
  exact ⟨⟨r, rfl, HAt.out⟩, HK.out⟩

def hasL (l : List Sp) (n : Int) : Prop := Ok l ∧ mem l n
open Classical in
noncomputable def hasLB (l : List Sp) (n : Int) : Bool := decide (hasL l n)
theorem hasLB_true {l : List Sp} {n : Int} (h : hasL l n) : hasLB l n = true := by simp [hasLB, h]
theorem hasLB_false {l : List Sp} {n : Int} (h : ¬ hasL l n) : hasLB l n = false := by simp [hasLB, h]
theorem hasLB_iff {l : List Sp} {n : Int} : hasLB l n = true ↔ hasL l n := by simp [hasLB]
theorem IsAt.mem {l : List Sp} {n : Int} {r : Nat} (h : IsAt l n r) (hO : Ok l) : Proofs.Ytkbmggclecimeaa.mem l n ↔ (r < l.length ∧ (sp l r).f ≤ n) := by
  constructor
  · rintro ⟨k, hk, m1, m2⟩
    have hrk : r ≤ k := by
      apply Classical.byContradiction
      intro hc
      have := h.lo k (by omega)
      omega
    refine ⟨by omega, ?_⟩
    by_cases e : r = k
    · subst e; exact m1
    · have := hO.rise r k (by omega) hk
      have := (hO r (by omega)).1
      omega
  · rintro ⟨h1, h2⟩
    exact ⟨r, h1, h2, h.hi r (Nat.le_refl _) h1⟩

set_option maxHeartbeats 1000000 in
theorem has_span (v : Value) (l : List Sp) (n : Int) (w : World) (h : IsL w v l) (hr : Rng l) :
    Calls Try.prog 31 #[v, .int .u64 n] w fun e w' => e = .returned (.bool (hasLB l n)) ∧ Keep (fun _ => False) w w' := by
  have H := Lib.hid h
  have HR := Lib.hid hr
  clear h hr
  by_cases hO : Ok l
  · have hob := okB_true hO
    have HOB := Lib.hid hob
    have HO := Lib.hid hO
    clear hob hO
    go_enter Try.func31, Try.ntmps31
    go_wp2_with fail
    refine (may_any v l _ H.out HR.out).mono ?_
    rintro e w1 ⟨rfl, hK1⟩
    rw [HOB.out]
    have HK1 := Lib.hid hK1
    clear hK1
    go_wp2_with fail
    refine (at_span v l n _ (H.out.keep HK1.out) HO.out).mono ?_
    rintro e w2 ⟨⟨r, rfl, hat⟩, hK2⟩
    have hm := hat.mem HO.out
    have HM := Lib.hid hm
    have HK2 := Lib.hid (HK1.out.step hK2)
    have hI2 := H.out.keep HK2.out
    obtain ⟨A, cp, rfl, hcp, hlen, hA⟩ := hI2.ex
    have HA := Lib.hid hA
    have hrl := hat.le
    clear hat hm hK2 hI2 hA
    by_cases c1 : r < l.length
    · obtain ⟨g, o, rfl, hc⟩ := HA.out (by omega)
      obtain ⟨c0, c1'⟩ := hc r c1
      clear hc
      by_cases c2 : (sp l r).f ≤ n
      · have e : hasLB l n = true := hasLB_true ⟨HO.out, HM.out.2 ⟨c1, c2⟩⟩
        have E := Lib.hid e
        clear e
        go_wp2
        go_ret
        exact ⟨by rw [E.out]; first | rfl | (simp; omega), HK2.out⟩
      · have e : hasLB l n = false := hasLB_false (fun h => c2 (HM.out.1 h.2).2)
        have E := Lib.hid e
        clear e
        go_wp2
        go_ret
        exact ⟨by rw [E.out]; first | rfl | (simp; omega), HK2.out⟩
    · have e : hasLB l n = false := hasLB_false (fun h => c1 (HM.out.1 h.2).1)
      have E := Lib.hid e
      clear e
      go_wp2
      go_ret
      exact ⟨by rw [E.out]; first | rfl | (simp; omega), HK2.out⟩
  · have hob := okB_false hO
    have e : hasLB l n = false := hasLB_false (fun h => hO h.1)
    have E := Lib.hid e
    have HOB := Lib.hid hob
    clear hob hO e
    go_enter Try.func31, Try.ntmps31
    go_wp2_with fail
    refine (may_any v l _ H.out HR.out).mono ?_
    rintro e w1 ⟨rfl, hK1⟩
    rw [HOB.out]
    have HK1 := Lib.hid hK1
    clear hK1
    go_wp2
    go_ret
    exact ⟨by rw [E.out]; rfl, HK1.out⟩

end Go.Proofs.Ytkbmggclecimeaa
