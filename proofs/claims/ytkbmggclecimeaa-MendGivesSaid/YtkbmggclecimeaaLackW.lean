/- MendLack: the walk of the law. -/
import Derived.Test.YtkbmggclecimeaaRefC
namespace Go.Proofs.Ytkbmggclecimeaa
open Go.RowKit Sh
set_option linter.unusedVariables false

theorem rjoin_set {w : World} {va vb : Value} {Ka Kb : Int → Bool} (ha : IsSet w va Ka) (hb : IsSet w vb Kb) (sa : Small Ka) (sb : Small Kb) :
    Calls Try.prog 22 #[va, vb] w fun e w' => (∃ v, e = .returned v ∧ IsSet w' v (fun x => Ka x || Kb x)) ∧ Keep (fun _ => False) w w' := by
  obtain ⟨a, a1, a2, a3, a4⟩ := ha.ex
  obtain ⟨b, b1, b2, b3, b4⟩ := hb.ex
  have hla := len_small a2 a3 a4 sa
  have hlb := len_small b2 b3 b4 sb
  refine (rjoin_any va vb a b w a1 b1 a3 b3 a2 b2 (by omega)).mono ?_
  rintro e w' ⟨⟨u, out, rfl, h1, h2, h3, h4⟩, hk⟩
  exact ⟨⟨u, rfl, ⟨out, h1, h2, h3, fun z => by rw [h4, a4, b4]⟩⟩, hk⟩
theorem rhas_set {w : World} {v : Value} {K : Int → Bool} (h : IsSet w v K) (n : Int) : Calls Try.prog 24 #[v, .int .u64 n] w fun e w' => e = .returned (.bool (K n)) ∧ Keep (fun _ => False) w w' := by
  obtain ⟨l, h1, h2, h3, h4⟩ := h.ex
  refine (rhas_any v l n w h1 h3).mono ?_
  rintro e w' ⟨rfl, hk⟩
  refine ⟨?_, hk⟩
  rw [← h4]
  by_cases c : mem l n
  · rw [hasLB_true ⟨h2, c⟩, memB_iff.2 c]
  · rw [hasLB_false (fun h => c h.2), memB_false.2 c]
theorem rhas_eq {w : World} {v : Value} {K : Int → Bool} (h : IsSet w v K) (n : Int) (b : Bool) (hb : K n = b) : Calls Try.prog 24 #[v, .int .u64 n] w fun e w' => e = .returned (.bool b) ∧ Keep (fun _ => False) w w' := by
  subst hb
  exact rhas_set h n
theorem rmay_set {w : World} {v : Value} {K : Int → Bool} (h : IsSet w v K) : Calls Try.prog 25 #[v] w fun e w' => e = .returned (.bool true) ∧ Keep (fun _ => False) w w' := by
  obtain ⟨l, h1, h2, h3, h4⟩ := h.ex
  refine (rmay_any v l w h1 h3).mono ?_
  rintro e w' ⟨rfl, hk⟩
  exact ⟨by rw [okB_true h2], hk⟩
theorem cnt_set {l : List Sp} (h2 : Ok l) (h3 : Rng l) {K : Int → Bool} (h4 : ∀ x, memB l x = K x) (s : Small K) : cnt l l.length = cK K 256 := by
  rw [← cK_congr h4, cK_ov h2 h3, ov_all h2]
  intro k hk
  exact s _ (by rw [← h4, memB_iff]; exact ⟨k, hk, (h2 k hk).1, by omega⟩)
theorem first_set2 {w : World} {v : Value} {K : Int → Bool} (h : IsSet w v K) (s : Small K) (n : Int) (n0 : 0 ≤ n) (n1 : n ≤ 255) :
    Calls Try.prog 41 #[v, .int .u64 n] w fun e w' => (∃ u B, e = .returned u ∧ IsSet w' u (fun z => K z && decide (z < B)) ∧ cK (fun z => K z && decide (z < B)) 256 = min n (cK K 256)) ∧ Keep (fun _ => False) w w' := by
  obtain ⟨l, h1, h2, h3, h4⟩ := h.ex
  refine (first_any v l n w h1 h3 h2 n0 n1 (len_small h2 h3 h4 s)).mono ?_
  rintro e w' ⟨⟨u, F, rfl, g1, g2, g3, ⟨B, g4⟩, g5⟩, hk⟩
  have hm : ∀ z, memB F z = (K z && decide (z < B)) := fun z => by rw [g4, h4]
  have hs : Small (fun z => K z && decide (z < B)) := fun z hz => s z (by simp at hz; exact hz.1)
  exact ⟨⟨u, B, rfl, ⟨F, g1, g2, g3, hm⟩, by rw [← cnt_set g2 g3 hm hs, g5, cnt_set h2 h3 h4 s]⟩, hk⟩

theorem cK_cut (K : Int → Bool) (B : Int) : ∀ N : Nat, (N : Int) ≤ B → cK (fun z => K z && decide (z < B)) N = cK K N
  | 0, _ => rfl
  | n + 1, h => by
    simp only [cK]
    rw [cK_cut K B n (by omega), decide_eq_true (show (n : Int) < B by omega), Bool.and_true]
theorem cK_stop (K : Int → Bool) (B : Int) (k : Nat) (hk : B ≤ k) : ∀ d : Nat, cK (fun z => K z && decide (z < B)) (k + d) = cK (fun z => K z && decide (z < B)) k
  | 0 => rfl
  | d + 1 => by
    rw [← Nat.add_assoc]
    simp only [cK]
    rw [cK_stop K B k hk d, decide_eq_false (show ¬ ((k + d : Nat) : Int) < B by omega), Bool.and_false]
    simp
theorem cK_le (K L : Int → Bool) (h : ∀ z, K z = true → L z = true) : ∀ N : Nat, cK K N ≤ cK L N
  | 0 => Int.le_refl _
  | n + 1 => by
    simp only [cK]
    have := cK_le K L h n
    cases e : K n
    · cases L n <;> simp only [cond_true, cond_false] <;> omega
    · rw [h _ e]; simp only [cond_true]; omega
theorem cK_mono (K : Int → Bool) (k : Nat) : ∀ d : Nat, cK K k ≤ cK K (k + d)
  | 0 => Int.le_refl _
  | d + 1 => by
    have := cK_mono K k d
    rw [← Nat.add_assoc]
    simp only [cK]
    cases K ((k + d : Nat) : Int) <;> simp only [cond_true, cond_false] <;> omega
/-- of the first n, a number is one if fewer than n lie below it. -/
theorem first_is {K : Int → Bool} {B n : Int} (hc : cK (fun z => K z && decide (z < B)) 256 = min n (cK K 256)) (k : Nat) (hk : k < 256) (hK : K k = true) : decide ((k : Int) < B) = decide (cK K k < n) := by
  have e256 : k + 1 + (255 - k) = 256 := by omega
  have h1 := cK_mono K (k + 1) (255 - k)
  rw [e256] at h1
  have h2 : cK K (k + 1) = cK K k + 1 := by simp only [cK]; rw [hK]; rfl
  by_cases c : (k : Int) < B
  · rw [decide_eq_true c]
    have h3 := cK_cut K B (k + 1) (by omega)
    have h4 := cK_mono (fun z => K z && decide (z < B)) (k + 1) (255 - k)
    rw [e256] at h4
    exact (decide_eq_true (by omega)).symm
  · rw [decide_eq_false c]
    have h3 := cK_stop K B k (by omega) (256 - k)
    rw [show k + (256 - k) = 256 by omega] at h3
    have h4 := cK_le (fun z => K z && decide (z < B)) K (fun z hz => by simp at hz; exact hz.1) k
    exact (decide_eq_false (by omega)).symm

set_option maxHeartbeats 1000000 in
theorem lack_set {w : World} {va vb : Value} {Ka Kb : Int → Bool} (ha : IsSet w va Ka) (hb : IsSet w vb Kb) (sa : Small Ka) (sb : Small Kb) (n : Int) (n0 : 0 ≤ n) (n1 : n ≤ 255) :
    Calls Try.prog 23 #[va, vb, .int .u64 n] w fun e w' => (∃ u B, e = .returned u ∧ IsSet w' u (fun z => (Kb z && !Ka z) && decide (z < B)) ∧ cK (fun z => (Kb z && !Ka z) && decide (z < B)) 256 = min n (cK (fun z => Kb z && !Ka z) 256)) ∧ Keep (fun _ => False) w w' := by
  have HA := Lib.hid ha
  have HB := Lib.hid hb
  have SA := Lib.hid sa
  have SB := Lib.hid sb
  clear ha hb sa sb
  go_enter Try.func23, Try.ntmps23
  go_wp2_with fail
  refine (minus_set HB.out HA.out SB.out SA.out).mono ?_
  rintro e w1 ⟨⟨v, rfl, hv⟩, hk1⟩
  have HV := Lib.hid hv
  have HK1 := Lib.hid hk1
  clear hv hk1
  go_wp2_with fail
  refine (first_set2 HV.out (SB.out.minus _) n n0 n1).mono ?_
  rintro e w2 ⟨⟨u, B, rfl, hu, hc⟩, hk2⟩
  have HU := Lib.hid hu
  have HC := Lib.hid hc
  have HK2 := Lib.hid (HK1.out.step hk2)
  clear hu hc hk2
  go_wp2
  go_ret
  exact ⟨⟨u, B, rfl, HU.out, HC.out⟩, HK2.out⟩

set_option maxHeartbeats 1000000 in
theorem shown14 (w : World) : Calls Try.prog 21 #[] w fun e w' => e = .returned (.bool true) ∧ Keep (fun _ => False) w w' := by
  have hA := one_set (heap_alloc_new w (.cells #[.int .u64 1, .int .u64 2] 46)) (by omega) (by omega) (by omega)
  have hB := one_set (heap_alloc_new (w.alloc (.cells #[.int .u64 1, .int .u64 2] 46)) (.cells #[.int .u64 1, .int .u64 5] 46)) (by omega) (by omega) (by omega)
  have HA := Lib.hid (hA.keep ((Keep.refl _ _).alloc (.cells #[.int .u64 1, .int .u64 5] 46)))
  have e1 : (w.alloc (.cells #[.int .u64 1, .int .u64 2] 46)).heap.size = w.heap.size + 1 := by simp
  rw [e1] at hB
  have HB := Lib.hid hB
  clear hA hB e1
  go_enter Try.func21, Try.ntmps21
  go_wp2_with fail
  refine (lack_set HA.out HB.out (by intro x hx; simp at hx; omega) (by intro x hx; simp at hx; omega) 9 (by omega) (by omega)).mono ?_
  rintro e w1 ⟨⟨u, B, rfl, hu, hc⟩, hk1⟩
  have hb : (5 : Int) < B := by
    have h := first_is hc 5 (by omega) (by rfl)
    have h2 := (cK_rng (fun z => decide (1 ≤ z ∧ z ≤ 5) && !decide (1 ≤ z ∧ z ≤ 2)) 5).2
    rw [decide_eq_true (show cK (fun z => decide (1 ≤ z ∧ z ≤ 5) && !decide (1 ≤ z ∧ z ≤ 2)) 5 < 9 by omega)] at h
    have h3 := of_decide_eq_true h
    omega
  have hk : Keep (fun _ => False) w w1 := (((Keep.refl _ w).alloc _).alloc _).step hk1
  have HU := Lib.hid hu
  have HBB := Lib.hid hb
  have HK1 := Lib.hid hk
  have H2 := Lib.hid (one_set (heap_alloc_new w1 (.cells #[.int .u64 3, .int .u64 5] 46)) (by omega) (by omega) (by omega))
  clear hu hc hk1 hk hb
  go_wp2_with fail
  refine (same_set (HU.out.keep ((Keep.refl _ w1).alloc _)) H2.out (fun x => ?c)).mono ?_
  case c => have := HBB.out; rw [Bool.eq_iff_iff]; simp; omega
  rintro e w2 ⟨rfl, hk2⟩
  have HK2 := Lib.hid ((HK1.out.alloc (.cells #[.int .u64 3, .int .u64 5] 46)).step hk2)
  clear hk2
  go_wp2
  go_ret
  exact ⟨rfl, HK2.out⟩

set_option maxRecDepth 100000 in
set_option maxHeartbeats 4000000 in
theorem lack_walk {w : World} {va vb : Value} {a b : List Int} (ha : IsB w va a) (hb : IsB w vb b) (m : Int) (m0 : 0 ≤ m) (m1 : m ≤ 255) :
    Calls Try.prog 5 #[va, vb, .int .u8 m] w fun e w' => e = .returned (.bool true) ∧ Keep (fun _ => False) w w' := by
  have HA := Lib.hid ha
  have HB := Lib.hid hb
  have RA := Lib.hid ha.rng
  have RB := Lib.hid hb.rng
  obtain ⟨Aa, ca, rfl, _, _, _⟩ := ha.ex
  obtain ⟨Ab, cb, rfl, _, _, _⟩ := hb.ex
  have SA : Hid (Small (KB a)) := KB_small ha
  have SB : Hid (Small (KB b)) := KB_small hb
  clear ha hb
  by_cases hs : a.length ≤ 100 ∧ b.length ≤ 100
  · obtain ⟨hs1, hs2⟩ := hs
    have d1 : decide ((100 : Int) < (a.length : Int)) = false := by simp; omega
    have d2 : ¬ (100 : Int) < (a.length : Int) := by omega
    have d3 : decide ((100 : Int) < (b.length : Int)) = false := by simp; omega
    have d4 : ¬ (100 : Int) < (b.length : Int) := by omega
    go_enter Try.func5, Try.ntmps5
    go_wp2_with fail
    refine (shown14 w).mono ?_
    rintro e w1 ⟨rfl, hk1⟩
    have HK1 := Lib.hid hk1
    clear hk1
    go_wp2_with fail
    go_loopg [7, 9] a.length (fun q vv vi wr => ∃ i : Nat, i + q = a.length ∧ vi = .int .i64 i ∧ IsSet wr vv (KB (a.take i)) ∧ Keep (fun _ => False) w wr)
    case atStart => exact ⟨0, by omega, rfl, (IsSet.empty _ _ _).of (fun x => by simp [KB]), (HK1.out.alloc _).alloc _⟩
    case round =>
      obtain ⟨i, hq, rfl, hs, hK⟩ := hrel
      have HS := Lib.hid hs
      have HK := Lib.hid hK
      have HQ := Lib.hid hq
      have HI := HA.out.keep hK
      clear hs hK hq
      by_cases hlt : i < a.length
      · obtain ⟨A', cp', he, _, _, hA⟩ := HI.ex
        simp only [Value.slice.injEq, true_and] at he
        obtain ⟨rfl, rfl⟩ := he
        obtain ⟨g, o, rfl, hc⟩ := hA (by omega)
        have c0 := hc i hlt
        have hst := KB_step a i hlt
        have hr := RA.out i hlt
        obtain ⟨y, hy⟩ : ∃ y, y = a.getD i 0 := ⟨_, rfl⟩
        rw [← hy] at c0 hr hst
        have HST := Lib.hid hst
        obtain ⟨hy0, hy1⟩ := hr
        have e2 : IntKind.u64.wrap y = y := by rw [IntKind.wrap_u64]; omega
        have H1 := Lib.hid (one_set (heap_alloc_new wr (.cells #[.int .u64 y, .int .u64 y] 46)) hy0 (Int.le_refl y) (by omega))
        have HO : Hid (IsSet (wr.alloc (.cells #[.int .u64 y, .int .u64 y] 46)).drew (.slice (some ⟨wr.heap.size, 0, none⟩) 1 1) (fun x => decide (y ≤ x ∧ x ≤ y))) := H1.out.keep ((Keep.refl _ _).drew)
        have C0 : Hid (∀ x, (wr.alloc x).drew.cell? ⟨g, o + i, none⟩ = some (.int .u8 y)) := fun x => (((Keep.refl _ wr).alloc x).drew).cell c0
        clear hA hc HI hy hst
        go_upto_region 8 with fail
        go_region_held3 (fun w' => w'.cell? ⟨g, o + i, none⟩ = some (.int .u8 y)) (go_keep) (first | (go_at_call 22; refine (rjoin_set (HS.out.keep (((Keep.refl _ wr).alloc _).drew)) HO.out (KB_small2 RA.out i) (fun x hx => by simp at hx; omega)).mono ?_; rintro e w5 ⟨⟨u, rfl, hu⟩, hk1⟩; have c5 := hk1.cell (C0.out _)))
        have HU := Lib.hid (hu.of (fun x => (show (KB (a.take i) x || decide (y ≤ x ∧ x ≤ y)) = KB (a.take (i + 1)) x by rw [← HST.out]; congr 1; exact decide_eq_decide.2 (by omega))))
        have HK1 := Lib.hid (((HK.out.alloc _).drew).step hk1)
        clear hu hk1
        go_wp2
        go_roundg (a.length - (i + 1))
        case measure => have := HQ.out; omega
        case rel => exact ⟨i + 1, by omega, by go_num, HU.out, HK1.out⟩
      · obtain rfl : a.length = i := by have := HQ.out; omega
        have HX := HS.out
        rw [List.take_length] at HX
        have HXa := Lib.hid HX
        clear HX
        clear HQ
        go_wp2_with fail
        go_loopg [8, 10] b.length (fun q vv vi wr => ∃ i : Nat, i + q = b.length ∧ vi = .int .i64 i ∧ IsSet wr vv (KB (b.take i)) ∧ IsSet wr u7 (KB a) ∧ Keep (fun _ => False) w wr)
        case atStart => exact ⟨0, by omega, rfl, (IsSet.empty _ _ _).of (fun x => by simp [KB]), HXa.out, HK.out⟩
        case round =>
          obtain ⟨i, hq, rfl, hs, hx, hK⟩ := hrel
          have HS := Lib.hid hs
          have HXa := Lib.hid hx
          have HK := Lib.hid hK
          have HQ := Lib.hid hq
          have HI := HB.out.keep hK
          clear hs hK hq hx
          by_cases hlt : i < b.length
          · obtain ⟨A', cp', he, _, _, hA⟩ := HI.ex
            simp only [Value.slice.injEq, true_and] at he
            obtain ⟨rfl, rfl⟩ := he
            obtain ⟨g, o, rfl, hc⟩ := hA (by omega)
            have c0 := hc i hlt
            have hst := KB_step b i hlt
            have hr := RB.out i hlt
            obtain ⟨y, hy⟩ : ∃ y, y = b.getD i 0 := ⟨_, rfl⟩
            rw [← hy] at c0 hr hst
            have HST := Lib.hid hst
            obtain ⟨hy0, hy1⟩ := hr
            have e2 : IntKind.u64.wrap y = y := by rw [IntKind.wrap_u64]; omega
            have H1 := Lib.hid (one_set (heap_alloc_new wr (.cells #[.int .u64 y, .int .u64 y] 46)) hy0 (Int.le_refl y) (by omega))
            have HO : Hid (IsSet (wr.alloc (.cells #[.int .u64 y, .int .u64 y] 46)).drew (.slice (some ⟨wr.heap.size, 0, none⟩) 1 1) (fun x => decide (y ≤ x ∧ x ≤ y))) := H1.out.keep ((Keep.refl _ _).drew)
            have C0 : Hid (∀ x, (wr.alloc x).drew.cell? ⟨g, o + i, none⟩ = some (.int .u8 y)) := fun x => (((Keep.refl _ wr).alloc x).drew).cell c0
            clear hA hc HI hy hst
            go_upto_region 12 with fail
            go_region_held3 (fun w' => w'.cell? ⟨g, o + i, none⟩ = some (.int .u8 y)) (go_keep) (first | (go_at_call 22; refine (rjoin_set (HS.out.keep (((Keep.refl _ wr).alloc _).drew)) HO.out (KB_small2 RB.out i) (fun x hx => by simp at hx; omega)).mono ?_; rintro e w5 ⟨⟨u, rfl, hu⟩, hk1⟩; have c5 := hk1.cell (C0.out _)))
            have HU := Lib.hid (hu.of (fun x => (show (KB (b.take i) x || decide (y ≤ x ∧ x ≤ y)) = KB (b.take (i + 1)) x by rw [← HST.out]; congr 1; exact decide_eq_decide.2 (by omega))))
            have HK1 := Lib.hid (((HK.out.alloc _).drew).step hk1)
            have HX1 := Lib.hid (HXa.out.keep ((((Keep.refl _ wr).alloc _).drew).step hk1))
            clear hu hk1
            go_wp2
            go_roundg (b.length - (i + 1))
            case measure => have := HQ.out; omega
            case rel => exact ⟨i + 1, by omega, by go_num, HU.out, HX1.out, HK1.out⟩
          · obtain rfl : b.length = i := by have := HQ.out; omega
            have HX := HS.out
            rw [List.take_length] at HX
            have HXb := Lib.hid HX
            clear HX
            go_wp2_with fail
            refine (lack_set HXa.out HXb.out SA.out SB.out m m0 m1).mono ?_
            rintro e w3 ⟨⟨u, B, rfl, hu, hc⟩, hk3⟩
            have HU := Lib.hid hu
            have HF := Lib.hid (fun k a b => first_is hc k a b)
            have HA3 := Lib.hid (HXa.out.keep hk3)
            have HB3 := Lib.hid (HXb.out.keep hk3)
            have HK3 := Lib.hid (HK.out.step hk3)
            clear hu hc hk3 HXa HXb HK HS HQ
            go_wp2_with fail
            go_loopg [12, 13] 256 (fun q v12 v13 wr => ∃ k : Nat, k + q = 256 ∧ v13 = .int .u64 k ∧ v12 = .int .i64 (cK (fun z => KB b z && !KB a z) k) ∧ Keep (fun _ => False) w3 wr)
            case atStart => exact ⟨0, by omega, rfl, rfl, Keep.refl _ w3⟩
            case round =>
              obtain ⟨k, hq, rfl, rfl, hK⟩ := hrel
              have HQ := Lib.hid hq
              have HK := Lib.hid hK
              clear hq hK
              by_cases hlt : k < 256
              · have e1 : IntKind.u64.wrap ((k : Int) + 1) = (k : Int) + 1 := by rw [IntKind.wrap_u64]; omega
                have hrn := cK_rng (fun z => KB b z && !KB a z) k
                have hsu : cK (fun z => KB b z && !KB a z) (k + 1) = cK (fun z => KB b z && !KB a z) k + cond (KB b k && !KB a k) 1 0 := rfl
                have hfi := HF.out k hlt
                obtain ⟨c, hc⟩ : ∃ c, c = cK (fun z => KB b z && !KB a z) k := ⟨_, rfl⟩
                rw [← hc] at hrn hsu hfi ⊢
                obtain ⟨c0, c1⟩ := hrn
                have HSU := Lib.hid hsu
                have HFI := Lib.hid hfi
                clear hc hsu hfi
                cases eb : KB b (k : Int)
                · have HEB := Lib.hid eb
                  clear eb
                  go_wp2_with fail
                  refine (rhas_eq (HB3.out.keep HK.out) k false HEB.out).mono ?_
                  rintro e w5 ⟨rfl, hk5⟩
                  have HK5 := Lib.hid (HK.out.step hk5)
                  clear hk5
                  go_wp2_with fail
                  refine (rhas_eq (HU.out.keep HK5.out) k false (by rw [HEB.out]; rfl)).mono ?_
                  rintro e w6 ⟨rfl, hk6⟩
                  have HK6 := Lib.hid (HK5.out.step hk6)
                  clear hk6
                  go_wp2
                  go_roundg (256 - (k + 1))
                  case measure => have := HQ.out; omega
                  case rel => exact ⟨k + 1, by omega, by go_num, by rw [HSU.out, HEB.out]; simp, HK6.out⟩
                · have HEB := Lib.hid eb
                  clear eb
                  go_wp2_with fail
                  refine (rhas_eq (HB3.out.keep HK.out) k true HEB.out).mono ?_
                  rintro e w5 ⟨rfl, hk5⟩
                  have HK5 := Lib.hid (HK.out.step hk5)
                  clear hk5
                  cases ea : KB a (k : Int)
                  · have HEA := Lib.hid ea
                    have hfi := HFI.out (by rw [HEB.out, ea]; rfl)
                    have HFJ := Lib.hid hfi
                    clear ea hfi
                    go_wp2_with fail
                    refine (rhas_eq (HA3.out.keep HK5.out) k false HEA.out).mono ?_
                    rintro e w6 ⟨rfl, hk6⟩
                    have HK6 := Lib.hid (HK5.out.step hk6)
                    clear hk6
                    have e2 : IntKind.i64.wrap (c + 1) = c + 1 := IntWalk.i64_in _ (by omega)
                    by_cases hcm : c < m
                    · have d : decide (c < m) = true := decide_eq_true hcm
                      go_wp2_with fail
                      refine (rhas_eq (HU.out.keep HK6.out) k true (by rw [HEB.out, HEA.out, HFJ.out]; simp; exact hcm)).mono ?_
                      rintro e w7 ⟨rfl, hk7⟩
                      have HK7 := Lib.hid (HK6.out.step hk7)
                      clear hk7
                      go_wp2
                      go_roundg (256 - (k + 1))
                      case measure => have := HQ.out; omega
                      case rel => exact ⟨k + 1, by omega, by go_num, by rw [HSU.out, HEB.out, HEA.out]; rfl, HK7.out⟩
                    · have d : decide (c < m) = false := decide_eq_false hcm
                      go_wp2_with fail
                      refine (rhas_eq (HU.out.keep HK6.out) k false (by rw [HEB.out, HEA.out, HFJ.out]; simp; omega)).mono ?_
                      rintro e w7 ⟨rfl, hk7⟩
                      have HK7 := Lib.hid (HK6.out.step hk7)
                      clear hk7
                      go_wp2
                      go_roundg (256 - (k + 1))
                      case measure => have := HQ.out; omega
                      case rel => exact ⟨k + 1, by omega, by go_num, by rw [HSU.out, HEB.out, HEA.out]; rfl, HK7.out⟩
                  · have HEA := Lib.hid ea
                    clear ea
                    go_wp2_with fail
                    refine (rhas_eq (HA3.out.keep HK5.out) k true HEA.out).mono ?_
                    rintro e w6 ⟨rfl, hk6⟩
                    have HK6 := Lib.hid (HK5.out.step hk6)
                    clear hk6
                    go_wp2_with fail
                    refine (rhas_eq (HU.out.keep HK6.out) k false (by rw [HEB.out, HEA.out]; rfl)).mono ?_
                    rintro e w7 ⟨rfl, hk7⟩
                    have HK7 := Lib.hid (HK6.out.step hk7)
                    clear hk7
                    go_wp2
                    go_roundg (256 - (k + 1))
                    case measure => have := HQ.out; omega
                    case rel => exact ⟨k + 1, by omega, by go_num, by rw [HSU.out, HEB.out, HEA.out]; simp, HK7.out⟩
              · obtain rfl : k = 256 := by have := HQ.out; omega
                clear HF
                go_wp2_with fail
                refine (rmay_set (HU.out.keep HK.out)).mono ?_
                rintro e w5 ⟨rfl, hk5⟩
                have HK5 := Lib.hid (HK3.out.step (HK.out.step hk5))
                clear hk5
                go_wp2
                go_ret
                exact ⟨rfl, HK5.out⟩
  · by_cases h1 : 100 < a.length
    · have d1 : decide ((100 : Int) < (a.length : Int)) = true := by simp; omega
      have d2 : (100 : Int) < (a.length : Int) := by omega
      clear hs
      go_enter Try.func5, Try.ntmps5
      go_wp2_with fail
      refine (shown14 w).mono ?_
      rintro e w1 ⟨rfl, hk1⟩
      have HK1 := Lib.hid hk1
      clear hk1
      go_wp2
      go_ret
      exact ⟨rfl, HK1.out⟩
    · have d1 : decide ((100 : Int) < (a.length : Int)) = false := by simp; omega
      have d2 : ¬ (100 : Int) < (a.length : Int) := by omega
      have d3 : decide ((100 : Int) < (b.length : Int)) = true := by simp; omega
      have d4 : (100 : Int) < (b.length : Int) := by omega
      clear hs
      go_enter Try.func5, Try.ntmps5
      go_wp2_with fail
      refine (shown14 w).mono ?_
      rintro e w1 ⟨rfl, hk1⟩
      have HK1 := Lib.hid hk1
      clear hk1
      go_wp2
      go_ret
      exact ⟨rfl, HK1.out⟩

end Go.Proofs.Ytkbmggclecimeaa
