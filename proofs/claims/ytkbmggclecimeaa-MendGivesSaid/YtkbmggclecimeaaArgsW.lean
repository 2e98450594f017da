/- ShelfArgs: the walk of the law. -/
import Derived.Test.YtkbmggclecimeaaHave
namespace Go.Proofs.Ytkbmggclecimeaa
open Go.RowKit Sh
set_option linter.unusedVariables false

theorem one_run {w : World} {v : Value} {K : Int → Bool} (h : IsSet w v K) (f t : Int) (ft : f ≤ t) (f0 : 0 ≤ f) (t1 : t < 18446744073709551615) (hK : ∀ x, K x = decide (f ≤ x ∧ x ≤ t)) : ∃ A c, v = .slice A 1 c := by
  obtain ⟨l, h1, h2, h3, h4⟩ := h.ex
  obtain ⟨A, c, rfl, _⟩ := h1.ex
  have hO : Ok [⟨f, t⟩] := by
    intro j hj
    obtain rfl : j = 0 := by simp at hj; omega
    rw [sp_zero]
    exact ⟨ft, t1, fun h => by omega⟩
  have e : l = [⟨f, t⟩] := Ok.uniq h2 hO (fun z => by
    rw [← memB_iff, h4, hK, mem_cons]
    constructor
    · intro hz; exact .inl (by simpa using hz)
    · rintro (hz | hz)
      · simpa using hz
      · exact absurd hz (mem_nil _))
  subst e
  exact ⟨A, c, rfl⟩
theorem fresh_has (n : Int) (h : 0 < n) : hasB Sh.fresh n = false := by
  simp only [hasB, Sh.fresh, noPlc]
  rw [show ((0 : Int) == n) = false by rw [beq_eq_false_iff_ne]; omega]
  simp
theorem fresh_ok : St.ok Sh.fresh := ⟨by decide, by decide⟩
theorem fresh_low : Sh.fresh.low = 0 := rfl
theorem put_has (n : Int) (p : Plc) (hp : p.n = n) (n1 : 1 ≤ n) (n2 : n ≤ 64) (x : Int) (x1 : 1 ≤ x) (x2 : x ≤ 64) : hasB (Sh.fresh.set (n % 64).toNat p) x = decide (x = n) := by
  by_cases e : x = n
  · subst e
    show (decide ((0 : Int) < x) && decide (x - 0 ≤ 64) && ((if (x % 64).toNat = (x % 64).toNat then p else noPlc).n == x)) = decide (x = x)
    rw [if_pos rfl, hp, decide_eq_true (show (0 : Int) < x by omega), decide_eq_true (show x - 0 ≤ 64 by omega)]
    simp
  · rw [hasB_set_ne _ _ _ _ (by omega), fresh_has _ (by omega), decide_eq_false e]

set_option maxRecDepth 100000 in
set_option maxHeartbeats 4000000 in
theorem args_walk (n : Int) (text : ByteArray) (n0 : 0 ≤ n) (n1 : n < 18446744073709551616) (w : World) :
    Calls Try.prog 13 #[.int .u64 n, .string text] w fun e w' => e = .returned (.bool true) ∧ Keep (fun _ => False) w w' := by
  by_cases ht : 200 < text.size
  · have d1 : decide ((200 : Int) < (text.size : Int)) = true := decide_eq_true (by omega)
    have d2 : (200 : Int) < (text.size : Int) := by omega
    go_enter Try.func13, Try.ntmps13
    go_wp2_with fail
    refine (shown13 w).mono ?_
    rintro e w1 ⟨rfl, hk1⟩
    have HK1 := Lib.hid hk1
    clear hk1
    go_wp2
    go_ret
    exact ⟨rfl, HK1.out⟩
  · have d1 : decide ((200 : Int) < (text.size : Int)) = false := decide_eq_false (by omega)
    have d2 : ¬ (200 : Int) < (text.size : Int) := by omega
    by_cases c0 : n = 0
    · subst c0
      go_enter Try.func13, Try.ntmps13
      go_wp2_with fail
      refine (shown13 w).mono ?_
      rintro e w1 ⟨rfl, hk1⟩
      have HK1 := Lib.hid (hk1.alloc (.cells Try.zeroCells32 32))
      have H0 := Lib.hid (fresh_alloc w1)
      have SZ : Hid (w.heap.size ≤ w1.heap.size) := hk1.size
      clear hk1
      go_wp2_with fail
      refine (put_arg0 _ Sh.fresh 0 0 0 text _ H0.out fresh_ok (by omega) (by omega) rfl).mono ?_
      rintro e w2 ⟨rfl, hk2⟩
      have H2 := Lib.hid (H0.out.keep hk2 id)
      have HK2 := Lib.hid (HK1.out.step hk2)
      clear hk2
      go_wp2_with fail
      refine (get_none0 _ Sh.fresh _ H2.out fresh_ok).mono ?_
      rintro e w3 ⟨rfl, hk3⟩
      have H3 := Lib.hid (H2.out.keep (hk3.alloc (.cells #[.int .i64 0, .int .u64 0, .string ⟨#[]⟩] 27)) id)
      have HK3 := Lib.hid (HK2.out.step (hk3.alloc (.cells #[.int .i64 0, .int .u64 0, .string ⟨#[]⟩] 27)))
      clear hk3
      go_wp2_with fail
      refine (have_set _ Sh.fresh _ H3.out fresh_ok fresh_low).mono ?_
      rintro e w4 ⟨⟨u, rfl, hu⟩, hk4⟩
      have HK4 := Lib.hid (HK3.out.step hk4)
      obtain ⟨Au, cu, rfl⟩ := hu.none (fun x => by
        by_cases hx : 0 < x
        · rw [fresh_has x hx, Bool.and_false]
        · rw [decide_eq_false (by omega), Bool.false_and])
      clear hu hk4
      go_wp2
      go_ret
      exact ⟨rfl, HK4.out⟩
    · by_cases cM : n = 18446744073709551615
      · subst cM
        go_enter Try.func13, Try.ntmps13
        go_wp2_with fail
        refine (shown13 w).mono ?_
        rintro e w1 ⟨rfl, hk1⟩
        have HK1 := Lib.hid (hk1.alloc (.cells Try.zeroCells32 32))
        have H0 := Lib.hid (fresh_alloc w1)
        have SZ : Hid (w.heap.size ≤ w1.heap.size) := hk1.size
        clear hk1
        go_wp2_with fail
        refine (put_argM _ Sh.fresh 18446744073709551615 0 0 text _ H0.out fresh_ok (by omega) (by omega) rfl).mono ?_
        rintro e w2 ⟨rfl, hk2⟩
        have H2 := Lib.hid (H0.out.keep hk2 id)
        have HK2 := Lib.hid (HK1.out.step hk2)
        clear hk2
        go_wp2_with fail
        refine (get_none _ Sh.fresh 18446744073709551615 _ H2.out fresh_ok n1 (by rw [fresh_low]; omega) (fresh_has 18446744073709551615 (by omega))).mono ?_
        rintro e w3 ⟨rfl, hk3⟩
        have H3 := Lib.hid (H2.out.keep (hk3.alloc (.cells #[.int .i64 0, .int .u64 0, .string ⟨#[]⟩] 27)) id)
        have HK3 := Lib.hid (HK2.out.step (hk3.alloc (.cells #[.int .i64 0, .int .u64 0, .string ⟨#[]⟩] 27)))
        clear hk3
        go_wp2_with fail
        refine (have_set _ Sh.fresh _ H3.out fresh_ok fresh_low).mono ?_
        rintro e w4 ⟨⟨u, rfl, hu⟩, hk4⟩
        have HK4 := Lib.hid (HK3.out.step hk4)
        obtain ⟨Au, cu, rfl⟩ := hu.none (fun x => by
          by_cases hx : 0 < x
          · rw [fresh_has x hx, Bool.and_false]
          · rw [decide_eq_false (by omega), Bool.false_and])
        clear hu hk4
        go_wp2
        go_ret
        exact ⟨rfl, HK4.out⟩
      · have e0 : (n == 0) = false := by rw [beq_eq_false_iff_ne]; exact c0
        have eM : (n == 18446744073709551615) = false := by rw [beq_eq_false_iff_ne]; exact cM
        by_cases cT : 64 < text.size
        · have t1 : decide ((64 : Int) < (text.size : Int)) = true := decide_eq_true (by omega)
          have t2 : (64 : Int) < (text.size : Int) := by omega
          go_enter Try.func13, Try.ntmps13
          go_wp2_with fail
          refine (shown13 w).mono ?_
          rintro e w1 ⟨rfl, hk1⟩
          have HK1 := Lib.hid (hk1.alloc (.cells Try.zeroCells32 32))
          have H0 := Lib.hid (fresh_alloc w1)
          have SZ : Hid (w.heap.size ≤ w1.heap.size) := hk1.size
          clear hk1
          go_wp2_with fail
          refine (put_argT _ Sh.fresh n 0 0 text _ H0.out fresh_ok n0 n1 (by omega) (by omega) cT).mono ?_
          rintro e w2 ⟨rfl, hk2⟩
          have H2 := Lib.hid (H0.out.keep hk2 id)
          have HK2 := Lib.hid (HK1.out.step hk2)
          clear hk2
          go_wp2_with fail
          refine (get_none _ Sh.fresh n _ H2.out fresh_ok n1 (by rw [fresh_low]; omega) (fresh_has n (by omega))).mono ?_
          rintro e w3 ⟨rfl, hk3⟩
          have H3 := Lib.hid (H2.out.keep (hk3.alloc (.cells #[.int .i64 0, .int .u64 0, .string ⟨#[]⟩] 27)) id)
          have HK3 := Lib.hid (HK2.out.step (hk3.alloc (.cells #[.int .i64 0, .int .u64 0, .string ⟨#[]⟩] 27)))
          clear hk3
          go_wp2_with fail
          refine (have_set _ Sh.fresh _ H3.out fresh_ok fresh_low).mono ?_
          rintro e w4 ⟨⟨u, rfl, hu⟩, hk4⟩
          have HK4 := Lib.hid (HK3.out.step hk4)
          obtain ⟨Au, cu, rfl⟩ := hu.none (fun x => by
            by_cases hx : 0 < x
            · rw [fresh_has x hx, Bool.and_false]
            · rw [decide_eq_false (by omega), Bool.false_and])
          clear hu hk4
          go_wp2
          go_ret
          exact ⟨rfl, HK4.out⟩
        · have t1 : decide ((64 : Int) < (text.size : Int)) = false := decide_eq_false (by omega)
          have t2 : ¬ (64 : Int) < (text.size : Int) := by omega
          by_cases c2 : n ≤ 64
          · have c1 : 1 ≤ n := by omega
            have u1 : decide ((64 : Int) < n) = false := decide_eq_false (by omega)
            have u2 : ¬ (64 : Int) < n := by omega
            go_enter Try.func13, Try.ntmps13
            go_wp2_with fail
            refine (shown13 w).mono ?_
            rintro e w1 ⟨rfl, hk1⟩
            have HK1 := Lib.hid (hk1.alloc (.cells Try.zeroCells32 32))
            have H0 := Lib.hid (fresh_alloc w1)
            have SZ : Hid (w.heap.size ≤ w1.heap.size) := hk1.size
            clear hk1
            go_wp2_with fail
            refine (put_ok _ Sh.fresh n 0 0 text _ H0.out fresh_ok (by omega) (by omega) (by omega) (by rw [fresh_low]; omega) (fresh_has n (by omega)) (by rw [fresh_low]; omega)).mono ?_
            rintro e w2 ⟨rfl, hS, hk2⟩
            have H2 := Lib.hid hS
            have HK2 := Lib.hid (HK1.out.trans hk2 (by rintro i rfl hi; have := SZ.out; omega))
            clear hS hk2
            have OK2 : Hid (St.ok (Sh.fresh.set (n % 64).toNat ⟨n, 0, 0, text⟩)) := ⟨Int.le_refl 0, by show (0 : Int) < _; omega⟩
            have PH := Lib.hid (fun x a b => put_has n ⟨n, 0, 0, text⟩ rfl c1 c2 x a b)
            go_wp2_with fail
            refine (get_ok _ _ n _ H2.out OK2.out (by omega) c1 (by rw [PH.out n c1 c2]; simp)).mono ?_
            rintro e w3 ⟨rfl, hk3⟩
            have H3 := Lib.hid (fun o => H2.out.keep (hk3.alloc o) id)
            have HK3 := Lib.hid (fun o => HK2.out.step (hk3.alloc o))
            clear hk3
            go_wp2_with fail
            refine (have_set _ _ _ (H3.out _) OK2.out rfl).mono ?_
            rintro e w4 ⟨⟨u, rfl, hu⟩, hk4⟩
            have HK4 := Lib.hid ((HK3.out _).step hk4)
            obtain ⟨Au, cu, rfl⟩ := one_run hu n n (Int.le_refl _) (by omega) (by omega) (fun x => by
              by_cases hx : 1 ≤ x ∧ x ≤ 64
              · rw [decide_eq_true hx, Bool.true_and, PH.out x hx.1 hx.2]; exact decide_eq_decide.2 (by omega)
              · rw [decide_eq_false hx, Bool.false_and]; exact (decide_eq_false (by omega)).symm)
            clear hu hk4
            go_wp2
            go_ret
            exact ⟨rfl, HK4.out⟩
          · have u1 : decide ((64 : Int) < n) = true := decide_eq_true (by omega)
            have u2 : (64 : Int) < n := by omega
            go_enter Try.func13, Try.ntmps13
            go_wp2_with fail
            refine (shown13 w).mono ?_
            rintro e w1 ⟨rfl, hk1⟩
            have HK1 := Lib.hid (hk1.alloc (.cells Try.zeroCells32 32))
            have H0 := Lib.hid (fresh_alloc w1)
            have SZ : Hid (w.heap.size ≤ w1.heap.size) := hk1.size
            clear hk1
            go_wp2_with fail
            refine (put_full _ Sh.fresh n 0 0 text _ H0.out fresh_ok n0 n1 (by omega) (by omega) (by omega) (by rw [fresh_low]; omega) (by rw [fresh_low]; omega)).mono ?_
            rintro e w2 ⟨rfl, hk2⟩
            have H2 := Lib.hid (H0.out.keep hk2 id)
            have HK2 := Lib.hid (HK1.out.step hk2)
            clear hk2
            go_wp2_with fail
            refine (get_none _ Sh.fresh n _ H2.out fresh_ok n1 (by rw [fresh_low]; omega) (fresh_has n (by omega))).mono ?_
            rintro e w3 ⟨rfl, hk3⟩
            have H3 := Lib.hid (H2.out.keep (hk3.alloc (.cells #[.int .i64 0, .int .u64 0, .string ⟨#[]⟩] 27)) id)
            have HK3 := Lib.hid (HK2.out.step (hk3.alloc (.cells #[.int .i64 0, .int .u64 0, .string ⟨#[]⟩] 27)))
            clear hk3
            go_wp2_with fail
            refine (have_set _ Sh.fresh _ H3.out fresh_ok fresh_low).mono ?_
            rintro e w4 ⟨⟨u, rfl, hu⟩, hk4⟩
            have HK4 := Lib.hid (HK3.out.step hk4)
            obtain ⟨Au, cu, rfl⟩ := hu.none (fun x => by
              by_cases hx : 0 < x
              · rw [fresh_has x hx, Bool.and_false]
              · rw [decide_eq_false (by omega), Bool.false_and])
            clear hu hk4
            go_wp2
            go_ret
            exact ⟨rfl, HK4.out⟩

end Go.Proofs.Ytkbmggclecimeaa
