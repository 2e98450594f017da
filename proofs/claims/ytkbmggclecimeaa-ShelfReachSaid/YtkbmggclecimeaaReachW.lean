/- ShelfReach: the walk of the law. -/
import Derived.Test.YtkbmggclecimeaaArgsW
namespace Go.Proofs.Ytkbmggclecimeaa
open Go.RowKit Sh
set_option linter.unusedVariables false

/-- a shelf of which the first 64 numbers have been put: which are there, and each holds its own number. -/
structure In64 (st : St) (H : Int → Bool) : Prop where
  lo : st.low = 0
  has : ∀ x, 1 ≤ x → x ≤ 64 → hasB st x = H x
  num : ∀ x, 1 ≤ x → x ≤ 64 → H x = true → (st.ring (x % 64).toNat).num = x
theorem In64.ok {st : St} {H : Int → Bool} (h : In64 st H) : St.ok st := ⟨by rw [h.lo]; omega, by rw [h.lo]; omega⟩
theorem In64.of {st : St} {H H' : Int → Bool} (h : In64 st H) (e : ∀ x, 1 ≤ x → x ≤ 64 → H x = H' x) : In64 st H' :=
  ⟨h.lo, fun x a b => (h.has x a b).trans (e x a b), fun x a b c => h.num x a b (by rw [e x a b]; exact c)⟩
theorem In64.fresh : In64 Sh.fresh (fun _ => false) := ⟨rfl, fun x a b => fresh_has x (by omega), fun x a b c => by cases c⟩
theorem In64.put {st : St} {H : Int → Bool} (h : In64 st H) {n : Int} (n1 : 1 ≤ n) (n2 : n ≤ 64) (s : Int) (t : ByteArray) : In64 (st.set (n % 64).toNat ⟨n, s, n, t⟩) (fun x => H x || decide (x = n)) := by
  refine ⟨h.lo, fun x a b => ?_, fun x a b c => ?_⟩
  · by_cases e : x = n
    · subst e
      have hl := h.lo
      show (decide (st.low < x) && decide (x - st.low ≤ 64) && ((if (x % 64).toNat = (x % 64).toNat then (⟨x, s, x, t⟩ : Plc) else st.ring _).n == x)) = (H x || decide (x = x))
      rw [if_pos rfl, hl, decide_eq_true (show (0 : Int) < x by omega), decide_eq_true (show x - 0 ≤ 64 by omega)]
      simp
    · rw [hasB_set_ne _ _ _ _ (by omega), h.has x a b, decide_eq_false e, Bool.or_false]
  · by_cases e : x = n
    · subst e
      show (if (x % 64).toNat = (x % 64).toNat then (⟨x, s, x, t⟩ : Plc) else st.ring _).num = x
      rw [if_pos rfl]
    · show (if (x % 64).toNat = (n % 64).toNat then (⟨n, s, n, t⟩ : Plc) else st.ring _).num = x
      rw [if_neg (by omega)]
      refine h.num x a b ?_
      rw [decide_eq_false e, Bool.or_false] at c
      exact c

theorem put64 {w : World} {b : Nat} {st : St} {H : Int → Bool} (h : IsShelf w b st) (hi : In64 st H) {n : Int} (n1 : 1 ≤ n) (n2 : n ≤ 64) :
    Calls Try.prog 17 #[.pointer (some ⟨b, 0, none⟩), .int .u64 n, .agg #[.int .i64 0, .int .u64 n, .string ⟨#[]⟩]] w fun e w' => (∃ r st', e = .returned (.int .i64 r) ∧ (H n = false → r = 0) ∧ IsShelf w' b st' ∧ In64 st' (fun x => H x || decide (x = n))) ∧ Keep (fun k => k = b) w w' := by
  have hl := hi.lo
  by_cases hh : H n = true
  · refine (put_twice b st n 0 n ⟨#[]⟩ w h hi.ok (by omega) (by omega) (by omega) (by omega) (by decide) (by omega) ((hi.has n n1 n2).trans hh)).mono ?_
    rintro e w' ⟨rfl, hk⟩
    refine ⟨⟨4, st, rfl, fun h0 => (by rw [hh] at h0; cases h0), h.keep hk id, hi.of fun x a b => ?_⟩, hk.mono (fun i h _ => absurd h id)⟩
    by_cases e : x = n
    · subst e; rw [hh]; rfl
    · rw [decide_eq_false e, Bool.or_false]
  · rw [Bool.not_eq_true] at hh
    refine (put_ok b st n 0 n ⟨#[]⟩ w h hi.ok (by omega) (by omega) (by decide) (by omega) ((hi.has n n1 n2).trans hh) (by omega)).mono ?_
    rintro e w' ⟨rfl, hs, hk⟩
    exact ⟨⟨0, _, rfl, fun _ => rfl, hs, hi.put n1 n2 0 ⟨#[]⟩⟩, hk⟩

theorem reach64 {w : World} {b : Nat} {st : St} {H : Int → Bool} (h : IsShelf w b st) (hi : In64 st H) (r : Int) (r0 : 0 ≤ r) (r1 : r ≤ 64) (hy : ∀ x, 1 ≤ x → x ≤ r → H x = true) (hn : r < 64 → H (r + 1) = false) :
    Calls Try.prog 18 #[.pointer (some ⟨b, 0, none⟩)] w fun e w' => e = .returned (.int .u64 r) ∧ w = w' := by
  have hl := hi.lo
  refine (reach_any b st r.toNat w h hi.ok (by omega) (fun k hk => ?_) ?_).mono ?_
  · rw [hl, show (0 : Int) + (k : Int) + 1 = (k : Int) + 1 by omega, hi.has _ (by omega) (by omega)]
    exact hy _ (by omega) (by omega)
  · rw [hl, show (0 : Int) + (r.toNat : Int) + 1 = r + 1 by omega]
    by_cases e : r < 64
    · rw [hi.has _ (by omega) (by omega)]; exact hn e
    · exact has_far _ _ (by omega)
  · rintro e w' ⟨rfl, rfl⟩
    exact ⟨by rw [hl, show (0 : Int) + (r.toNat : Int) = r by omega], rfl⟩

set_option maxRecDepth 100000 in
set_option maxHeartbeats 1000000 in
theorem shelfReach_walk {w : World} {va : Value} {l : List Int} (ha : IsB w va l) (m : Int) (m0 : 0 ≤ m) (m1 : m ≤ 255) :
    Calls Try.prog 12 #[va, .int .u8 m] w fun e w' => e = .returned (.bool true) ∧ Keep (fun _ => False) w w' := by
  have HA := Lib.hid ha
  have HR := Lib.hid ha.rng
  obtain ⟨A, ca, rfl, _, hln, _⟩ := ha.ex
  clear ha
  by_cases hs : l.length ≤ 100
  · have d1 : decide ((100 : Int) < (l.length : Int)) = false := by simp; omega
    have d2 : ¬ (100 : Int) < (l.length : Int) := by omega
    clear hs
    go_enter Try.func12, Try.ntmps12
    go_wp2_with fail
    refine (shown13 w).mono ?_
    rintro e w1 ⟨rfl, hk1⟩
    have HK1 := Lib.hid (hk1.alloc (.cells Try.zeroCells32 32))
    have H0 := Lib.hid (fresh_alloc w1)
    have SZ : Hid (w.heap.size ≤ w1.heap.size) := hk1.size
    clear hk1 d1 d2
    go_wp2_with fail
    have g0 : 1 ≤ 1 + m % 64 := by omega
    have g1 : 1 + m % 64 ≤ 64 := by omega
    generalize 1 + m % 64 = gp at g0 g1 ⊢
    go_loopg [7] l.length (fun q v7 wr => ∃ (i : Nat) (st : St) (H : Int → Bool), i + q = l.length ∧ v7 = .int .i64 i ∧ IsShelf wr w1.heap.size st ∧ In64 st H ∧ H gp = false ∧ Keep (fun _ => False) w wr)
    case atStart => exact ⟨0, Sh.fresh, _, by omega, rfl, H0.out, In64.fresh, rfl, HK1.out⟩
    case round =>
      clear H0
      obtain ⟨i, st, H, hq, rfl, hS, hI, hg, hK⟩ := hrel
      have HS := Lib.hid hS
      have HI := Lib.hid hI
      have HG := Lib.hid hg
      have HK := Lib.hid hK
      have HQ := Lib.hid hq
      have hIB := HA.out.keep hK
      clear hq hS hI hg hK
      by_cases hlt : i < l.length
      · obtain ⟨A', cp', he, _, _, hA⟩ := hIB.ex
        simp only [Value.slice.injEq, true_and] at he
        obtain ⟨rfl, rfl⟩ := he
        obtain ⟨g, o, rfl, hc⟩ := hA (by omega)
        have c0 := hc i hlt
        have hr := HR.out i hlt
        obtain ⟨y, hy⟩ : ∃ y, y = l.getD i 0 := ⟨_, rfl⟩
        rw [← hy] at c0 hr
        obtain ⟨y0, y1⟩ := hr
        clear hA hc hIB hy
        have e1 : IntKind.u64.wrap (1 + y % 64) = 1 + y % 64 := by rw [IntKind.wrap_u64]; omega
        have e2 : IntKind.u64.wrap y = y := by rw [IntKind.wrap_u64]; omega
        by_cases hne : 1 + y % 64 = gp
        · subst hne
          go_wp2_with fail
          go_roundg (l.length - (i + 1))
          case measure => have := HQ.out; omega
          case rel => exact ⟨i + 1, st, H, by omega, by go_num, HS.out, HI.out, HG.out, HK.out⟩
        · have t1 : (1 + y % 64 == gp) = false := by rw [beq_eq_false_iff_ne]; exact hne
          go_wp2_with fail
          refine (put64 HS.out HI.out (n := 1 + y % 64) (by omega) (by omega)).mono ?_
          rintro e w3 ⟨⟨r, st', rfl, _, hS3, hI3⟩, hK3⟩
          have HS3 := Lib.hid hS3
          have HI3 := Lib.hid hI3
          have HK3 := Lib.hid (HK.out.trans hK3 (by rintro i rfl hi; have := SZ.out; omega))
          have HG3 : Hid ((H gp || decide (gp = 1 + y % 64)) = false) := by rw [HG.out, decide_eq_false (fun h => hne h.symm)]; rfl
          clear hS3 hI3 hK3 c0 hne
          go_wp2
          go_roundg (l.length - (i + 1))
          case measure => have := HQ.out; omega
          case rel => exact ⟨i + 1, st', _, by omega, by go_num, HS3.out, HI3.out, HG3.out, HK3.out⟩
      · obtain rfl : l.length = i := by have := HQ.out; omega
        clear hIB HQ
        go_wp2_with fail
        go_loopg [9] 64 (fun q v9 wr => ∃ (j : Int) (st : St) (H : Int → Bool), j = (q : Int) ∧ v9 = .int .u64 j ∧ j ≤ 64 ∧ IsShelf wr w1.heap.size st ∧ In64 st H ∧ H gp = false ∧ (∀ x, j < x → x ≤ 64 → x ≠ gp → H x = true) ∧ Keep (fun _ => False) w wr)
        case atStart => exact ⟨64, st, H, rfl, rfl, by omega, HS.out, HI.out, HG.out, fun x a b => by omega, HK.out⟩
        case round =>
          clear HS HI HG HK
          obtain ⟨j, st, H, hq, rfl, j64, hS, hI, hg, hall, hK⟩ := hrel
          have HS := Lib.hid hS
          have HI := Lib.hid hI
          have HG := Lib.hid hg
          have HK := Lib.hid hK
          have HQ := Lib.hid hq
          have HL := Lib.hid hall
          clear hq hS hI hg hK hall
          by_cases hj : 1 ≤ j
          · have e1 : IntKind.u64.wrap (j - 1) = j - 1 := by rw [IntKind.wrap_u64]; omega
            by_cases hne : j = gp
            · subst hne
              go_wp2_with fail
              go_roundg (j - 1).toNat
              case measure => have := HQ.out; omega
              case rel => exact ⟨j - 1, st, H, by omega, by go_num, by omega, HS.out, HI.out, HG.out, fun x a b c => HL.out x (by omega) b c, HK.out⟩
            · have t1 : (j == gp) = false := by rw [beq_eq_false_iff_ne]; exact hne
              go_wp2_with fail
              refine (put64 HS.out HI.out (n := j) (by omega) (by omega)).mono ?_
              rintro e w3 ⟨⟨r, st', rfl, _, hS3, hI3⟩, hK3⟩
              have HS3 := Lib.hid hS3
              have HI3 := Lib.hid hI3
              have HK3 := Lib.hid (HK.out.trans hK3 (by rintro i rfl hi; have := SZ.out; omega))
              have HG3 : Hid ((H gp || decide (gp = j)) = false) := by rw [HG.out, decide_eq_false (fun h => hne h.symm)]; rfl
              have HL3 : Hid (∀ x, j - 1 < x → x ≤ 64 → x ≠ gp → (H x || decide (x = j)) = true) := fun x a b c => by
                by_cases e : x = j
                · rw [decide_eq_true e, Bool.or_true]
                · rw [HL.out x (by omega) b c]; rfl
              clear hS3 hI3 hK3
              go_wp2
              go_roundg (j - 1).toNat
              case measure => have := HQ.out; omega
              case rel => exact ⟨j - 1, st', _, by omega, by go_num, by omega, HS3.out, HI3.out, HG3.out, HL3.out, HK3.out⟩
          · obtain rfl : j = 0 := by have := HQ.out; omega
            clear HQ hj j64
            have e1 : IntKind.u64.wrap (gp - 1) = gp - 1 := by rw [IntKind.wrap_u64]; omega
            have l0 := HI.out.lo
            have L0 := Lib.hid l0
            clear l0
            go_wp2_with fail
            refine (reach64 HS.out HI.out (gp - 1) (by omega) (by omega) (fun x a b => HL.out x (by omega) (by omega) (by omega)) (fun _ => by rw [show gp - 1 + 1 = gp by omega]; exact HG.out)).mono ?_
            rintro e w3 ⟨rfl, rfl⟩
            go_wp2_with fail
            refine (put_full _ st 65 0 0 ⟨#[]⟩ _ HS.out HI.out.ok (by omega) (by omega) (by omega) (by omega) (by decide) (by have := L0.out; omega) (by have := L0.out; omega)).mono ?_
            rintro e w4 ⟨rfl, hk4⟩
            have HS4 := Lib.hid (HS.out.keep hk4 id)
            have HK4 := Lib.hid (HK.out.step hk4)
            clear hk4
            go_wp2_with fail
            refine (put64 HS4.out HI.out (n := gp) g0 g1).mono ?_
            rintro e w5 ⟨⟨r, st', rfl, hr0, hS5, hI5⟩, hK5⟩
            obtain rfl := hr0 HG.out
            have HS5 := Lib.hid hS5
            have HI5 := Lib.hid (hI5.of (H' := fun _ => true) (fun x a b => by
              by_cases e : x = gp
              · rw [decide_eq_true e, Bool.or_true]
              · rw [HL.out x (by omega) b e]; rfl))
            have HK5 := Lib.hid (HK4.out.trans hK5 (by rintro i rfl hi; have := SZ.out; omega))
            clear hr0 hS5 hI5 hK5
            go_wp2_with fail
            refine (reach64 HS5.out HI5.out 64 (by omega) (by omega) (fun x a b => rfl) (fun h => by omega)).mono ?_
            rintro e w6 ⟨rfl, rfl⟩
            have hnum := HI5.out.num gp g0 g1 rfl
            have HN := Lib.hid hnum
            clear hnum
            go_wp2_with fail
            refine (get_ok _ st' gp _ HS5.out HI5.out.ok (by omega) (by have := HI5.out.lo; omega) (HI5.out.has gp g0 g1)).mono ?_
            rintro e w7 ⟨rfl, hk7⟩
            rw [HN.out]
            have H7 := Lib.hid (fun o => HS5.out.keep (hk7.alloc o) id)
            have HK7 := Lib.hid (fun o => HK5.out.step (hk7.alloc o))
            clear hk7
            go_wp2_with fail
            refine (have_set _ st' _ (H7.out _) HI5.out.ok HI5.out.lo).mono ?_
            rintro e w8 ⟨⟨u, rfl, hu⟩, hk8⟩
            have HK8 := Lib.hid ((HK7.out _).step hk8)
            obtain ⟨Au, cu, rfl⟩ := one_run hu 1 64 (by omega) (by omega) (by omega) (fun x => by
              by_cases hx : 1 ≤ x ∧ x ≤ 64
              · rw [decide_eq_true hx, Bool.true_and, HI5.out.has x hx.1 hx.2]
              · rw [decide_eq_false hx, Bool.false_and])
            clear hu hk8
            go_wp2
            go_ret
            exact ⟨rfl, HK8.out⟩
  · have d1 : decide ((100 : Int) < (l.length : Int)) = true := by simp; omega
    have d2 : (100 : Int) < (l.length : Int) := by omega
    clear hs
    go_enter Try.func12, Try.ntmps12
    go_wp2_with fail
    refine (shown13 w).mono ?_
    rintro e w1 ⟨rfl, hk1⟩
    have HK1 := Lib.hid hk1
    clear hk1
    go_wp2
    go_ret
    exact ⟨rfl, HK1.out⟩

end Go.Proofs.Ytkbmggclecimeaa
