/- TraceBegins: the plain law, and the walk. -/
import Derived.Test.YtjihimapopbdpaaShown
namespace Go.Proofs.Ytjihimapopbdpaa
open Go.RowKit Sh
open Go.ChangeMaps (setBlock)
set_option linter.unusedVariables false

theorem accGo_cases (L : List Ent) : ∀ (q i : Nat), i + q = L.length + 1 → (∀ k, k < i → wr_ (L.take k) = 0) →
    ((∀ k, k ≤ L.length → wr_ (L.take k) = 0) ∧ accGo L i q = ((L.length : Int), 0)) ∨
    ∃ n, n ≤ L.length ∧ wr_ (L.take n) ≠ 0 ∧ (∀ k, k < n → wr_ (L.take k) = 0) ∧ accGo L i q = ((n : Int) - 1, wr_ (L.take n))
  | 0, i, h, hz => .inl ⟨fun k hk => hz k (by omega), rfl⟩
  | q + 1, i, h, hz => by
    rw [accGo]
    by_cases c : wr_ (L.take i) = 0
    · rw [if_pos c]
      exact accGo_cases L q (i + 1) (by omega) fun k hk => by
        by_cases e : k = i
        · rw [e]; exact c
        · exact hz k (by omega)
    · rw [if_neg c]
      exact .inr ⟨i, by omega, c, hz, rfl⟩
theorem accP_cases (L : List Ent) :
    ((∀ k, k ≤ L.length → wr_ (L.take k) = 0) ∧ accP L = ((L.length : Int), 0)) ∨
    ∃ n, n < L.length ∧ wr_ (L.take (n + 1)) ≠ 0 ∧ (∀ k, k ≤ n → wr_ (L.take k) = 0) ∧ accP L = ((n : Int), wr_ (L.take (n + 1))) := by
  rcases accGo_cases L (L.length + 1) 0 (by omega) (fun k hk => by omega) with h | ⟨n, h1, h2, h3, h4⟩
  · exact .inl h
  · obtain ⟨m, rfl⟩ : ∃ m, n = m + 1 := by
      rcases n with _ | m
      · exact absurd wr_nil (by simpa using h2)
      · exact ⟨m, rfl⟩
    exact .inr ⟨m, by omega, h2, fun k hk => h3 k (by omega), by rw [accP, h4]; congr 1; push_cast; omega⟩
theorem begins_law (L : List Ent) (k : Nat) (hk : k ≤ L.length) :
    (accP L = ((L.length : Int), 0) ∧ accP (L.take k) = ((k : Int), 0)) ∨
    ∃ (n : Nat) (e : Int), n < L.length ∧ e ≠ 0 ∧ accP L = ((n : Int), e) ∧ ((k ≤ n ∧ accP (L.take k) = ((k : Int), 0)) ∨ (n < k ∧ accP (L.take k) = ((n : Int), e))) := by
  have hlen : (L.take k).length = k := by rw [List.length_take, Nat.min_eq_left hk]
  have htk : ∀ j, j ≤ k → (L.take k).take j = L.take j := fun j hj => by rw [List.take_take, Nat.min_eq_left hj]
  have ok : (∀ j, j ≤ k → wr_ (L.take j) = 0) → accP (L.take k) = ((k : Int), 0) := fun h => by
    rcases accP_cases (L.take k) with ⟨_, h2⟩ | ⟨n, h1, h2, _⟩
    · rw [h2, hlen]
    · rw [hlen] at h1
      rw [htk _ (by omega)] at h2
      exact absurd (h _ (by omega)) h2
  rcases accP_cases L with ⟨h1, h2⟩ | ⟨n, h1, h2, h3, h4⟩
  · exact .inl ⟨h2, ok fun j hj => h1 j (by omega)⟩
  · refine .inr ⟨n, _, h1, h2, h4, ?_⟩
    by_cases c : k ≤ n
    · exact .inl ⟨c, ok fun j hj => h3 j (by omega)⟩
    · refine .inr ⟨by omega, ?_⟩
      rcases accP_cases (L.take k) with ⟨h5, _⟩ | ⟨m, h5, h6, h7, h8⟩
      · have := h5 (n + 1) (by omega)
        rw [htk _ (by omega)] at this
        exact absurd this h2
      · rw [hlen] at h5
        have hmn : m = n := by
          rcases Nat.lt_trichotomy m n with h | h | h
          · rw [htk _ (by omega)] at h6
            exact absurd (h3 _ (by omega)) h6
          · exact h
          · have := h7 (n + 1) (by omega)
            rw [htk _ (by omega)] at this
            exact absurd this h2
        subst hmn
        rw [h8, htk _ (by omega)]

set_option maxRecDepth 100000 in
set_option maxHeartbeats 1000000 in
theorem begins_walk {w : World} {v : Value} {L : List Ent} (hL : IsEs w v L) (cut : Int) (h0 : 0 ≤ cut) (h1 : cut ≤ 255) :
    Calls Try.prog 4 #[v, .int .u8 cut] w fun r w' => r = .returned (.bool true) ∧ Keep (fun _ => False) w w' := by
  have HL := Lib.hid hL
  obtain ⟨A, c, rfl, hc1, hc2, hA⟩ := hL.ex
  have HC1 := Lib.hid hc1
  clear hL hA hc1
  by_cases hb : 40 < L.length
  · have d1 : decide ((40 : Int) < (L.length : Int)) = true := decide_eq_true (by omega)
    have d2 : (40 : Int) < (L.length : Int) := by omega
    go_enter Try.func4, Try.ntmps4
    go_wp2_with fail
    refine (shown_any w).mono ?_
    rintro r w1 ⟨rfl, hk1⟩
    have HK := Lib.hid hk1
    clear hk1
    go_wp2
    go_ret
    exact ⟨rfl, HK.out⟩
  · have d1 : decide ((40 : Int) < (L.length : Int)) = false := decide_eq_false (by omega)
    have d2 : ¬ (40 : Int) < (L.length : Int) := by omega
    obtain ⟨k, hk⟩ : ∃ k : Nat, cut % ((L.length : Int) + 1) = k := ⟨(cut % ((L.length : Int) + 1)).toNat, by have := Int.emod_nonneg cut (show ((L.length : Int) + 1) ≠ 0 by omega); omega⟩
    have hkl : k ≤ L.length := by have := Int.emod_lt_of_pos cut (show 0 < ((L.length : Int) + 1) by omega); omega
    have hkt : cut.tmod ((L.length : Int) + 1) = k := by rw [Int.tmod_eq_emod_of_nonneg h0]; exact hk
    have w1 : IntKind.i64.wrap ((L.length : Int) + 1) = (L.length : Int) + 1 := by rw [IntKind.wrap_i64]; omega
    have LAW := Lib.hid (begins_law L k hkl)
    have HS := Lib.hid (fun w' (k' : Keep (fun _ => False) w w') => ((HL.out).keep k').take k hkl)
    have x1 : (k : Int) ≤ (c : Int) := by have := HC1.out; omega
    have x2 : (0 : Int) ≤ (k : Int) := by omega
    go_enter Try.func4, Try.ntmps4
    go_wp2_with fail
    refine (shown_any w).mono ?_
    rintro r wa ⟨rfl, hka⟩
    have HKa := Lib.hid hka
    clear hka
    go_wp2_with fail
    refine (accept_any (HL.out.keep HKa.out)).mono ?_
    rintro r wb ⟨rfl, hkb⟩
    have HKb := Lib.hid (HKa.out.step hkb)
    clear hkb
    go_wp2_with fail
    refine (accept_any (HS.out _ HKb.out)).mono ?_
    rintro r wd ⟨rfl, hkd⟩
    have HKd := Lib.hid (HKb.out.step hkd)
    clear hkd
    rcases LAW.out with ⟨e1, e2⟩ | ⟨n, e, hn, he, e1, ⟨h3, e2⟩ | ⟨h3, e2⟩⟩
    · rw [e1, e2]
      clear e1 e2
      have y1 : decide ((k : Int) ≤ (L.length : Int)) = true := decide_eq_true (by omega)
      have y2 : (k : Int) ≤ (L.length : Int) := by omega
      have y3 : decide ((L.length : Int) < 0) = false := decide_eq_false (by omega)
      go_wp2
      go_ret
      exact ⟨rfl, HKd.out⟩
    · rw [e1, e2]
      clear e1 e2
      have y1 : decide ((k : Int) ≤ (n : Int)) = true := decide_eq_true (by omega)
      have y2 : (k : Int) ≤ (n : Int) := by omega
      have y3 : decide ((n : Int) < 0) = false := decide_eq_false (by omega)
      have y4 : (e == 0) = false := by simpa using he
      have y5 : ((n : Int) == (L.length : Int)) = false := by simp; omega
      go_wp2
      go_ret
      exact ⟨rfl, HKd.out⟩
    · rw [e1, e2]
      clear e1 e2
      have y1 : decide ((k : Int) ≤ (n : Int)) = false := decide_eq_false (by omega)
      have y2 : ¬ (k : Int) ≤ (n : Int) := by omega
      have y3 : decide ((n : Int) < 0) = false := decide_eq_false (by omega)
      have y4 : (e == 0) = false := by simpa using he
      have y5 : ((n : Int) == (L.length : Int)) = false := by simp; omega
      go_wp2
      go_ret
      exact ⟨rfl, HKd.out⟩

end Go.Proofs.Ytjihimapopbdpaa
