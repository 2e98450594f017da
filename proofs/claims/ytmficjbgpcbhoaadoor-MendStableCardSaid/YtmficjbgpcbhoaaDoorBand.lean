/- Bands: what a band has; the document’s List. -/
import Derived.Test.YtmficjbgpcbhoaaDoorFirst
import Derived.Laws.Bits64b
namespace Go.Proofs.YtmficjbgpcbhoaaDoor
open Go.RowKit Sh
set_option linter.unusedVariables false

theorem pow_u64 (n : Nat) (hn : n ≤ 63) : IntKind.u64.wrap ((2 : Int) ^ n) = (2 : Int) ^ n := by
  have h1 : (2 : Nat) ^ n ≤ 2 ^ 63 := Nat.pow_le_pow_right (by omega) hn
  have h2 : ((2 : Int) ^ n) = ((2 ^ n : Nat) : Int) := by push_cast; rfl
  rw [IntKind.wrap_u64, h2]
  generalize (2 : Nat) ^ n = m at h1 ⊢
  omega
def bitP (n : Int) : Int := if 0 ≤ n ∧ n ≤ 63 then (2 : Int) ^ n.toNat else 0
def hasP (b n : Int) : Bool := bits BinOp.and IntKind.u64 b (bitP n) != 0
theorem and_pow_ne (M k : Nat) : (M &&& 2 ^ k ≠ 0) ↔ M.testBit k = true := by
  constructor
  · intro h
    cases c : M.testBit k
    · exfalso
      apply h
      apply Nat.eq_of_testBit_eq
      intro i
      rw [Nat.testBit_and, Nat.testBit_two_pow, Nat.zero_testBit]
      by_cases e : k = i
      · subst e; simp [c]
      · simp [e]
    · rfl
  · intro h c
    have : (M &&& 2 ^ k).testBit k = true := by rw [Nat.testBit_and, Nat.testBit_two_pow]; simp [h]
    rw [c, Nat.zero_testBit] at this
    cases this
theorem has_bit (m : Int) (k : Nat) (h0 : 0 ≤ m) (h1 : m < 18446744073709551616) (hk : k < 64) : (bits BinOp.and IntKind.u64 (m / 2 ^ k) 1 == 1) = hasP m k := by
  obtain ⟨M, rfl⟩ : ∃ M : Nat, m = M := ⟨m.toNat, by omega⟩
  have e1 : ((M : Int) / 2 ^ k) = ((M / 2 ^ k : Nat) : Int) := by push_cast; rfl
  have hb : bitP (k : Int) = ((2 ^ k : Nat) : Int) := by
    rw [bitP, if_pos ⟨by omega, by omega⟩]
    push_cast
    rfl
  have hp : (2 : Nat) ^ k ≤ 2 ^ 63 := Nat.pow_le_pow_right (by omega) (by omega)
  have e2 := bits_and_u64_nat (M / 2 ^ k) 1 (Nat.lt_of_le_of_lt (Nat.div_le_self _ _) (by omega)) (by omega)
  have e3 := bits_and_u64_nat M (2 ^ k) (by omega) (by omega)
  unfold hasP
  rw [hb, e1, e3]
  rw [show ((1 : Int)) = ((1 : Nat) : Int) from rfl, e2]
  rw [Nat.and_one_is_mod]
  have ht : M.testBit k = decide (M / 2 ^ k % 2 = 1) := by
    rw [Nat.testBit_eq_decide_div_mod_eq]
  have hn := and_pow_ne M k
  rw [ht] at hn
  by_cases c : M / 2 ^ k % 2 = 1
  · have h2 := hn.2 (decide_eq_true c)
    rw [c]
    simp
    omega
  · have c0 : M / 2 ^ k % 2 = 0 := by omega
    have h2 : M &&& 2 ^ k = 0 := by
      by_cases z : M &&& 2 ^ k = 0
      · exact z
      · exact absurd (of_decide_eq_true (hn.1 z)) c
    rw [c0, h2]
    simp
def nodeP (n : Int) : Bool := decide (0 ≤ n) && decide (n < 64)
theorem rnode_any (n : Int) (w : World) : Calls Tryd.prog 16 #[.int .i64 n] w fun e w' => e = .returned (.bool (nodeP n)) ∧ w = w' := by
  unfold nodeP
  by_cases h0 : 0 ≤ n
  · have d0 : decide (0 ≤ n) = true := decide_eq_true h0
    by_cases h1 : n < 64
    · have d1 : decide (n < 64) = true := decide_eq_true h1
      go_enter Tryd.func16, Tryd.ntmps16
      go_wp2
      go_ret
      exact ⟨by rw [show decide (0 ≤ n) = true from decide_eq_true h0, d1]; rfl, rfl⟩
    · have d1 : decide (n < 64) = false := decide_eq_false h1
      go_enter Tryd.func16, Tryd.ntmps16
      go_wp2
      go_ret
      exact ⟨rfl, rfl⟩
  · have d0 : decide (0 ≤ n) = false := decide_eq_false h0
    go_enter Tryd.func16, Tryd.ntmps16
    go_wp2
    go_ret
    exact ⟨rfl, rfl⟩
theorem nodeP_true {n : Int} (h : 0 ≤ n ∧ n < 64) : nodeP n = true := by simp [nodeP, h]
theorem nodeP_false {n : Int} (h : ¬ (0 ≤ n ∧ n < 64)) : nodeP n = false := by
  unfold nodeP
  by_cases h0 : 0 ≤ n
  · have : ¬ n < 64 := fun h1 => h ⟨h0, h1⟩
    simp [this]
  · simp [h0]
theorem hasP_out {b n : Int} (h : ¬ (0 ≤ n ∧ n < 64)) : hasP b n = false := by
  have : bitP n = 0 := by
    unfold bitP
    rw [if_neg (by omega)]
  unfold hasP
  rw [this]
  have e : bits BinOp.and IntKind.u64 b 0 = 0 := by
    simp [bits]
    rfl
  rw [e]; rfl
theorem rhas_any (b n : Int) (w : World) (h0 : 0 ≤ b) (h1 : b < 18446744073709551616) :
    Calls Tryd.prog 12 #[.int .u64 b, .int .i64 n] w fun e w' => e = .returned (.bool (hasP b n)) ∧ w = w' := by
  by_cases hn : 0 ≤ n ∧ n < 64
  · obtain ⟨k, rfl⟩ : ∃ k : Nat, n = k := ⟨n.toNat, by omega⟩
    have hb := Lib.hid (has_bit b k h0 h1 (by omega))
    have ht := Lib.hid (nodeP_true hn)
    go_enter Tryd.func12, Tryd.ntmps12
    go_wp2_with fail
    refine (rnode_any k _).mono ?_
    rintro e w' ⟨rfl, rfl⟩
    rw [ht.out]
    go_wp2
    go_ret
    exact ⟨by rw [← hb.out]; rfl, rfl⟩
  · rw [hasP_out hn]
    have ht := Lib.hid (nodeP_false hn)
    go_enter Tryd.func12, Tryd.ntmps12
    go_wp2_with fail
    refine (rnode_any n _).mono ?_
    rintro e w' ⟨rfl, rfl⟩
    rw [ht.out]
    go_wp2
    go_ret
    exact ⟨rfl, rfl⟩
/-- The nodes of a band below k, rising. -/
def listP (b : Int) (k : Nat) : List Nat := (List.range k).filter fun n => hasP b n
theorem listP_succ (b : Int) (k : Nat) : listP b (k + 1) = listP b k ++ if hasP b k then [k] else [] := by
  unfold listP
  rw [List.range_succ, List.filter_append]
  congr 1
  cases h : hasP b k <;> simp [h]
theorem listP_le (b : Int) (k : Nat) : (listP b k).length ≤ k := by
  have := List.length_filter_le (fun n : Nat => hasP b n) (List.range k)
  unfold listP
  simpa using this
def natC (l : List Nat) : List Value := l.map fun (n : Nat) => Value.int .i64 (n : Int)
theorem info3 : (Tryd.prog.info? 3).map (fun i => (i.zero, i.size, i.bytes)) = some (some (.int .i64 0), 1, 8) := by kernel_rfl
set_option maxHeartbeats 1000000 in
theorem rlist_any (b : Int) (w : World) (h0 : 0 ≤ b) (h1 : b < 18446744073709551616) :
    Calls Tryd.prog 6 #[.int .u64 b] w fun e w' => ∃ g c, e = .returned (.slice (some ⟨g, 0, none⟩) (listP b 64).length c) ∧ w'.ownsRow w.heap.size 3 1 (.slice (some ⟨g, 0, none⟩) (listP b 64).length c) (listP b 64).length (natC (listP b 64)) ∧ Keep (fun _ => False) w w' := by
  obtain ⟨i0, hi, hi2⟩ : ∃ i0, Tryd.prog.info? 3 = some i0 ∧ (i0.zero, i0.size, i0.bytes) = (some (.int .i64 0), 1, 8) := by
    have := info3
    rw [Option.map_eq_some_iff] at this
    exact this
  simp only [Prod.mk.injEq] at hi2
  obtain ⟨hz0, hz1, hz2⟩ := hi2
  have Hi := Lib.hid hi
  have Hz0 := Lib.hid hz0
  have Hz1 := Lib.hid hz1
  have Hz2 := Lib.hid hz2
  have HB := Lib.hid (rhas_any b · · h0 h1)
  clear hi hz0 hz1 hz2
  go_enter Tryd.func6, Tryd.ntmps6
  go_wp2_with fail
  go_loopg [3, 4] 64 (fun q v3 v4 wr => ∃ (k g c : Nat), k + q = 64 ∧ v4 = .int .i64 k ∧ v3 = .slice (some ⟨g, 0, none⟩) (listP b k).length c ∧ wr.ownsRow w.heap.size 3 1 (.slice (some ⟨g, 0, none⟩) (listP b k).length c) (listP b k).length (natC (listP b k)) ∧ Keep (fun _ => False) w wr)
  case atStart =>
    exact ⟨0, w.heap.size, 0, by omega, rfl, rfl, World.ownsRow_lit w #[] 0 (Nat.le_refl _) (by simp [maxLen]) rfl, (Keep.refl _ w).alloc _⟩
  case round =>
    obtain ⟨k, g, c, hq, rfl, rfl, ho, hK⟩ := hrel
    have HQ := Lib.hid hq
    have HOW := Lib.hid ho
    have HK := Lib.hid hK
    have hle := listP_le b k
    clear hq ho hK
    by_cases hlt : k < 64
    · have d1 : decide ((k : Int) < 64) = true := decide_eq_true (by omega)
      have d2 : (k : Int) < 64 := by omega
      have wk : IntKind.i64.wrap ((k : Int) + 1) = (k : Int) + 1 := IntWalk.i64_in _ (by omega)
      have HLS := Lib.hid (listP_succ b k)
      cases hb : hasP b k
      · have HE : Hid (listP b (k + 1) = listP b k) := Lib.hid (by rw [HLS.out, hb]; simp)
        have HBB := Lib.hid hb
        clear hb
        go_wp2_with fail
        refine (HB.out k _).mono ?_
        rintro e w' ⟨rfl, rfl⟩
        rw [HBB.out]
        go_wp2
        go_roundg (64 - (k + 1))
        case measure => have := HQ.out; omega
        case rel => exact ⟨k + 1, g, c, by omega, by go_num, by rw [HE.out], by rw [HE.out]; exact HOW.out, HK.out⟩
      · have HE : Hid (listP b (k + 1) = listP b k ++ [k]) := Lib.hid (by rw [HLS.out, hb]; simp)
        have HBB := Lib.hid hb
        clear hb
        go_wp2_with fail
        refine (HB.out k _).mono ?_
        rintro e w' ⟨rfl, rfl⟩
        rw [HBB.out]
        go_wp2_with (at_builtin; refine wpList_append_own_at _ rfl _ _ 29 rfl w.heap.size 3 i0 (.int .i64 0) 1 8 Tryd.underlying29 Hi.out Hz0.out Hz1.out Hz2.out rfl (by decide) _ _ _ rfl (HOW.out.alloc _) ⟨wr.heap.size, 0, none⟩ 1 1 (natC [k]) rfl rfl ?c1 ?c2 ?c3 ?c4 ?c5 ?_)
        case c1 => exact World.news_of_block (cs := #[.int .i64 k]) (t := 3) (fr := (0, 0)) (heap_alloc_new wr _)
        case c2 => intro u hu; simp [natC] at hu; subst hu; rfl
        case c3 => simp only [maxLen]; omega
        case c4 => omega
        case c5 => have := HK.out.size; simp; omega
        intro v' w' hown hg _ _
        have hK' : Keep (fun _ => False) w w' := (HK.out.alloc _).grown hg (by
          intro j hj hlt
          have := ((HOW.out.alloc (.cells #[] 3)).lt j hj).1
          omega)
        have hown' : w'.ownsRow w.heap.size 3 1 v' (listP b (k + 1)).length (natC (listP b (k + 1))) := by
          rw [HE.out, List.length_append]
          unfold natC
          rw [List.map_append]
          exact hown
        obtain ⟨g', c', rfl⟩ : ∃ g' c', v' = .slice (some ⟨g', 0, none⟩) (listP b (k + 1)).length c' := by
          rcases hown'.2 with ⟨_, h2⟩ | ⟨g', cap, cur, hv, _⟩
          · rw [HE.out] at h2
            simp at h2
          · exact ⟨g', cap, hv⟩
        have HO' := Lib.hid hown'
        have HK' := Lib.hid hK'
        clear hown hown' hK' hg
        go_wp2
        go_roundg (64 - (k + 1))
        case measure => have := HQ.out; omega
        case rel => exact ⟨k + 1, g', c', by omega, by go_num, rfl, HO'.out, HK'.out⟩
    · have hk : k = 64 := by have := HQ.out; omega
      subst hk
      go_wp2
      go_ret
      exact ⟨g, c, rfl, HOW.out, HK.out⟩

end Go.Proofs.YtmficjbgpcbhoaaDoor
