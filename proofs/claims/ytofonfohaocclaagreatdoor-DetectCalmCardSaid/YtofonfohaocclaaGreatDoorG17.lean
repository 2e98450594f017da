/- band.nodes: the bits of a word, one by one (an iterator). Bands: what a band has; the document’s List. band.List: the bits of a word, as a slice. The document's list is the program's. -/
import Derived.Test.YtofonfohaocclaaGreatDoorG16
import Derived.OwnWalkIn
import Derived.TacticsInMore
import Derived.LoopNIn
import Derived.LoopIn
import Derived.Maps.AppendAt
import Derived.Maps.OwnIn
import Derived.Laws.Bits64b
import Derived.Test.YtofonfohaocclaaGreatDoorG01
namespace Go.Proofs.YtofonfohaocclaaGreatDoor.B
open Go.RowKit Go.Shelf Sh
set_option linter.unusedVariables false
attribute [local go_sem] Oper.semAt_some

abbrev N63 := { c : Nat // c < 64 }
/-- The bits of a word below i, rising. -/
def gs (x : Nat) : Nat → List N63
  | 0 => []
  | i + 1 => if h : i < 64 then (if x.testBit i = true then gs x i ++ [⟨i, h⟩] else gs x i) else gs x i
theorem gs_yes {x i : Nat} (h : i < 64) (hk : x.testBit i = true) : gs x (i + 1) = gs x i ++ [⟨i, h⟩] := by
  simp only [gs]; rw [dif_pos h, if_pos hk]
theorem gs_no {x i : Nat} (hk : x.testBit i = false) : gs x (i + 1) = gs x i := by
  simp only [gs]
  by_cases h : i < 64
  · rw [dif_pos h, if_neg (by rw [hk]; simp)]
  · rw [dif_neg h]
theorem gs_skip {x i : Nat} : ∀ (d : Nat), (∀ j, i ≤ j → j < i + d → x.testBit j = false) → gs x (i + d) = gs x i
  | 0, _ => rfl
  | d + 1, h => by
    rw [show i + (d + 1) = (i + d) + 1 by omega, gs_no (h (i + d) (by omega) (by omega)), gs_skip d fun j h1 h2 => h j h1 (by omega)]
theorem gs_len (x : Nat) : ∀ i : Nat, (gs x i).length ≤ i
  | 0 => by simp [gs]
  | i + 1 => by
    have := gs_len x i
    simp only [gs]
    split
    · split
      · simp; omega
      · omega
    · omega
theorem keep_of_below {a c : World} (h : Below a.heap.size a c) : Keep (fun _ => False) a c := ⟨h.os, h.tape, h.output, h.size, fun k hk _ => h.block k hk⟩
theorem grown_of_keep {a c : World} (h : Keep (fun _ => False) a c) (row : Option Nat) : a.grownBy c row := ⟨h.os, h.tape, h.output, h.size, fun k hk _ => h.block k hk (fun h => h)⟩
/-- what a round may not turn: what was there ahead of the call, and the iterator's word. -/
def KpW (m Bb : Nat) (A B : World) : Prop := Below m A B ∧ B.heap[Bb]? = A.heap[Bb]?
theorem KpW.t {m Bb : Nat} {A B C : World} (h : KpW m Bb A B) (k : KpW m Bb B C) : KpW m Bb A C := ⟨h.1.trans k.1, k.2.trans h.2⟩
theorem KpW.b {m Bb : Nat} {w : World} (hm : m ≤ w.heap.size) (h1 : Bb < w.heap.size) (W : World) (l : Nat) (o o' : Obj) (hl : w.heap.size ≤ l) (h : W.heap[l]? = some o) (_ : o.isCells = false) (_ : o.isWalk = false) : KpW m Bb W (W.putObj l o') :=
  ⟨(Below.refl m W).grown (grownBy_putObj' W l o') (by have := (Array.getElem?_eq_some_iff.1 h).1; omega) (fun k e => by cases e; omega), World.putObj_heap_other (by omega)⟩
def wordAt (w : World) (B : Nat) : Nat := match w.cell? ⟨B, 0, none⟩ with | some (.int _ v) => v.toNat | _ => 0
theorem hi_stop {x i : Nat} (hx : x < 2 ^ 64) (hi' : i ≤ 64) (h : hi x i = 0) : gs x 64 = gs x i := by
  have : ∀ j, i ≤ j → j < i + (64 - i) → x.testBit j = false := fun j h1 h2 => by
    have := hi_bit x i j
    rw [h, Nat.zero_testBit] at this
    simpa [h1] using this.symm
  have h2 := gs_skip (64 - i) this
  rwa [show i + (64 - i) = 64 by omega] at h2

set_option maxRecDepth 100000 in
set_option maxHeartbeats 1000000 in
theorem nodes_stops (n : Nat) (hn : 1 ≤ n) {w w0 : World} {x : Nat} {Bb : Nat} (hx : x < 2 ^ 64) (hT : TabAt 0 tabS w) (h0 : 0 < w.heap.size) (hb0 : Below w.heap.size w w0) (hBb : w.heap.size ≤ Bb)
    (hB : w0.heap[Bb]? = some (.cells #[.int .u64 x] 29 (0, 0))) :
    SeqBox Bb Fence.wide n Tryz.prog 128 #[.pointer (some ⟨Bb, 0, none⟩)] (fun c : N63 => #[Value.int .i64 c.1]) (KpW w.heap.size Bb) (fun xs => xs = gs x 64) (fun pre => ∃ i, i ≤ 64 ∧ pre = gs x i) 64 w0 := fun l J Jx W hW hJ hJx hJB hJxB hY hj0 => by
  have HT := Lib.hid hT
  have HJ := Lib.hid hJ
  have HJB := Lib.hid hJB
  have HY := Lib.hid hY
  have HX := Lib.hid hx
  have l1 : Bb < w0.heap.size := (Array.getElem?_eq_some_iff.1 hB).1
  have q1 : W.heap[Bb]? = some (.cells #[.int .u64 x] 29 (0, 0)) := (hW.block Bb l1).trans hB
  have hW0 : Below w.heap.size w W := hb0.trans (hW.mono hb0.size)
  clear hT hB hJ hJB hY hW hb0 hx
  refine callsIn_of_wp Tryz.func128 rfl trivial ?_ rfl
  simp only [Tryz.ntmps128, List.size_toArray, List.length_cons, List.length_nil, Nat.reduceAdd, Nat.reduceSub, Array.replicate_succ, Array.replicate_zero, List.push_toArray, List.append_toArray, List.nil_append, List.cons_append]
  gi_wp2
  gi_loopw [] (fun wr => ∃ i : Nat, i ≤ 64 ∧ J (gs x i) wr ∧ Below w.heap.size w wr ∧ wr.heap[Bb]? = some (.cells #[.int .u64 (hi x i : Nat)] 29 (0, 0))) (fun wr => wordAt wr Bb)
  case atStart => exact ⟨0, by omega, hj0, hW0, by rw [hi_zero]; exact q1⟩
  case round =>
    clear q1
    obtain ⟨i, hi', hJi, hWi, hb⟩ := hrel
    have JI := Lib.hid hJi
    have WI := Lib.hid hWi
    have HB := Lib.hid hb
    have c1 := cell_of_one hb
    have hlt : hi x i < 2 ^ 64 := Nat.lt_of_le_of_lt (hi_le x i) HX.out
    clear hJi hWi hb hj0 hW0
    by_cases hz : hi x i = 0
    · have hs := hi_stop HX.out hi' hz
      have HS := Lib.hid hs
      rw [hz] at c1
      clear hs hz
      gi_wp2
      go_end0
      refine ⟨⟨_, rfl⟩, .inl ⟨_, rfl, ?_⟩⟩
      rw [HS.out]
      exact JI.out
    · obtain ⟨c, hc1, hc2, hc3, hc4, hc5, hc6⟩ := hi_next HX.out hz
      have T := tz_any (hi x i) hlt wr (tab_keep HT.out (keep_of_below WI.out) id)
      rw [hc1] at T
      have hg : gs x (c + 1) = gs x i ++ [⟨c, hc3⟩] := by
        rw [gs_yes hc3 hc4]
        congr 1
        have := gs_skip (x := x) (i := i) (c - i) (fun j h1 h2 => hc5 j h1 (by omega))
        rwa [show i + (c - i) = c by omega] at this
      have hlow : hi x (c + 1) < hi x i := by
        rw [← hc6]
        have := @Nat.and_le_right (hi x i) (hi x i - 1)
        omega
      have HG := Lib.hid hg
      have HLOW := Lib.hid hlow
      have HT2 := Lib.hid T
      have t1 : (((hi x i : Nat) : Int) != 0) = true := by simp; omega
      have w1 : IntKind.u64.wrap (((hi x i : Nat) : Int) - 1) = ((hi x i - 1 : Nat) : Int) := by rw [IntKind.wrap_u64]; omega
      have b1 := bits_and_u64_nat (hi x i) (hi x i - 1) (by omega) (by omega)
      rw [hc6] at b1
      clear hc1 hc5 hc6 hg hlow T hz
      obtain ⟨z, hz2⟩ : ∃ z, hi x (c + 1) = z := ⟨_, rfl⟩
      rw [hz2] at b1 HLOW
      have HZ := Lib.hid hz2
      clear hz2
      obtain ⟨y, hy2⟩ : ∃ y, hi x i = y := ⟨_, rfl⟩
      rw [hy2] at b1 HLOW c1 HB t1 w1 HT2 hlt
      clear hy2
      obtain ⟨fn, tmps, assign, body, hy, hR⟩ := HY.out (gs x i) ⟨c, hc3⟩ wr JI.out (by have := gs_len x i; omega)
      have HR := Lib.hid hR
      clear hR
      dsimp only at hy
      gi_wp2_with fail
      refine ⟨trivial, ?_⟩
      refine (callsIn_wide.2 HT2.out).mono ?_
      rintro e w4 ⟨rfl, rfl⟩
      gi_wp2_with fail
      refine HR.out.mono ?_
      rintro e W' (⟨rfl, hJ', hkB, hk1⟩ | ⟨rfl, hJx'⟩)
      · have hb2 : W'.heap[Bb]? = some (.cells #[.int .u64 (y : Nat)] 29 (0, 0)) := hk1.trans HB.out
        have c2 := cell_of_one hb2
        have f2 := free_of_one hb2
        have hr : ∃ k : Nat, k ≤ 64 ∧ J (gs x k) (W'.setCell ⟨Bb, 0, none⟩ (.int .u64 (z : Nat))) ∧ Below w.heap.size w (W'.setCell ⟨Bb, 0, none⟩ (.int .u64 (z : Nat))) ∧ (W'.setCell ⟨Bb, 0, none⟩ (.int .u64 (z : Nat))).heap[Bb]? = some (.cells #[.int .u64 (hi x k : Nat)] 29 (0, 0)) :=
          ⟨c + 1, by omega, by rw [HG.out]; exact HJB.out _ _ _ hJ' (grownBy_setCell' W' Bb _), (WI.out.trans hkB).setCell (p := ⟨Bb, 0, none⟩) hBb _, by rw [HZ.out]; exact one_setCell hb2⟩
        have HR2 := Lib.hid hr
        have hms : wordAt (W'.setCell ⟨Bb, 0, none⟩ (.int .u64 (z : Nat))) Bb < wordAt wr Bb := by
          have a1 := cell_of_one (one_setCell (u := .int .u64 (z : Nat)) hb2)
          have a2 := cell_of_one HB.out
          unfold wordAt
          rw [a1, a2]
          simp only [Int.toNat_natCast]
          exact HLOW.out
        have HMS := Lib.hid hms
        clear hr hms hJ' hkB hk1
        gi_wp2
        go_roundw
        case rel => exact HR2.out
        case measure => exact HMS.out
      · gi_wp2
        refine bodyPost_ret (results_none rfl _ _ _) rfl ?_
        exact ⟨⟨_, rfl⟩, .inr ⟨gs x i ++ [_], ⟨c + 1, by omega, HG.out.symm⟩, hJx'⟩⟩
end Go.Proofs.YtofonfohaocclaaGreatDoor.B

namespace Go.Proofs.YtofonfohaocclaaGreatDoor.B
open Go.RowKit Sh
set_option linter.unusedVariables false

theorem pow_u64 (n : Nat) (hn : n ≤ 63) : IntKind.u64.wrap ((2 : Int) ^ n) = (2 : Int) ^ n := by
  have h1 : (2 : Nat) ^ n ≤ 2 ^ 63 := Nat.pow_le_pow_right (by omega) hn
  have h2 : ((2 : Int) ^ n) = ((2 ^ n : Nat) : Int) := by push_cast; rfl
  rw [IntKind.wrap_u64, h2]
  generalize (2 : Nat) ^ n = m at h1 ⊢
  omega
def bitP (n : Int) : Int := if 0 ≤ n ∧ n ≤ 63 then (2 : Int) ^ n.toNat else 0
def hasP (b n : Int) : Bool := bits BinOp.and IntKind.u64 b (bitP n) != 0
theorem and_pow_ne (M k : Nat) : (M &&& 2 ^ k ≠ 0) ↔ M.testBit k = true := by
  constructor
  · intro h
    cases c : M.testBit k
    · exfalso
      apply h
      apply Nat.eq_of_testBit_eq
      intro i
      rw [Nat.testBit_and, Nat.testBit_two_pow, Nat.zero_testBit]
      by_cases e : k = i
      · subst e; simp [c]
      · simp [e]
    · rfl
  · intro h c
    have : (M &&& 2 ^ k).testBit k = true := by rw [Nat.testBit_and, Nat.testBit_two_pow]; simp [h]
    rw [c, Nat.zero_testBit] at this
    cases this
theorem has_bit (m : Int) (k : Nat) (h0 : 0 ≤ m) (h1 : m < 18446744073709551616) (hk : k < 64) : (bits BinOp.and IntKind.u64 (m / 2 ^ k) 1 == 1) = hasP m k := by
  obtain ⟨M, rfl⟩ : ∃ M : Nat, m = M := ⟨m.toNat, by omega⟩
  have e1 : ((M : Int) / 2 ^ k) = ((M / 2 ^ k : Nat) : Int) := by push_cast; rfl
  have hb : bitP (k : Int) = ((2 ^ k : Nat) : Int) := by
    rw [bitP, if_pos ⟨by omega, by omega⟩]
    push_cast
    rfl
  have hp : (2 : Nat) ^ k ≤ 2 ^ 63 := Nat.pow_le_pow_right (by omega) (by omega)
  have e2 := bits_and_u64_nat (M / 2 ^ k) 1 (Nat.lt_of_le_of_lt (Nat.div_le_self _ _) (by omega)) (by omega)
  have e3 := bits_and_u64_nat M (2 ^ k) (by omega) (by omega)
  unfold hasP
  rw [hb, e1, e3]
  rw [show ((1 : Int)) = ((1 : Nat) : Int) from rfl, e2]
  rw [Nat.and_one_is_mod]
  have ht : M.testBit k = decide (M / 2 ^ k % 2 = 1) := by
    rw [Nat.testBit_eq_decide_div_mod_eq]
  have hn := and_pow_ne M k
  rw [ht] at hn
  by_cases c : M / 2 ^ k % 2 = 1
  · have h2 := hn.2 (decide_eq_true c)
    rw [c]
    simp
    omega
  · have c0 : M / 2 ^ k % 2 = 0 := by omega
    have h2 : M &&& 2 ^ k = 0 := by
      by_cases z : M &&& 2 ^ k = 0
      · exact z
      · exact absurd (of_decide_eq_true (hn.1 z)) c
    rw [c0, h2]
    simp
def nodeP (n : Int) : Bool := decide (0 ≤ n) && decide (n < 64)
theorem rnode_any (n : Int) (w : World) : Calls Tryz.prog 45 #[.int .i64 n] w fun e w' => e = .returned (.bool (nodeP n)) ∧ w = w' := by
  unfold nodeP
  by_cases h0 : 0 ≤ n
  · have d0 : decide (0 ≤ n) = true := decide_eq_true h0
    by_cases h1 : n < 64
    · have d1 : decide (n < 64) = true := decide_eq_true h1
      go_enter Tryz.func45, Tryz.ntmps45
      go_wp2
      go_ret
      exact ⟨by rw [show decide (0 ≤ n) = true from decide_eq_true h0, d1]; rfl, rfl⟩
    · have d1 : decide (n < 64) = false := decide_eq_false h1
      go_enter Tryz.func45, Tryz.ntmps45
      go_wp2
      go_ret
      exact ⟨rfl, rfl⟩
  · have d0 : decide (0 ≤ n) = false := decide_eq_false h0
    go_enter Tryz.func45, Tryz.ntmps45
    go_wp2
    go_ret
    exact ⟨rfl, rfl⟩
theorem nodeP_true {n : Int} (h : 0 ≤ n ∧ n < 64) : nodeP n = true := by simp [nodeP, h]
theorem nodeP_false {n : Int} (h : ¬ (0 ≤ n ∧ n < 64)) : nodeP n = false := by
  unfold nodeP
  by_cases h0 : 0 ≤ n
  · have : ¬ n < 64 := fun h1 => h ⟨h0, h1⟩
    simp [this]
  · simp [h0]
theorem hasP_out {b n : Int} (h : ¬ (0 ≤ n ∧ n < 64)) : hasP b n = false := by
  have : bitP n = 0 := by
    unfold bitP
    rw [if_neg (by omega)]
  unfold hasP
  rw [this]
  have e : bits BinOp.and IntKind.u64 b 0 = 0 := by
    simp [bits]
    rfl
  rw [e]; rfl
theorem rhas_any (b n : Int) (w : World) (h0 : 0 ≤ b) (h1 : b < 18446744073709551616) :
    Calls Tryz.prog 17 #[.int .u64 b, .int .i64 n] w fun e w' => e = .returned (.bool (hasP b n)) ∧ w = w' := by
  by_cases hn : 0 ≤ n ∧ n < 64
  · obtain ⟨k, rfl⟩ : ∃ k : Nat, n = k := ⟨n.toNat, by omega⟩
    have hb := Lib.hid (has_bit b k h0 h1 (by omega))
    have ht := Lib.hid (nodeP_true hn)
    go_enter Tryz.func17, Tryz.ntmps17
    go_wp2_with fail
    refine (rnode_any k _).mono ?_
    rintro e w' ⟨rfl, rfl⟩
    rw [ht.out]
    go_wp2
    go_ret
    exact ⟨by rw [← hb.out]; rfl, rfl⟩
  · rw [hasP_out hn]
    have ht := Lib.hid (nodeP_false hn)
    go_enter Tryz.func17, Tryz.ntmps17
    go_wp2_with fail
    refine (rnode_any n _).mono ?_
    rintro e w' ⟨rfl, rfl⟩
    rw [ht.out]
    go_wp2
    go_ret
    exact ⟨rfl, rfl⟩
/-- The nodes of a band below k, rising. -/
def listP (b : Int) (k : Nat) : List Nat := (List.range k).filter fun n => hasP b n
theorem listP_succ (b : Int) (k : Nat) : listP b (k + 1) = listP b k ++ if hasP b k then [k] else [] := by
  unfold listP
  rw [List.range_succ, List.filter_append]
  congr 1
  cases h : hasP b k <;> simp [h]
theorem listP_le (b : Int) (k : Nat) : (listP b k).length ≤ k := by
  have := List.length_filter_le (fun n : Nat => hasP b n) (List.range k)
  unfold listP
  simpa using this
def natC (l : List Nat) : List Value := l.map fun (n : Nat) => Value.int .i64 (n : Int)
theorem info3 : (Tryz.prog.info? 3).map (fun i => (i.zero, i.size, i.bytes)) = some (some (.int .i64 0), 1, 8) := by kernel_rfl
set_option maxHeartbeats 1000000 in
theorem rlist_any (b : Int) (w : World) (h0 : 0 ≤ b) (h1 : b < 18446744073709551616) :
    Calls Tryz.prog 41 #[.int .u64 b] w fun e w' => ∃ g c, e = .returned (.slice (some ⟨g, 0, none⟩) (listP b 64).length c) ∧ w'.ownsRow w.heap.size 3 1 (.slice (some ⟨g, 0, none⟩) (listP b 64).length c) (listP b 64).length (natC (listP b 64)) ∧ Keep (fun _ => False) w w' := by
  obtain ⟨i0, hi, hi2⟩ : ∃ i0, Tryz.prog.info? 3 = some i0 ∧ (i0.zero, i0.size, i0.bytes) = (some (.int .i64 0), 1, 8) := by
    have := info3
    rw [Option.map_eq_some_iff] at this
    exact this
  simp only [Prod.mk.injEq] at hi2
  obtain ⟨hz0, hz1, hz2⟩ := hi2
  have Hi := Lib.hid hi
  have Hz0 := Lib.hid hz0
  have Hz1 := Lib.hid hz1
  have Hz2 := Lib.hid hz2
  have HB := Lib.hid (rhas_any b · · h0 h1)
  clear hi hz0 hz1 hz2
  go_enter Tryz.func41, Tryz.ntmps41
  go_wp2_with fail
  go_loopg [3, 4] 64 (fun q v3 v4 wr => ∃ (k g c : Nat), k + q = 64 ∧ v4 = .int .i64 k ∧ v3 = .slice (some ⟨g, 0, none⟩) (listP b k).length c ∧ wr.ownsRow w.heap.size 3 1 (.slice (some ⟨g, 0, none⟩) (listP b k).length c) (listP b k).length (natC (listP b k)) ∧ Keep (fun _ => False) w wr)
  case atStart =>
    exact ⟨0, w.heap.size, 0, by omega, rfl, rfl, World.ownsRow_lit w #[] 0 (Nat.le_refl _) (by simp [maxLen]) rfl, (Keep.refl _ w).alloc _⟩
  case round =>
    obtain ⟨k, g, c, hq, rfl, rfl, ho, hK⟩ := hrel
    have HQ := Lib.hid hq
    have HOW := Lib.hid ho
    have HK := Lib.hid hK
    have hle := listP_le b k
    clear hq ho hK
    by_cases hlt : k < 64
    · have d1 : decide ((k : Int) < 64) = true := decide_eq_true (by omega)
      have d2 : (k : Int) < 64 := by omega
      have wk : IntKind.i64.wrap ((k : Int) + 1) = (k : Int) + 1 := IntWalk.i64_in _ (by omega)
      have HLS := Lib.hid (listP_succ b k)
      cases hb : hasP b k
      · have HE : Hid (listP b (k + 1) = listP b k) := Lib.hid (by rw [HLS.out, hb]; simp)
        have HBB := Lib.hid hb
        clear hb
        go_wp2_with fail
        refine (HB.out k _).mono ?_
        rintro e w' ⟨rfl, rfl⟩
        rw [HBB.out]
        go_wp2
        go_roundg (64 - (k + 1))
        case measure => have := HQ.out; omega
        case rel => exact ⟨k + 1, g, c, by omega, by go_num, by rw [HE.out], by rw [HE.out]; exact HOW.out, HK.out⟩
      · have HE : Hid (listP b (k + 1) = listP b k ++ [k]) := Lib.hid (by rw [HLS.out, hb]; simp)
        have HBB := Lib.hid hb
        clear hb
        go_wp2_with fail
        refine (HB.out k _).mono ?_
        rintro e w' ⟨rfl, rfl⟩
        rw [HBB.out]
        go_wp2_with (at_builtin; refine wpList_append_own_at _ rfl _ _ 36 rfl w.heap.size 3 i0 (.int .i64 0) 1 8 Tryz.underlying36 Hi.out Hz0.out Hz1.out Hz2.out rfl (by decide) _ _ _ rfl (HOW.out.alloc _) ⟨wr.heap.size, 0, none⟩ 1 1 (natC [k]) rfl rfl ?c1 ?c2 ?c3 ?c4 ?c5 ?_)
        case c1 => exact World.news_of_block (cs := #[.int .i64 k]) (t := 3) (fr := (0, 0)) (heap_alloc_new wr _)
        case c2 => intro u hu; simp [natC] at hu; subst hu; rfl
        case c3 => simp only [maxLen]; omega
        case c4 => omega
        case c5 => have := HK.out.size; simp; omega
        intro v' w' hown hg _ _
        have hK' : Keep (fun _ => False) w w' := (HK.out.alloc _).grown hg (by
          intro j hj hlt
          have := ((HOW.out.alloc (.cells #[] 3)).lt j hj).1
          omega)
        have hown' : w'.ownsRow w.heap.size 3 1 v' (listP b (k + 1)).length (natC (listP b (k + 1))) := by
          rw [HE.out, List.length_append]
          unfold natC
          rw [List.map_append]
          exact hown
        obtain ⟨g', c', rfl⟩ : ∃ g' c', v' = .slice (some ⟨g', 0, none⟩) (listP b (k + 1)).length c' := by
          rcases hown'.2 with ⟨_, h2⟩ | ⟨g', cap, cur, hv, _⟩
          · rw [HE.out] at h2
            simp at h2
          · exact ⟨g', cap, hv⟩
        have HO' := Lib.hid hown'
        have HK' := Lib.hid hK'
        clear hown hown' hK' hg
        go_wp2
        go_roundg (64 - (k + 1))
        case measure => have := HQ.out; omega
        case rel => exact ⟨k + 1, g', c', by omega, by go_num, rfl, HO'.out, HK'.out⟩
    · have hk : k = 64 := by have := HQ.out; omega
      subst hk
      go_wp2
      go_ret
      exact ⟨g, c, rfl, HOW.out, HK.out⟩

end Go.Proofs.YtofonfohaocclaaGreatDoor.B

namespace Go.Proofs.YtofonfohaocclaaGreatDoor.B
open Go.RowKit Go.Shelf Sh
set_option linter.unusedVariables false
attribute [local go_sem] Oper.semAt_some

theorem nodes_in (n : Nat) (x : Int) (w : World) :
    CallsIn Fence.wide n Tryz.prog 91 #[.int .u64 x] w fun e w' => e = .returned (.func (.func 128) #[] #[.pointer (some ⟨w.heap.size, 0, none⟩)]) ∧ w' = w.alloc (.cells #[.int .u64 x] 29) := by
  refine callsIn_of_wp Tryz.func91 rfl trivial ?_ rfl
  simp only [Tryz.ntmps91, List.size_toArray, List.length_cons, List.length_nil, Nat.reduceAdd, Nat.reduceSub, Array.replicate_succ, Array.replicate_zero, List.push_toArray, List.append_toArray, List.nil_append, List.cons_append]
  gi_wp2
  go_ret
  exact ⟨rfl, rfl⟩
def nC (l : List N63) : List Value := l.map fun c => Value.int .i64 (c.1 : Int)
theorem own_slice {W : World} {base : Nat} {e : TypeId} {size : Nat} {v : Value} {k : Nat} {xs : List Value} (h : W.ownsRow base e size v k xs) : ∃ A c, v = .slice A k c := by
  rcases h.2 with ⟨rfl, rfl⟩ | ⟨g, cap, cur, rfl, _⟩
  · exact ⟨_, _, rfl⟩
  · exact ⟨_, _, rfl⟩
theorem nC_snoc (l : List N63) (x : N63) : nC (l ++ [x]) = nC l ++ [Value.int .i64 (x.1 : Int)] := by simp [nC]

theorem own_base {W : World} {n m : Nat} {e : TypeId} {size : Nat} {v : Value} {k : Nat} {xs : List Value} (h : W.ownsRow n e size v k xs) (hm : m ≤ n) : W.ownsRow m e size v k xs := by
  obtain ⟨h1, h2⟩ := h
  refine ⟨h1, ?_⟩
  rcases h2 with h2 | ⟨g, cap, cur, hv, hg, r⟩
  · exact .inl h2
  · exact .inr ⟨g, cap, cur, hv, by omega, r⟩
theorem own_far {W : World} {n b : Nat} {e : TypeId} {size : Nat} {v : Value} {k : Nat} {xs : List Value} (h : W.ownsRow n e size v k xs) (hb : b < n) : some b ≠ v.ownBlock := by
  rcases h.2 with ⟨rfl, _⟩ | ⟨g, cap, cur, rfl, hg, _⟩
  · simp [Value.ownBlock]
  · simp [Value.ownBlock]; omega
/-- What holds between the rounds. -/
def LI (w : World) (pre : List N63) (W : World) : Prop := (∃ v, Boxed W w.heap.size 36 v ∧ W.ownsRow (w.heap.size + 2) 3 1 v pre.length (nC pre) ∧ True) ∧ Below w.heap.size w W ∧ w.heap.size + 2 ≤ W.heap.size
theorem LI.own (w : World) (B : Nat) (hB : w.heap.size ≤ B) : OwnFrom B (LI w) :=
  OwnFrom.and (Own.from (holdsRow_own (w.heap.size + 2) w.heap.size 36 3 1 (fun pre : List N63 => pre.length) (fun pre => nC pre) (fun _ _ => True)) _) (OwnFrom.and (ownFrom_below (Nat.le_refl _) hB) (fun s A B row hs hg hr => Nat.le_trans hs hg.size))
theorem LI.turns (w : World) : TurnsAt (w.heap.size + 1) (LI w) := by
  rintro pre A B ⟨⟨v, hv, ho, _⟩, hb, hz⟩ hg
  refine ⟨⟨v, hv.kept hg (by simp), ho.kept hg ?_, trivial⟩, hb.grown hg hb.size (fun k e => by cases e; omega), Nat.le_trans hz hg.size⟩
  rcases ho.2 with ⟨rfl, _⟩ | ⟨g, cap, cur, rfl, hg2, _⟩
  · exact .inl rfl
  · refine .inr fun e => ?_
    simp [Value.ownBlock] at e
    omega

theorem list_fin {w W : World} {D : Nat} {v : Value} {pre : List N63} (hv : Boxed W w.heap.size 36 v) (hrow : W.ownsRow (w.heap.size + 2) 3 1 v pre.length (nC pre)) (hB : Below w.heap.size w W) (hK : W.heap[D]? = some (.deferred (some []))) (hD : w.heap.size ≤ D) :
    ((W.setCell ⟨w.heap.size, 0, none⟩ v).putObj D (.deferred none)).cell? ⟨w.heap.size, 0, none⟩ = some v ∧ ((W.setCell ⟨w.heap.size, 0, none⟩ v).putObj D (.deferred none)).ownsRow (w.heap.size + 2) 3 1 v pre.length (nC pre) ∧ Keep (fun _ => False) w ((W.setCell ⟨w.heap.size, 0, none⟩ v).putObj D (.deferred none)) := by
  have hK1 : (W.setCell ⟨w.heap.size, 0, none⟩ v).heap[D]? = some (.deferred (some [])) := (KeepsOthers.setCell _ _ _).same D _ hK rfl
  have hv1 : Boxed (W.setCell ⟨w.heap.size, 0, none⟩ v) w.heap.size 36 v := hv.set v
  have hrow1 : (W.setCell ⟨w.heap.size, 0, none⟩ v).ownsRow (w.heap.size + 2) 3 1 v pre.length (nC pre) := hrow.kept (grownBy_setCell' W w.heap.size v) (.inr (hv.not_row (by decide) hrow).symm)
  have hB1 : Below w.heap.size w (W.setCell ⟨w.heap.size, 0, none⟩ v) := hB.setCell (p := ⟨w.heap.size, 0, none⟩) (Nat.le_refl _) _
  refine ⟨(cell_kept hv1.cell (grownBy_putObj' _ D (.deferred none)) (fun r e => by cases e; exact ⟨_, hK1, rfl⟩)), ownsRow_putObj hrow1 _ hK1 rfl, keep_of_below ?_⟩
  exact hB1.grown (grownBy_putObj' _ D (.deferred none)) hB1.size (fun k e => by cases e; exact hD)

set_option maxRecDepth 100000 in
set_option maxHeartbeats 2000000 in
theorem list_any (x : Nat) (hx : x < 2 ^ 64) (w : World) (hT : TabAt 0 tabS w) (h0 : 0 < w.heap.size) :
    Calls Tryz.prog 44 #[.int .u64 (x : Int)] w fun e w' => ∃ v, e = .returned v ∧ w'.ownsRow (w.heap.size + 2) 3 1 v (gs x 64).length (nC (gs x 64)) ∧ Keep (fun _ => False) w w' := by
  obtain ⟨i0, hi, hz0, hz1, hz2⟩ := info_parts info3
  have Hi := Lib.hid hi
  have Hz0 := Lib.hid hz0
  have Hz1 := Lib.hid hz1
  have Hz2 := Lib.hid hz2
  have HT := Lib.hid hT
  clear hi hz0 hz1 hz2 hT
  refine (callsIn_wide (n := 9)).1 ?_
  refine callsIn_of_wp_marks Tryz.func44 rfl trivial ?_ rfl
  simp only [Tryz.ntmps44, List.size_toArray, List.length_cons, List.length_nil, Nat.reduceAdd, Nat.reduceSub, Array.replicate_succ, Array.replicate_zero, List.push_toArray, List.append_toArray, List.nil_append, List.cons_append]
  gi_wp2_with fail
  refine ⟨trivial, ?_⟩
  refine (nodes_in 8 _ _).mono ?_
  rintro e w' ⟨rfl, rfl⟩
  have bL0 := Boxed.new w 36 (.slice none 0 0)
  have bL := bL0.alloc (.cells #[.int .u64 (x : Int)] 29)
  have bB : ((w.alloc (.cells #[.slice none 0 0] 36)).alloc (.cells #[.int .u64 (x : Int)] 29)).heap[w.heap.size + 1]? = some (.cells #[.int .u64 (x : Int)] 29 (0, 0)) := by
    have := heap_alloc_new (w.alloc (.cells #[.slice none 0 0] 36)) (.cells #[.int .u64 (x : Int)] 29)
    simpa using this
  have hB0 : Below w.heap.size w ((w.alloc (.cells #[.slice none 0 0] 36)).alloc (.cells #[.int .u64 (x : Int)] 29)) := ((Below.refl _ w).alloc (Nat.le_refl _) _).alloc (by simp) _
  have hsz : ((w.alloc (.cells #[.slice none 0 0] 36)).alloc (.cells #[.int .u64 (x : Int)] 29)).heap.size = w.heap.size + 2 := by simp
  simp only [World.size_alloc] at bL ⊢
  obtain ⟨W0, hW0⟩ : ∃ W0, ((w.alloc (.cells #[.slice none 0 0] 36)).alloc (.cells #[.int .u64 (x : Int)] 29)) = W0 := ⟨_, rfl⟩
  rw [hW0] at bL bB hB0 hsz ⊢
  clear hW0 bL0
  have hS := nodes_stops 8 (by omega) hx HT.out h0 hB0 (Bb := w.heap.size + 1) (by omega) bB
  gi_wp2_with fail
  refine rangeFunc_box rfl (by omega) (gf := 128) (lb := #[.pointer (some ⟨w.heap.size + 1, 0, none⟩)]) rfl trivial (enters_of Tryz.func128 (by kernel_rfl) rfl) (Bb := w.heap.size + 1) (by omega)
    hS (fun h k => h.t k) (KpW.b (by omega) (by omega)) (Below.refl _ _) (fun _ => rfl) (LI w) (fun _ _ _ => False) (LI.own w _ (by omega)) (fun c => fun _ _ _ _ h => h.elim) (LI.turns w) (fun c => fun _ _ _ h => h.elim)
    ⟨⟨_, bL, World.ownsRow_nil _ _ _ _, trivial⟩, hB0, by omega⟩
    (fun c => { tmps := #[.int .u64 (x : Int), undef, .pointer (some ⟨w.heap.size, 0, none⟩), .int .i64 (c.1 : Int), .int .u64 (x : Int), .func (.func 128) #[] #[.pointer (some ⟨w.heap.size + 1, 0, none⟩)], .int .i64 (c.1 : Int), undef, undef, undef, undef, undef], defers := [] }) ?assign ?body ?done ?stop
  case assign =>
    intro l c W K hK
    gi_wp2
    exact hK
  case body =>
    rintro l0 pre c W ⟨⟨v, hv, hrow, _⟩, hB, hsz3⟩ hlt
    obtain ⟨Av, cv, rfl⟩ := own_slice hrow
    have hc := hv.cell
    have hf := hv.frozen
    have HR := Lib.hid hrow
    have HV := Lib.hid hv
    have HB := Lib.hid hB
    have hsz2 := hB.size
    have hl2 := gs_len x 64
    have hlt2 : pre.length < 64 := hlt
    have nb := World.alloc_heap_new W (Obj.cells #[Value.int IntKind.i64 (c.1 : Int)] 3)
    have NB := Lib.hid nb
    have V2 := Lib.hid (HV.out.alloc (Obj.cells #[Value.int IntKind.i64 (c.1 : Int)] 3))
    have R2 := Lib.hid (HR.out.alloc (Obj.cells #[Value.int IntKind.i64 (c.1 : Int)] 3))
    have B2 := Lib.hid (HB.out.alloc hsz2 (Obj.cells #[Value.int IntKind.i64 (c.1 : Int)] 3))
    have n2 := HV.out.lt
    clear hrow hv hB nb
    gi_wp2_with (gi_at_builtin; refine wpListIn_append_own _ rfl _ _ 36 rfl (w.heap.size + 2) 3 i0 (.int .i64 0) 1 8 Tryz.underlying36 Hi.out Hz0.out Hz1.out Hz2.out rfl (by decide) _ _ _ rfl (HR.out.alloc _) ⟨W.heap.size, 0, none⟩ 1 1 [Value.int .i64 (c.1 : Int)] rfl rfl (World.news_of_block (cs := (#[Value.int IntKind.i64 (c.1 : Int)] : Array Value)) (t := 3) (fr := (0, 0)) NB.out) (by intro u hu; simp at hu; subst hu; rfl) (by simp only [maxLen]; omega) (by omega) (by simp only [World.size_alloc]; omega) ?_; intro v' w2 hown' hgrow _; obtain ⟨g', cap', rfl⟩ := ownsRow_succ hown'; obtain ⟨hv1, hv2, _, hk2, hb2⟩ := HV.out.appended (by decide) (own_base HR.out (m := w.heap.size) (by omega)) hsz2 (by omega) (own_base hown' (m := w.heap.size) (by omega)) hgrow; have hr2 := hown'.kept (grownBy_setCell' w2 w.heap.size (.slice (some ⟨g', 0, none⟩) (pre.length + 1) cap')) (.inr (hv1.not_row (by decide) hown').symm); have hbb := (hgrow.block (w.heap.size + 1) (by simp; omega) (own_far HR.out (by omega))).trans (Below.heap_alloc W _ _ (by omega)); have hc1 := hv1.cell; have hf1 := hv1.frozen; have HV2 := Lib.hid hv2; have HR2 := Lib.hid hr2; have HKO := Lib.hid hk2; have HB2 := Lib.hid hb2; have HBBB := Lib.hid hbb; clear hv1 hv2 hr2 hk2 hb2 hgrow hown' hbb)
    refine ⟨HKO.out.from _, ⟨HB2.out, ?_⟩, ⟨_, HV2.out, ?_, trivial⟩, HB.out.trans HB2.out, Nat.le_trans hsz3 HKO.out.size⟩
    · rw [← HBBB.out]
      exact Below.heap_setCell _ _ _ _ (by simp)
    · rw [List.length_append, nC_snoc]; exact HR2.out
  case done =>
    rintro D ys W hD rfl ⟨⟨v, hv, hrow, _⟩, hB, hsz3⟩ hK
    obtain ⟨Av, cv, rfl⟩ := own_slice hrow
    have hc := hv.cell
    have hf := hv.frozen
    have HR := Lib.hid hrow
    have HV := Lib.hid hv
    have HB := Lib.hid hB
    have HKK := Lib.hid hK
    clear hrow hv hB hK
    gi_wp2
    refine ⟨by simp, .inl ⟨_, _, rfl, run_takeDeferred ((KeepsOthers.setCell _ _ _).same D _ HKK.out rfl), ?_⟩⟩
    obtain ⟨z1, z2, z3⟩ := list_fin HV.out HR.out HB.out HKK.out (by omega)
    exact ⟨_, by simp [results, Tryz.results44, go_sem, z1], ⟨_, rfl, z2, z3⟩⟩
  case stop =>
    rintro D c pre W hD _ h
    exact h.elim
end Go.Proofs.YtofonfohaocclaaGreatDoor.B

namespace Go.Proofs.YtofonfohaocclaaGreatDoor.B
open Go.RowKit Sh
set_option linter.unusedVariables false
theorem hasP_nat (B n : Nat) (hB : B < 18446744073709551616) (hn : n < 64) : hasP (B : Int) (n : Int) = B.testBit n := by
  have hb : bitP (n : Int) = ((2 ^ n : Nat) : Int) := by
    rw [bitP, if_pos ⟨by omega, by omega⟩]
    push_cast
    rfl
  have hp : (2 : Nat) ^ n ≤ 2 ^ 63 := Nat.pow_le_pow_right (by omega) (by omega)
  unfold hasP
  rw [hb, bits_and_u64_nat B (2 ^ n) (by omega) (by omega)]
  have := and_pow_ne B n
  cases h : B.testBit n
  · rw [h] at this
    have h2 : B &&& 2 ^ n = 0 := by
      by_cases z : B &&& 2 ^ n = 0
      · exact z
      · exact absurd (this.1 z) (by simp)
    rw [h2]; rfl
  · have h2 := this.2 h
    simp only [bne_iff_ne, ne_eq]
    omega
theorem gs_list (x : Nat) (hx : x < 18446744073709551616) : ∀ i, i ≤ 64 → (gs x i).map (·.1) = listP (x : Int) i
  | 0, _ => rfl
  | i + 1, h => by
    have ih := gs_list x hx i (by omega)
    rw [listP_succ, hasP_nat x i hx (by omega)]
    cases hb : x.testBit i
    · rw [gs_no hb, ih]; simp
    · rw [gs_yes (by omega) hb, List.map_append, ih]; rfl
theorem nC_natC (L : List N63) : nC L = natC (L.map (·.1)) := by simp [nC, natC]
theorem list_len (x : Nat) (hx : x < 18446744073709551616) : (listP (x : Int) 64).length = (gs x 64).length := by rw [← gs_list x hx 64 (by omega), List.length_map]
theorem natC_gs (x : Nat) (hx : x < 18446744073709551616) : natC (listP (x : Int) 64) = nC (gs x 64) := by rw [nC_natC, gs_list x hx 64 (by omega)]
/-- ref05.List, in the program's words. -/
theorem rlist_gs (x : Nat) (hx : x < 18446744073709551616) (w : World) :
    Calls Tryz.prog 41 #[.int .u64 (x : Int)] w fun e w' => ∃ v, e = .returned v ∧ w'.ownsRow w.heap.size 3 1 v (gs x 64).length (nC (gs x 64)) ∧ Keep (fun _ => False) w w' := by
  refine (rlist_any (x : Int) w (by omega) (by omega)).mono ?_
  rintro e w' ⟨g, c, rfl, ho, hk⟩
  refine ⟨_, rfl, ?_, hk⟩
  rw [list_len x hx, natC_gs x hx] at ho
  rw [list_len x hx]
  exact ho
end Go.Proofs.YtofonfohaocclaaGreatDoor.B
