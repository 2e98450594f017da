/- band.nodes: the bits of a word, one by one (an iterator). -/
import Derived.Test.YtmficjbgpcbhoaaDoorRangeB
import Derived.Test.YtmficjbgpcbhoaaDoorBandP
import Derived.Test.YtmficjbgpcbhoaaDoorTz
import Derived.OwnWalkIn
import Derived.TacticsInMore
import Derived.LoopNIn
import Derived.LoopIn
import Derived.Maps.AppendAt
import Derived.Maps.OwnIn
import Derived.Laws.Bits64b
namespace Go.Proofs.YtmficjbgpcbhoaaDoor
open Go.RowKit Go.Shelf Sh
set_option linter.unusedVariables false
attribute [local go_sem] Oper.semAt_some

abbrev N63 := { c : Nat // c < 64 }
/-- The bits of a word below i, rising. -/
def gs (x : Nat) : Nat → List N63
  | 0 => []
  | i + 1 => if h : i < 64 then (if x.testBit i = true then gs x i ++ [⟨i, h⟩] else gs x i) else gs x i
theorem gs_yes {x i : Nat} (h : i < 64) (hk : x.testBit i = true) : gs x (i + 1) = gs x i ++ [⟨i, h⟩] := by
  simp only [gs]; rw [dif_pos h, if_pos hk]
theorem gs_no {x i : Nat} (hk : x.testBit i = false) : gs x (i + 1) = gs x i := by
  simp only [gs]
  by_cases h : i < 64
  · rw [dif_pos h, if_neg (by rw [hk]; simp)]
  · rw [dif_neg h]
theorem gs_skip {x i : Nat} : ∀ (d : Nat), (∀ j, i ≤ j → j < i + d → x.testBit j = false) → gs x (i + d) = gs x i
  | 0, _ => rfl
  | d + 1, h => by
    rw [show i + (d + 1) = (i + d) + 1 by omega, gs_no (h (i + d) (by omega) (by omega)), gs_skip d fun j h1 h2 => h j h1 (by omega)]
theorem gs_len (x : Nat) : ∀ i : Nat, (gs x i).length ≤ i
  | 0 => by simp [gs]
  | i + 1 => by
    have := gs_len x i
    simp only [gs]
    split
    · split
      · simp; omega
      · omega
    · omega
theorem keep_of_below {a c : World} (h : Below a.heap.size a c) : Keep (fun _ => False) a c := ⟨h.os, h.tape, h.output, h.size, fun k hk _ => h.block k hk⟩
theorem grown_of_keep {a c : World} (h : Keep (fun _ => False) a c) (row : Option Nat) : a.grownBy c row := ⟨h.os, h.tape, h.output, h.size, fun k hk _ => h.block k hk (fun h => h)⟩
/-- what a round may not turn: what was there ahead of the call, and the iterator's word. -/
def KpW (m Bb : Nat) (A B : World) : Prop := Below m A B ∧ B.heap[Bb]? = A.heap[Bb]?
theorem KpW.t {m Bb : Nat} {A B C : World} (h : KpW m Bb A B) (k : KpW m Bb B C) : KpW m Bb A C := ⟨h.1.trans k.1, k.2.trans h.2⟩
theorem KpW.b {m Bb : Nat} {w : World} (hm : m ≤ w.heap.size) (h1 : Bb < w.heap.size) (W : World) (l : Nat) (o o' : Obj) (hl : w.heap.size ≤ l) (h : W.heap[l]? = some o) (_ : o.isCells = false) (_ : o.isWalk = false) : KpW m Bb W (W.putObj l o') :=
  ⟨(Below.refl m W).grown (grownBy_putObj' W l o') (by have := (Array.getElem?_eq_some_iff.1 h).1; omega) (fun k e => by cases e; omega), World.putObj_heap_other (by omega)⟩
def wordAt (w : World) (B : Nat) : Nat := match w.cell? ⟨B, 0, none⟩ with | some (.int _ v) => v.toNat | _ => 0
theorem hi_stop {x i : Nat} (hx : x < 2 ^ 64) (hi' : i ≤ 64) (h : hi x i = 0) : gs x 64 = gs x i := by
  have : ∀ j, i ≤ j → j < i + (64 - i) → x.testBit j = false := fun j h1 h2 => by
    have := hi_bit x i j
    rw [h, Nat.zero_testBit] at this
    simpa [h1] using this.symm
  have h2 := gs_skip (64 - i) this
  rwa [show i + (64 - i) = 64 by omega] at h2

set_option maxRecDepth 100000 in
set_option maxHeartbeats 1000000 in
theorem nodes_stops (n : Nat) (hn : 1 ≤ n) {w w0 : World} {x : Nat} {Bb : Nat} (hx : x < 2 ^ 64) (hT : TabAt 0 tabS w) (h0 : 0 < w.heap.size) (hb0 : Below w.heap.size w w0) (hBb : w.heap.size ≤ Bb)
    (hB : w0.heap[Bb]? = some (.cells #[.int .u64 x] 22 (0, 0))) :
    SeqBox Bb Fence.wide n Tryd.prog 20 #[.pointer (some ⟨Bb, 0, none⟩)] (fun c : N63 => #[Value.int .i64 c.1]) (KpW w.heap.size Bb) (fun xs => xs = gs x 64) (fun pre => ∃ i, i ≤ 64 ∧ pre = gs x i) 64 w0 := fun l J Jx W hW hJ hJx hJB hJxB hY hj0 => by
  have HT := Lib.hid hT
  have HJ := Lib.hid hJ
  have HJB := Lib.hid hJB
  have HY := Lib.hid hY
  have HX := Lib.hid hx
  have l1 : Bb < w0.heap.size := (Array.getElem?_eq_some_iff.1 hB).1
  have q1 : W.heap[Bb]? = some (.cells #[.int .u64 x] 22 (0, 0)) := (hW.block Bb l1).trans hB
  have hW0 : Below w.heap.size w W := hb0.trans (hW.mono hb0.size)
  clear hT hB hJ hJB hY hW hb0 hx
  refine callsIn_of_wp Tryd.func20 rfl trivial ?_ rfl
  simp only [Tryd.ntmps20, List.size_toArray, List.length_cons, List.length_nil, Nat.reduceAdd, Nat.reduceSub, Array.replicate_succ, Array.replicate_zero, List.push_toArray, List.append_toArray, List.nil_append, List.cons_append]
  gi_wp2
  gi_loopw [] (fun wr => ∃ i : Nat, i ≤ 64 ∧ J (gs x i) wr ∧ Below w.heap.size w wr ∧ wr.heap[Bb]? = some (.cells #[.int .u64 (hi x i : Nat)] 22 (0, 0))) (fun wr => wordAt wr Bb)
  case atStart => exact ⟨0, by omega, hj0, hW0, by rw [hi_zero]; exact q1⟩
  case round =>
    clear q1
    obtain ⟨i, hi', hJi, hWi, hb⟩ := hrel
    have JI := Lib.hid hJi
    have WI := Lib.hid hWi
    have HB := Lib.hid hb
    have c1 := cell_of_one hb
    have hlt : hi x i < 2 ^ 64 := Nat.lt_of_le_of_lt (hi_le x i) HX.out
    clear hJi hWi hb hj0 hW0
    by_cases hz : hi x i = 0
    · have hs := hi_stop HX.out hi' hz
      have HS := Lib.hid hs
      rw [hz] at c1
      clear hs hz
      gi_wp2
      go_end0
      refine ⟨⟨_, rfl⟩, .inl ⟨_, rfl, ?_⟩⟩
      rw [HS.out]
      exact JI.out
    · obtain ⟨c, hc1, hc2, hc3, hc4, hc5, hc6⟩ := hi_next HX.out hz
      have T := tz_any (hi x i) hlt wr (tab_keep HT.out (keep_of_below WI.out) id)
      rw [hc1] at T
      have hg : gs x (c + 1) = gs x i ++ [⟨c, hc3⟩] := by
        rw [gs_yes hc3 hc4]
        congr 1
        have := gs_skip (x := x) (i := i) (c - i) (fun j h1 h2 => hc5 j h1 (by omega))
        rwa [show i + (c - i) = c by omega] at this
      have hlow : hi x (c + 1) < hi x i := by
        rw [← hc6]
        have := @Nat.and_le_right (hi x i) (hi x i - 1)
        omega
      have HG := Lib.hid hg
      have HLOW := Lib.hid hlow
      have HT2 := Lib.hid T
      have t1 : (((hi x i : Nat) : Int) != 0) = true := by simp; omega
      have w1 : IntKind.u64.wrap (((hi x i : Nat) : Int) - 1) = ((hi x i - 1 : Nat) : Int) := by rw [IntKind.wrap_u64]; omega
      have b1 := bits_and_u64_nat (hi x i) (hi x i - 1) (by omega) (by omega)
      rw [hc6] at b1
      clear hc1 hc5 hc6 hg hlow T hz
      obtain ⟨z, hz2⟩ : ∃ z, hi x (c + 1) = z := ⟨_, rfl⟩
      rw [hz2] at b1 HLOW
      have HZ := Lib.hid hz2
      clear hz2
      obtain ⟨y, hy2⟩ : ∃ y, hi x i = y := ⟨_, rfl⟩
      rw [hy2] at b1 HLOW c1 HB t1 w1 HT2 hlt
      clear hy2
      obtain ⟨fn, tmps, assign, body, hy, hR⟩ := HY.out (gs x i) ⟨c, hc3⟩ wr JI.out (by have := gs_len x i; omega)
      have HR := Lib.hid hR
      clear hR
      dsimp only at hy
      gi_wp2_with fail
      refine ⟨trivial, ?_⟩
      refine (callsIn_wide.2 HT2.out).mono ?_
      rintro e w4 ⟨rfl, rfl⟩
      gi_wp2_with fail
      refine HR.out.mono ?_
      rintro e W' (⟨rfl, hJ', hkB, hk1⟩ | ⟨rfl, hJx'⟩)
      · have hb2 : W'.heap[Bb]? = some (.cells #[.int .u64 (y : Nat)] 22 (0, 0)) := hk1.trans HB.out
        have c2 := cell_of_one hb2
        have f2 := free_of_one hb2
        have hr : ∃ k : Nat, k ≤ 64 ∧ J (gs x k) (W'.setCell ⟨Bb, 0, none⟩ (.int .u64 (z : Nat))) ∧ Below w.heap.size w (W'.setCell ⟨Bb, 0, none⟩ (.int .u64 (z : Nat))) ∧ (W'.setCell ⟨Bb, 0, none⟩ (.int .u64 (z : Nat))).heap[Bb]? = some (.cells #[.int .u64 (hi x k : Nat)] 22 (0, 0)) :=
          ⟨c + 1, by omega, by rw [HG.out]; exact HJB.out _ _ _ hJ' (grownBy_setCell' W' Bb _), (WI.out.trans hkB).setCell (p := ⟨Bb, 0, none⟩) hBb _, by rw [HZ.out]; exact one_setCell hb2⟩
        have HR2 := Lib.hid hr
        have hms : wordAt (W'.setCell ⟨Bb, 0, none⟩ (.int .u64 (z : Nat))) Bb < wordAt wr Bb := by
          have a1 := cell_of_one (one_setCell (u := .int .u64 (z : Nat)) hb2)
          have a2 := cell_of_one HB.out
          unfold wordAt
          rw [a1, a2]
          simp only [Int.toNat_natCast]
          exact HLOW.out
        have HMS := Lib.hid hms
        clear hr hms hJ' hkB hk1
        gi_wp2
        go_roundw
        case rel => exact HR2.out
        case measure => exact HMS.out
      · gi_wp2
        refine bodyPost_ret (results_none rfl _ _ _) rfl ?_
        exact ⟨⟨_, rfl⟩, .inr ⟨gs x i ++ [_], ⟨c + 1, by omega, HG.out.symm⟩, hJx'⟩⟩
end Go.Proofs.YtmficjbgpcbhoaaDoor
