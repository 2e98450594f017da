/- Walk of Take's inner function. Walk of Queue.Take. -/
import Derived.Test.YtofonfohaocclaaGreatDoorG10
namespace Go.Proofs.YtofonfohaocclaaGreatDoor.Q
open Go.RowKit Sh
open Go.ChangeMaps (setBlock)
set_option linter.unusedVariables false

theorem info52 : (Tryz.prog.info? 52).map (fun i => (i.zero, i.size, i.bytes)) = some (some (.agg #[.int .i64 0, .int .u64 0, .int .i64 0]), 3, 24) := by kernel_rfl
def upC (x : It) : List Value := [.int .i64 x.n, .int .u64 x.i, .int .i64 x.s]
def upCells : List It → List Value
  | [] => []
  | e :: E => upC e ++ upCells E
theorem upCells_length (E : List It) : (upCells E).length = E.length * 3 := by
  induction E with
  | nil => rfl
  | cons e E ih => simp [upCells, upC, ih]; omega
theorem upCells_append (E F : List It) : upCells (E ++ F) = upCells E ++ upCells F := by
  induction E with
  | nil => rfl
  | cons e E ih => simp [upCells, ih]
theorem upCells_get : ∀ (E : List It) (i c : Nat), i < E.length → c < 3 → (upCells E)[i * 3 + c]? = (upC (it E i))[c]?
  | [], i, c, h, _ => by simp at h
  | e :: E, 0, c, h, hc => by
    simp only [upCells, it, List.getD_cons_zero, Nat.zero_mul, Nat.zero_add]
    rw [List.getElem?_append_left (by simp [upC]; omega)]
  | e :: E, i + 1, c, h, hc => by
    have := upCells_get E i c (by simpa using h) hc
    simp only [upCells, it, List.getD_cons_succ] at this ⊢
    rw [List.getElem?_append_right (by simp [upC]; omega), ← this]
    congr 1
    simp [upC]; omega
theorem upC_one (e : It) : ∀ u ∈ upC e, u.oneCell' = true := by
  intro u hu
  simp [upC] at hu
  rcases hu with rfl | rfl | rfl <;> rfl
theorem upCells_one (E : List It) : ∀ u ∈ upCells E, u.oneCell' = true := by
  induction E with
  | nil => intro u hu; simp [upCells] at hu
  | cons e E ih =>
    intro u hu
    rcases List.mem_append.1 hu with h | h
    · exact upC_one e u h
    · exact ih u h

def tellL (cap : Int) (M : List It) (x : It) : List It := if x.t + 1 < cap then putL M ⟨x.n, x.i, x.s, x.t + 1⟩ else M.filter (fun z => z.n ≠ x.n)

/-- what Take's inner function leans on. -/
structure TellIs (w : World) (q : Loc) (B qc nd lc base : Nat) (nodes : Int) (M U : List It) : Prop where
  que : IsQ w q (some B) M
  lst : ∃ A c, w.heap[lc]? = some (.cells #[.slice A U.length c] 49 (0, 0)) ∧ w.ownsRow base 52 3 (.slice A U.length c) U.length (upCells U)
  cn : w.heap[nd]? = some (.cells #[.int .i64 nodes] 3 (0, 0))
  cq : w.heap[qc]? = some (.cells #[.pointer (some ⟨q.b, q.o, none⟩)] 162 (0, 0))
  bq : q.b < base
  bB : B < base
  bqc : qc < base
  bnd : nd < base
  blc : lc < base
  n1 : lc ≠ q.b
  n2 : lc ≠ B
  n3 : lc ≠ nd
  n4 : lc ≠ qc
  n5 : B ≠ nd
  n6 : B ≠ qc
def TS (B lc base : Nat) (k : Nat) : Prop := k = B ∨ k = lc ∨ base ≤ k

set_option maxRecDepth 100000 in
set_option maxHeartbeats 2000000 in
theorem tell_any {w : World} {q : Loc} {B qc nd lc base : Nat} {nodes : Int} {M U : List It} (h : TellIs w q B qc nd lc base nodes M U) (x : It) (hx : 0 ≤ x.t ∧ x.t ≤ 1000) (hb : base ≤ w.heap.size) (hU : U.length ≤ 1000) (n0 : -9223372036854775808 ≤ nodes) (n1 : nodes < 9223372036854775808) :
    Calls Tryz.prog 123 #[itV x, .pointer (some ⟨lc, 0, none⟩), .pointer (some ⟨nd, 0, none⟩), .pointer (some ⟨qc, 0, none⟩)] w fun e w' => e = .returned (.tuple #[]) ∧ TellIs w' q B qc nd lc base nodes (tellL (capI nodes) M x) (U ++ [x]) ∧ Keep (TS B lc base) w w' := by
  obtain ⟨i0, hi, hi2⟩ : ∃ i0, Tryz.prog.info? 52 = some i0 ∧ (i0.zero, i0.size, i0.bytes) = (some (.agg #[.int .i64 0, .int .u64 0, .int .i64 0]), 3, 24) := by
    have := info52
    rw [Option.map_eq_some_iff] at this
    exact this
  simp only [Prod.mk.injEq] at hi2
  obtain ⟨hz0, hz1, hz2⟩ := hi2
  have Hi := Lib.hid hi
  have Hz0 := Lib.hid hz0
  have Hz1 := Lib.hid hz1
  have Hz2 := Lib.hid hz2
  clear hi hz0 hz1 hz2
  have T := Lib.hid h
  have CAP := Lib.hid (fun w => cap_any nodes w n0 n1)
  have CB : Hid (capI nodes ≤ 192) := Lib.hid (capI_le nodes n1)
  obtain ⟨A, c, hl, hown⟩ := h.lst
  have HO := Lib.hid hown
  have lb := h.blc
  have cl : w.cell? ⟨lc, 0, none⟩ = some (.slice A U.length c) := by simp [World.cell?, hl]
  have cla : ∀ o, (w.alloc o).cell? ⟨lc, 0, none⟩ = some (.slice A U.length c) := fun o => ((Keep.refl (fun _ => False) w).alloc o).cell cl
  obtain ⟨xn, xi, xs, xt⟩ := x
  unfold itV
  simp only at hx ⊢
  have e1 : IntKind.i64.wrap (xt + 1) = xt + 1 := by rw [IntKind.wrap_i64]; omega
  have b1 : ∀ o, (w.alloc (.cells #[.int .i64 xn, .int .u64 xi, .int .i64 xs, .int .i64 xt] 164) |>.alloc o).cell? ⟨w.heap.size, 0, none⟩ = some (.int .i64 xn) := fun o => ((Keep.refl (fun _ => False) _).alloc o).cell (cell_new rfl rfl)
  have hl0 := hl
  clear hl hown h
  go_enter Tryz.func123, Tryz.ntmps123
  go_wp2_with (at_builtin; refine wpList_append_own_at _ rfl _ _ 49 rfl base 52 i0 (.agg #[.int .i64 0, .int .u64 0, .int .i64 0]) 3 24 Tryz.underlying49 Hi.out Hz0.out Hz1.out Hz2.out rfl (by decide) _ _ _ rfl ((HO.out.alloc _).alloc _) ⟨w.heap.size + 1, 0, none⟩ 1 1 (upCells [⟨xn, xi, xs, xt⟩]) rfl rfl ?c1 ?c2 ?c3 ?c4 ?c5 ?_)
  case c1 =>
    refine World.news_of_block (cs := (upCells [⟨xn, xi, xs, xt⟩]).toArray) (t := 52) (fr := (0, 0)) ?_
    have h := heap_alloc_new (w.alloc (.cells #[.int .i64 xn, .int .u64 xi, .int .i64 xs, .int .i64 xt] 164)) (.cells (upCells [⟨xn, xi, xs, xt⟩]).toArray 52)
    simpa [upCells, upC] using h
  case c2 => exact upCells_one _
  case c3 => simp only [maxLen]; omega
  case c4 => omega
  case c5 => simp; omega
  intro v' w' hown hg _ _
  obtain ⟨A', c', rfl⟩ := own_shape hown
  obtain ⟨wz, hwz⟩ : ∃ wz, wz = (w.alloc (.cells #[.int .i64 xn, .int .u64 xi, .int .i64 xs, .int .i64 xt] 164)).alloc (.cells #[.int .i64 xn, .int .u64 xi, .int .i64 xs] 52) := ⟨_, rfl⟩
  rw [← hwz] at hg
  have kz : Keep (fun _ => False) w wz := by rw [hwz]; exact ((Keep.refl _ w).alloc _).alloc _
  have bz : wz.heap[w.heap.size]? = some (.cells #[.int .i64 xn, .int .u64 xi, .int .i64 xs, .int .i64 xt] 164 (0, 0)) := by rw [hwz]; exact ((Keep.refl (fun _ => False) _).alloc _).old (heap_alloc_new w _) id
  have kg : Keep (fun k => base ≤ k ∧ k < w.heap.size) wz w' := (Keep.refl _ wz).grown hg (fun k hk hlt => by
    have := own_block HO.out hk
    exact ⟨this.1, this.2.1⟩)
  have bx := kg.old bz (fun h => by omega)
  have hl' := kg.old (kz.old hl0 id) (fun h => by omega)
  have kw : Keep (fun k => k = lc ∨ base ≤ k) w w' := (kz.mono (fun _ h _ => absurd h id)).trans kg (fun k hk _ => .inr hk.1)
  have cl' : w'.cell? ⟨lc, 0, none⟩ = some (.slice A U.length c) := by simp [World.cell?, hl']
  have fl' : w'.frozen? ⟨lc, 0, none⟩ = false := by simp [World.frozen?, hl']
  have hne : w.heap.size ≠ lc := by omega
  obtain ⟨wv, hwv⟩ : ∃ wv, wv = w'.setCell ⟨lc, 0, none⟩ (.slice A' (U.length + 1) c') := ⟨_, rfl⟩
  have ks : Keep (fun k => k = lc) w' wv := by rw [hwv]; exact (Keep.refl _ w').setAt _ _
  have bv := ks.old bx (fun h => by omega)
  have cv : wv.cell? ⟨w.heap.size, 3, none⟩ = some (.int .i64 xt) := by simp [World.cell?, bv]
  have fv : wv.frozen? ⟨w.heap.size, 3, none⟩ = false := by simp [World.frozen?, bv]
  clear hwz
  go_upto_region 2 with fail
  rw [← hwv]
  have HL : Hid (wv.heap[lc]? = some (.cells #[.slice A' (U.length + 1) c'] 49 (0, 0))) := Lib.hid (by rw [hwv]; have := heap_setCell_at hl' 0 (.slice A' (U.length + 1) c'); simpa using this)
  have HO2 : Hid (wv.ownsRow base 52 3 (.slice A' (U ++ [(⟨xn, xi, xs, xt⟩ : It)]).length c') (U ++ [(⟨xn, xi, xs, xt⟩ : It)]).length (upCells (U ++ [(⟨xn, xi, xs, xt⟩ : It)]))) := Lib.hid (by
    rw [List.length_append, upCells_append]
    exact own_keepB hown ks (fun g hg => by have := (own_block hown hg).1; omega))
  have KV := Lib.hid (kw.step (ks.mono (T := fun k => k = lc ∨ base ≤ k) (fun k hk _ => .inl hk)))
  clear hwv hown hg kg kz bz bx hl' kw cl' fl' ks cl cla hl0 b1 HO
  obtain ⟨we, hwe⟩ : ∃ we, we = wv.setCell ⟨w.heap.size, 3, none⟩ (.int .i64 (xt + 1)) := ⟨_, rfl⟩
  have ke : Keep (fun k => k = w.heap.size) wv we := by rw [hwe]; exact (Keep.refl _ wv).setAt _ _
  have be : we.heap[w.heap.size]? = some (.cells #[.int .i64 xn, .int .u64 xi, .int .i64 xs, .int .i64 (xt + 1)] 164 (0, 0)) := by rw [hwe]; have := heap_setCell_at bv 3 (.int .i64 (xt + 1)); simpa using this
  go_upto_region 3 with fail
  rw [← hwe]
  have kwe : Keep (fun k => k = lc ∨ base ≤ k) w we := KV.out.step (ke.mono (fun k hk _ => .inr (by omega)))
  have hq' : IsQ we q (some B) M := T.out.que.keep kwe (by
    rintro j (rfl | hj) (h | h)
    · exact T.out.n1 h.symm
    · have := T.out.bq; omega
    · injection hj with hj
      exact T.out.n2 (h.symm.trans hj.symm)
    · injection hj with hj
      have := T.out.bB; omega)
  have hnd := kwe.old T.out.cn (by
    rintro (h | h)
    · exact T.out.n3 h.symm
    · have := T.out.bnd; omega)
  have hqc := kwe.old T.out.cq (by
    rintro (h | h)
    · exact T.out.n4 h.symm
    · have := T.out.bqc; omega)
  have hlc := ke.old HL.out (by omega)
  have ho3 := own_keepB HO2.out ke (fun g hg => by
    obtain ⟨_, _, cc, hcc⟩ := own_block HO2.out hg
    rintro rfl
    rw [bv] at hcc
    cases hcc)
  have KW := Lib.hid kwe
  have HQ := Lib.hid hq'
  have HND := Lib.hid hnd
  have HQC := Lib.hid hqc
  have HLC := Lib.hid hlc
  have HO3 := Lib.hid ho3
  have BE := Lib.hid be
  have x3 : we.drew.cell? ⟨w.heap.size, 3, none⟩ = some (.int .i64 (xt + 1)) := by
    show we.cell? _ = _
    simp [World.cell?, be]
  have cn : we.drew.cell? ⟨nd, 0, none⟩ = some (.int .i64 nodes) := by
    show we.cell? _ = _
    simp [World.cell?, hnd]
  obtain ⟨cap, hcap⟩ : ∃ cap, cap = capI nodes := ⟨_, rfl⟩
  rw [← hcap] at CAP CB
  have HCAP := Lib.hid hcap
  clear hwe ke be kwe hq' hnd hqc hlc ho3 bv cv fv hcap KV HL HO2
  refine still_lit (by kernel_rfl) (by kernel_rfl) ?_
  repeat still_step
  still_call (to_still (CAP.out we.drew))
  repeat still_step
  try refine wpStill_nil ?_
  obtain ⟨wf, hwf⟩ : ∃ wf, wf = we.drew := ⟨_, rfl⟩
  rw [← hwf]
  have kf : Keep (fun _ => False) we wf := by rw [hwf]; exact (Keep.refl _ we).drew
  have KW2 := Lib.hid (KW.out.trans kf (fun _ h _ => absurd h id))
  have HQ2 := Lib.hid (HQ.out.keep0 kf)
  have HND2 := Lib.hid (kf.old HND.out id)
  have HQC2 := Lib.hid (kf.old HQC.out id)
  have HLC2 := Lib.hid (kf.old HLC.out id)
  have HO4 := Lib.hid (own_keepB HO3.out kf (fun _ _ h => h))
  have BE2 := Lib.hid (kf.old BE.out id)
  clear hwf kf x3 cn KW HQ HND HQC HLC HO3 BE
  by_cases ht : xt + 1 < cap
  · have t1 : decide (xt + 1 < cap) = true := decide_eq_true ht
    have hce : tellL cap M ⟨xn, xi, xs, xt⟩ = putL M ⟨xn, xi, xs, xt + 1⟩ := by simp [tellL, ht]
    have d0 : wf.drew.cell? ⟨qc, 0, none⟩ = some (.pointer (some ⟨q.b, q.o, none⟩)) := by
      have := HQC2.out
      show wf.cell? _ = _
      simp [World.cell?, this]
    have d1 : wf.drew.cell? ⟨q.b, q.o, none⟩ = some (.map (some B)) := HQ2.out.c0
    have f0 : wf.drew.cell? ⟨w.heap.size, 0, none⟩ = some (.int .i64 xn) := by
      have := BE2.out
      show wf.cell? _ = _
      simp [World.cell?, this]
    have f1 : wf.drew.cell? ⟨w.heap.size, 1, none⟩ = some (.int .u64 xi) := by
      have := BE2.out
      show wf.cell? _ = _
      simp [World.cell?, this]
    have f2 : wf.drew.cell? ⟨w.heap.size, 2, none⟩ = some (.int .i64 xs) := by
      have := BE2.out
      show wf.cell? _ = _
      simp [World.cell?, this]
    have f3 : wf.drew.cell? ⟨w.heap.size, 3, none⟩ = some (.int .i64 (xt + 1)) := by
      have := BE2.out
      show wf.cell? _ = _
      simp [World.cell?, this]
    obtain ⟨o, hup, hiq⟩ := (HQ2.out.keep0 (Keep.refl _ wf).drew).put ⟨xn, xi, xs, xt + 1⟩
    have hup2 : (Instr.mapUpdate 39 (.map (some B)) (.int .i64 xn) (.agg #[.int .i64 xn, .int .u64 xi, .int .i64 xs, .int .i64 (xt + 1)])).run Tryz.prog wf.drew = .ok () (setBlock wf.drew B o) := hup
    clear hup
    have kb : Keep (fun k => k = B) wf (setBlock wf.drew B o) := keep_setBlock (Keep.refl _ wf).drew B o (fun _ => rfl)
    have R : Hid (TellIs (setBlock wf.drew B o) q B qc nd lc base nodes (tellL cap M ⟨xn, xi, xs, xt⟩) (U ++ [(⟨xn, xi, xs, xt⟩ : It)])) := Lib.hid (by
      rw [hce]
      refine ⟨hiq, ⟨A', c', ?_, ?_⟩, kb.old HND2.out T.out.n5.symm, kb.old HQC2.out T.out.n6.symm, T.out.bq, T.out.bB, T.out.bqc, T.out.bnd, T.out.blc, T.out.n1, T.out.n2, T.out.n3, T.out.n4, T.out.n5, T.out.n6⟩
      · rw [List.length_append]; exact kb.old HLC2.out T.out.n2
      · exact own_keepB HO4.out kb (fun g hg => by
          have h1 := (own_block HO4.out hg).1
          have h2 := T.out.bB
          omega))
    have RK : Hid (Keep (TS B lc base) w (setBlock wf.drew B o)) := Lib.hid ((KW2.out.mono (T := TS B lc base) (fun k h _ => h.elim (fun h => .inr (.inl h)) (fun h => .inr (.inr h)))).step (kb.mono (fun k h _ => .inl h)))
    clear hiq kb hce HQ2 HND2 HQC2 HLC2 HO4 BE2 KW2
    go_upto_region 4 with fail
    refine sb_tail 8 (by kernel_rfl) (by kernel_rfl) ?_
    simp only [List.take_succ_cons, List.take_zero, List.drop_succ_cons, List.drop_zero]
    repeat (refine sb_step (fun K hK => ?_); go_simp; refine hK _ ?_; clear hK K)
    try refine sb_nil ?_
    go_wp2
    go_end0
    exact ⟨rfl, HCAP.out ▸ R.out, RK.out⟩
  · have t1 : decide (xt + 1 < cap) = false := decide_eq_false ht
    have hce : tellL cap M ⟨xn, xi, xs, xt⟩ = M.filter (fun z => z.n ≠ xn) := by simp [tellL, ht]
    have d0 : wf.drew.cell? ⟨qc, 0, none⟩ = some (.pointer (some ⟨q.b, q.o, none⟩)) := by
      have := HQC2.out
      show wf.cell? _ = _
      simp [World.cell?, this]
    have d1 : wf.drew.cell? ⟨q.b, q.o, none⟩ = some (.map (some B)) := HQ2.out.c0
    have f0 : wf.drew.cell? ⟨w.heap.size, 0, none⟩ = some (.int .i64 xn) := by
      have := BE2.out
      show wf.cell? _ = _
      simp [World.cell?, this]
    have f1 : wf.drew.cell? ⟨w.heap.size, 1, none⟩ = some (.int .u64 xi) := by
      have := BE2.out
      show wf.cell? _ = _
      simp [World.cell?, this]
    have f2 : wf.drew.cell? ⟨w.heap.size, 2, none⟩ = some (.int .i64 xs) := by
      have := BE2.out
      show wf.cell? _ = _
      simp [World.cell?, this]
    have f3 : wf.drew.cell? ⟨w.heap.size, 3, none⟩ = some (.int .i64 (xt + 1)) := by
      have := BE2.out
      show wf.cell? _ = _
      simp [World.cell?, this]
    obtain ⟨o, hdel, hiq⟩ := (HQ2.out.keep0 (Keep.refl _ wf).drew).del xn 3 0
    have kb : Keep (fun k => k = B) wf (setBlock wf.drew B o) := keep_setBlock (Keep.refl _ wf).drew B o (fun _ => rfl)
    have R : Hid (TellIs (setBlock wf.drew B o) q B qc nd lc base nodes (tellL cap M ⟨xn, xi, xs, xt⟩) (U ++ [(⟨xn, xi, xs, xt⟩ : It)])) := Lib.hid (by
      rw [hce]
      refine ⟨hiq, ⟨A', c', ?_, ?_⟩, kb.old HND2.out T.out.n5.symm, kb.old HQC2.out T.out.n6.symm, T.out.bq, T.out.bB, T.out.bqc, T.out.bnd, T.out.blc, T.out.n1, T.out.n2, T.out.n3, T.out.n4, T.out.n5, T.out.n6⟩
      · rw [List.length_append]; exact kb.old HLC2.out T.out.n2
      · exact own_keepB HO4.out kb (fun g hg => by
          have h1 := (own_block HO4.out hg).1
          have h2 := T.out.bB
          omega))
    have RK : Hid (Keep (TS B lc base) w (setBlock wf.drew B o)) := Lib.hid ((KW2.out.mono (T := TS B lc base) (fun k h _ => h.elim (fun h => .inr (.inl h)) (fun h => .inr (.inr h)))).step (kb.mono (fun k h _ => .inl h)))
    clear hiq kb hce HQ2 HND2 HQC2 HLC2 HO4 BE2 KW2
    go_upto_region 5 with fail
    refine sb_tail 7 (by kernel_rfl) (by kernel_rfl) ?_
    simp only [List.take_succ_cons, List.take_zero, List.drop_succ_cons, List.drop_zero]
    repeat (refine sb_step (fun K hK => ?_); go_simp; refine hK _ ?_; clear hK K)
    try refine sb_nil ?_
    go_wp2
    go_end0
    exact ⟨rfl, HCAP.out ▸ R.out, RK.out⟩

end Go.Proofs.YtofonfohaocclaaGreatDoor.Q

namespace Go.Proofs.YtofonfohaocclaaGreatDoor.Q
open Go.RowKit Sh
open Go.ChangeMaps (setBlock)
set_option linter.unusedVariables false

/-- as TellIs, of a map that may be nil. -/
structure TakeIs (w : World) (q : Loc) (mb : Option Nat) (qc nd lc base : Nat) (nodes : Int) (M U : List It) : Prop where
  que : IsQ w q mb M
  lst : ∃ A c, w.heap[lc]? = some (.cells #[.slice A U.length c] 49 (0, 0)) ∧ w.ownsRow base 52 3 (.slice A U.length c) U.length (upCells U)
  cn : w.heap[nd]? = some (.cells #[.int .i64 nodes] 3 (0, 0))
  cq : w.heap[qc]? = some (.cells #[.pointer (some ⟨q.b, q.o, none⟩)] 162 (0, 0))
  bq : q.b < base
  bB : ∀ B, mb = some B → B < base ∧ lc ≠ B ∧ B ≠ nd ∧ B ≠ qc
  bqc : qc < base
  bnd : nd < base
  blc : lc < base
  n1 : lc ≠ q.b
  n3 : lc ≠ nd
  n4 : lc ≠ qc
  n7 : q.b ≠ nd
  n8 : q.b ≠ qc
theorem TakeIs.tell {w : World} {q : Loc} {B qc nd lc base : Nat} {nodes : Int} {M U : List It} (h : TakeIs w q (some B) qc nd lc base nodes M U) : TellIs w q B qc nd lc base nodes M U := by
  obtain ⟨h1, h2, h3, h4⟩ := h.bB B rfl
  exact ⟨h.que, h.lst, h.cn, h.cq, h.bq, h1, h.bqc, h.bnd, h.blc, h.n1, h2, h.n3, h.n4, h3, h4⟩
theorem TellIs.take {w : World} {q : Loc} {B qc nd lc base : Nat} {nodes : Int} {M U : List It} (h : TellIs w q B qc nd lc base nodes M U) (n7 : q.b ≠ nd) (n8 : q.b ≠ qc) : TakeIs w q (some B) qc nd lc base nodes M U :=
  ⟨h.que, h.lst, h.cn, h.cq, h.bq, fun B' hB => by
    injection hB with hB
    subst hB
    exact ⟨h.bB, h.n2, h.n5, h.n6⟩, h.bqc, h.bnd, h.blc, h.n1, h.n3, h.n4, n7, n8⟩
theorem TakeIs.keep {S : Nat → Prop} {w w' : World} {q : Loc} {mb : Option Nat} {qc nd lc base : Nat} {nodes : Int} {M U : List It} (h : TakeIs w q mb qc nd lc base nodes M U) (k : Keep (fun _ => False) w w') : TakeIs w' q mb qc nd lc base nodes M U := by
  obtain ⟨A, c, h1, h2⟩ := h.lst
  exact ⟨h.que.keep0 k, ⟨A, c, k.old h1 id, own_keepB h2 k (fun _ _ h => h)⟩, k.old h.cn id, k.old h.cq id, h.bq, h.bB, h.bqc, h.bnd, h.blc, h.n1, h.n3, h.n4, h.n7, h.n8⟩

/-- a slice of updates. -/
def UpAt (w : World) (v : Value) (U : List It) : Prop := ∃ A c, v = .slice A U.length c ∧ (0 < U.length → ∃ g, A = some ⟨g, 0, none⟩ ∧ ∀ i, i < U.length → w.cell? ⟨g, i * 3, none⟩ = some (.int .i64 (it U i).n) ∧ w.cell? ⟨g, i * 3 + 1, none⟩ = some (.int .u64 (it U i).i) ∧ w.cell? ⟨g, i * 3 + 2, none⟩ = some (.int .i64 (it U i).s))
theorem up_of {w : World} {base : Nat} {A : Option Addr} {c : Nat} {U : List It} (h : w.ownsRow base 52 3 (.slice A U.length c) U.length (upCells U)) : UpAt w (.slice A U.length c) U := by
  refine ⟨A, c, rfl, fun hU => ?_⟩
  rcases h.2 with ⟨e0, h0⟩ | ⟨g, cap', cur, e0, r⟩
  · omega
  · injection e0 with e1 e2 e3
    subst e1; subst e3
    have h' : w.ownsRow base 52 3 (.slice (some ⟨g, 0, none⟩) U.length c) U.length (upCells U) := h
    refine ⟨g, rfl, fun i hi => ?_⟩
    have a0 := (own_cell h' (i * 3 + 0) (by omega)).1.trans (upCells_get U i 0 hi (by omega))
    have a1 := (own_cell h' (i * 3 + 1) (by omega)).1.trans (upCells_get U i 1 hi (by omega))
    have a2 := (own_cell h' (i * 3 + 2) (by omega)).1.trans (upCells_get U i 2 hi (by omega))
    exact ⟨a0, a1, a2⟩

structure TakeDone (w w' : World) (q : Loc) (mb : Option Nat) (v : Value) (n nodes : Int) (M L : List It) (k : Nat) : Prop where
  perm : L.Perm M
  srt : Srt L
  hk : (k : Int) = max 0 (min n L.length)
  own : ∃ base, w.heap.size ≤ base ∧ w'.ownsRow base 52 3 v (L.take k).length (upCells (L.take k))
  que : IsQ w' q mb ((L.take k).foldl (tellL (capI nodes)) M)
  keep : Keep (QS q mb) w w'

set_option maxRecDepth 100000 in
set_option maxHeartbeats 2000000 in
theorem take_any {w : World} {q : Loc} {mb : Option Nat} {M : List It} (h : IsQ w q mb M) (hM : M.length ≤ 1000) (ht : ∀ x ∈ M, 0 ≤ x.t ∧ x.t ≤ 1000) (n nodes : Int) (n0 : -9223372036854775808 ≤ nodes) (n1 : nodes < 9223372036854775808) :
    Calls Tryz.prog 82 #[.pointer (some ⟨q.b, q.o, none⟩), .int .i64 n, .int .i64 nodes] w fun e w' => ∃ v L k, e = .returned v ∧ TakeDone w w' q mb v n nodes M L k := by
  have H := Lib.hid h
  have HT := Lib.hid ht
  clear h ht
  go_enter Tryz.func82, Tryz.ntmps82
  go_wp2_with fail
  have k3 : Keep (fun _ => False) w (((w.alloc (.cells #[.pointer (some ⟨q.b, q.o, none⟩)] 162)).alloc (.cells #[.int .i64 nodes] 3)).alloc (.cells #[.slice none 0 0] 49)) := (((Keep.refl _ w).alloc _).alloc _).alloc _
  refine (items_any (H.out.keep0 k3) hM).mono ?_
  rintro e w2 ⟨v, L, rfl, hI⟩
  obtain ⟨hIp, hIs, ⟨g, c, rfl, hg, hc, hrow⟩, hk2⟩ := hI
  have hB0 := H.out.lt
  have hw2 : w.heap.size + 3 ≤ w2.heap.size := by have := hk2.size; simp at this; omega
  have TI : Hid (TakeIs w2 q mb w.heap.size (w.heap.size + 1) (w.heap.size + 1 + 1) w2.heap.size nodes M []) := Lib.hid (by
    refine ⟨(H.out.keep0 k3).keep0 hk2, ⟨none, 0, hk2.old ?_ id, World.ownsRow_nil _ _ _ _⟩, hk2.old ?_ id, hk2.old ?_ id, by omega, fun B hB => ?_, by omega, by omega, by omega, by omega, by omega, by omega, by omega, by omega⟩
    · have := heap_alloc_new ((w.alloc (.cells #[.pointer (some ⟨q.b, q.o, none⟩)] 162)).alloc (.cells #[.int .i64 nodes] 3)) (.cells #[.slice none 0 0] 49)
      simpa using this
    · have := ((Keep.refl (fun _ => False) _).alloc (.cells #[.slice none 0 0] 49)).old (heap_alloc_new (w.alloc (.cells #[.pointer (some ⟨q.b, q.o, none⟩)] 162)) (.cells #[.int .i64 nodes] 3)) id
      simpa using this
    · exact (((Keep.refl (fun _ => False) _).alloc _).alloc _).old (heap_alloc_new w _) id
    · subst hB
      have := H.out.blt
      omega)
  have K2 := Lib.hid (k3.step hk2)
  have IP := Lib.hid hIp
  have IS := Lib.hid hIs
  have ROW := Lib.hid hrow
  have hg2 : w.heap.size + 3 ≤ g := by simp at hg; omega
  have hLl : L.length ≤ 1000 := by rw [hIp.length_eq]; exact hM
  obtain ⟨k, hk⟩ : ∃ k : Nat, (k : Int) = max 0 (min n (L.length : Int)) := ⟨(max 0 (min n (L.length : Int))).toNat, by omega⟩
  have HKK := Lib.hid hk
  have hkL : k ≤ L.length := by omega
  have e1 : max 0 (min n (L.length : Int)) = (k : Int) := hk.symm
  have e2 : (k : Int) ≤ (c : Int) := by omega
  have e3 : k ≤ c := by omega
  have e4 : (0 : Int) ≤ (k : Int) := by omega
  clear k3 hIp hIs hrow hk2 hk hg
  go_wp2_with fail
  go_loopg [10, 22] k (fun m v10 v22 wr => ∃ i : Nat, i + m = k ∧ v22 = .int .i64 i ∧ TakeIs wr q mb w.heap.size (w.heap.size + 1) (w.heap.size + 1 + 1) w2.heap.size nodes ((L.take i).foldl (tellL (capI nodes)) M) (L.take i) ∧ RowAt wr g L ∧ Keep (QS q mb) w wr ∧ w2.heap.size ≤ wr.heap.size)
  case atStart => exact ⟨0, by omega, rfl, TI.out, ROW.out, K2.out.mono (fun _ h _ => absurd h id), Nat.le_refl _⟩
  case round =>
    obtain ⟨i, hm, rfl, hti, hrow, hkw, hsz⟩ := hrel
    have T := Lib.hid hti
    have HR := Lib.hid hrow
    have KW := Lib.hid hkw
    have HM := Lib.hid hm
    clear hti hrow hkw hm
    by_cases hlt : i < k
    · have hiL : i < L.length := by omega
      have hg3 : g < w2.heap.size := World.block_lt_of_cell? w2 _ (ROW.out i hiL).1
      obtain ⟨c0, c1, c2, c3⟩ := HR.out i hiL
      have hxt := HT.out (it L i) (IP.out.mem_iff.1 (it_mem hiL))
      have hstep : L.take (i + 1) = L.take i ++ [it L i] := by rw [it_of hiL, List.take_succ_eq_append_getElem hiL]
      have HST := Lib.hid hstep
      obtain ⟨x, hx⟩ : ∃ x, x = it L i := ⟨_, rfl⟩
      rw [← hx] at c0 c1 c2 c3 hxt hstep
      have HX := Lib.hid hx
      have HST2 := Lib.hid hstep
      obtain ⟨xn, xi, xs, xt⟩ := x
      simp only at c0 c1 c2 c3 hxt
      have t1 : decide ((i : Int) < (k : Int)) = true := by simp; omega
      have e5 : i < L.length := hiL
      clear hx hstep hiL HST
      obtain ⟨B, rfl⟩ : ∃ B, mb = some B := by
        cases hmb : mb with
        | some B => exact ⟨B, rfl⟩
        | none =>
          subst hmb
          have := H.out.non rfl
          have h0 := IP.out.length_eq
          rw [this] at h0
          simp at h0
          subst h0
          simp at e5
      have hB1 := H.out.blt
      go_wp2_with fail
      have ka := (Keep.refl (fun _ => False) wr).alloc (.cells #[.int .i64 xn, .int .u64 xi, .int .i64 xs, .int .i64 xt] 164)
      refine (tell_any (T.out.keep (S := fun _ => False) ka).tell ⟨xn, xi, xs, xt⟩ hxt (by simp; omega) (by simp; omega) n0 n1).mono ?_
      rintro e w4 ⟨rfl, hT4, hk4⟩
      have ht4 := hT4.take T.out.n7 T.out.n8
      rw [← HST2.out] at ht4
      have hfold : tellL (capI nodes) ((L.take i).foldl (tellL (capI nodes)) M) ⟨xn, xi, xs, xt⟩ = (L.take (i + 1)).foldl (tellL (capI nodes)) M := by
        rw [HST2.out, List.foldl_append]; rfl
      rw [hfold] at ht4
      have T4 := Lib.hid ht4
      have HR4 := Lib.hid ((HR.out.keep ka id).keep hk4 (by
        rintro (h | h | h)
        · omega
        · omega
        · omega))
      have KW4 := Lib.hid ((KW.out.step (ka.mono (T := QS q (some B)) (fun _ h _ => absurd h id))).trans hk4 (by
        rintro j (h | h | h) hj
        · exact .inr (by rw [h])
        · omega
        · omega))
      have hs4 : w2.heap.size ≤ w4.heap.size := Nat.le_trans hsz (Nat.le_trans ka.size hk4.size)
      clear hT4 hk4 ht4 hfold ka
      go_wp2
      go_roundg (k - (i + 1))
      case measure => have := HM.out; omega
      case rel => exact ⟨i + 1, by omega, by go_num, T4.out, HR4.out, KW4.out, hs4⟩
    · obtain rfl : k = i := by have := HM.out; omega
      have t1 : decide ((k : Int) < (k : Int)) = false := by simp
      obtain ⟨A, cc, hl, hown⟩ := T.out.lst
      have cl : wr.cell? ⟨w.heap.size + 1 + 1, 0, none⟩ = some (.slice A (L.take k).length cc) := by simp [World.cell?, hl]
      have fl : wr.frozen? ⟨w.heap.size + 1 + 1, 0, none⟩ = false := by simp [World.frozen?, hl]
      have hlen : (L.take k).length = k := by simp; omega
      obtain ⟨v, hv⟩ : ∃ v, v = Value.slice A k cc := ⟨_, rfl⟩
      have ks : Keep (fun j => j = w.heap.size + 1 + 1) wr (wr.setCell ⟨w.heap.size + 1 + 1, 0, none⟩ (.slice A k cc)) := (Keep.refl _ wr).setAt _ _
      have hl2 := heap_setCell_at hl 0 (.slice A k cc)
      have cl2 : (wr.setCell ⟨w.heap.size + 1 + 1, 0, none⟩ (.slice A k cc)).cell? ⟨w.heap.size + 1 + 1, 0, none⟩ = some (.slice A k cc) := by
        simp only [World.cell?, hl2]
        simp
      have D : Hid (TakeDone w (wr.setCell ⟨w.heap.size + 1 + 1, 0, none⟩ (.slice A k cc)) q mb (.slice A k cc) n nodes M L k) := Lib.hid (by
        refine ⟨IP.out, IS.out, HKK.out, ?_, ?_, KW.out.trans ks (fun j hj h => by omega)⟩
        · have ho := own_keepB hown ks (fun g' hg' => by
            have := (own_block hown hg').1
            omega)
          rw [hlen] at ho
          exact ⟨w2.heap.size, by omega, by rw [hlen]; exact ho⟩
        · refine T.out.que.keep ks ?_
          rintro j (h | h) hj
          · have := T.out.n1; omega
          · exact (T.out.bB j h).2.1 hj.symm)
      clear hl2 ks
      go_wp2_with fail
      exact bodyPost_ret (v := .slice A k cc) (by simp [results, Tryz.results82, go_sem, cl2]) rfl ⟨_, L, k, rfl, D.out⟩

end Go.Proofs.YtofonfohaocclaaGreatDoor.Q
