/- band.List: the bits of a word, as a slice. -/
import Derived.Test.YtmficjbgpcbhoaaDoorItB
import Derived.Test.YtmficjbgpcbhoaaDoorBand
namespace Go.Proofs.YtmficjbgpcbhoaaDoor
open Go.RowKit Go.Shelf Sh
set_option linter.unusedVariables false
attribute [local go_sem] Oper.semAt_some

theorem nodes_in (n : Nat) (x : Int) (w : World) :
    CallsIn Fence.wide n Tryd.prog 15 #[.int .u64 x] w fun e w' => e = .returned (.func (.func 20) #[] #[.pointer (some ⟨w.heap.size, 0, none⟩)]) ∧ w' = w.alloc (.cells #[.int .u64 x] 22) := by
  refine callsIn_of_wp Tryd.func15 rfl trivial ?_ rfl
  simp only [Tryd.ntmps15, List.size_toArray, List.length_cons, List.length_nil, Nat.reduceAdd, Nat.reduceSub, Array.replicate_succ, Array.replicate_zero, List.push_toArray, List.append_toArray, List.nil_append, List.cons_append]
  gi_wp2
  go_ret
  exact ⟨rfl, rfl⟩
def nC (l : List N63) : List Value := l.map fun c => Value.int .i64 (c.1 : Int)
theorem own_slice {W : World} {base : Nat} {e : TypeId} {size : Nat} {v : Value} {k : Nat} {xs : List Value} (h : W.ownsRow base e size v k xs) : ∃ A c, v = .slice A k c := by
  rcases h.2 with ⟨rfl, rfl⟩ | ⟨g, cap, cur, rfl, _⟩
  · exact ⟨_, _, rfl⟩
  · exact ⟨_, _, rfl⟩
theorem nC_snoc (l : List N63) (x : N63) : nC (l ++ [x]) = nC l ++ [Value.int .i64 (x.1 : Int)] := by simp [nC]

theorem own_base {W : World} {n m : Nat} {e : TypeId} {size : Nat} {v : Value} {k : Nat} {xs : List Value} (h : W.ownsRow n e size v k xs) (hm : m ≤ n) : W.ownsRow m e size v k xs := by
  obtain ⟨h1, h2⟩ := h
  refine ⟨h1, ?_⟩
  rcases h2 with h2 | ⟨g, cap, cur, hv, hg, r⟩
  · exact .inl h2
  · exact .inr ⟨g, cap, cur, hv, by omega, r⟩
theorem own_far {W : World} {n b : Nat} {e : TypeId} {size : Nat} {v : Value} {k : Nat} {xs : List Value} (h : W.ownsRow n e size v k xs) (hb : b < n) : some b ≠ v.ownBlock := by
  rcases h.2 with ⟨rfl, _⟩ | ⟨g, cap, cur, rfl, hg, _⟩
  · simp [Value.ownBlock]
  · simp [Value.ownBlock]; omega
/-- What holds between the rounds. -/
def LI (w : World) (pre : List N63) (W : World) : Prop := (∃ v, Boxed W w.heap.size 29 v ∧ W.ownsRow (w.heap.size + 2) 3 1 v pre.length (nC pre) ∧ True) ∧ Below w.heap.size w W ∧ w.heap.size + 2 ≤ W.heap.size
theorem LI.own (w : World) (B : Nat) (hB : w.heap.size ≤ B) : OwnFrom B (LI w) :=
  OwnFrom.and (Own.from (holdsRow_own (w.heap.size + 2) w.heap.size 29 3 1 (fun pre : List N63 => pre.length) (fun pre => nC pre) (fun _ _ => True)) _) (OwnFrom.and (ownFrom_below (Nat.le_refl _) hB) (fun s A B row hs hg hr => Nat.le_trans hs hg.size))
theorem LI.turns (w : World) : TurnsAt (w.heap.size + 1) (LI w) := by
  rintro pre A B ⟨⟨v, hv, ho, _⟩, hb, hz⟩ hg
  refine ⟨⟨v, hv.kept hg (by simp), ho.kept hg ?_, trivial⟩, hb.grown hg hb.size (fun k e => by cases e; omega), Nat.le_trans hz hg.size⟩
  rcases ho.2 with ⟨rfl, _⟩ | ⟨g, cap, cur, rfl, hg2, _⟩
  · exact .inl rfl
  · refine .inr fun e => ?_
    simp [Value.ownBlock] at e
    omega

theorem list_fin {w W : World} {D : Nat} {v : Value} {pre : List N63} (hv : Boxed W w.heap.size 29 v) (hrow : W.ownsRow (w.heap.size + 2) 3 1 v pre.length (nC pre)) (hB : Below w.heap.size w W) (hK : W.heap[D]? = some (.deferred (some []))) (hD : w.heap.size ≤ D) :
    ((W.setCell ⟨w.heap.size, 0, none⟩ v).putObj D (.deferred none)).cell? ⟨w.heap.size, 0, none⟩ = some v ∧ ((W.setCell ⟨w.heap.size, 0, none⟩ v).putObj D (.deferred none)).ownsRow (w.heap.size + 2) 3 1 v pre.length (nC pre) ∧ Keep (fun _ => False) w ((W.setCell ⟨w.heap.size, 0, none⟩ v).putObj D (.deferred none)) := by
  have hK1 : (W.setCell ⟨w.heap.size, 0, none⟩ v).heap[D]? = some (.deferred (some [])) := (KeepsOthers.setCell _ _ _).same D _ hK rfl
  have hv1 : Boxed (W.setCell ⟨w.heap.size, 0, none⟩ v) w.heap.size 29 v := hv.set v
  have hrow1 : (W.setCell ⟨w.heap.size, 0, none⟩ v).ownsRow (w.heap.size + 2) 3 1 v pre.length (nC pre) := hrow.kept (grownBy_setCell' W w.heap.size v) (.inr (hv.not_row (by decide) hrow).symm)
  have hB1 : Below w.heap.size w (W.setCell ⟨w.heap.size, 0, none⟩ v) := hB.setCell (p := ⟨w.heap.size, 0, none⟩) (Nat.le_refl _) _
  refine ⟨(cell_kept hv1.cell (grownBy_putObj' _ D (.deferred none)) (fun r e => by cases e; exact ⟨_, hK1, rfl⟩)), ownsRow_putObj hrow1 _ hK1 rfl, keep_of_below ?_⟩
  exact hB1.grown (grownBy_putObj' _ D (.deferred none)) hB1.size (fun k e => by cases e; exact hD)

set_option maxRecDepth 100000 in
set_option maxHeartbeats 2000000 in
theorem list_any (x : Nat) (hx : x < 2 ^ 64) (w : World) (hT : TabAt 0 tabS w) (h0 : 0 < w.heap.size) :
    Calls Tryd.prog 11 #[.int .u64 (x : Int)] w fun e w' => ∃ v, e = .returned v ∧ w'.ownsRow (w.heap.size + 2) 3 1 v (gs x 64).length (nC (gs x 64)) ∧ Keep (fun _ => False) w w' := by
  obtain ⟨i0, hi, hz0, hz1, hz2⟩ := info_parts info3
  have Hi := Lib.hid hi
  have Hz0 := Lib.hid hz0
  have Hz1 := Lib.hid hz1
  have Hz2 := Lib.hid hz2
  have HT := Lib.hid hT
  clear hi hz0 hz1 hz2 hT
  refine (callsIn_wide (n := 9)).1 ?_
  refine callsIn_of_wp_marks Tryd.func11 rfl trivial ?_ rfl
  simp only [Tryd.ntmps11, List.size_toArray, List.length_cons, List.length_nil, Nat.reduceAdd, Nat.reduceSub, Array.replicate_succ, Array.replicate_zero, List.push_toArray, List.append_toArray, List.nil_append, List.cons_append]
  gi_wp2_with fail
  refine ⟨trivial, ?_⟩
  refine (nodes_in 8 _ _).mono ?_
  rintro e w' ⟨rfl, rfl⟩
  have bL0 := Boxed.new w 29 (.slice none 0 0)
  have bL := bL0.alloc (.cells #[.int .u64 (x : Int)] 22)
  have bB : ((w.alloc (.cells #[.slice none 0 0] 29)).alloc (.cells #[.int .u64 (x : Int)] 22)).heap[w.heap.size + 1]? = some (.cells #[.int .u64 (x : Int)] 22 (0, 0)) := by
    have := heap_alloc_new (w.alloc (.cells #[.slice none 0 0] 29)) (.cells #[.int .u64 (x : Int)] 22)
    simpa using this
  have hB0 : Below w.heap.size w ((w.alloc (.cells #[.slice none 0 0] 29)).alloc (.cells #[.int .u64 (x : Int)] 22)) := ((Below.refl _ w).alloc (Nat.le_refl _) _).alloc (by simp) _
  have hsz : ((w.alloc (.cells #[.slice none 0 0] 29)).alloc (.cells #[.int .u64 (x : Int)] 22)).heap.size = w.heap.size + 2 := by simp
  simp only [World.size_alloc] at bL ⊢
  obtain ⟨W0, hW0⟩ : ∃ W0, ((w.alloc (.cells #[.slice none 0 0] 29)).alloc (.cells #[.int .u64 (x : Int)] 22)) = W0 := ⟨_, rfl⟩
  rw [hW0] at bL bB hB0 hsz ⊢
  clear hW0 bL0
  have hS := nodes_stops 8 (by omega) hx HT.out h0 hB0 (Bb := w.heap.size + 1) (by omega) bB
  gi_wp2_with fail
  refine rangeFunc_box rfl (by omega) (gf := 20) (lb := #[.pointer (some ⟨w.heap.size + 1, 0, none⟩)]) rfl trivial (enters_of Tryd.func20 (by kernel_rfl) rfl) (Bb := w.heap.size + 1) (by omega)
    hS (fun h k => h.t k) (KpW.b (by omega) (by omega)) (Below.refl _ _) (fun _ => rfl) (LI w) (fun _ _ _ => False) (LI.own w _ (by omega)) (fun c => fun _ _ _ _ h => h.elim) (LI.turns w) (fun c => fun _ _ _ h => h.elim)
    ⟨⟨_, bL, World.ownsRow_nil _ _ _ _, trivial⟩, hB0, by omega⟩
    (fun c => { tmps := #[.int .u64 (x : Int), undef, .pointer (some ⟨w.heap.size, 0, none⟩), .int .i64 (c.1 : Int), .int .u64 (x : Int), .func (.func 20) #[] #[.pointer (some ⟨w.heap.size + 1, 0, none⟩)], .int .i64 (c.1 : Int), undef, undef, undef, undef, undef], defers := [] }) ?assign ?body ?done ?stop
  case assign =>
    intro l c W K hK
    gi_wp2
    exact hK
  case body =>
    rintro l0 pre c W ⟨⟨v, hv, hrow, _⟩, hB, hsz3⟩ hlt
    obtain ⟨Av, cv, rfl⟩ := own_slice hrow
    have hc := hv.cell
    have hf := hv.frozen
    have HR := Lib.hid hrow
    have HV := Lib.hid hv
    have HB := Lib.hid hB
    have hsz2 := hB.size
    have hl2 := gs_len x 64
    have hlt2 : pre.length < 64 := hlt
    have nb := World.alloc_heap_new W (Obj.cells #[Value.int IntKind.i64 (c.1 : Int)] 3)
    have NB := Lib.hid nb
    have V2 := Lib.hid (HV.out.alloc (Obj.cells #[Value.int IntKind.i64 (c.1 : Int)] 3))
    have R2 := Lib.hid (HR.out.alloc (Obj.cells #[Value.int IntKind.i64 (c.1 : Int)] 3))
    have B2 := Lib.hid (HB.out.alloc hsz2 (Obj.cells #[Value.int IntKind.i64 (c.1 : Int)] 3))
    have n2 := HV.out.lt
    clear hrow hv hB nb
    gi_wp2_with (gi_at_builtin; refine wpListIn_append_own _ rfl _ _ 29 rfl (w.heap.size + 2) 3 i0 (.int .i64 0) 1 8 Tryd.underlying29 Hi.out Hz0.out Hz1.out Hz2.out rfl (by decide) _ _ _ rfl (HR.out.alloc _) ⟨W.heap.size, 0, none⟩ 1 1 [Value.int .i64 (c.1 : Int)] rfl rfl (World.news_of_block (cs := (#[Value.int IntKind.i64 (c.1 : Int)] : Array Value)) (t := 3) (fr := (0, 0)) NB.out) (by intro u hu; simp at hu; subst hu; rfl) (by simp only [maxLen]; omega) (by omega) (by simp only [World.size_alloc]; omega) ?_; intro v' w2 hown' hgrow _; obtain ⟨g', cap', rfl⟩ := ownsRow_succ hown'; obtain ⟨hv1, hv2, _, hk2, hb2⟩ := HV.out.appended (by decide) (own_base HR.out (m := w.heap.size) (by omega)) hsz2 (by omega) (own_base hown' (m := w.heap.size) (by omega)) hgrow; have hr2 := hown'.kept (grownBy_setCell' w2 w.heap.size (.slice (some ⟨g', 0, none⟩) (pre.length + 1) cap')) (.inr (hv1.not_row (by decide) hown').symm); have hbb := (hgrow.block (w.heap.size + 1) (by simp; omega) (own_far HR.out (by omega))).trans (Below.heap_alloc W _ _ (by omega)); have hc1 := hv1.cell; have hf1 := hv1.frozen; have HV2 := Lib.hid hv2; have HR2 := Lib.hid hr2; have HKO := Lib.hid hk2; have HB2 := Lib.hid hb2; have HBBB := Lib.hid hbb; clear hv1 hv2 hr2 hk2 hb2 hgrow hown' hbb)
    refine ⟨HKO.out.from _, ⟨HB2.out, ?_⟩, ⟨_, HV2.out, ?_, trivial⟩, HB.out.trans HB2.out, Nat.le_trans hsz3 HKO.out.size⟩
    · rw [← HBBB.out]
      exact Below.heap_setCell _ _ _ _ (by simp)
    · rw [List.length_append, nC_snoc]; exact HR2.out
  case done =>
    rintro D ys W hD rfl ⟨⟨v, hv, hrow, _⟩, hB, hsz3⟩ hK
    obtain ⟨Av, cv, rfl⟩ := own_slice hrow
    have hc := hv.cell
    have hf := hv.frozen
    have HR := Lib.hid hrow
    have HV := Lib.hid hv
    have HB := Lib.hid hB
    have HKK := Lib.hid hK
    clear hrow hv hB hK
    gi_wp2
    refine ⟨by simp, .inl ⟨_, _, rfl, run_takeDeferred ((KeepsOthers.setCell _ _ _).same D _ HKK.out rfl), ?_⟩⟩
    obtain ⟨z1, z2, z3⟩ := list_fin HV.out HR.out HB.out HKK.out (by omega)
    exact ⟨_, by simp [results, Tryd.results11, go_sem, z1], ⟨_, rfl, z2, z3⟩⟩
  case stop =>
    rintro D c pre W hD _ h
    exact h.elim
end Go.Proofs.YtmficjbgpcbhoaaDoor
