/- The sort of the library, laid at this program's numbers; the order that it is called with. -/
import Derived.Test.YtacfigociobgmaaRowM
import Derived.Shelf.SlSortCmp.WholeK
import Derived.Shelf.Lay
import Derived.Ground.SlsfProg
namespace Go.Proofs.Ytacfigociobgmaa
open Go.Shelf Go.RowKit Go.Lib Go.Sort Sh
set_option linter.unusedVariables false
shelf_lay_g SlLaysF0.n6 Slsf 6 at Try 16 as Try.sortIt

set_option maxHeartbeats 1000000 in
theorem closure_any (x y : It) (W : World) : Calls Try.prog 17 #[itV x, itV y] W fun e w' => e = .returned (.int .i64 (cfI x y)) ∧ ∃ q os', w' = grow (W.drewN q) os' := by
  unfold itV cfI
  obtain ⟨xn, xi, xs, xt⟩ := x
  obtain ⟨yn, yi, ys, yt⟩ := y
  simp only
  go_enter Try.func17, Try.ntmps17
  go_upto_region 1 with fail
  refine still_tail 12 (by kernel_rfl) (by kernel_rfl) ?_
  simp only [List.take_succ_cons, List.take_zero, List.drop_succ_cons, List.drop_zero]
  repeat still_step
  still_call (to_still (compare_i xt yt _))
  repeat still_step
  still_call (to_still (compare_i xn yn _))
  repeat still_step
  try refine wpStill_nil ?_
  have hor := fun g w c0 c1 => or_two g (cmpI xt yt) (cmpI xn yn) w c0 c1
  go_wp2_with fail
  refine (hor _ _ (cell_newd (by simp) rfl) (cell_newd (by simp) rfl)).mono ?_
  rintro e w' ⟨rfl, rfl⟩
  go_wp2
  go_ret
  exact ⟨rfl, 1, #[.cells #[.int .i64 xn, .int .u64 xi, .int .i64 xs, .int .i64 xt] 41, .cells #[.int .i64 yn, .int .u64 yi, .int .i64 ys, .int .i64 yt] 41, .cells #[.int .i64 (cmpI xt yt), .int .i64 (cmpI xn yn)] 3], by rw [alloc_eq_grow, alloc_eq_grow, alloc_eq_grow, grow_grow, grow_grow]; rfl⟩
theorem cmp_lays (blk off size : Nat) (w : World) : CmpLays Try.prog 17 #[] itC 4 cfI blk off size w :=
  fun _ _ _ _ x y => closure_any x y _
theorem ltOf_iff (x y : It) : ltOf cfI x y = true ↔ Lt x y := by
  unfold ltOf
  rw [decide_eq_true_iff, cfI_lt]
theorem ltOf_not (x y : It) : ltOf cfI x y = false ↔ ¬ Lt x y := by
  rw [← ltOf_iff]; simp
theorem swo : SWO (ltOf cfI) where
  irrefl x := (ltOf_not _ _).2 (Lt.irrefl x)
  trans x y z h k := (ltOf_iff _ _).2 (((ltOf_iff _ _).1 h).trans ((ltOf_iff _ _).1 k))
  ntrans x y z h k := (ltOf_not _ _).2 (Lt.ntrans ((ltOf_not _ _).1 h) ((ltOf_not _ _).1 k))

theorem row_holds {w : World} {base g cap : Nat} {R : List It} (h : w.ownsRow base 41 4 (.slice (some ⟨g, 0, none⟩) R.length cap) R.length (itCells R)) : HoldsK itC 4 w g 0 R.toArray := by
  intro j hj
  rw [size_flatK, List.size_toArray] at hj
  have hi : j / 4 < R.length := by omega
  have e : j / 4 * 4 + j % 4 = j := by omega
  obtain ⟨a, b⟩ := own_cell h j hj
  have c := itCells_get R (j / 4) (j % 4) hi (by omega)
  rw [e] at c
  refine ⟨?_, by rw [Nat.zero_add]; exact b⟩
  rw [Nat.zero_add, a, c, get_flatK _ _ _ _ (by simpa using hj)]
  have e2 : R.toArray[j / 4]! = it R (j / 4) := by rw [it_of hi]; simp [hi]
  rw [e2]
  have hm : j % 4 < (itC (it R (j / 4))).length := by simp [itC]; omega
  rw [List.getElem?_eq_getElem hm, List.getElem!_eq_getElem?_getD, List.getElem?_eq_getElem hm]
  rfl
theorem holds_row {w : World} {g : Nat} {d : Array It} (h : HoldsK itC 4 w g 0 d) : RowAt w g d.toList := by
  intro i hi
  rw [Array.length_toList] at hi
  have e : d[i]! = it d.toList i := by rw [it_of (by simpa using hi)]; simp [hi]
  have k := fun c hc => (h.cell (i := i) (c := c) hi hc).1
  rw [e] at k
  have k0 := k 0 (by omega)
  have k1 := k 1 (by omega)
  have k2 := k 2 (by omega)
  have k3 := k 3 (by omega)
  simp only [Nat.zero_add, Nat.add_zero] at k0 k1 k2 k3
  exact ⟨k0, k1, k2, k3⟩
theorem keep_sort (w : World) (g n : Nat) (d : Array It) (os : Array Obj) : Keep (fun k => k = g) w (sortWorldK itC 4 w g 0 n d os) := by
  have k1 : Keep (fun k => k = g) w (putRowK itC 4 (Sort.ahead w n) g 0 d) := by
    refine ⟨rfl, rfl, rfl, ?_, ?_⟩
    · unfold putRowK
      rw [size_putRow]
      exact Nat.le_refl _
    · intro k hk hne
      unfold putRowK putRow mapBlock
      simp only [Array.getElem?_modify, if_neg (Ne.symm hne)]
      rfl
  unfold sortWorldK
  refine ⟨k1.os, k1.tape, k1.output, ?_, ?_⟩
  · rw [size_grow]
    have := k1.size
    omega
  · intro k hk hne
    rw [heap_grow_old _ _ (Nat.lt_of_lt_of_le hk k1.size)]
    exact k1.block k hk hne

set_option maxHeartbeats 1000000 in
theorem sort_any {w : World} {base g c : Nat} {R : List It} (h : w.ownsRow base 41 4 (.slice (some ⟨g, 0, none⟩) R.length c) R.length (itCells R)) (hn : (R.map It.n).Nodup) (hsz : R.length < 100000) :
    Calls Try.prog 16 #[.slice (some ⟨g, 0, none⟩) R.length c, .func (.func 17) #[] #[]] w fun e w' => e = .returned (.tuple #[]) ∧ ∃ L : List It, L.Perm R ∧ Srt L ∧ RowAt w' g L ∧ Keep (fun k => k = g) w w' := by
  have eg : ∀ args w, (callFunc 17 args).run Try.prog w = .ok (.enter 17 args) w := enters_of Try.func17 (by kernel_rfl) rfl
  have hb : g < w.heap.size := (own_block h rfl).2.1
  have hcon := AnyQ.slices_SortFunc Try.sortIt 4 (fun w => by kernel_rfl) (fun w => by kernel_rfl) itC (fun _ => rfl) (fun x v hv => itC_one x v hv) cfI swo 17 #[] g 0 c R.toArray w eg (cmp_lays g 0 R.toArray.size w) (row_holds h) hb (by simp; omega)
  change Calls Try.prog 16 _ _ _ at hcon
  rw [List.size_toArray] at hcon
  refine hcon.mono ?_
  rintro e w' ⟨rfl, d', n, os, hp, hs, rfl⟩
  obtain ⟨p1, p2, p3⟩ := hp
  have hperm : d'.toList.Perm R := by
    have e1 : d'.extract 0 R.length = d' := by rw [show R.length = d'.size from p1.symm]; simp
    have e2 : R.toArray.extract 0 R.length = R.toArray := by simp
    rw [e1, e2] at p3
    simpa using p3
  have hsrt : Srt d'.toList := by
    refine List.pairwise_iff_getElem.2 ?_
    intro i j hi hj hij
    have hj' : j < R.length := by rw [← hperm.length_eq]; exact hj
    have := (ltOf_not _ _).1 (hs i j (Nat.zero_le _) hij hj')
    have hsi : i < d'.size := by simpa using hi
    have hsj : j < d'.size := by simpa using hj
    rw [getElem!_pos d' i hsi, getElem!_pos d' j hsj] at this
    have hnn : (d'.toList.map It.n).Nodup := (hperm.map It.n).nodup_iff.2 hn
    refine Lt.total ?_ (by simpa using this)
    intro he
    have := (List.getElem_inj (i := i) (j := j) (h₀ := by simpa using hi) (h₁ := by simpa using hj) hnn).1 (by simpa using he)
    omega
  refine ⟨rfl, d'.toList, hperm, hsrt, ?_, keep_sort _ _ _ _ _⟩
  refine holds_row ?_
  unfold sortWorldK
  refine holdsK_grow itC 4 _ _ g 0 _ ?_ (holdsK_putRowK itC 4 _ g 0 R.toArray d' (holdsK_ahead itC 4 w n g 0 _ (row_holds h)) p1)
  unfold putRowK
  rw [size_putRow]
  exact hb

end Go.Proofs.Ytacfigociobgmaa
