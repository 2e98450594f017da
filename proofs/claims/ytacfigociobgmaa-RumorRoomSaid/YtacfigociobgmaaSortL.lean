/- The sort of the library, laid at this program's numbers; the order that it is called with. -/
import Derived.Test.YtacfigociobgmaaRowM
import Derived.Shelf.SlSortCmp.WholeK
import Derived.Shelf.SlLaysF0
namespace Go.Proofs.Ytacfigociobgmaa
open Go.Shelf Go.RowKit Go.Lib Go.Sort Sh
set_option linter.unusedVariables false
def Try.sortIt_ren : Go.Shelf.Ren := ⟨fun | 6 => 16 | 15 => 23 | 14 => 24 | 28 => 27 | 29 => 28 | 20 => 29 | 21 => 30 | 22 => 31 | 23 => 32 | 24 => 33 | 25 => 34 | 26 => 35 | 27 => 36 | 46 => 38 | 47 => 39 | 48 => 40 | 49 => 41 | 50 => 42 | 57 => 43 | n => n, fun | 22 => 35 | 24 => 41 | 25 => 53 | 3 => 3 | 39 => 60 | 0 => 0 | 53 => 66 | 55 => 31 | 4 => 4 | 46 => 70 | 45 => 69 | 50 => 74 | 5 => 5 | 9 => 9 | 66 => 77 | 70 => 81 | 76 => 83 | 77 => 84 | n => n, fun | n => n⟩
theorem Try.sortIt : Go.Proofs.SlLaysF0.n6 Try.prog Try.sortIt_ren := {
  mixed := by kernel_rfl
  f6 := ⟨Try.f16.name, by decide, Try.func16.trans (congrArg some (by kernel_rfl))⟩
  f14 := ⟨Try.f24.name, by decide, Try.func24.trans (congrArg some (by kernel_rfl))⟩
  f15 := Try.func23.trans (congrArg some (by kernel_rfl))
  f20 := ⟨Try.f29.name, by decide, Try.func29.trans (congrArg some (by kernel_rfl))⟩
  f21 := ⟨Try.f30.name, by decide, Try.func30.trans (congrArg some (by kernel_rfl))⟩
  f22 := ⟨Try.f31.name, by decide, Try.func31.trans (congrArg some (by kernel_rfl))⟩
  f23 := ⟨Try.f32.name, by decide, Try.func32.trans (congrArg some (by kernel_rfl))⟩
  f24 := ⟨Try.f33.name, by decide, Try.func33.trans (congrArg some (by kernel_rfl))⟩
  f25 := ⟨Try.f34.name, by decide, Try.func34.trans (congrArg some (by kernel_rfl))⟩
  f26 := ⟨Try.f35.name, by decide, Try.func35.trans (congrArg some (by kernel_rfl))⟩
  f27 := ⟨Try.f36.name, by decide, Try.func36.trans (congrArg some (by kernel_rfl))⟩
  f28 := Try.func27.trans (congrArg some (by kernel_rfl))
  f29 := Try.func28.trans (congrArg some (by kernel_rfl))
  f46 := ⟨Try.f38.name, by decide, Try.func38.trans (congrArg some (by kernel_rfl))⟩
  f47 := Try.func39.trans (congrArg some (by kernel_rfl))
  f48 := Try.func40.trans (congrArg some (by kernel_rfl))
  f49 := ⟨Try.f41.name, by decide, Try.func41.trans (congrArg some (by kernel_rfl))⟩
  f50 := ⟨Try.f42.name, by decide, Try.func42.trans (congrArg some (by kernel_rfl))⟩
  f57 := ⟨Try.f43.name, by decide, Try.func43.trans (congrArg some (by kernel_rfl))⟩
  t0 := Try.underlying0
  a0 := Try.isAgg0
  z0 := Try.sizeOf0
  v0 := Try.zeroValue0
  t3 := Try.underlying3
  a3 := Try.isAgg3
  z3 := Try.sizeOf3
  v3 := Try.zeroValue3
  t4 := Try.underlying4
  a4 := Try.isAgg4
  z4 := Try.sizeOf4
  v4 := Try.zeroValue4
  t5 := Try.underlying5
  a5 := Try.isAgg5
  z5 := Try.sizeOf5
  v5 := Try.zeroValue5
  t9 := Try.underlying9
  a9 := Try.isAgg9
  z9 := Try.sizeOf9
  v9 := Try.zeroValue9
  t22 := Try.underlying35
  a22 := Try.isAgg35
  z22 := Try.sizeOf35
  v22 := Try.zeroValue35
  t25 := Try.underlying53
  a25 := Try.isAgg53
  z25 := Try.sizeOf53
  v25 := Try.zeroValue53
  t39 := Try.underlying60
  a39 := Try.isAgg60
  z39 := Try.sizeOf60
  v39 := Try.zeroValue60
  t45 := Try.underlying69
  a45 := Try.isAgg69
  z45 := Try.sizeOf69
  v45 := Try.zeroValue69
  t46 := Try.underlying70
  a46 := Try.isAgg70
  z46 := Try.sizeOf70
  v46 := Try.zeroValue70
  t50 := Try.underlying74
  a50 := Try.isAgg74
  z50 := Try.sizeOf74
  v50 := Try.zeroValue74
  t53 := Try.underlying66
  a53 := Try.isAgg66
  z53 := Try.sizeOf66
  v53 := Try.zeroValue66
  t55 := Try.underlying31
  a55 := Try.isAgg31
  z55 := Try.sizeOf31
  v55 := Try.zeroValue31
  t66 := Try.underlying77
  a66 := Try.isAgg77
  z66 := Try.sizeOf77
  v66 := Try.zeroValue77
  t70 := Try.underlying81
  a70 := Try.isAgg81
  z70 := Try.sizeOf81
  v70 := Try.zeroValue81
  t76 := Try.underlying83
  a76 := Try.isAgg83
  z76 := Try.sizeOf83
  v76 := Try.zeroValue83
  t77 := Try.underlying84
  a77 := Try.isAgg84
  z77 := Try.sizeOf84
  v77 := Try.zeroValue84 }

set_option maxHeartbeats 1000000 in
theorem closure_any (x y : It) (W : World) : Calls Try.prog 17 #[itV x, itV y] W fun e w' => e = .returned (.int .i64 (cfI x y)) ∧ ∃ q os', w' = grow (W.drewN q) os' := by
  unfold itV cfI
  obtain ⟨xn, xi, xs, xt⟩ := x
  obtain ⟨yn, yi, ys, yt⟩ := y
  simp only
  go_enter Try.func17, Try.ntmps17
  go_upto_region 1 with fail
  refine still_tail 12 (by kernel_rfl) (by kernel_rfl) ?_
  simp only [List.take_succ_cons, List.take_zero, List.drop_succ_cons, List.drop_zero]
  repeat still_step
  still_call (to_still (compare_i xt yt _))
  repeat still_step
  still_call (to_still (compare_i xn yn _))
  repeat still_step
  try refine wpStill_nil ?_
  have hor := fun g w c0 c1 => or_two g (cmpI xt yt) (cmpI xn yn) w c0 c1
  go_wp2_with fail
  refine (hor _ _ (cell_newd (by simp) rfl) (cell_newd (by simp) rfl)).mono ?_
  rintro e w' ⟨rfl, rfl⟩
  go_wp2
  go_ret
  exact ⟨rfl, 1, #[.cells #[.int .i64 xn, .int .u64 xi, .int .i64 xs, .int .i64 xt] 41, .cells #[.int .i64 yn, .int .u64 yi, .int .i64 ys, .int .i64 yt] 41, .cells #[.int .i64 (cmpI xt yt), .int .i64 (cmpI xn yn)] 3], by rw [alloc_eq_grow, alloc_eq_grow, alloc_eq_grow, grow_grow, grow_grow]; rfl⟩
theorem cmp_lays (blk off size : Nat) (w : World) : CmpLays Try.prog 17 #[] itC 4 cfI blk off size w :=
  fun _ _ _ _ x y => closure_any x y _
theorem ltOf_iff (x y : It) : ltOf cfI x y = true ↔ Lt x y := by
  unfold ltOf
  rw [decide_eq_true_iff, cfI_lt]
theorem ltOf_not (x y : It) : ltOf cfI x y = false ↔ ¬ Lt x y := by
  rw [← ltOf_iff]; simp
theorem swo : SWO (ltOf cfI) where
  irrefl x := (ltOf_not _ _).2 (Lt.irrefl x)
  trans x y z h k := (ltOf_iff _ _).2 (((ltOf_iff _ _).1 h).trans ((ltOf_iff _ _).1 k))
  ntrans x y z h k := (ltOf_not _ _).2 (Lt.ntrans ((ltOf_not _ _).1 h) ((ltOf_not _ _).1 k))

theorem row_holds {w : World} {base g cap : Nat} {R : List It} (h : w.ownsRow base 41 4 (.slice (some ⟨g, 0, none⟩) R.length cap) R.length (itCells R)) : HoldsK itC 4 w g 0 R.toArray := by
  intro j hj
  rw [size_flatK, List.size_toArray] at hj
  have hi : j / 4 < R.length := by omega
  have e : j / 4 * 4 + j % 4 = j := by omega
  obtain ⟨a, b⟩ := own_cell h j hj
  have c := itCells_get R (j / 4) (j % 4) hi (by omega)
  rw [e] at c
  refine ⟨?_, by rw [Nat.zero_add]; exact b⟩
  rw [Nat.zero_add, a, c, get_flatK _ _ _ _ (by simpa using hj)]
  have e2 : R.toArray[j / 4]! = it R (j / 4) := by rw [it_of hi]; simp [hi]
  rw [e2]
  have hm : j % 4 < (itC (it R (j / 4))).length := by simp [itC]; omega
  rw [List.getElem?_eq_getElem hm, List.getElem!_eq_getElem?_getD, List.getElem?_eq_getElem hm]
  rfl
theorem holds_row {w : World} {g : Nat} {d : Array It} (h : HoldsK itC 4 w g 0 d) : RowAt w g d.toList := by
  intro i hi
  rw [Array.length_toList] at hi
  have e : d[i]! = it d.toList i := by rw [it_of (by simpa using hi)]; simp [hi]
  have k := fun c hc => (h.cell (i := i) (c := c) hi hc).1
  rw [e] at k
  have k0 := k 0 (by omega)
  have k1 := k 1 (by omega)
  have k2 := k 2 (by omega)
  have k3 := k 3 (by omega)
  simp only [Nat.zero_add, Nat.add_zero] at k0 k1 k2 k3
  exact ⟨k0, k1, k2, k3⟩
theorem keep_sort (w : World) (g n : Nat) (d : Array It) (os : Array Obj) : Keep (fun k => k = g) w (sortWorldK itC 4 w g 0 n d os) := by
  have k1 : Keep (fun k => k = g) w (putRowK itC 4 (Sort.ahead w n) g 0 d) := by
    refine ⟨rfl, rfl, rfl, ?_, ?_⟩
    · unfold putRowK
      rw [size_putRow]
      exact Nat.le_refl _
    · intro k hk hne
      unfold putRowK putRow mapBlock
      simp only [Array.getElem?_modify, if_neg (Ne.symm hne)]
      rfl
  unfold sortWorldK
  refine ⟨k1.os, k1.tape, k1.output, ?_, ?_⟩
  · rw [size_grow]
    have := k1.size
    omega
  · intro k hk hne
    rw [heap_grow_old _ _ (Nat.lt_of_lt_of_le hk k1.size)]
    exact k1.block k hk hne

set_option maxHeartbeats 1000000 in
theorem sort_any {w : World} {base g c : Nat} {R : List It} (h : w.ownsRow base 41 4 (.slice (some ⟨g, 0, none⟩) R.length c) R.length (itCells R)) (hn : (R.map It.n).Nodup) (hsz : R.length < 100000) :
    Calls Try.prog 16 #[.slice (some ⟨g, 0, none⟩) R.length c, .func (.func 17) #[] #[]] w fun e w' => e = .returned (.tuple #[]) ∧ ∃ L : List It, L.Perm R ∧ Srt L ∧ RowAt w' g L ∧ Keep (fun k => k = g) w w' := by
  have eg : ∀ args w, (callFunc 17 args).run Try.prog w = .ok (.enter 17 args) w := enters_of Try.func17 (by kernel_rfl) rfl
  have hb : g < w.heap.size := (own_block h rfl).2.1
  have hcon := AnyQ.slices_SortFunc Try.sortIt 4 (fun w => by kernel_rfl) (fun w => by kernel_rfl) itC (fun _ => rfl) (fun x v hv => itC_one x v hv) cfI swo 17 #[] g 0 c R.toArray w eg (cmp_lays g 0 R.toArray.size w) (row_holds h) hb (by simp; omega)
  change Calls Try.prog 16 _ _ _ at hcon
  rw [List.size_toArray] at hcon
  refine hcon.mono ?_
  rintro e w' ⟨rfl, d', n, os, hp, hs, rfl⟩
  obtain ⟨p1, p2, p3⟩ := hp
  have hperm : d'.toList.Perm R := by
    have e1 : d'.extract 0 R.length = d' := by rw [show R.length = d'.size from p1.symm]; simp
    have e2 : R.toArray.extract 0 R.length = R.toArray := by simp
    rw [e1, e2] at p3
    simpa using p3
  have hsrt : Srt d'.toList := by
    refine List.pairwise_iff_getElem.2 ?_
    intro i j hi hj hij
    have hj' : j < R.length := by rw [← hperm.length_eq]; exact hj
    have := (ltOf_not _ _).1 (hs i j (Nat.zero_le _) hij hj')
    have hsi : i < d'.size := by simpa using hi
    have hsj : j < d'.size := by simpa using hj
    rw [getElem!_pos d' i hsi, getElem!_pos d' j hsj] at this
    have hnn : (d'.toList.map It.n).Nodup := (hperm.map It.n).nodup_iff.2 hn
    refine Lt.total ?_ (by simpa using this)
    intro he
    have := (List.getElem_inj (i := i) (j := j) (h₀ := by simpa using hi) (h₁ := by simpa using hj) hnn).1 (by simpa using he)
    omega
  refine ⟨rfl, d'.toList, hperm, hsrt, ?_, keep_sort _ _ _ _ _⟩
  refine holds_row ?_
  unfold sortWorldK
  refine holdsK_grow itC 4 _ _ g 0 _ ?_ (holdsK_putRowK itC 4 _ g 0 R.toArray d' (holdsK_ahead itC 4 w n g 0 _ (row_holds h)) p1)
  unfold putRowK
  rw [size_putRow]
  exact hb

end Go.Proofs.Ytacfigociobgmaa
