/- Rows of items; ranges over a map that may be nil. The sort of the library, laid at this program's numbers; the order that it is called with. Walk of Queue.Items. -/
import Derived.Test.YtofonfohaocclaaGreatDoorG08
import Derived.Shelf.SlSortCmp.WholeK
import Derived.Shelf.SlLaysF0
namespace Go.Proofs.YtofonfohaocclaaGreatDoor.Q
open Go.RowKit Sh
open Go.ChangeMaps (setBlock)
set_option linter.unusedVariables false

theorem own_cell {w : World} {base : Nat} {e : TypeId} {size g n cap : Nat} {xs : List Value} (h : w.ownsRow base e size (.slice (some ⟨g, 0, none⟩) n cap) n xs) (j : Nat) (hj : j < n * size) :
    w.cell? ⟨g, j, none⟩ = xs[j]? ∧ w.frozen? ⟨g, j, none⟩ = false := by
  rcases h.2 with ⟨e0, _⟩ | ⟨g', cap', cur, e0, hb, hg, hn, hm, hs, ht⟩
  · cases e0
  · injection e0 with e1 _ e3
    injection e1 with e1
    injection e1 with e1
    subst e1; subst e3
    refine ⟨?_, by simp [World.frozen?, hg]⟩
    rw [← ht, List.getElem?_take_of_lt hj]
    simp [World.cell?, hg]
theorem own_keepB {S : Nat → Prop} {w w' : World} {base : Nat} {e : TypeId} {size : Nat} {v : Value} {n : Nat} {xs : List Value} (h : w.ownsRow base e size v n xs) (k : Keep S w w') (hS : ∀ g, v.ownBlock = some g → ¬ S g) : w'.ownsRow base e size v n xs := by
  obtain ⟨h1, h2⟩ := h
  refine ⟨h1, ?_⟩
  rcases h2 with h2 | ⟨g, cap, cur, hv, hg, hh, r⟩
  · exact .inl h2
  · exact .inr ⟨g, cap, cur, hv, hg, k.old hh (hS g (by rw [hv]; rfl)), r⟩
theorem own_block {w : World} {base : Nat} {e : TypeId} {size : Nat} {v : Value} {n : Nat} {xs : List Value} (h : w.ownsRow base e size v n xs) {g : Nat} (hg : v.ownBlock = some g) : base ≤ g ∧ g < w.heap.size ∧ ∃ c, w.heap[g]? = some (.cells c e (0, 0)) := by
  rcases h.2 with ⟨rfl, _⟩ | ⟨g', cap, cur, rfl, hb, hh, _⟩
  · cases hg
  · injection hg with hg
    subst hg
    exact ⟨hb, (Array.getElem?_eq_some_iff.1 hh).1, cur, hh⟩

def itCells : List It → List Value
  | [] => []
  | e :: E => itC e ++ itCells E
theorem itCells_length (E : List It) : (itCells E).length = E.length * 4 := by
  induction E with
  | nil => rfl
  | cons e E ih => simp [itCells, itC, ih]; omega
theorem itCells_append (E F : List It) : itCells (E ++ F) = itCells E ++ itCells F := by
  induction E with
  | nil => rfl
  | cons e E ih => simp [itCells, ih]
theorem itCells_get : ∀ (E : List It) (i c : Nat), i < E.length → c < 4 → (itCells E)[i * 4 + c]? = (itC (it E i))[c]?
  | [], i, c, h, _ => by simp at h
  | e :: E, 0, c, h, hc => by
    simp only [itCells, it, List.getD_cons_zero, Nat.zero_mul, Nat.zero_add]
    rw [List.getElem?_append_left (by simp [itC]; omega)]
  | e :: E, i + 1, c, h, hc => by
    have := itCells_get E i c (by simpa using h) hc
    simp only [itCells, it, List.getD_cons_succ] at this ⊢
    rw [List.getElem?_append_right (by simp [itC]; omega), ← this]
    congr 1
    simp [itC]; omega
theorem itC_one (e : It) : ∀ u ∈ itC e, u.oneCell' = true := by
  intro u hu
  simp [itC] at hu
  rcases hu with rfl | rfl | rfl | rfl <;> rfl
theorem itCells_one (E : List It) : ∀ u ∈ itCells E, u.oneCell' = true := by
  induction E with
  | nil => intro u hu; simp [itCells] at hu
  | cons e E ih =>
    intro u hu
    rcases List.mem_append.1 hu with h | h
    · exact itC_one e u h
    · exact ih u h
theorem own_row {w : World} {base g cap : Nat} {R : List It} (h : w.ownsRow base 164 4 (.slice (some ⟨g, 0, none⟩) R.length cap) R.length (itCells R)) : RowAt w g R := fun i hi => by
  have a0 := (own_cell h (i * 4 + 0) (by omega)).1.trans (itCells_get R i 0 hi (by omega))
  have a1 := (own_cell h (i * 4 + 1) (by omega)).1.trans (itCells_get R i 1 hi (by omega))
  have a2 := (own_cell h (i * 4 + 2) (by omega)).1.trans (itCells_get R i 2 hi (by omega))
  have a3 := (own_cell h (i * 4 + 3) (by omega)).1.trans (itCells_get R i 3 hi (by omega))
  exact ⟨a0, a1, a2, a3⟩

theorem info164 : (Tryz.prog.info? 164).map (fun i => (i.zero, i.size, i.bytes)) = some (some (.agg #[.int .i64 0, .int .u64 0, .int .i64 0, .int .i64 0]), 4, 32) := by kernel_rfl

/-- A range over a map that may be nil, of which L is left. -/
def ItO (w : World) (r : Nat) (mb : Option Nat) (M L : List It) : Prop :=
  (mb = none ∧ L = [] ∧ w.heap[r]? = some (.mapIter none 0 #[] 0)) ∨ ∃ B, mb = some B ∧ r ≠ B ∧ IsIt (key := It.n) (val := itV) w r B M L
theorem ItO.keep {S : Nat → Prop} {w w' : World} {r : Nat} {mb : Option Nat} {M L : List It} (h : ItO w r mb M L) (k : Keep S w w') (hn : ∀ B, mb = some B → ¬ S B) (hr : ¬ S r) : ItO w' r mb M L := by
  rcases h with ⟨rfl, h2, h3⟩ | ⟨B, rfl, h2, h3⟩
  · exact .inl ⟨rfl, h2, k.old h3 hr⟩
  · exact .inr ⟨B, rfl, h2, h3.keep k (hn B rfl) hr⟩
theorem ItO.block {w : World} {r : Nat} {mb : Option Nat} {M L : List It} (h : ItO w r mb M L) : ∃ a b c d, w.heap[r]? = some (.mapIter a b c d) := by
  rcases h with ⟨rfl, h2, h3⟩ | ⟨B, rfl, h2, h3⟩
  · exact ⟨_, _, _, _, h3⟩
  · obtain ⟨E, c, seen, _, _, _, _, h5, _⟩ := h3
    exact ⟨_, _, _, _, h5⟩
theorem ItO.next {w : World} {r : Nat} {mb : Option Nat} {M L : List It} (h : ItO w r mb M L) (ty : TypeId) :
    (L = [] ∧ (Instr.next (.pointer (some ⟨r, 0, none⟩)) false ty).run Tryz.prog w = .ok (.tuple #[.bool false]) w) ∨
    ∃ x L', L.Perm (x :: L') ∧ x ∈ M ∧ ∃ wn, Keep (fun k => k = r) w wn ∧ ItO wn r mb M L' ∧ (Instr.next (.pointer (some ⟨r, 0, none⟩)) false ty).run Tryz.prog w = .ok (.tuple #[.bool true, .int .i64 x.n, itV x]) wn ∧ (Instr.entry (.pointer (some ⟨r, 0, none⟩))).run Tryz.prog wn = .ok (.tuple #[.int .i64 x.n, itV x]) wn := by
  rcases h with ⟨rfl, h2, h3⟩ | ⟨B, rfl, h2, h3⟩
  · refine .inl ⟨h2, ?_⟩
    simp only [Instr.next, getObj, Sem.run_bind, Sem.run, h3, Result.andThen]
    rfl
  · rcases h3.next (P := Tryz.prog) ty h2 with h | ⟨x, L', p, hm, wn, k, h4, h5, h6⟩
    · exact .inl h
    · exact .inr ⟨x, L', p, hm, wn, k, .inr ⟨B, rfl, h2, h4⟩, h5, h6⟩
theorem IsQ.range {w w0 : World} {q : Loc} {mb : Option Nat} {M : List It} (h : IsQ w0 q mb M) (k : Keep (fun _ => False) w0 w) :
    ∃ o M1, M1.Perm M ∧ (Instr.range 39 (.map mb)).run Tryz.prog w = .ok (.pointer (some ⟨w.heap.size, 0, none⟩)) (w.alloc o) ∧ ItO (w.alloc o) w.heap.size mb M1 M1 := by
  have h := h.keep0 k
  cases mb with
  | none =>
    refine ⟨.mapIter none 0 #[] 0, [], by rw [h.non rfl], ?_, .inl ⟨rfl, rfl, heap_alloc_new w _⟩⟩
    simp [Instr.range, run_underlying Tryz.underlying39, Result.andThen]
  | some B =>
    obtain ⟨h1, M1, h2, h3⟩ := h.mp B rfl
    obtain ⟨o, hr, hi⟩ := h3.range (P := Tryz.prog) Tryz.underlying39
    have := h3.lt
    exact ⟨o, M1, h2, hr, .inr ⟨B, rfl, by omega, hi⟩⟩
theorem IsQ.len {w : World} {q : Loc} {mb : Option Nat} {M : List It} (h : IsQ w q mb M) (ty : TypeId) :
    (Builtin.len_ #[39] ty #[.map mb]).run Tryz.prog w = .ok (.int .i64 M.length) w := by
  cases mb with
  | none =>
    rw [h.non rfl]
    simp [Builtin.len_, run_underlying Tryz.underlying39]
    try rfl
  | some B =>
    obtain ⟨h1, M1, h2, h3⟩ := h.mp B rfl
    rw [← h2.length_eq]
    exact h3.len (P := Tryz.prog) (by kernel_rfl) ty

end Go.Proofs.YtofonfohaocclaaGreatDoor.Q

namespace Go.Proofs.YtofonfohaocclaaGreatDoor.Q
open Go.Shelf Go.RowKit Go.Lib Go.Sort Sh
set_option linter.unusedVariables false
def Tryz.sortIt_ren : Go.Shelf.Ren := ⟨fun | 6 => 132 | 15 => 155 | 14 => 157 | 28 => 177 | 29 => 178 | 20 => 180 | 21 => 181 | 22 => 182 | 23 => 183 | 24 => 184 | 25 => 185 | 26 => 186 | 27 => 187 | 46 => 197 | 47 => 193 | 48 => 194 | 49 => 198 | 50 => 199 | 57 => 204 | n => n, fun | 22 => 167 | 24 => 164 | 25 => 200 | 3 => 3 | 39 => 214 | 0 => 0 | 53 => 231 | 55 => 29 | 4 => 4 | 46 => 224 | 45 => 223 | 50 => 108 | 5 => 5 | 9 => 9 | 66 => 239 | 70 => 242 | 76 => 247 | 77 => 248 | n => n, fun | n => n⟩
theorem Tryz.sortIt : Go.Proofs.SlLaysF0.n6 Tryz.prog Tryz.sortIt_ren := {
  mixed := by kernel_rfl
  f6 := ⟨Tryz.f132.name, by decide, Tryz.func132.trans (congrArg some (by kernel_rfl))⟩
  f14 := ⟨Tryz.f157.name, by decide, Tryz.func157.trans (congrArg some (by kernel_rfl))⟩
  f15 := Tryz.func155.trans (congrArg some (by kernel_rfl))
  f20 := ⟨Tryz.f180.name, by decide, Tryz.func180.trans (congrArg some (by kernel_rfl))⟩
  f21 := ⟨Tryz.f181.name, by decide, Tryz.func181.trans (congrArg some (by kernel_rfl))⟩
  f22 := ⟨Tryz.f182.name, by decide, Tryz.func182.trans (congrArg some (by kernel_rfl))⟩
  f23 := ⟨Tryz.f183.name, by decide, Tryz.func183.trans (congrArg some (by kernel_rfl))⟩
  f24 := ⟨Tryz.f184.name, by decide, Tryz.func184.trans (congrArg some (by kernel_rfl))⟩
  f25 := ⟨Tryz.f185.name, by decide, Tryz.func185.trans (congrArg some (by kernel_rfl))⟩
  f26 := ⟨Tryz.f186.name, by decide, Tryz.func186.trans (congrArg some (by kernel_rfl))⟩
  f27 := ⟨Tryz.f187.name, by decide, Tryz.func187.trans (congrArg some (by kernel_rfl))⟩
  f28 := Tryz.func177.trans (congrArg some (by kernel_rfl))
  f29 := Tryz.func178.trans (congrArg some (by kernel_rfl))
  f46 := ⟨Tryz.f197.name, by decide, Tryz.func197.trans (congrArg some (by kernel_rfl))⟩
  f47 := Tryz.func193.trans (congrArg some (by kernel_rfl))
  f48 := Tryz.func194.trans (congrArg some (by kernel_rfl))
  f49 := ⟨Tryz.f198.name, by decide, Tryz.func198.trans (congrArg some (by kernel_rfl))⟩
  f50 := ⟨Tryz.f199.name, by decide, Tryz.func199.trans (congrArg some (by kernel_rfl))⟩
  f57 := ⟨Tryz.f204.name, by decide, Tryz.func204.trans (congrArg some (by kernel_rfl))⟩
  t0 := Tryz.underlying0
  a0 := Tryz.isAgg0
  z0 := Tryz.sizeOf0
  v0 := Tryz.zeroValue0
  t3 := Tryz.underlying3
  a3 := Tryz.isAgg3
  z3 := Tryz.sizeOf3
  v3 := Tryz.zeroValue3
  t4 := Tryz.underlying4
  a4 := Tryz.isAgg4
  z4 := Tryz.sizeOf4
  v4 := Tryz.zeroValue4
  t5 := Tryz.underlying5
  a5 := Tryz.isAgg5
  z5 := Tryz.sizeOf5
  v5 := Tryz.zeroValue5
  t9 := Tryz.underlying9
  a9 := Tryz.isAgg9
  z9 := Tryz.sizeOf9
  v9 := Tryz.zeroValue9
  t22 := Tryz.underlying167
  a22 := Tryz.isAgg167
  z22 := Tryz.sizeOf167
  v22 := Tryz.zeroValue167
  t25 := Tryz.underlying200
  a25 := Tryz.isAgg200
  z25 := Tryz.sizeOf200
  v25 := Tryz.zeroValue200
  t39 := Tryz.underlying214
  a39 := Tryz.isAgg214
  z39 := Tryz.sizeOf214
  v39 := Tryz.zeroValue214
  t45 := Tryz.underlying223
  a45 := Tryz.isAgg223
  z45 := Tryz.sizeOf223
  v45 := Tryz.zeroValue223
  t46 := Tryz.underlying224
  a46 := Tryz.isAgg224
  z46 := Tryz.sizeOf224
  v46 := Tryz.zeroValue224
  t50 := Tryz.underlying108
  a50 := Tryz.isAgg108
  z50 := Tryz.sizeOf108
  v50 := Tryz.zeroValue108
  t53 := Tryz.underlying231
  a53 := Tryz.isAgg231
  z53 := Tryz.sizeOf231
  v53 := Tryz.zeroValue231
  t55 := Tryz.underlying29
  a55 := Tryz.isAgg29
  z55 := Tryz.sizeOf29
  v55 := Tryz.zeroValue29
  t66 := Tryz.underlying239
  a66 := Tryz.isAgg239
  z66 := Tryz.sizeOf239
  v66 := Tryz.zeroValue239
  t70 := Tryz.underlying242
  a70 := Tryz.isAgg242
  z70 := Tryz.sizeOf242
  v70 := Tryz.zeroValue242
  t76 := Tryz.underlying247
  a76 := Tryz.isAgg247
  z76 := Tryz.sizeOf247
  v76 := Tryz.zeroValue247
  t77 := Tryz.underlying248
  a77 := Tryz.isAgg248
  z77 := Tryz.sizeOf248
  v77 := Tryz.zeroValue248 }

set_option maxRecDepth 100000 in
set_option maxHeartbeats 1000000 in
theorem closure_any (x y : It) (W : World) : Calls Tryz.prog 133 #[itV x, itV y] W fun e w' => e = .returned (.int .i64 (cfI x y)) ∧ ∃ q os', w' = grow (W.drewN q) os' := by
  unfold itV cfI
  obtain ⟨xn, xi, xs, xt⟩ := x
  obtain ⟨yn, yi, ys, yt⟩ := y
  simp only
  go_enter Tryz.func133, Tryz.ntmps133
  go_upto_region 1 with fail
  refine still_tail 12 (by kernel_rfl) (by kernel_rfl) ?_
  simp only [List.take_succ_cons, List.take_zero, List.drop_succ_cons, List.drop_zero]
  repeat still_step
  still_call (to_still (compare_i xt yt _))
  repeat still_step
  still_call (to_still (compare_i xn yn _))
  repeat still_step
  try refine wpStill_nil ?_
  have hor := fun g w c0 c1 => or_two g (cmpI xt yt) (cmpI xn yn) w c0 c1
  go_wp2_with fail
  refine (hor _ _ (cell_newd (by simp) rfl) (cell_newd (by simp) rfl)).mono ?_
  rintro e w' ⟨rfl, rfl⟩
  go_wp2
  go_ret
  exact ⟨rfl, 1, #[.cells #[.int .i64 xn, .int .u64 xi, .int .i64 xs, .int .i64 xt] 164, .cells #[.int .i64 yn, .int .u64 yi, .int .i64 ys, .int .i64 yt] 164, .cells #[.int .i64 (cmpI xt yt), .int .i64 (cmpI xn yn)] 3], by rw [alloc_eq_grow, alloc_eq_grow, alloc_eq_grow, grow_grow, grow_grow]; rfl⟩
theorem cmp_lays (blk off size : Nat) (w : World) : CmpLays Tryz.prog 133 #[] itC 4 cfI blk off size w :=
  fun _ _ _ _ x y => closure_any x y _
theorem ltOf_iff (x y : It) : ltOf cfI x y = true ↔ Lt x y := by
  unfold ltOf
  rw [decide_eq_true_iff, cfI_lt]
theorem ltOf_not (x y : It) : ltOf cfI x y = false ↔ ¬ Lt x y := by
  rw [← ltOf_iff]; simp
theorem swo : SWO (ltOf cfI) where
  irrefl x := (ltOf_not _ _).2 (Lt.irrefl x)
  trans x y z h k := (ltOf_iff _ _).2 (((ltOf_iff _ _).1 h).trans ((ltOf_iff _ _).1 k))
  ntrans x y z h k := (ltOf_not _ _).2 (Lt.ntrans ((ltOf_not _ _).1 h) ((ltOf_not _ _).1 k))

theorem row_holds {w : World} {base g cap : Nat} {R : List It} (h : w.ownsRow base 164 4 (.slice (some ⟨g, 0, none⟩) R.length cap) R.length (itCells R)) : HoldsK itC 4 w g 0 R.toArray := by
  intro j hj
  rw [size_flatK, List.size_toArray] at hj
  have hi : j / 4 < R.length := by omega
  have e : j / 4 * 4 + j % 4 = j := by omega
  obtain ⟨a, b⟩ := own_cell h j hj
  have c := itCells_get R (j / 4) (j % 4) hi (by omega)
  rw [e] at c
  refine ⟨?_, by rw [Nat.zero_add]; exact b⟩
  rw [Nat.zero_add, a, c, get_flatK _ _ _ _ (by simpa using hj)]
  have e2 : R.toArray[j / 4]! = it R (j / 4) := by rw [it_of hi]; simp [hi]
  rw [e2]
  have hm : j % 4 < (itC (it R (j / 4))).length := by simp [itC]; omega
  rw [List.getElem?_eq_getElem hm, List.getElem!_eq_getElem?_getD, List.getElem?_eq_getElem hm]
  rfl
theorem holds_row {w : World} {g : Nat} {d : Array It} (h : HoldsK itC 4 w g 0 d) : RowAt w g d.toList := by
  intro i hi
  rw [Array.length_toList] at hi
  have e : d[i]! = it d.toList i := by rw [it_of (by simpa using hi)]; simp [hi]
  have k := fun c hc => (h.cell (i := i) (c := c) hi hc).1
  rw [e] at k
  have k0 := k 0 (by omega)
  have k1 := k 1 (by omega)
  have k2 := k 2 (by omega)
  have k3 := k 3 (by omega)
  simp only [Nat.zero_add, Nat.add_zero] at k0 k1 k2 k3
  exact ⟨k0, k1, k2, k3⟩
theorem keep_sort (w : World) (g n : Nat) (d : Array It) (os : Array Obj) : Keep (fun k => k = g) w (sortWorldK itC 4 w g 0 n d os) := by
  have k1 : Keep (fun k => k = g) w (putRowK itC 4 (Sort.ahead w n) g 0 d) := by
    refine ⟨rfl, rfl, rfl, ?_, ?_⟩
    · unfold putRowK
      rw [size_putRow]
      exact Nat.le_refl _
    · intro k hk hne
      unfold putRowK putRow mapBlock
      simp only [Array.getElem?_modify, if_neg (Ne.symm hne)]
      rfl
  unfold sortWorldK
  refine ⟨k1.os, k1.tape, k1.output, ?_, ?_⟩
  · rw [size_grow]
    have := k1.size
    omega
  · intro k hk hne
    rw [heap_grow_old _ _ (Nat.lt_of_lt_of_le hk k1.size)]
    exact k1.block k hk hne

set_option maxRecDepth 100000 in
set_option maxHeartbeats 1000000 in
theorem sort_any {w : World} {base g c : Nat} {R : List It} (h : w.ownsRow base 164 4 (.slice (some ⟨g, 0, none⟩) R.length c) R.length (itCells R)) (hn : (R.map It.n).Nodup) (hsz : R.length < 100000) :
    Calls Tryz.prog 132 #[.slice (some ⟨g, 0, none⟩) R.length c, .func (.func 133) #[] #[]] w fun e w' => e = .returned (.tuple #[]) ∧ ∃ L : List It, L.Perm R ∧ Srt L ∧ RowAt w' g L ∧ Keep (fun k => k = g) w w' := by
  have eg : ∀ args w, (callFunc 133 args).run Tryz.prog w = .ok (.enter 133 args) w := enters_of Tryz.func133 (by kernel_rfl) rfl
  have hb : g < w.heap.size := (own_block h rfl).2.1
  have hcon := AnyQ.slices_SortFunc Tryz.sortIt 4 (fun w => by kernel_rfl) (fun w => by kernel_rfl) itC (fun _ => rfl) (fun x v hv => itC_one x v hv) cfI swo 133 #[] g 0 c R.toArray w eg (cmp_lays g 0 R.toArray.size w) (row_holds h) hb (by simp; omega)
  change Calls Tryz.prog 132 _ _ _ at hcon
  rw [List.size_toArray] at hcon
  refine hcon.mono ?_
  rintro e w' ⟨rfl, d', n, os, hp, hs, rfl⟩
  obtain ⟨p1, p2, p3⟩ := hp
  have hperm : d'.toList.Perm R := by
    have e1 : d'.extract 0 R.length = d' := by rw [show R.length = d'.size from p1.symm]; simp
    have e2 : R.toArray.extract 0 R.length = R.toArray := by simp
    rw [e1, e2] at p3
    simpa using p3
  have hsrt : Srt d'.toList := by
    refine List.pairwise_iff_getElem.2 ?_
    intro i j hi hj hij
    have hj' : j < R.length := by rw [← hperm.length_eq]; exact hj
    have := (ltOf_not _ _).1 (hs i j (Nat.zero_le _) hij hj')
    have hsi : i < d'.size := by simpa using hi
    have hsj : j < d'.size := by simpa using hj
    rw [getElem!_pos d' i hsi, getElem!_pos d' j hsj] at this
    have hnn : (d'.toList.map It.n).Nodup := (hperm.map It.n).nodup_iff.2 hn
    refine Lt.total ?_ (by simpa using this)
    intro he
    have := (List.getElem_inj (i := i) (j := j) (h₀ := by simpa using hi) (h₁ := by simpa using hj) hnn).1 (by simpa using he)
    omega
  refine ⟨rfl, d'.toList, hperm, hsrt, ?_, keep_sort _ _ _ _ _⟩
  refine holds_row ?_
  unfold sortWorldK
  refine holdsK_grow itC 4 _ _ g 0 _ ?_ (holdsK_putRowK itC 4 _ g 0 R.toArray d' (holdsK_ahead itC 4 w n g 0 _ (row_holds h)) p1)
  unfold putRowK
  rw [size_putRow]
  exact hb

end Go.Proofs.YtofonfohaocclaaGreatDoor.Q

namespace Go.Proofs.YtofonfohaocclaaGreatDoor.Q
open Go.RowKit Sh
open Go.ChangeMaps (setBlock)
set_option linter.unusedVariables false

theorem own_made {w : World} {base n : Nat} {e : TypeId} {size : Nat} {v : Value} {xs : List Value} (h : w.ownsRow base e size v n xs) (hv : v ≠ .slice none 0 0) : ∃ g c, v = .slice (some ⟨g, 0, none⟩) n c := by
  rcases h.2 with ⟨rfl, rfl⟩ | ⟨g, cap, cur, rfl, _⟩
  · exact absurd rfl hv
  · exact ⟨g, cap, rfl⟩

theorem own_cap {w : World} {base n g c : Nat} {e : TypeId} {size : Nat} {xs : List Value} (h : w.ownsRow base e size (.slice (some ⟨g, 0, none⟩) n c) n xs) : n ≤ c := by
  rcases h.2 with ⟨e0, rfl⟩ | ⟨g', cap, cur, e0, _, _, h3, _⟩
  · cases e0
  · injection e0 with e1 e2 e3
    omega

structure ItemsIs (w w' : World) (v : Value) (M L : List It) : Prop where
  perm : L.Perm M
  srt : Srt L
  row : ∃ g c, v = .slice (some ⟨g, 0, none⟩) L.length c ∧ w.heap.size ≤ g ∧ L.length ≤ c ∧ RowAt w' g L
  keep : Keep (fun _ => False) w w'

set_option maxRecDepth 100000 in
set_option maxHeartbeats 2000000 in
theorem items_any {w : World} {q : Loc} {mb : Option Nat} {M : List It} (h : IsQ w q mb M) (hM : M.length ≤ 1000) :
    Calls Tryz.prog 95 #[.pointer (some ⟨q.b, q.o, none⟩)] w fun e w' => ∃ v L, e = .returned v ∧ ItemsIs w w' v M L := by
  obtain ⟨i0, hi, hi2⟩ : ∃ i0, Tryz.prog.info? 164 = some i0 ∧ (i0.zero, i0.size, i0.bytes) = (some (.agg #[.int .i64 0, .int .u64 0, .int .i64 0, .int .i64 0]), 4, 32) := by
    have := info164
    rw [Option.map_eq_some_iff] at this
    exact this
  simp only [Prod.mk.injEq] at hi2
  obtain ⟨hz0, hz1, hz2⟩ := hi2
  have Hi := Lib.hid hi
  have Hz0 := Lib.hid hz0
  have Hz1 := Lib.hid hz1
  have Hz2 := Lib.hid hz2
  have H := Lib.hid h
  have c0 := h.c0
  have hlen := h.len 3
  obtain ⟨wm, hmk, hown, hgr⟩ := run_makeSlice_owned (P := Tryz.prog) w w.heap.size 167 164 i0 _ 4 Tryz.underlying167 hi hz0 hz1 .i64 .i64 M.length (by omega) (by rw [hz2]; omega) (by simp only [maxLen]; omega) (Nat.le_refl _)
  have km : Keep (fun _ => False) w wm := (Keep.refl _ w).grown hgr (by simp)
  have c1 := km.cell c0
  obtain ⟨o, M1, hp1, hrg, hit⟩ := h.range km
  have kr : Keep (fun _ => False) w (wm.alloc o) := km.alloc _
  have hw0 : w.heap.size < wm.heap.size := (own_block hown rfl).2.1
  have HO := Lib.hid (own_keepB hown ((Keep.refl (fun _ => False) wm).alloc o) (fun _ _ h => h))
  have HIT := Lib.hid hit
  have KR := Lib.hid kr
  have HP1 := Lib.hid hp1
  have HW0 := Lib.hid hw0
  have LM : Hid (M1.length ≤ 1000) := Lib.hid (by rw [hp1.length_eq]; exact hM)
  clear hi hz0 hz1 hz2 h hown hgr km hit kr hp1 hw0 hM
  go_enter Tryz.func95, Tryz.ntmps95
  go_wp2_with fail
  clear c0 c1 hlen hmk hrg
  go_loopg [3, 5] M1.length (fun n v3 v5 wr => ∃ (R L : List It) (g c : Nat), v3 = .slice (some ⟨g, 0, none⟩) R.length c ∧ wr.ownsRow w.heap.size 164 4 (.slice (some ⟨g, 0, none⟩) R.length c) R.length (itCells R) ∧ ItO wr wm.heap.size mb M1 L ∧ (R ++ L).Perm M1 ∧ n = L.length ∧ Keep (fun _ => False) w wr)
  case atStart => exact ⟨[], M1, w.heap.size, M.length, rfl, HO.out, HIT.out, List.Perm.refl _, rfl, KR.out⟩
  case round =>
    obtain ⟨R, L, g, c, rfl, hown, hit, hp, hn, hk⟩ := hrel
    clear HO HIT KR
    have HQN := Lib.hid hn
    have hRl : R.length + L.length ≤ 1000 := by
      have := hp.length_eq
      rw [List.length_append] at this
      rw [this]
      exact LM.out
    have HRL := Lib.hid hRl
    rcases hit.next 0 with ⟨hL, hnext⟩ | ⟨x, L', hpx, hx, wn, kn, hitn, hnext, hent⟩
    · subst hL
      rw [List.append_nil] at hp
      have hRM := hp.trans HP1.out
      have hnod : (R.map It.n).Nodup := (hRM.map It.n).nodup_iff.2 H.out.nod
      have HS := Lib.hid (sort_any hown hnod (by omega))
      have hg := (own_block hown rfl).1
      have HCP := Lib.hid (own_cap hown)
      have HG := Lib.hid hg
      have HRM := Lib.hid hRM
      have HK := Lib.hid hk
      clear hown hit hp hn hk hnod hRM hg hRl
      go_wp2_with fail
      refine HS.out.mono ?_
      rintro e w2 ⟨rfl, K, hKR, hKs, hrow, hk2⟩
      have E := Lib.hid (show ItemsIs w w2 (.slice (some ⟨g, 0, none⟩) R.length c) M K from ⟨hKR.trans HRM.out, hKs, ⟨g, c, by rw [hKR.length_eq], HG.out, by rw [hKR.length_eq]; exact HCP.out, hrow⟩, HK.out.trans hk2 (fun k hk hlt => by have := HG.out; omega)⟩)
      clear hKR hKs hrow hk2
      go_wp2
      go_ret
      exact ⟨_, K, rfl, E.out⟩
    · obtain ⟨blk, c5, hg5⟩ := own_block hown rfl
      have hgr : g ≠ wm.heap.size := by
        rintro rfl
        obtain ⟨_, _, _, _, h6⟩ := hit.block
        obtain ⟨cc, hcc⟩ := hg5
        rw [hcc] at h6
        cases h6
      have kwn : Keep (fun _ => False) w wn := hk.trans kn (fun k hk hlt => by have := HW0.out; omega)
      have HO := Lib.hid (own_keepB hown kn (fun g' hg' => by
        have e : g = g' := by simpa [Value.ownBlock] using hg'
        subst e
        exact hgr))
      have HIT := Lib.hid hitn
      have KN := Lib.hid kwn
      have HGR := Lib.hid hgr
      have HX := Lib.hid hpx
      have HP := Lib.hid hp
      have HG := Lib.hid blk
      obtain ⟨xn, xi, xs, xt⟩ := x
      have hnext2 : (Instr.next (.pointer (some ⟨wm.heap.size, 0, none⟩)) false 0).run Tryz.prog wr = .ok (.tuple #[.bool true, .int .i64 xn, .agg #[.int .i64 xn, .int .u64 xi, .int .i64 xs, .int .i64 xt]]) wn := hnext
      have hent2 : (Instr.entry (.pointer (some ⟨wm.heap.size, 0, none⟩))).run Tryz.prog wn = .ok (.tuple #[.int .i64 xn, .agg #[.int .i64 xn, .int .u64 xi, .int .i64 xs, .int .i64 xt]]) wn := hent
      clear hown hit hp hn hk hpx hx kn hitn hnext hent blk c5 hg5 kwn hgr hRl
      go_wp2_with (at_builtin; refine wpList_append_own_at _ rfl _ _ 167 rfl w.heap.size 164 i0 (.agg #[.int .i64 0, .int .u64 0, .int .i64 0, .int .i64 0]) 4 32 Tryz.underlying167 Hi.out Hz0.out Hz1.out Hz2.out rfl (by decide) _ _ _ rfl ((HO.out.alloc _).alloc _) ⟨wn.heap.size + 1, 0, none⟩ 1 1 (itCells [⟨xn, xi, xs, xt⟩]) rfl rfl ?c1 ?c2 ?c3 ?c4 ?c5 ?_)
      case c1 =>
        intro j u h
        simpa [itCells, itC] using h
      case c2 => exact itCells_one _
      case c3 => have := HRL.out; simp only [maxLen]; omega
      case c4 => have := HRL.out; omega
      case c5 => have := KN.out.size; simp; omega
      intro v' w' hown hg hni _
      obtain ⟨g', c', rfl⟩ := own_made hown hni
      have hK' : Keep (fun _ => False) w w' := ((KN.out.alloc _).alloc _).grown hg (by
        intro k hk hlt
        have e : g = k := by simpa [Value.ownBlock] using hk
        have := HG.out
        omega)
      have hI' : ItO w' wm.heap.size mb M1 L' := by
        have kg : Keep (fun k => k = g) wn w' := (((Keep.refl _ wn).alloc _).alloc _).grown hg (fun k hk hlt => by
            have e : g = k := by simpa [Value.ownBlock] using hk
            exact e.symm)
        refine HIT.out.keep kg ?_ ?_
        · intro B hB
          subst hB
          have := H.out.blt
          have := HG.out
          omega
        · exact fun e => HGR.out e.symm
      have HO2 : Hid (w'.ownsRow w.heap.size 164 4 (.slice (some ⟨g', 0, none⟩) (R ++ [(⟨xn, xi, xs, xt⟩ : It)]).length c') (R ++ [(⟨xn, xi, xs, xt⟩ : It)]).length (itCells (R ++ [(⟨xn, xi, xs, xt⟩ : It)]))) := by
        rw [List.length_append, itCells_append]; exact Lib.hid hown
      have HI2 := Lib.hid hI'
      have HK2 := Lib.hid hK'
      have HP2 : Hid ((R ++ [(⟨xn, xi, xs, xt⟩ : It)] ++ L').Perm M1) := Lib.hid (by
        rw [List.append_assoc]
        exact ((List.Perm.append_left R HX.out).symm).trans HP.out)
      clear hown hg hni hK' hI'
      go_wp2
      go_roundg L'.length
      case measure =>
        have := HX.out.length_eq
        have := HQN.out
        simp only [List.length_cons] at *
        omega
      case rel => exact ⟨R ++ [⟨xn, xi, xs, xt⟩], L', g', c', by simp, HO2.out, HI2.out, HP2.out, rfl, HK2.out⟩

end Go.Proofs.YtofonfohaocclaaGreatDoor.Q
