/- slices.DeleteFunc of ints, in place. round.Helpers: a copy of the others, without one, shuffled; the first two of it. append of a row that is owned, also of nothing, in a drawn region. A region that draws its order and ends in a store: what holds of the world till that store. -/
import Derived.Test.YtofonfohaocclaaGreatDoorG13
import Derived.Test.YtofonfohaocclaaGreatDoorG14
import Derived.Test.YtofonfohaocclaaGreatDoorG21
import Derived.Shelf.Slices.Clone
import Derived.Test.YtofonfohaocclaaGreatDoorG01
import Derived.Deep.MidRow
import Derived.Laws.OwnMore
import Derived.OrdersHeld
namespace Go.Proofs.YtofonfohaocclaaGreatDoor
open Go.RowKit Sh
open Go.ChangeMaps (setBlock)
set_option linter.unusedVariables false

def i1C (x : Int) : List Value := [.int .i64 x]
theorem flat_i1 (l : List Int) : flat i1C l = intsC l := by
  induction l with
  | nil => rfl
  | cons x l ih => simp only [flat, List.flatMap_cons, i1C, intsC, List.map_cons] at ih ⊢; rw [← ih]; rfl
def SaysI (S : Nat → Prop) (w : World) (kf : Nat) (cap : Array Value) (p : Int → Bool) : Prop :=
  ∀ x W, Keep S w W → Calls Tryz.prog kf (#[.int .i64 x] ++ cap) W fun e w' => e = .returned (.bool (p x)) ∧ Keep (fun _ => False) W w'
theorem zero_it (w : World) : (zeroValue 3).run Tryz.prog w = .ok (.int .i64 0) w := by kernel_rfl
theorem zsize_it : (.int .i64 0 : Value).cells.size = 1 := by simp [Value.cells]
theorem zone_it : ∀ v ∈ (.int .i64 0 : Value).cells, v.oneCell' = true := by simp [Value.cells, Value.oneCell']
set_option maxRecDepth 100000 in
set_option maxHeartbeats 400000 in
theorem delfunc_it {w : World} {v : Value} {l : List Int} (p : Int → Bool) (cp : Value) (hp : ∀ g, v.ownBlock = some g → SaysI (fun b => b = g) w 79 #[cp] p) (hp0 : Says w 79 #[cp] p) (h : Row w 3 1 v l.length (flat i1C l)) (hl : l.length < 4611686018427387904) :
    Calls Tryz.prog 77 #[v, .func (.func 79) #[] #[cp]] w fun e w' => ∃ v', e = .returned v' ∧ v'.ownBlock = v.ownBlock ∧ Row w' 3 1 v' (l.filter fun x => !p x).length (flat i1C (l.filter fun x => !p x)) ∧ Keep (fun b => v.ownBlock = some b) w w' := by
  have hcl := idxfunc_any p 79 (by decide) cp hp0 (by rw [← flat_i1]; exact h) hl
  by_cases hf : l.findIdx p < l.length
  · have hi : fidx p l = ((l.findIdx p : Nat) : Int) := by simp [fidx, hf]
    rw [hi] at hcl
    obtain ⟨g, o, cc, cs, rfl, hrow⟩ := h.pos (by omega)
    have hlc : l.length ≤ cc := hrow.2.1
    have hmx : cc ≤ maxLen := hrow.2.2.1
    have HROW := Lib.hid h
    have HP := Lib.hid (hp g rfl)
    have HL := Lib.hid hl
    clear hp hp0 h hrow hi
    have d1 : decide (((l.findIdx p : Nat) : Int) = -1) = false := decide_eq_false (by omega)
    have d2 : (((l.findIdx p : Nat) : Int) == -1) = false := by rw [beq_eq_false_iff_ne]; omega
    have w1i := wrap_succ (l.findIdx p) (by omega)
    have hfd : ∀ wr, Keep (fun _ => False) w wr → ∃ sz, o + l.length * 1 ≤ sz ∧ o + cc * 1 ≤ sz ∧ DelI i1C 1 p l w g o 3 sz wr (l.findIdx p) (l.findIdx p + 1) := fun wr hk => DelI.start (enc := i1C) (k := 1) (fun _ => rfl) (cc := cc) HROW.out hf hk
    generalize l.findIdx p = i0 at hcl hf d1 d2 w1i hfd
    have HFD := Lib.hid hfd
    have HF := Lib.hid hf
    clear hf hfd
    go_enter Tryz.func77, Tryz.ntmps77
    go_wp2_with fail
    refine hcl.mono ?_
    rintro e wc ⟨rfl, hk1⟩
    obtain ⟨sz, hsz1, hsz2, hDI⟩ := HFD.out wc hk1
    have HDI := Lib.hid hDI
    have HF2 : i0 < l.length := HF.out
    have HK1 := Lib.hid hk1
    clear hk1 hDI HFD hcl
    go_upto_region 5 with fail
    go_loopg [5, 6] (l.length - (i0 + 1)) (fun q v5 v6 wr => ∃ i j : Nat, j + q = l.length ∧ i < j ∧ v5 = .int .i64 (i : Int) ∧ v6 = .int .i64 (j : Int) ∧ DelI i1C 1 p l w g o 3 sz wr i j)
    case atStart => exact ⟨i0, i0 + 1, by omega, by omega, by go_num, by go_num, HDI.out⟩
    case round =>
      obtain ⟨i, j, hq, hij, rfl, rfl, hD⟩ := hrel
      have HD := Lib.hid hD
      have HQ := Lib.hid hq
      have HIJ := Lib.hid hij
      clear HDI
      by_cases hj : j < l.length
      · have e1 : decide ((j : Int) < (l.length : Int)) = true := decide_eq_true (by omega)
        have ej : decide (j < l.length) = true := decide_eq_true hj
        have ei : decide (i < l.length) = true := decide_eq_true (by omega)
        have hil : i < l.length := by omega
        have hcells := fun t u (hu : (i1C l[j])[t]? = some u) => hD.cell hj hu
        have HP1 := HP.out l[j]
        have c0 := hcells 0 _ rfl
        simp only [Nat.add_zero] at c0
        obtain ⟨bx, hbx⟩ : ∃ bx, bx = p l[j] := ⟨_, rfl⟩
        have HYN : Hid (bx = true → ∀ W, DelI i1C 1 p l w g o 3 sz W i j → DelI i1C 1 p l w g o 3 sz W i (j + 1)) := Lib.hid (fun hb W h => h.skip hj (hbx.symm.trans hb))
        have HYJ : Hid (bx = false → ∀ W, DelI i1C 1 p l w g o 3 sz W i j → DelI i1C 1 p l w g o 3 sz (W.setCells g (o + i * 1) (i1C l[j])) (i + 1) (j + 1)) := Lib.hid (fun hb W h => DelI.put (enc := i1C) (p := p) (fun _ => rfl) h hj hsz1 hij (hbx.symm.trans hb))
        rw [← hbx] at HP1
        clear hcells hq hij hD hbx
        generalize l[j] = y at HP1 HYJ c0
        simp only [Nat.mul_one] at c0
        go_wp2_with fail
        have HT2 := Lib.hid (HD.out.there hsz1 hil)
        cases bx
        · refine (HP1 _ HD.out.keep).mono ?_
          rintro e w1 ⟨rfl, hk2⟩
          have HW := Lib.hid (HD.out.keep0 hk2)
          have HT3 : Hid (w1.there g (o + i * 1) 1) := Lib.hid (HW.out.there hsz1 hil)
          clear hk2 c0 HP1
          have HY2 := Lib.hid (HYJ.out rfl w1 HW.out)
          simp only [i1C, World.setCells, Nat.mul_one] at HY2
          obtain ⟨z0, o0⟩ := Option.isSome_iff_exists.1 (HT3.out 0 (by omega)).1
          have f0 := (HT3.out 0 (by omega)).2
          simp only [Nat.add_zero, Nat.mul_one] at o0 f0
          go_wp2
          go_roundg (l.length - (j + 1))
          case measure => have := HQ.out; omega
          case rel => exact ⟨i + 1, j + 1, by have := HQ.out; omega, by have := HIJ.out; omega, by go_num, by go_num, HY2.out⟩
        · refine (HP1 _ HD.out.keep).mono ?_
          rintro e w1 ⟨rfl, hk2⟩
          have HW := Lib.hid (HYN.out rfl _ (HD.out.keep0 hk2))
          clear hk2 c0 HP1
          go_wp2
          go_roundg (l.length - (j + 1))
          case measure => have := HQ.out; omega
          case rel => exact ⟨i, j + 1, by have := HQ.out; omega, by have := HIJ.out; omega, rfl, by go_num, HW.out⟩
      · have hjl : j = l.length := by omega
        have e1 : decide ((j : Int) < (l.length : Int)) = false := decide_eq_false (by omega)
        have ej : decide (j < l.length) = false := decide_eq_false hj
        have hil : i ≤ l.length := by omega
        have hfin : Hid (∀ wf, (∃ cs cs', wr.heap[g]? = some (.cells cs 3 (0, 0)) ∧ wf.heap[g]? = some (.cells cs' 3 (0, 0)) ∧ cs'.size = cs.size ∧ ∀ t, t < o + i * 1 → cs'[t]? = cs[t]?) → Row wf 3 1 (.slice (some ⟨g, o, none⟩) i cc) (l.filter fun x => !p x).length (flat i1C (l.filter fun x => !p x))) := Lib.hid (fun wf h => DelI.fin (enc := i1C) (fun _ => rfl) (hjl ▸ hD) hsz2 (by omega) hmx h)
        obtain ⟨cs1, hh1, hs1, _⟩ := hD.ex
        have hcs1 : o + cc * 1 ≤ cs1.size := by omega
        obtain ⟨wf, hclr, ⟨cs2, hh2, hsz3, hag⟩, hkf⟩ := clear_tail (W := wr) 36 3 0 _ Tryz.underlying36 zero_it (k := 1) zsize_it zone_it hh1 hil hlc hcs1
        have HF2 : Hid (Row wf 3 1 (.slice (some ⟨g, o, none⟩) i cc) (l.filter fun x => !p x).length (flat i1C (l.filter fun x => !p x))) := Lib.hid (hfin.out wf ⟨cs1, cs2, hh1, hh2, hsz3, hag⟩)
        have HKF : Hid (Keep (fun b => b = g) w wf) := Lib.hid (hD.keep.step hkf)
        have hsl := slice_from 36 3 Tryz.underlying36 1 Tryz.sizeOf3 (some ⟨g, o, none⟩) l.length cc (i : Int) (by omega) (by omega) wr
        rw [Int.toNat_natCast] at hsl
        generalize sliced (some ⟨g, o, none⟩) i l.length cc 1 = sv at hsl hclr
        clear hjl hq hij hD hfin hh1 hs1 hcs1 hh2 hsz3 hag hkf hsz1 hsz2
        go_wp2
        go_ret
        exact ⟨_, rfl, rfl, HF2.out, HKF.out.mono fun b h _ => by rw [h]; rfl⟩
  · have hi : fidx p l = -1 := by simp [fidx, hf]
    have HR := Lib.hid h
    have HF : Hid ((l.filter fun x => !p x) = l) := Lib.hid (by
      rw [List.filter_eq_self]
      intro x hx
      cases hpx : p x
      · rfl
      · exact absurd (List.findIdx_lt_length_of_exists ⟨x, hx, hpx⟩) hf)
    rw [hi] at hcl
    clear hi hf hp hp0 h hl
    go_enter Tryz.func77, Tryz.ntmps77
    go_wp2_with fail
    refine hcl.mono ?_
    rintro e w1 ⟨rfl, hk⟩
    have HK := Lib.hid hk
    clear hk hcl
    go_wp2
    go_ret
    exact ⟨v, rfl, rfl, by rw [HF.out]; exact HR.out.keep0 HK.out, HK.out.mono fun _ h _ => h.elim⟩
end Go.Proofs.YtofonfohaocclaaGreatDoor

namespace Go.Proofs.YtofonfohaocclaaGreatDoor
open Go.RowKit Sh Go.Shelf
open Go.ChangeMaps (setBlock)
set_option linter.unusedVariables false

def Tryz.cln_ren : Go.Shelf.Ren := ⟨fun | 15 => 78 | n => n, fun | 22 => 36 | n => n, fun n => n⟩
theorem Tryz.cln : Go.Proofs.Lays2.n15 Tryz.prog Tryz.cln_ren := {
  mixed := by kernel_rfl
  f15 := Tryz.func78.trans (congrArg some (by kernel_rfl))
  t3 := Tryz.underlying3
  a3 := Tryz.isAgg3
  z3 := Tryz.sizeOf3
  v3 := Tryz.zeroValue3
  t4 := Tryz.underlying4
  a4 := Tryz.isAgg4
  z4 := Tryz.sizeOf4
  v4 := Tryz.zeroValue4
  t22 := Tryz.underlying36
  a22 := Tryz.isAgg36
  z22 := Tryz.sizeOf36
  v22 := Tryz.zeroValue36
  i3 := by kernel_rfl }
theorem clone_any {w : World} {v : Value} {l : List Int} (h : Row w 3 1 v l.length (intsC l)) (hl : l.length ≤ 8796093022208) :
    Calls Tryz.prog 78 #[v] w fun e w' => ∃ v', e = .returned v' ∧ Row w' 3 1 v' l.length (intsC l) ∧ (∀ g, v'.ownBlock = some g → w.heap.size ≤ g) ∧ Keep (fun _ => False) w w' := by
  rcases h.2 with ⟨rfl, hx⟩ | ⟨g, o, cap, cs, rfl, hh, hn, hc, hs, htk⟩
  · have hc := Any.slices_Clone_int_nil Tryz.cln 0 0 w
    change Calls Tryz.prog 78 _ _ _ at hc
    refine hc.mono ?_
    rintro e w' ⟨rfl, rfl⟩
    exact ⟨_, rfl, h, (fun g hg => by cases hg), Keep.refl _ _⟩
  · have hc := Any.slices_Clone_int Tryz.cln g o l.length cap l w (Nat.le_refl _) (by omega) (fun j hj => by
      have := h.int_at j hj
      rw [this, List.getD_eq_getElem?_getD, List.getElem?_eq_getElem hj]
      rfl)
    change Calls Tryz.prog 78 _ _ _ at hc
    refine hc.mono ?_
    rintro e w' ⟨v', rfl, ho, _, hb⟩
    rw [List.take_length] at ho
    exact ⟨v', rfl, Row.of_own ho, fun g hg => (own_block ho hg).1, ⟨hb.os, hb.tape, hb.output, hb.size, fun k hk _ => hb.block k hk⟩⟩
set_option maxRecDepth 100000 in
set_option maxHeartbeats 2000000 in
theorem cl79 {w : World} {g0 : Nat} {no : Int} (x1 : w.cell? ⟨g0, 0, none⟩ = some (.int .i64 no)) {S : Nat → Prop} (hS : ¬ S g0) :
    SaysI S w 79 #[.pointer (some ⟨g0, 0, none⟩)] fun k => decide (k = no) := by
  intro x W hk
  have y1 := hk.cellS x1 hS
  have hl : g0 < W.heap.size := World.block_lt_of_cell? W _ y1
  clear x1 hk hS
  show Calls Tryz.prog 79 #[.int .i64 x, .pointer (some ⟨g0, 0, none⟩)] W _
  by_cases h : x = no
  · have HE : Hid (decide (x = no) = true) := Lib.hid (decide_eq_true h)
    have e1 : (x == no) = true := by rw [beq_iff_eq]; exact h
    clear h
    go_enter Tryz.func79, Tryz.ntmps79
    go_wp2
    go_ret
    exact ⟨by rw [HE.out]; rfl, Keep.refl _ _⟩
  · have HE : Hid (decide (x = no) = false) := Lib.hid (decide_eq_false h)
    have e1 : (x == no) = false := by rw [beq_eq_false_iff_ne]; exact h
    clear h
    go_enter Tryz.func79, Tryz.ntmps79
    go_wp2
    go_ret
    exact ⟨by rw [HE.out]; rfl, Keep.refl _ _⟩
theorem slice_hm36 (A : Option Addr) (n c : Nat) (k : Nat) (h2 : k ≤ c) (W : World) :
    (Instr.slice 36 (.slice A n c) none (some (.int .i64 (k : Int))) (some (.int .i64 (k : Int)))).run Tryz.prog W = .ok (.slice A k k) W := by
  have e1 : Tryz.prog.elem 36 = 3 := by simp [Program.elem, Tryz.underlying36]
  rw [run_slice_hm W 36 A n c (by rw [e1]; exact Tryz.underlying36) .i64 .i64 (k : Int) (k : Int) (by omega) (by omega) (by omega)]
  have e2 : (sizeOf (Tryz.prog.elem 36)).run Tryz.prog W = .ok 1 W := by rw [e1, Tryz.sizeOf3]
  rw [e2]
  by_cases hc : k = 0 <;> simp [Result.andThen, sliced, hc, Addr.add]
theorem min2 (n : Nat) : min (2 : Int) (n : Int) = ((min 2 n : Nat) : Int) := by omega
theorem some_fin {w1 : World} {base : Nat} {v1 : Value} {s : List Int} (ho : w1.ownsRow base 3 1 v1 s.length (intsC s)) : ∃ A c, v1 = .slice A s.length c ∧ min 2 s.length ≤ c ∧ Row w1 3 1 (.slice A (min 2 s.length) (min 2 s.length)) (s.take 2).length (intsC (s.take 2)) ∧ ∀ g, (Value.slice A (min 2 s.length) (min 2 s.length)).ownBlock = some g → base ≤ g := by
  obtain ⟨A, c, rfl⟩ := own_shape ho
  have hrow := Row.of_own ho
  have e1 : (s.take 2).length = min 2 s.length := List.length_take
  have e2 : intsC (s.take 2) = (intsC s).take (min 2 s.length) := by
    unfold intsC
    rw [List.map_take]
    by_cases c2 : 2 ≤ s.length
    · rw [Nat.min_eq_left c2]
    · rw [Nat.min_eq_right (by omega), List.take_of_length_le (by simp; omega), List.take_of_length_le (by simp)]
  refine ⟨A, c, rfl, ?_, ?_, fun g hg => ?_⟩
  · rcases hrow.2 with ⟨h1, h2⟩ | ⟨g, o, cap, cs, h1, hh, hn, _⟩
    · injection h1 with _ h1 h2; omega
    · injection h1 with _ h1 h2; omega
  · rw [e1, e2]
    rcases hrow.2 with ⟨h1, h2⟩ | ⟨g, o, cap, cs, h1, hh, hn, hc, hsz, htk⟩
    · injection h1 with h1a h1 h2
      subst h1a
      have : min 2 s.length = 0 := by omega
      rw [this]
      exact ⟨by simp, .inl ⟨rfl, rfl⟩⟩
    · injection h1 with h1a h1 h2
      subst h1a
      subst h2
      refine ⟨by rw [List.length_take]; have := hrow.1; omega, .inr ⟨g, o, _, cs, rfl, hh, Nat.le_refl _, by omega, by omega, ?_⟩⟩
      rw [← htk, List.take_take]
      congr 1
      omega
  · cases A with
    | none => cases hg
    | some a => exact (own_block ho (show (Value.slice (some a) s.length c).ownBlock = some g from hg)).1
set_option maxRecDepth 100000 in
set_option maxHeartbeats 2000000 in
theorem some_any {w : World} {b : Nat} {v : Value} {l L : List Int} (hL : IsLots w b L) (h : Row w 3 1 v l.length (intsC l)) (hl : l.length ≤ 8796093022208) :
    Calls Tryz.prog 80 #[.pointer (some ⟨b, 0, none⟩), v, .int .i64 2] w fun e w' => ∃ v', e = .returned v' ∧ Row w' 3 1 v' ((shufP l L).1.take 2).length (intsC ((shufP l L).1.take 2)) ∧ (∀ g, v'.ownBlock = some g → w.heap.size ≤ g) ∧ IsLots w' b (shufP l L).2 ∧ Keep (fun k => k = b) w w' := by
  have hs := shuffle_any hL h hl
  have hlen : (shufP l L).1.length = l.length := shufL_len _ _ _
  obtain ⟨A0, c0, rfl⟩ := h.shape
  clear hL h
  generalize shufP l L = S at *
  obtain ⟨s, L'⟩ := S
  simp only at hs hlen ⊢
  have HS := Lib.hid hs
  have HLN := Lib.hid hlen
  have d2 : decide ((2 : Int) < 1) = false := by decide
  clear hs hl hlen
  go_enter Tryz.func80, Tryz.ntmps80
  go_wp2_with fail
  refine HS.out.mono ?_
  rintro e w1 ⟨v1, rfl, ho, hL1, hk1⟩
  rw [← HLN.out] at ho
  obtain ⟨A, c, hv1, hkc, hr1, hn1⟩ := some_fin ho
  subst hv1
  have hmin := min2 s.length
  have hsl := slice_hm36 A s.length c (min 2 s.length) hkc
  have HF : Hid (Row w1 3 1 (.slice A (min 2 s.length) (min 2 s.length)) (s.take 2).length (intsC (s.take 2)) ∧ (∀ g, (Value.slice A (min 2 s.length) (min 2 s.length)).ownBlock = some g → w.heap.size ≤ g) ∧ IsLots w1 b L' ∧ Keep (fun k => k = b) w w1) := Lib.hid ⟨hr1, hn1, hL1, hk1⟩
  clear ho hL1 hk1 HS hkc hr1 hn1
  generalize min 2 s.length = k at hmin hsl HF
  go_wp2_with fail
  go_ret
  exact ⟨_, rfl, HF.out⟩
set_option maxRecDepth 100000 in
set_option maxHeartbeats 2000000 in
theorem helpers_any {w : World} {xl : Nat} {v : Value} {l L : List Int} (no : Int) (hL : IsLots w xl L) (h : Row w 3 1 v l.length (intsC l)) (hl : l.length ≤ 8796093022208) :
    Calls Tryz.prog 33 #[v, .int .i64 no, .int .i64 2, .pointer (some ⟨xl, 0, none⟩)] w fun e w' => ∃ v', e = .returned v' ∧ Row w' 3 1 v' (helpersP l no L).1.length (intsC (helpersP l no L).1) ∧ (∀ g, v'.ownBlock = some g → w.heap.size ≤ g) ∧ IsLots w' xl (helpersP l no L).2 ∧ Keep (fun k => k = xl) w w' := by
  have hx := hL.lt
  obtain ⟨w0, hw0⟩ : ∃ w0, w0 = w.alloc (.cells #[.int .i64 no] 3) := ⟨_, rfl⟩
  have k0 : Keep (fun _ => False) w w0 := by rw [hw0]; exact (Keep.refl _ w).alloc _
  have x0 : w0.cell? ⟨w.heap.size, 0, none⟩ = some (.int .i64 no) := by rw [hw0]; exact alc _ _ _ _ _ rfl
  have u0 : w0.heap.size = w.heap.size + 1 := by rw [hw0]; simp
  have hc := clone_any (h.keep0 k0) hl
  have HL0 := Lib.hid (hL.keep0 k0)
  have HP : Hid (helpersP l no L = ((shufP (l.filter fun k => !decide (k = no)) L).1.take 2, (shufP (l.filter fun k => !decide (k = no)) L).2)) := Lib.hid rfl
  have HLL := Lib.hid hl
  have HK0 := Lib.hid k0
  have HX0 := Lib.hid x0
  clear hL h hl k0 x0
  go_enter Tryz.func33, Tryz.ntmps33
  go_upto_region 1 with fail
  rw [← hw0]
  clear hw0
  go_wp2_with fail
  refine hc.mono ?_
  rintro e w1 ⟨v1, rfl, hr1, hn1, hk1⟩
  have x1 := hk1.cell HX0.out
  have hd := delfunc_it (w := w1) (v := v1) (fun k => decide (k = no)) (.pointer (some ⟨w.heap.size, 0, none⟩)) (fun g hg => cl79 x1 (by have := hn1 g hg; omega)) (fun x W hk => cl79 x1 (S := fun _ => False) id x W hk) (by rw [flat_i1]; exact hr1) (by have := HLL.out; omega)
  have HL1 := Lib.hid (HL0.out.keep0 hk1)
  have HK1 := Lib.hid (HK0.out.step hk1)
  have HN1 := Lib.hid hn1
  have HTY : Hid (∀ g, v1.ownBlock = some g → ∃ cs, w1.heap[g]? = some (.cells cs 3 (0, 0))) := Lib.hid (fun g hg => hr1.typed hg)
  have HF : Hid ((l.filter fun k => !decide (k = no)).length ≤ l.length) := Lib.hid (List.length_filter_le _ _)
  clear hr1 hn1 hk1 x1 hc HL0 HK0 HX0
  generalize (l.filter fun k => !decide (k = no)) = l' at hd HP HF
  go_wp2_with fail
  refine hd.mono ?_
  rintro e w2 ⟨v2, rfl, hb2, hr2, hk2⟩
  have hL2 : IsLots w2 xl L := HL1.out.keep hk2 (fun hh => by have := HN1.out _ hh; omega) (fun g cs hg hh => by
    obtain ⟨cs', hg'⟩ := HTY.out _ hh
    rw [hg] at hg'
    cases hg')
  have hs := some_any hL2 (by rw [← flat_i1]; exact hr2) (by have := HF.out; have := HLL.out; omega)
  have HK2 : Hid (Keep (fun k => k = xl) w w2) := Lib.hid ((HK1.out.trans hk2 fun i hi hlt => by have := HN1.out _ hi; omega).mono fun _ h _ => h.elim)
  have HS2 := Lib.hid hk2.size
  clear hd hL2 hr2 hk2 hb2 HL1 HTY HN1
  generalize shufP l' L = S at hs HP
  obtain ⟨s, L'⟩ := S
  simp only at hs HP
  go_wp2_with fail
  refine hs.mono ?_
  rintro e w3 ⟨v3, rfl, hr3, hn3, hl3, hk3⟩
  have HF3 : Hid (Row w3 3 1 v3 (s.take 2).length (intsC (s.take 2)) ∧ (∀ g, v3.ownBlock = some g → w.heap.size ≤ g) ∧ IsLots w3 xl L' ∧ Keep (fun k => k = xl) w w3) := Lib.hid ⟨hr3, fun g hg => by have := hn3 g hg; have := HK2.out.size; omega, hl3, HK2.out.step hk3⟩
  clear hr3 hn3 hl3 hk3 hs
  go_wp2_with fail
  go_ret
  rw [HP.out]
  exact ⟨_, rfl, HF3.out⟩
end Go.Proofs.YtofonfohaocclaaGreatDoor

namespace Go.Proofs.YtofonfohaocclaaGreatDoor
open Go.RowKit Sh
set_option linter.unusedVariables false
section
variable {P : Program}
set_option maxRecDepth 100000 in
set_option maxHeartbeats 4000000 in
theorem step_append_rows {w : World} {ops : Array Oper} {o : Oper} {a : Act} {K : Act → World → Prop} {Q : Exit → Act → World → Prop} {E : Prop} (hgd : o.guard = none) (s x : Operand) (t : TypeId)
    (ho : o.op = .call { callee := .builtin .append, args := #[s, x], argTypes := #[t, t] })
    (base : Nat) (e : TypeId) (i : TypeInfo) (z : Value) (size bytes : Nat) (ht : P.underlying t = some (.slice e)) (hi : P.info? e = some i) (hz : i.zero = some z)
    (hsize : i.size = size) (hby : i.bytes = bytes) (hzs : z.cells.size = size) (hsz : 0 < size)
    (v : Value) (n : Nat) (xs : List Value) (hs : a.eval s = v) (hown : w.ownsRow base e size v n xs)
    (v2 : Value) (base2 m : Nat) (news : List Value) (hx : a.eval x = v2) (hown2 : w.ownsRow base2 e size v2 m news) (h1 : ∀ u ∈ news, u.oneCell' = true)
    (h63 : n + m ≤ maxLen) (hbytes : (n + m) * bytes ≤ 140737488355328) (hbase : base ≤ w.heap.size)
    (h : ∀ v' w', w'.ownsRow base e size v' (n + m) (xs ++ news) → w.grownBy w' v.ownBlock → K (a.put o.dst v') w') :
    if Region.wanted o (yielded ops a.tmps) = true then Oper.wp P o a w K Q else E := by
  rcases hown2.2 with ⟨rfl, rfl⟩ | ⟨g, cap, cur, rfl, hg, hh, hc, hm, hcs, htk⟩
  · have hnews : news = [] := by
      have := hown2.1
      rw [Nat.zero_mul] at this
      exact List.eq_nil_of_length_eq_zero this
    subst hnews
    have hw : Region.wanted o (yielded ops a.tmps) = true := by simp [Region.wanted, hgd]
    rw [if_pos hw]
    have hr := run_append_owned_none (P := P) (w := w) base t o.type e i size ht hi v n xs hown
    unfold Oper.wp execOp
    simp only [ho, resolve, invoke, builtin, Sem.run_bind, Sem.run_pure, Result.andThen_ok, List.map_toArray, List.map_cons, List.map_nil, hs, hx, hr]
    exact h _ _ (by rw [List.append_nil]; exact hown) ⟨rfl, rfl, rfl, Nat.le_refl _, fun _ _ _ => rfl⟩
  · have hl : news.length = m * size := hown2.1
    exact step_append_own hgd s x t ho base e i z size bytes ht hi hz hsize hby hzs hsz v n xs hs hown ⟨g, 0, none⟩ m cap news hx hl (fun j u hu => by
      have hj : j < m * size := by rw [← hl]; exact (List.getElem?_eq_some_iff.1 hu).1
      have := World.ownsRow.cellAt hown2 j hj
      rw [Addr.add_mid, Nat.zero_add, this, hu]) h1 h63 hbytes hbase h
end
end Go.Proofs.YtofonfohaocclaaGreatDoor

namespace Go.Proofs.YtofonfohaocclaaGreatDoor
open Go Go.RowKit
set_option linter.unusedVariables false
section
variable {P : Program} {ops : Array Oper} {Q : Exit → Act → World → Prop} {md : Region.Mode} {S : World → Prop} {s : Nat}

/-- In whatever order the rest comes up: S holds behind each operation, but behind number s, the last one. -/
def Upto (P : Program) (md : Region.Mode) (ops : Array Oper) (Q : Exit → Act → World → Prop) (S : World → Prop) (s : Nat) : Nat → Array Bool → Act → World → Prop
  | 0, L, a, w => Region.ready md ops L = [] ∧ Q .normal a w
  | f + 1, L, a, w => (Region.ready md ops L = [] → Q .normal a w) ∧ ∀ i ∈ Region.ready md ops L, wpOp P ops Q i (fun a' w' => (i = s ∨ S w') ∧ Upto P md ops Q S s f (L.setIfInBounds i true) a' w') a w
theorem Upto.any : ∀ (f : Nat) (L : Array Bool) (a : Act) (w : World), Upto P md ops Q S s f L a w → wpAny P md ops Q f L a w
  | 0, _, _, _, h => h
  | f + 1, _, _, _, h => ⟨h.1, fun i hi => wpOp_mono (fun _ _ g => Upto.any f _ _ _ g.2) (h.2 i hi)⟩
/-- The last one waits for number i. -/
def waitsFor (md : Region.Mode) (ops : Array Oper) (s i : Nat) : Bool := ((ops[s]?).map fun o => o.after.any fun e => Region.binds md e && e.on == i).getD false
theorem not_last {i : Nat} {L : Array Bool} (h : waitsFor md ops s i = true) (hi : L.getD i true = false) : s ∉ Region.ready md ops L := by
  intro hs
  obtain ⟨_, o, ho, hall⟩ := mem_ready.1 hs
  unfold waitsFor at h
  rw [ho] at h
  simp only [Option.map_some, Option.getD_some, Array.any_eq_true', Bool.and_eq_true, beq_iff_eq] at h
  obtain ⟨e, he, hb, hon⟩ := h
  have h1 := hall e he hb
  rw [hon] at h1
  rcases Nat.lt_or_ge i L.size with c | c
  · simp [c] at hi h1; rw [hi] at h1; cases h1
  · simp [Array.getElem?_eq_none c] at h1
theorem Upto.first {i : Nat} {oi : Oper} {v : Value} (hi : ops[i]? = some oi) (hsel : ∀ (j : Nat) (o : Oper) cs b, ops[j]? = some o → o.op ≠ .select cs b)
    (hQ : ∀ c a w, Q (.panic c) (a.put oi.dst v) w → Q (.panic c) a w) (hw : waitsFor md ops s i = true) (f : Nat) :
    ∀ (L : Array Bool) (a : Act) (w : World),
      (∀ j oj, ops[j]? = some oj → j ≠ i → L.getD j true = false → (∀ e ∈ oj.after, Region.binds md e = true → e.on ≠ i) → oi.apart ops oj = true) →
      i ∈ Region.ready md ops L → YieldsIf P ops S oi v a → S w → Upto P md ops Q S s f (L.setIfInBounds i true) (a.put oi.dst v) w → Upto P md ops Q S s (f + 1) L a w := by
  induction f with
  | zero =>
    intro L a w _ hr hy hS H
    refine ⟨fun h => absurd hr (by rw [h]; exact List.not_mem_nil), fun j hj => ?_⟩
    by_cases e : j = i
    · subst e; exact hy.wpOp hi hS ⟨.inr hS, H⟩
    · exact absurd (ready_mono hj e) (by rw [H.1]; exact List.not_mem_nil)
  | succ f ih =>
    intro L a w hfree hr hy hS H
    have hun := (mem_ready.1 hr).1
    refine ⟨fun h => absurd hr (by rw [h]; exact List.not_mem_nil), fun j hj => ?_⟩
    by_cases e : j = i
    · subst e; exact hy.wpOp hi hS ⟨.inr hS, H⟩
    · have hjs : j ≠ s := fun h => not_last hw hun (h ▸ hj)
      obtain ⟨hju, oj, hoj, hall⟩ := mem_ready.1 hj
      have hnot : ∀ g ∈ oj.after, Region.binds md g = true → g.on ≠ i := fun g hg hb heq => by
        have h1 := hall g hg hb
        rw [heq] at h1
        rcases Nat.lt_or_ge i L.size with c | c
        · simp [c] at hun h1; rw [hun] at h1; cases h1
        · simp [Array.getElem?_eq_none c] at h1
      refine wpOp_mono (fun a' w' g => ?_) (wpOp_putIf hoj (hfree j oj hoj e hju hnot) (fun cs b => hsel i oi cs b hi) (fun cs b => hsel j oj cs b hoj) hQ hy (H.2 j (ready_mono hj e)))
      have hS' : S w' := g.2.1.resolve_left hjs
      refine ⟨.inr hS', ih _ a' w' (fun k ok hk hki hku hno => hfree k ok hk hki ?_ hno) (ready_mono hr (Ne.symm e)) g.1 hS' ?_⟩
      · by_cases c : j = k
        · subst c; exact hju
        · rwa [getD_set_ne true c] at hku
      · rw [Array.setIfInBounds_comm _ _ e]
        exact g.2.2
theorem Upto.take {i : Nat} {oi : Oper} {v : Value} {f : Nat} {L : Array Bool} {a : Act} {w : World} (hi : ops[i]? = some oi)
    (hs : Region.noSelect ops = true) (hf : Region.free md ops L i = true) (hr : (Region.ready md ops L).contains i = true) (hw : waitsFor md ops s i = true)
    (hQ : ∀ c a w, Q (.panic c) (a.put oi.dst v) w → Q (.panic c) a w) (hS : S w) (hy : YieldsIf P ops S oi v a)
    (h : Upto P md ops Q S s f (L.setIfInBounds i true) (a.put oi.dst v) w) : Upto P md ops Q S s (f + 1) L a w :=
  Upto.first hi (Region.noSelect_spec hs) hQ hw f L a w (Region.free_spec hi hf) (by simpa using hr) hy hS h
/-- One alone may come up. -/
theorem Upto.one {i : Nat} {o : Oper} {f : Nat} {L : Array Bool} {a : Act} {w : World} (hr : Region.ready md ops L = [i]) (hi : ops[i]? = some o)
    (h : ∀ K : Act → World → Prop, Hid (∀ a' w', (i = s ∨ S w') → Upto P md ops Q S s f (L.setIfInBounds i true) a' w' → K a' w') → if Region.wanted o (yielded ops a.tmps) = true then Oper.wp P o a w K Q else K (a.put o.dst undef) w) :
    Upto P md ops Q S s (f + 1) L a w := by
  refine ⟨fun h0 => absurd h0 (by rw [hr]; simp), fun j hj => ?_⟩
  rw [hr, List.mem_singleton] at hj
  subst hj
  have := h _ (Lib.hid (fun a' w' h1 h2 => (⟨h1, h2⟩ : (j = s ∨ S w') ∧ Upto P md ops Q S s f (L.setIfInBounds j true) a' w')))
  unfold wpOp
  simp only [hi]
  split
  · rename_i hw
    rw [if_pos hw] at this
    exact .inl this
  · rename_i hw
    rw [if_neg hw] at this
    exact this
theorem Upto.done {f : Nat} {L : Array Bool} {a : Act} {w : World} (hr : Region.ready md ops L = []) (h : Q .normal a w) : Upto P md ops Q S s f L a w := by
  cases f with
  | zero => exact ⟨hr, h⟩
  | succ f => exact ⟨fun _ => h, fun i hi => absurd hi (by rw [hr]; exact List.not_mem_nil)⟩
theorem Upto.start {id : Nat} {a : Act} {w : World} (S : World → Prop) (s : Nat) (hm : P.follows .mixedOrders = true)
    (h : Upto P .any ops Q S s ops.size (Array.replicate ops.size false) a w.drew) : (Code.region id ops true).wp P Q a w :=
  wp_region_any hm (h.any _ _ _ _)
end
end Go.Proofs.YtofonfohaocclaaGreatDoor
