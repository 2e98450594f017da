/- round's Left and Join. Rows of elements of some cells each; what a predicate says of them. Rows of elements of some cells each, from which some are deleted in place. slices.IndexFunc and DeleteFunc at Watch. (Printed by mkel.py.) -/
import Derived.Test.YtofonfohaocclaaGreatDoorG13
import Derived.Deep.MidRow
namespace Go.Proofs.YtofonfohaocclaaGreatDoor
open Go.RowKit Sh
open Go.ChangeMaps (setBlock)
set_option linter.unusedVariables false

theorem IsLots.not_row {w : World} {b : Nat} {L : List Int} (h : IsLots w b L) {e : TypeId} (ht : e ≠ 95) {k : Nat} {u : Value} {n : Nat} {xs : List Value} (hr : Row w e k u n xs) (g : Nat) (hg : u.ownBlock = some g) : ¬ g = b := by
  rintro rfl
  obtain ⟨cs, hc⟩ := hr.typed hg
  obtain ⟨⟨v, h1, _⟩, _⟩ := h
  rw [h1] at hc
  cases hc
  exact ht rfl

set_option maxRecDepth 100000 in
set_option maxHeartbeats 1000000 in
theorem rleft_any {w : World} {q : Loc} {v : Value} {l : List Int} (hq : At w q v) (h : Row w 3 1 v l.length (intsC l)) (hl : l.length ≤ 8796093022208) :
    Calls Tryz.prog 122 #[.pointer (some ⟨q.b, q.o, none⟩)] w fun e w' => ∃ g, e = .returned (.slice (some ⟨g, 0, none⟩) l.length l.length) ∧ w.heap.size ≤ g ∧ w'.heap[g]? = some (.cells (intsC l).toArray 3 (0, 0)) ∧ Keep (fun _ => False) w w' := by
  obtain ⟨A, c, rfl⟩ := h.shape
  have hmk := fun W => make_one 36 3 (.int .i64 0) 8 Tryz.underlying36 info3 (by omega) #[.int .i64 0] rfl l.length (by omega) hl W
  have K2 := (Keep.refl (fun _ => False) w).alloc (.cells (madeCells #[.int .i64 0] l.length) 3)
  have hg2 := heap_alloc_new w (.cells (madeCells #[.int .i64 0] l.length) 3)
  obtain ⟨W3, hcp, h3, k3⟩ := copy_full 36 3 Tryz.underlying36 size3 hg2 (size_madeCells _ _) l.length (h.keep0 K2) (one_ints l) 3
  have c0 := hq.c0
  have c1 := K2.cell c0
  have H3 := Lib.hid h3
  have K3 := Lib.hid (K2.trans k3 (fun i hi hlt => absurd hi (by omega)))
  clear h3 k3 K2 hg2 hq h
  go_enter Tryz.func122, Tryz.ntmps122
  go_wp2
  go_ret
  exact ⟨_, rfl, Nat.le_refl _, H3.out, K3.out⟩

def joinP (left : List Int) (node : Int) (L : List Int) : List Int × List Int :=
  if node ∈ left then (left, L) else (insL left (belowN (left.length + 1) L) node, belowL (left.length + 1) L)

set_option maxRecDepth 100000 in
set_option maxHeartbeats 2000000 in
theorem join_round {w : World} {q : Loc} {vl : Value} {xl : Nat} {left L : List Int} (node : Int) (hq : At w q vl) (hl : Row w 3 1 vl left.length (intsC left)) (hL : IsLots w xl L)
    (hqx : q.b ≠ xl) (ht : q.t ≠ 3 ∧ q.t ≠ 29) (n1 : left.length ≤ 8796093022208) :
    Calls Tryz.prog 76 #[.pointer (some ⟨q.b, q.o, none⟩), .int .i64 node, .pointer (some ⟨xl, 0, none⟩)] w fun e w' => e = .returned (.tuple #[]) ∧ ∃ v', At w' (q.to v') v' ∧ Row w' 3 1 v' (joinP left node L).1.length (intsC (joinP left node L).1) ∧ (v'.ownBlock = vl.ownBlock ∨ ∃ g, v'.ownBlock = some g ∧ w.heap.size ≤ g) ∧ IsLots w' xl (joinP left node L).2 ∧ Keep (fun k => k = q.b ∨ k = xl) w w' := by
  obtain ⟨A, c, rfl⟩ := hl.shape
  have hc := contains_any node hl (by omega)
  have c0 := hq.c0
  by_cases hm : node ∈ left
  · have hj : joinP left node L = (left, L) := if_pos hm
    have hd : decide (node ∈ left) = true := decide_eq_true hm
    rw [hj]
    rw [hd] at hc
    have Q := Lib.hid hq
    have R := Lib.hid hl
    have LL := Lib.hid hL
    clear hq hl hL hj hm hd
    go_enter Tryz.func76, Tryz.ntmps76
    go_wp2_with fail
    refine hc.mono ?_
    rintro e w' ⟨rfl, rfl⟩
    go_wp2
    refine bodyPost_ret (results_none rfl _ _ _) rfl ?_
    exact ⟨rfl, _, by rw [Loc.to_self Q.out.here_]; exact Q.out, R.out, .inl rfl, LL.out, Keep.refl _ _⟩
  · have hj : joinP left node L = (insL left (belowN (left.length + 1) L) node, belowL (left.length + 1) L) := if_neg hm
    have hd : decide (node ∈ left) = false := decide_eq_false hm
    rw [hj]
    rw [hd] at hc
    have hbl := belowN_lt (left.length + 1) L (by omega)
    have hcb := below_any hL (left.length + 1) (by omega)
    have wi : wrap64 ((left.length : Int) + 1) = ((left.length : Int) + 1) := by unfold wrap64; omega
    have wi2 : ((left.length : Int) + 1) = ((left.length + 1 : Nat) : Int) := by omega
    generalize belowN (left.length + 1) L = k at hbl hcb ⊢
    have HBL := Lib.hid hbl
    have Q := Lib.hid hq
    have R := Lib.hid hl
    have HWI := Lib.hid wi2
    have HQX := Lib.hid hqx
    have HNR := Lib.hid (hL.not_row (by decide) hl)
    clear hq hl hL hj hm hd wi2 hbl hqx
    go_enter Tryz.func76, Tryz.ntmps76
    go_wp2_with fail
    refine hc.mono ?_
    rintro e w' ⟨rfl, hw⟩
    have hw := hw.symm
    subst hw
    go_wp2_with fail
    rw [HWI.out]
    refine hcb.mono ?_
    rintro e w1 ⟨rfl, hL1, hk1⟩
    have Q1 := Q.out.keep hk1 HQX.out
    have R1 := R.out.keep hk1 HNR.out
    have hlc := rleft_any Q1 R1 n1
    have c1 := Q1.c0
    have HQ1 := Lib.hid Q1
    have HR1 := Lib.hid R1
    have HL1 := Lib.hid hL1
    have HK1 := Lib.hid hk1
    clear Q1 R1 hL1 hk1 Q R hc hcb c0
    go_wp2_with fail
    refine hlc.mono ?_
    rintro e w2 ⟨g, rfl, hg0, hg, hk2⟩
    have ka := (Keep.refl (fun _ => False) w2).alloc (.cells #[.int .i64 node] 3)
    have hg3 := ka.old hg id
    have hins := insert_any k node (by have := HBL.out; omega) n1 hg3 (vb := w2.heap.size) (by simp)
    have K3 := Lib.hid (hk2.step ka)
    clear hk2 ka hg hg3 hlc
    go_wp2_with fail
    refine hins.mono ?_
    rintro e w3 ⟨v3, rfl, hr3, ⟨g3, hb3, hb4⟩, hk3⟩
    obtain ⟨A3, c3, rfl⟩ := hr3.shape
    have K4 := K3.out.step hk3
    have Q4 := HQ1.out.keep0 K4
    have L4 := HL1.out.keep0 K4
    have f4 := Q4.fr
    have c4 := Q4.c0
    have HQ4 := Lib.hid Q4
    have HL4 := Lib.hid L4
    have HK4 := Lib.hid K4
    have HR3 := Lib.hid hr3
    have HB3 := Lib.hid hb3
    have HB4 := Lib.hid (show w.heap.size ≤ g3 by
      have h1 := HK1.out.size
      have h2 := K3.out.size
      simp at h2 hb4
      omega)
    clear K4 Q4 L4 hr3 hk3 hb3 hb4
    go_wp2
    go_end0
    have K := (Keep.refl (fun k => k = q.b) w3).setAt q.o (.slice A3 (left.length + 1) c3)
    refine ⟨rfl, _, HQ4.out.set _, ?_, .inr ⟨g3, HB3.out, HB4.out⟩, HQ4.out.lots ht.2 HL4.out HQX.out K, ?_⟩
    · have := HR3.out.keep K (HQ4.out.not_row ht.1 HR3.out)
      rwa [insL_len]
    · exact ((HK1.out.mono (T := fun k => k = q.b ∨ k = xl) (fun _ h _ => .inr h)).step (HK4.out.mono fun _ h _ => h.elim)).step (K.mono fun _ h _ => .inl h)
end Go.Proofs.YtofonfohaocclaaGreatDoor

namespace Go.Proofs.YtofonfohaocclaaGreatDoor
open Go.RowKit Sh
open Go.ChangeMaps (setBlock)
set_option linter.unusedVariables false

section
variable {α : Type}
def flat (enc : α → List Value) (l : List α) : List Value := l.flatMap enc
theorem flat_len {k : Nat} (enc : α → List Value) (he : ∀ x, (enc x).length = k) : ∀ l : List α, (flat enc l).length = l.length * k
  | [] => by simp [flat]
  | x :: l => by
    have := flat_len enc he l
    simp only [flat, List.flatMap_cons, List.length_append, List.length_cons] at this ⊢
    rw [this, he, Nat.add_mul]
    omega
theorem flat_at {k : Nat} (enc : α → List Value) (he : ∀ x, (enc x).length = k) : ∀ {l : List α} {i : Nat} (hi : i < l.length) {t : Nat} {u : Value}, (enc l[i])[t]? = some u → (flat enc l)[i * k + t]? = some u
  | [], i, hi, _, _, _ => absurd hi (by simp)
  | x :: l, 0, _, t, u, h => by
    have ht : t < (enc x).length := (List.getElem?_eq_some_iff.1 h).1
    simp only [flat, List.flatMap_cons, Nat.zero_mul, Nat.zero_add]
    rw [List.getElem?_append_left ht]
    exact h
  | x :: l, i + 1, hi, t, u, h => by
    have := flat_at enc he (l := l) (i := i) (by simpa using hi) (t := t) (u := u) (by simpa using h)
    simp only [flat, List.flatMap_cons]
    rw [List.getElem?_append_right (by rw [he, Nat.add_mul]; omega), he, show (i + 1) * k + t - k = i * k + t by rw [Nat.add_mul]; omega]
    exact this
def SaysS (S : Nat → Prop) (enc : α → List Value) (w : World) (kf : Nat) (cap : Array Value) (p : α → Bool) : Prop :=
  ∀ x W, Keep S w W → Calls Tryz.prog kf (#[.agg (enc x).toArray] ++ cap) W fun e w' => e = .returned (.bool (p x)) ∧ Keep (fun _ => False) W w'
theorem SaysS.mono {S T : Nat → Prop} {enc : α → List Value} {w : World} {kf : Nat} {cap : Array Value} {p : α → Bool} (h : SaysS T enc w kf cap p) (hs : ∀ k, S k → T k) : SaysS S enc w kf cap p :=
  fun x W hk => h x W (hk.mono fun k h _ => hs k h)
theorem SaysS.from {S : Nat → Prop} {enc : α → List Value} {w w1 : World} {kf : Nat} {cap : Array Value} {p : α → Bool} (h : SaysS S enc w kf cap p) (hk : Keep S w w1) : SaysS S enc w1 kf cap p :=
  fun x W k => h x W (hk.step k)
def fidxG (p : α → Bool) (l : List α) : Int := if l.findIdx p < l.length then (l.findIdx p : Nat) else -1
end
end Go.Proofs.YtofonfohaocclaaGreatDoor

namespace Go.Proofs.YtofonfohaocclaaGreatDoor
open Go.RowKit Sh
open Go.ChangeMaps (setBlock)
set_option linter.unusedVariables false

theorem wrap_succ (n : Nat) (h : n < 4611686018427387904) : wrap64 ((n : Int) + 1) = (n : Int) + 1 := by unfold wrap64; omega
section
variable {α : Type}
theorem flat_append (enc : α → List Value) (a b : List α) : flat enc (a ++ b) = flat enc a ++ flat enc b := by simp [flat]
theorem flat_one (enc : α → List Value) (a : α) : flat enc [a] = enc a := by simp [flat]
theorem setL_out (vs : List Value) (cs : Array Value) (o i : Nat) (h : i < o ∨ o + vs.length ≤ i) : (setL cs o vs)[i]? = cs[i]? := by
  by_cases hi : i < cs.size
  · rw [setL_get vs cs o i hi, if_neg (show ¬ (o ≤ i ∧ i < o + vs.length) by omega)]
  · rw [Array.getElem?_eq_none (xs := cs) (by omega), Array.getElem?_eq_none (by rw [setL_size]; omega)]
theorem setL_in (vs : List Value) (cs : Array Value) (o t : Nat) (h : t < vs.length) (hs : o + vs.length ≤ cs.size) : (setL cs o vs)[o + t]? = vs[t]? := by
  rw [setL_get vs cs o (o + t) (by omega), if_pos (show o ≤ o + t ∧ o + t < o + vs.length by omega), show o + t - o = t by omega]
theorem take_of_cells {cs : Array Value} {o m : Nat} {xs : List Value} (hl : xs.length = m) (hs : o + m ≤ cs.size) (h : ∀ t, t < m → cs[o + t]? = xs[t]?) : (cs.toList.drop o).take m = xs := by
  apply List.ext_getElem?
  intro t
  by_cases ht : t < m
  · rw [List.getElem?_take_of_lt ht, List.getElem?_drop, ← h t ht]; simp
  · rw [List.getElem?_eq_none (by simp; omega), List.getElem?_eq_none (by omega)]
theorem cells_of_take {cs : Array Value} {o m : Nat} {xs : List Value} (h : (cs.toList.drop o).take m = xs) (t : Nat) (ht : t < m) : cs[o + t]? = xs[t]? := by
  rw [← h, List.getElem?_take_of_lt ht, List.getElem?_drop]; simp
structure DelI (enc : α → List Value) (k : Nat) (p : α → Bool) (l : List α) (w : World) (g o E sz : Nat) (wr : World) (i j : Nat) : Prop where
  ex : ∃ cs, wr.heap[g]? = some (.cells cs E (0, 0)) ∧ cs.size = sz ∧ (cs.toList.drop o).take (i * k) = flat enc ((l.take j).filter fun x => !p x) ∧ ∀ m (hm : m < l.length), j ≤ m → ∀ t u, (enc l[m])[t]? = some u → cs[o + (m * k + t)]? = some u
  num : i = ((l.take j).filter fun x => !p x).length
  keep : Keep (fun b => b = g) w wr
theorem DelI.cell {enc : α → List Value} {k : Nat} {p : α → Bool} {l : List α} {w wr : World} {g o E sz i j : Nat} (h : DelI enc k p l w g o E sz wr i j) (hj : j < l.length) {t : Nat} {u : Value} (hu : (enc l[j])[t]? = some u) : wr.cell? ⟨g, o + j * k + t, none⟩ = some u := by
  obtain ⟨cs, h1, h2, h3, h4⟩ := h.ex
  have := h4 j hj (Nat.le_refl _) t u hu
  rw [show o + j * k + t = o + (j * k + t) by omega]
  simp only [World.cell?, h1]
  exact this
theorem DelI.keep0 {enc : α → List Value} {k : Nat} {p : α → Bool} {l : List α} {w wr w1 : World} {g o E sz i j : Nat} (h : DelI enc k p l w g o E sz wr i j) (hk : Keep (fun _ => False) wr w1) : DelI enc k p l w g o E sz w1 i j := by
  obtain ⟨cs, h1, h2⟩ := h.ex
  exact ⟨⟨cs, hk.old h1 (fun h => h), h2⟩, h.num, h.keep.trans hk fun _ h _ => h.elim⟩
theorem filter_take_succ (p : α → Bool) (l : List α) (j : Nat) (hj : j < l.length) : (l.take (j + 1)).filter p = (l.take j).filter p ++ if p l[j] then [l[j]] else [] := by
  rw [List.take_succ_eq_append_getElem hj, List.filter_append]
  congr 1
  cases h : p l[j] <;> simp [h]
theorem DelI.skip {enc : α → List Value} {k : Nat} {p : α → Bool} {l : List α} {w wr : World} {g o E sz i j : Nat} (h : DelI enc k p l w g o E sz wr i j) (hj : j < l.length) (hp : p l[j] = true) : DelI enc k p l w g o E sz wr i (j + 1) := by
  have e := filter_take_succ (fun x => !p x) l j hj
  rw [hp] at e
  simp only [Bool.not_true, Bool.false_eq_true, if_false, List.append_nil] at e
  obtain ⟨cs, h1, h2, h3, h4⟩ := h.ex
  exact ⟨⟨cs, h1, h2, by rw [e]; exact h3, fun m hm hjm => h4 m hm (by omega)⟩, by rw [e]; exact h.num, h.keep⟩
theorem DelI.put {enc : α → List Value} {k : Nat} {p : α → Bool} {l : List α} {w wr : World} {g o E sz i j : Nat} (he : ∀ x, (enc x).length = k) (h : DelI enc k p l w g o E sz wr i j) (hj : j < l.length) (hs : o + l.length * k ≤ sz) (hij : i < j) (hp : p l[j] = false) :
    DelI enc k p l w g o E sz (wr.setCells g (o + i * k) (enc l[j])) (i + 1) (j + 1) := by
  have e := filter_take_succ (fun x => !p x) l j hj
  rw [hp] at e
  simp only [Bool.not_false, if_true] at e
  obtain ⟨cs, h1, h2, h3, h4⟩ := h.ex
  have hn := h.num
  have hik : (i + 1) * k ≤ j * k := Nat.mul_le_mul_right k hij
  have hjk : (j + 1) * k ≤ l.length * k := Nat.mul_le_mul_right k hj
  rw [Nat.add_mul, Nat.one_mul] at hik hjk
  have hlen := flat_len enc he ((l.take j).filter fun x => !p x)
  rw [← hn] at hlen
  refine ⟨⟨_, heap_setCells (w := wr) _ _ _ _ h1, by rw [setL_size]; exact h2, ?_, ?_⟩, by rw [e, List.length_append, ← hn]; rfl, keep_setCells (S := fun b => b = g) (fun _ => rfl) _ _ _ h.keep⟩
  · rw [e, flat_append, flat_one, Nat.add_mul, Nat.one_mul]
    refine take_of_cells (by rw [List.length_append, hlen, he]) (by rw [setL_size]; omega) fun t ht => ?_
    by_cases c : t < i * k
    · rw [setL_out _ _ _ _ (by omega), List.getElem?_append_left (by omega)]
      exact cells_of_take h3 t c
    · rw [List.getElem?_append_right (by omega), hlen, show o + t = o + i * k + (t - i * k) by omega, setL_in _ _ _ _ (by rw [he]; omega) (by rw [he]; omega)]
  · intro m hm hjm t u hu
    have ht : t < (enc l[m]).length := (List.getElem?_eq_some_iff.1 hu).1
    have hmk : (j + 1) * k ≤ m * k := Nat.mul_le_mul_right k hjm
    rw [Nat.add_mul, Nat.one_mul] at hmk
    rw [setL_out _ _ _ _ (by rw [he]; omega)]
    exact h4 m hm (by omega) t u hu
theorem find_take (p : α → Bool) (l : List α) (hf : l.findIdx p < l.length) : (l.take (l.findIdx p + 1)).filter (fun x => !p x) = l.take (l.findIdx p) := by
  have hx : p l[l.findIdx p] = true := List.findIdx_getElem (w := hf)
  rw [filter_take_succ _ _ _ hf, hx]
  simp only [Bool.not_true, Bool.false_eq_true, if_false, List.append_nil]
  rw [List.filter_eq_self]
  intro x hx
  obtain ⟨t, ht, rfl⟩ := List.getElem_of_mem hx
  have hlt : t < l.findIdx p := by simp at ht; omega
  have := List.not_of_lt_findIdx hlt
  simpa using this
theorem DelI.start {enc : α → List Value} {k : Nat} {p : α → Bool} {l : List α} {w wr : World} {g o E cc : Nat} (he : ∀ x, (enc x).length = k) (h : Row w E k (.slice (some ⟨g, o, none⟩) l.length cc) l.length (flat enc l)) (hf : l.findIdx p < l.length) (hk : Keep (fun _ => False) w wr) :
    ∃ sz, o + l.length * k ≤ sz ∧ o + cc * k ≤ sz ∧ DelI enc k p l w g o E sz wr (l.findIdx p) (l.findIdx p + 1) := by
  obtain ⟨g1, o1, c1, cs, hv, hh, h1, h2, h3, h4⟩ := h.pos (by omega)
  cases hv
  have hlc : l.length * k ≤ cc * k := Nat.mul_le_mul_right k h1
  refine ⟨cs.size, by omega, h3, ⟨cs, hk.old hh (fun h => h), rfl, ?_, ?_⟩, ?_, hk.mono fun _ h _ => h.elim⟩
  · rw [find_take p l hf]
    have hfk : l.findIdx p * k ≤ l.length * k := Nat.mul_le_mul_right k (by omega)
    have e : flat enc l = flat enc (l.take (l.findIdx p)) ++ flat enc (l.drop (l.findIdx p)) := by rw [← flat_append, List.take_append_drop]
    have hlen : (flat enc (l.take (l.findIdx p))).length = l.findIdx p * k := by rw [flat_len enc he, List.length_take]; congr 1; omega
    refine take_of_cells hlen (by omega) fun t ht => ?_
    rw [cells_of_take h4 t (by omega), e, List.getElem?_append_left (by omega)]
  · intro m hm hjm t u hu
    have ht : t < (enc l[m]).length := (List.getElem?_eq_some_iff.1 hu).1
    have hmk : (m + 1) * k ≤ l.length * k := Nat.mul_le_mul_right k hm
    rw [Nat.add_mul, Nat.one_mul] at hmk
    rw [he] at ht
    rw [cells_of_take h4 _ (by omega)]
    exact flat_at enc he hm hu
  · rw [find_take p l hf, List.length_take]; omega
theorem DelI.fin {enc : α → List Value} {k : Nat} {p : α → Bool} {l : List α} {w wr wf : World} {g o E sz i cc : Nat} (he : ∀ x, (enc x).length = k) (h : DelI enc k p l w g o E sz wr i l.length) (hc : o + cc * k ≤ sz) (hic : i ≤ cc) (hcm : cc ≤ maxLen)
    (hf : ∃ cs cs', wr.heap[g]? = some (.cells cs E (0, 0)) ∧ wf.heap[g]? = some (.cells cs' E (0, 0)) ∧ cs'.size = cs.size ∧ ∀ t, t < o + i * k → cs'[t]? = cs[t]?) :
    Row wf E k (.slice (some ⟨g, o, none⟩) i cc) (l.filter fun x => !p x).length (flat enc (l.filter fun x => !p x)) := by
  obtain ⟨cs, h1, h2, h3, _⟩ := h.ex
  obtain ⟨cs0, cs', a1, a2, a3, a4⟩ := hf
  rw [h1] at a1
  cases a1
  have hn := h.num
  rw [List.take_of_length_le (Nat.le_refl _)] at hn h3
  have hik : i * k ≤ cc * k := Nat.mul_le_mul_right k hic
  refine ⟨by rw [flat_len enc he], .inr ⟨g, o, cc, cs', by rw [← hn], a2, by omega, hcm, by omega, ?_⟩⟩
  rw [← hn]
  refine take_of_cells (by rw [flat_len enc he, ← hn]) (by omega) fun t ht => ?_
  rw [a4 _ (by omega)]
  exact cells_of_take h3 t ht
theorem there_of_block {w : World} {b : Nat} {C : Array Value} {t : TypeId} (hb : w.heap[b]? = some (.cells C t (0, 0))) {o n : Nat} (h : o + n ≤ C.size) : w.there b o n := fun j hj => by
  have : o + j < C.size := by omega
  constructor
  · simp [World.cell?, hb, this]
  · simp [World.frozen?, hb]
theorem DelI.there {enc : α → List Value} {k : Nat} {p : α → Bool} {l : List α} {w wr : World} {g o E sz i j : Nat} (h : DelI enc k p l w g o E sz wr i j) (hs : o + l.length * k ≤ sz) (hi : i < l.length) : wr.there g (o + i * k) k := by
  obtain ⟨cs, h1, h2, _⟩ := h.ex
  have : (i + 1) * k ≤ l.length * k := Nat.mul_le_mul_right k hi
  rw [Nat.add_mul, Nat.one_mul] at this
  exact there_of_block h1 (by omega)
end
theorem zero_cells_one (zs : Array Value) (h1 : ∀ v ∈ zs, v.oneCell' = true) (n : Nat) : ∀ v ∈ (Builtin.zeroCells zs n).toList, v.oneCell' = true := by
  intro v hv
  simp only [Builtin.zeroCells, Array.toList_map, List.mem_map] at hv
  obtain ⟨i, hi, rfl⟩ := hv
  have hpos : 0 < zs.size := by
    rcases Nat.eq_zero_or_pos zs.size with h | h
    · simp [h] at hi
    · exact h
  have hlt : i % zs.size < zs.size := Nat.mod_lt _ hpos
  rw [getElem!_pos zs _ hlt]
  exact h1 _ (Array.getElem_mem hlt)
theorem zero_cells_len (zs : Array Value) (n : Nat) : (Builtin.zeroCells zs n).toList.length = n * zs.size := by
  unfold Builtin.zeroCells
  rw [Array.toList_map, List.length_map, Array.length_toList, Array.size_range]
/-- clear(s[i:]) of a row. -/
theorem clear_tail {W : World} (sT e ty : TypeId) (z : Value) (ht : Tryz.prog.underlying sT = some (.slice e)) (hv : ∀ w, (zeroValue e).run Tryz.prog w = .ok z w) {k : Nat} (hzs : z.cells.size = k) (h1 : ∀ v ∈ z.cells, v.oneCell' = true)
    {g o i n c : Nat} {cs : Array Value} (hh : W.heap[g]? = some (.cells cs e (0, 0))) (hi : i ≤ n) (hn : n ≤ c) (hs : o + c * k ≤ cs.size) :
    ∃ W', (Builtin.clear_ #[sT] ty #[sliced (some ⟨g, o, none⟩) i n c k]).run Tryz.prog W = .ok (.tuple #[]) W' ∧ (∃ cs', W'.heap[g]? = some (.cells cs' e (0, 0)) ∧ cs'.size = cs.size ∧ ∀ t, t < o + i * k → cs'[t]? = cs[t]?) ∧ Keep (fun b => b = g) W W' := by
  by_cases h : i = n
  · subst h
    refine ⟨W, ?_, ⟨cs, hh, rfl, fun _ _ => rfl⟩, Keep.refl _ _⟩
    unfold sliced
    rw [Nat.sub_self]
    by_cases hc : c = i
    · rw [if_pos hc]
      simp [Builtin.clear_, run_underlying ht]
    · rw [if_neg hc]
      simp [Builtin.clear_, run_underlying ht]
  · have hik : i * k + (n - i) * k = n * k := by rw [← Nat.add_mul, Nat.add_sub_cancel' hi]
    have hnk : n * k ≤ c * k := Nat.mul_le_mul_right k hn
    have hlen : (Builtin.zeroCells z.cells (n - i)).toList.length = (n - i) * k := by rw [zero_cells_len, hzs]
    have hst := run_storeCells_at (P := Tryz.prog) g (o + i * k) e (Builtin.zeroCells z.cells (n - i)).toList 0 cs W hh (by rw [hlen]; omega) (zero_cells_one _ h1 _)
    have ea : sliced (some ⟨g, o, none⟩) i n c k = .slice (some ⟨g, o + i * k, none⟩) (n - i) (c - i) := by
      unfold sliced
      rw [if_neg (by omega)]
      simp [Addr.add]
    simp only [Nat.add_zero] at hst
    generalize hR : (List.take (o + i * k) cs.toList ++ (Builtin.zeroCells z.cells (n - i)).toList ++ List.drop (o + i * k + (Builtin.zeroCells z.cells (n - i)).toList.length) cs.toList).toArray = R at hst
    refine ⟨W.setRow g R, ?_, ⟨R, setRow_heap W g cs _ e _ hh, ?_, ?_⟩, ⟨rfl, rfl, rfl, by simp [World.setRow], fun j _ hj => setRow_other W g j _ hj⟩⟩
    · rw [ea]
      obtain ⟨m, hm⟩ : ∃ m, n - i = m + 1 := ⟨n - i - 1, by omega⟩
      rw [hm] at hst ⊢
      simp [Builtin.clear_, run_underlying ht, hv, hst]
    · rw [← hR]
      simp only [List.size_toArray, List.length_append, List.length_take, List.length_drop, hlen, Array.length_toList]; omega
    · intro t ht
      have : t < cs.size := by omega
      rw [← hR, List.getElem?_toArray, List.append_assoc, List.getElem?_append_left (by simp; omega), List.getElem?_take_of_lt (by omega)]
      simp
end Go.Proofs.YtofonfohaocclaaGreatDoor

namespace Go.Proofs.YtofonfohaocclaaGreatDoor
open Go.RowKit Sh
open Go.ChangeMaps (setBlock)
set_option linter.unusedVariables false

structure Wt where
  n : Int
  s : Int
  a : Int
  h : Bool
def wtC (x : Wt) : List Value := [.int .i64 x.n, .int .u64 x.s, .int .u64 x.a, .bool x.h]
theorem wt_one (x : Wt) : ∀ v ∈ wtC x, v.oneCell' = true := by
  intro v hv
  simp [wtC] at hv
  rcases hv with rfl | rfl | rfl | rfl <;> rfl
theorem Row.wt_at {w : World} {g o cc : Nat} {l : List Wt} (h : Row w 96 4 (.slice (some ⟨g, o, none⟩) l.length cc) l.length (flat wtC l)) (i : Nat) (hi : i < l.length) : w.cell? ⟨g, o + i * 4, none⟩ = some (.int .i64 l[i].n) ∧ w.cell? ⟨g, o + i * 4 + 1, none⟩ = some (.int .u64 l[i].s) ∧ w.cell? ⟨g, o + i * 4 + 2, none⟩ = some (.int .u64 l[i].a) ∧ w.cell? ⟨g, o + i * 4 + 3, none⟩ = some (.bool l[i].h) := by
  have h1 := fun t u (hu : (wtC l[i])[t]? = some u) => h.cell (flat_at (k := 4) wtC (fun _ => rfl) hi hu)
  exact ⟨by simpa [Nat.add_assoc] using h1 0 _ rfl, by simpa [Nat.add_assoc] using h1 1 _ rfl, by simpa [Nat.add_assoc] using h1 2 _ rfl, by simpa [Nat.add_assoc] using h1 3 _ rfl⟩

set_option maxRecDepth 100000 in
set_option maxHeartbeats 2000000 in
theorem idxfunc_wt {w : World} {v : Value} {l : List Wt} (p : Wt → Bool) (kf : Nat) (hkf : kf = 98) (cp : Value) (hp : SaysS (fun _ => False) wtC w kf #[cp] p) (h : Row w 96 4 v l.length (flat wtC l)) (hl : l.length < 4611686018427387904) :
    Calls Tryz.prog 136 #[v, .func (.func kf) #[] #[cp]] w fun e w' => e = .returned (.int .i64 (fidxG p l)) ∧ Keep (fun _ => False) w w' := by
  by_cases h0 : l.length = 0
  · obtain ⟨A, c, rfl⟩ := h.shape
    have e0 : l = [] := List.eq_nil_of_length_eq_zero h0
    have E0 := Lib.hid e0
    rw [h0]
    clear h e0 h0 hl hp
    go_enter Tryz.func136, Tryz.ntmps136
    go_wp2
    go_loopg [8] 0 (fun q v8 wr => v8 = .int .i64 0 ∧ wr = w)
    case atStart => exact ⟨rfl, rfl⟩
    case round =>
      obtain ⟨rfl, rfl⟩ := hrel
      go_wp2
      go_ret
      exact ⟨by rw [E0.out]; rfl, Keep.refl _ _⟩
  · obtain ⟨g, o, c, cs, rfl, _⟩ := h.pos (by omega)
    have hcell := Lib.hid (fun i hi => h.wt_at i hi)
    have HP := Lib.hid hp
    have h63 := Lib.hid hl
    clear h hp
    rcases hkf with rfl
    all_goals
      go_enter Tryz.func136, Tryz.ntmps136
      go_wp2
      go_loopg [8] l.length (fun q v8 wr => ∃ i : Nat, i + q = l.length ∧ v8 = .int .i64 (i : Int) ∧ (∀ (j : Nat) (hj : j < l.length), j < i → p l[j] = false) ∧ Keep (fun _ => False) w wr)
      case atStart => exact ⟨0, by omega, rfl, fun j hj h => absurd h (by omega), Keep.refl _ _⟩
      case round =>
        obtain ⟨i, hq, rfl, hno, hk⟩ := hrel
        have HQ := Lib.hid hq
        have HNO := Lib.hid hno
        have HK := Lib.hid hk
        by_cases hi : i < l.length
        · obtain ⟨b0, b1, b2, b3⟩ := hcell.out i hi
          have c0 := hk.cell b0
          have c1 := hk.cell b1
          have c2 := hk.cell b2
          have c3 := hk.cell b3
          have d1 : decide ((i : Int) < (l.length : Int)) = true := decide_eq_true (by omega)
          have di : decide (i < l.length) = true := decide_eq_true hi
          have HI := Lib.hid hi
          have HCL := HP.out l[i] wr hk
          have HX : Hid (p l[i] = false ∨ (p l[i] = true ∧ fidxG p l = (i : Int))) := Lib.hid (by
            cases hx : p l[i]
            · exact .inl rfl
            · refine .inr ⟨rfl, ?_⟩
              have : l.findIdx p = i := (List.findIdx_eq hi).2 ⟨hx, fun j hj => HNO.out j (by omega) hj⟩
              simp [fidxG, this, hi])
          obtain ⟨bx, hbx⟩ : ∃ bx, bx = p l[i] := ⟨_, rfl⟩
          have HBX := Lib.hid hbx
          rw [← hbx] at HCL
          unfold wtC at HCL
          clear hq hno hk hbx b0 b1 b2 b3
          generalize l[i] = y at HCL c0 c1 c2 c3
          obtain ⟨yn, ys, ya, yh⟩ := y
          simp only at HCL c0 c1 c2 c3
          cases bx
          · go_wp2_with fail
            refine HCL.mono ?_
            rintro e w1 ⟨rfl, hk1⟩
            have HK1 := Lib.hid hk1
            clear hk1
            go_wp2
            go_roundg (l.length - (i + 1))
            case measure => have := HQ.out; have := HI.out; omega
            case rel =>
              refine ⟨i + 1, by have := HQ.out; have := HI.out; omega, by go_num, fun j hj hji => ?_, HK.out.step HK1.out⟩
              rcases Nat.lt_succ_iff_lt_or_eq.1 hji with h | rfl
              · exact HNO.out j hj h
              · exact HBX.out.symm
          · go_wp2_with fail
            refine HCL.mono ?_
            rintro e w1 ⟨rfl, hk1⟩
            have HK1 := Lib.hid hk1
            clear hk1
            go_wp2
            go_ret
            refine ⟨?_, HK.out.step HK1.out⟩
            rcases HX.out with h | h
            · rw [← HBX.out] at h; cases h
            · rw [h.2]; rfl
        · have d1 : decide ((i : Int) < (l.length : Int)) = false := decide_eq_false (by omega)
          have HX : Hid (fidxG p l = -1) := Lib.hid (by
            have : ¬ l.findIdx p < l.length := by
              intro hlt
              have h1 := List.findIdx_getElem (w := hlt)
              rw [HNO.out _ hlt (by omega)] at h1
              cases h1
            simp only [fidxG, if_neg this])
          clear hq hno hk
          go_wp2
          go_ret
          exact ⟨by rw [HX.out]; rfl, HK.out⟩
end Go.Proofs.YtofonfohaocclaaGreatDoor
