/- Rows that lie at any place of a block; lots: Next, Below, New, Left. Lots: Below, New, Shuffle, Some. -/
import Derived.Test.YtofonfohaocclaaGreatDoorG01
import Derived.Laws.CopyRow
import Derived.Laws.IdiomCopy
import Derived.Laws.OwnMore
namespace Go.Proofs.YtofonfohaocclaaGreatDoor
open Go.RowKit Sh
open Go.ChangeMaps (setBlock)
set_option linter.unusedVariables false

/-- v is a slice of n elements of k cells each, which are xs; it lies in a block of elements e, at any place; there is memory for its capacity. -/
def Row (w : World) (e : TypeId) (k : Nat) (v : Value) (n : Nat) (xs : List Value) : Prop :=
  xs.length = n * k ∧ ((v = .slice none 0 0 ∧ n = 0) ∨ ∃ g o c cs, v = .slice (some ⟨g, o, none⟩) n c ∧ w.heap[g]? = some (.cells cs e (0, 0)) ∧ n ≤ c ∧ c ≤ maxLen ∧ o + c * k ≤ cs.size ∧ (cs.toList.drop o).take (n * k) = xs)
theorem Row.nil (w : World) (e : TypeId) (k : Nat) : Row w e k (.slice none 0 0) 0 [] := ⟨by simp, .inl ⟨rfl, rfl⟩⟩
theorem Row.of_own {w : World} {base : Nat} {e : TypeId} {k : Nat} {v : Value} {n : Nat} {xs : List Value} (h : w.ownsRow base e k v n xs) : Row w e k v n xs := by
  obtain ⟨h1, h2⟩ := h
  refine ⟨h1, ?_⟩
  rcases h2 with h2 | ⟨g, cap, cur, hv, hg, hh, hn, hc, hs, ht⟩
  · exact .inl h2
  · exact .inr ⟨g, 0, cap, cur, hv, hh, hn, hc, by omega, by simpa using ht⟩
theorem Row.shape {w : World} {e : TypeId} {k : Nat} {v : Value} {n : Nat} {xs : List Value} (h : Row w e k v n xs) : ∃ A c, v = .slice A n c := by
  rcases h.2 with ⟨rfl, rfl⟩ | ⟨g, o, c, cs, rfl, _⟩
  · exact ⟨none, 0, rfl⟩
  · exact ⟨_, c, rfl⟩
theorem Row.pos {w : World} {e : TypeId} {k : Nat} {v : Value} {n : Nat} {xs : List Value} (h : Row w e k v n xs) (hn : 0 < n) : ∃ g o c cs, v = .slice (some ⟨g, o, none⟩) n c ∧ w.heap[g]? = some (.cells cs e (0, 0)) ∧ n ≤ c ∧ c ≤ maxLen ∧ o + c * k ≤ cs.size ∧ (cs.toList.drop o).take (n * k) = xs := by
  rcases h.2 with ⟨rfl, rfl⟩ | h
  · omega
  · exact h
theorem row_cell {w : World} {g o m : Nat} {e : TypeId} {fr : Nat × Nat} {cs : Array Value} {xs : List Value} (hh : w.heap[g]? = some (.cells cs e fr)) (ht : (cs.toList.drop o).take m = xs) {i : Nat} {u : Value} (hu : xs[i]? = some u) : w.cell? ⟨g, o + i, none⟩ = some u := by
  subst ht
  simp only [World.cell?, hh]
  rw [List.getElem?_take] at hu
  split at hu
  · rw [List.getElem?_drop, Array.getElem?_toList] at hu
    exact hu
  · cases hu
theorem Row.cell {w : World} {e : TypeId} {k n : Nat} {g o c : Nat} {xs : List Value} (h : Row w e k (.slice (some ⟨g, o, none⟩) n c) n xs) {i : Nat} {u : Value} (hu : xs[i]? = some u) : w.cell? ⟨g, o + i, none⟩ = some u := by
  rcases h.2 with ⟨h, _⟩ | ⟨g', o', c', cs, hv, hh, hn, hc, hs, ht⟩
  · cases h
  · cases hv
    exact row_cell hh ht hu
theorem Row.keep {S : Nat → Prop} {w w' : World} {e : TypeId} {k : Nat} {v : Value} {n : Nat} {xs : List Value} (h : Row w e k v n xs) (hk : Keep S w w') (hn : ∀ g, v.ownBlock = some g → ¬ S g) : Row w' e k v n xs := by
  obtain ⟨h1, h2⟩ := h
  refine ⟨h1, ?_⟩
  rcases h2 with h2 | ⟨g, o, c, cs, hv, hh, r⟩
  · exact .inl h2
  · exact .inr ⟨g, o, c, cs, hv, hk.old hh (hn g (by rw [hv]; rfl)), r⟩
theorem Row.keep0 {w w' : World} {e : TypeId} {k : Nat} {v : Value} {n : Nat} {xs : List Value} (h : Row w e k v n xs) (hk : Keep (fun _ => False) w w') : Row w' e k v n xs := h.keep hk fun _ _ h => h
/-- The block of a row is one of its elements' type. -/
theorem Row.typed {w : World} {e : TypeId} {k : Nat} {v : Value} {n : Nat} {xs : List Value} (h : Row w e k v n xs) {g : Nat} (hg : v.ownBlock = some g) : ∃ cs, w.heap[g]? = some (.cells cs e (0, 0)) := by
  rcases h.2 with ⟨rfl, _⟩ | ⟨g', o, c, cs, rfl, hh, r⟩
  · cases hg
  · cases hg; exact ⟨cs, hh⟩
/-- What is left behind the first i. -/
theorem Row.tail {w : World} {e : TypeId} {k : Nat} {g o c n : Nat} {xs : List Value} (h : Row w e k (.slice (some ⟨g, o, none⟩) n c) n xs) {i : Nat} (hi : i ≤ n) : Row w e k (sliced (some ⟨g, o, none⟩) i n c k) (n - i) (xs.drop (i * k)) := by
  obtain ⟨h1, h2⟩ := h
  refine ⟨by rw [List.length_drop, h1, Nat.sub_mul], ?_⟩
  rcases h2 with ⟨h, _⟩ | ⟨g', o', c', cs, hv, hh, hn, hc, hs, ht⟩
  · cases h
  · cases hv
    by_cases hci : c = i
    · subst hci
      have e1 : n = c := by omega
      subst e1
      exact .inr ⟨g, o, 0, cs, by simp [sliced], hh, by omega, by omega, by omega, by rw [← h1]; simp⟩
    · have q1 : i * k ≤ c * k := Nat.mul_le_mul_right k (by omega)
      refine .inr ⟨g, o + i * k, c - i, cs, by simp [sliced, hci, Addr.add], hh, by omega, by omega, by rw [Nat.sub_mul]; omega, ?_⟩
      rw [← ht, List.drop_take, List.drop_drop, Nat.sub_mul]
theorem slice_from (t e : TypeId) (ht : Tryz.prog.underlying t = some (.slice e)) (k : Nat) (he : ∀ w, (sizeOf e).run Tryz.prog w = .ok k w) (A : Option Addr) (n c : Nat) (i : Int) (h0 : 0 ≤ i) (h1 : i ≤ n) (W : World) :
    (Instr.slice t (.slice A n c) (some (.int .i64 i)) none none).run Tryz.prog W = .ok (sliced A i.toNat n c k) W := by
  have e1 : Tryz.prog.elem t = e := by simp [Program.elem, ht]
  rw [run_slice_l W t A n c (by rw [e1]; exact ht) .i64 i h0 h1, e1, he]
  rfl

def wordsC (L : List Int) : List Value := L.map fun x => .int .u64 x
/-- The lots that are left in block b. -/
structure IsLots (w : World) (b : Nat) (L : List Int) : Prop where
  out : ∃ v, w.heap[b]? = some (.cells #[v] 95 (0, 0)) ∧ Row w 29 1 v L.length (wordsC L)
  rng : ∀ x ∈ L, 0 ≤ x ∧ x < 18446744073709551616
theorem IsLots.keep {S : Nat → Prop} {w w' : World} {b : Nat} {L : List Int} (h : IsLots w b L) (hk : Keep S w w') (hb : ¬ S b) (hg : ∀ g cs, w.heap[g]? = some (.cells cs 29 (0, 0)) → ¬ S g) : IsLots w' b L := by
  obtain ⟨⟨v, h1, h2⟩, hr⟩ := h
  refine ⟨⟨v, hk.old h1 hb, h2.keep hk fun g hv => ?_⟩, hr⟩
  obtain ⟨cs, hc⟩ := h2.typed hv
  exact hg g cs hc
theorem IsLots.keep0 {w w' : World} {b : Nat} {L : List Int} (h : IsLots w b L) (hk : Keep (fun _ => False) w w') : IsLots w' b L := h.keep hk id fun _ _ _ => id
theorem IsLots.lt {w : World} {b : Nat} {L : List Int} (h : IsLots w b L) : b < w.heap.size := by
  obtain ⟨⟨v, h1, h2⟩, hr⟩ := h
  exact (Array.getElem?_eq_some_iff.1 h1).1

set_option maxRecDepth 100000 in
set_option maxHeartbeats 1000000 in
theorem next_any {w : World} {b : Nat} {L : List Int} (h : IsLots w b L) : Calls Tryz.prog 149 #[.pointer (some ⟨b, 0, none⟩)] w fun e w' => e = .returned (.int .u64 (L.headD 0)) ∧ IsLots w' b L.tail ∧ Keep (fun k => k = b) w w' := by
  obtain ⟨⟨v, h1, h2⟩, hr⟩ := h
  have c0 : w.cell? ⟨b, 0, none⟩ = some v := by simp [World.cell?, h1]
  have f0 : w.frozen? ⟨b, 0, none⟩ = false := by simp [World.frozen?, h1]
  match L, h2, hr with
  | [], h2, hr =>
    obtain ⟨A, c, rfl⟩ := h2.shape
    have H2 := Lib.hid h2
    have H1 := Lib.hid h1
    clear h1 h2
    simp only [List.length_nil] at c0
    go_enter Tryz.func149, Tryz.ntmps149
    go_wp2
    go_ret
    exact ⟨rfl, ⟨⟨_, H1.out, H2.out⟩, hr⟩, Keep.refl _ _⟩
  | a :: L, h2, hr =>
    obtain ⟨g, o, c, cs, rfl, hh, hn, hc, hs, ht⟩ := h2.pos (by simp)
    have ca : w.cell? ⟨g, o, none⟩ = some (.int .u64 a) := h2.cell (i := 0) (by simp [wordsC])
    have H2 := Lib.hid h2
    have H1 := Lib.hid h1
    clear h1 h2 hs ht
    simp only [List.length_cons] at c0 hn
    have d1 : decide ((0 : Int) < ((L.length + 1 : Nat) : Int)) = true := decide_eq_true (by omega)
    have d2 : (0 : Int) < ((L.length + 1 : Nat) : Int) := by omega
    go_enter Tryz.func149, Tryz.ntmps149
    go_upto_region 2 with fail
    have e0 : w.drew.cell? ⟨b, 0, none⟩ = some (.slice (some ⟨g, o, none⟩) (L.length + 1) c) := c0
    have ea : w.drew.cell? ⟨g, o, none⟩ = some (.int .u64 a) := ca
    have hsl : ∀ W, (Instr.slice 22 (.slice (some ⟨g, o, none⟩) (L.length + 1) c) (some (.int .i64 1)) none none).run Tryz.prog W = .ok (sliced (some ⟨g, o, none⟩) 1 (L.length + 1) c 1) W := fun W => slice_from 22 29 Tryz.underlying22 1 (fun w => Tryz.sizeOf29 w) _ _ _ 1 (by omega) (by omega) W
    have HT := Lib.hid (H2.out.tail (i := 1) (by simp))
    generalize sliced (some ⟨g, o, none⟩) 1 (L.length + 1) c 1 = v1 at hsl HT
    have hex := HT.out.shape
    obtain ⟨A1, c1, rfl⟩ := hex
    simp only [List.length_cons, Nat.add_sub_cancel] at hsl HT
    refine still_tail 15 (by kernel_rfl) (by kernel_rfl) ?_
    simp only [List.take_succ_cons, List.take_zero, List.drop_succ_cons, List.drop_zero]
    repeat still_step
    refine wpStill_nil ?_
    go_wp2
    go_ret
    refine ⟨rfl, ⟨⟨_, heap_setCell_at (w := w) H1.out 0 _, ?_⟩, fun x hx => hr x (List.mem_cons_of_mem _ hx)⟩, ((Keep.refl _ w).setAt 0 _).drew⟩
    have h2 := HT.out
    simp only [wordsC, List.map_cons, Nat.one_mul, List.drop_succ_cons, List.drop_zero] at h2
    refine Row.keep (S := fun k => k = b) h2 (((Keep.refl _ w).setAt 0 _).drew) ?_
    rintro g' hg' rfl
    obtain ⟨cs', hc'⟩ := h2.typed hg'
    have := H1.out
    rw [hc'] at this
    cases this
end Go.Proofs.YtofonfohaocclaaGreatDoor

namespace Go.Proofs.YtofonfohaocclaaGreatDoor
open Go.RowKit Sh
open Go.ChangeMaps (setBlock)
set_option linter.unusedVariables false

def belowN (n : Nat) (L : List Int) : Nat := if n < 2 then 0 else (L.headD 0 % (n : Int)).toNat
def belowL (n : Nat) (L : List Int) : List Int := if n < 2 then L else L.tail
theorem belowN_lt (n : Nat) (L : List Int) (h : 0 < n) : belowN n L < n := by
  unfold belowN
  split
  · omega
  · have h1 := Int.emod_nonneg (L.headD 0) (show (n : Int) ≠ 0 by omega)
    have h2 := Int.emod_lt_of_pos (L.headD 0) (show (0 : Int) < (n : Int) by omega)
    omega
set_option maxRecDepth 100000 in
set_option maxHeartbeats 1000000 in
theorem below_any {w : World} {b : Nat} {L : List Int} (h : IsLots w b L) (n : Nat) (hn : n < 4611686018427387904) : Calls Tryz.prog 120 #[.pointer (some ⟨b, 0, none⟩), .int .i64 (n : Int)] w fun e w' => e = .returned (.int .i64 ((belowN n L : Nat) : Int)) ∧ IsLots w' b (belowL n L) ∧ Keep (fun k => k = b) w w' := by
  by_cases c : n < 2
  · have d1 : decide ((n : Int) < 2) = true := decide_eq_true (by omega)
    have e1 : belowN n L = 0 := by simp [belowN, c]
    have e2 : belowL n L = L := by simp [belowL, c]
    rw [e1, e2]
    clear e1 e2
    go_enter Tryz.func120, Tryz.ntmps120
    go_wp2
    go_ret
    exact ⟨rfl, h, Keep.refl _ _⟩
  · have d1 : decide ((n : Int) < 2) = false := decide_eq_false (by omega)
    have d3 : ¬ ((n : Int) < 2) := by omega
    have hx : 0 ≤ L.headD 0 ∧ L.headD 0 < 18446744073709551616 := by
      match L, h.rng with
      | [], _ => simp
      | a :: L, h => exact h a (by simp)
    have h1 := Int.emod_nonneg (L.headD 0) (show (n : Int) ≠ 0 by omega)
    have h2 := Int.emod_lt_of_pos (L.headD 0) (show (0 : Int) < (n : Int) by omega)
    have e1 : ((belowN n L : Nat) : Int) = L.headD 0 % (n : Int) := by
      have : belowN n L = (L.headD 0 % (n : Int)).toNat := if_neg c
      rw [this]
      omega
    have e2 : belowL n L = L.tail := by simp [belowL, c]
    rw [e1, e2]
    have hc := next_any h
    generalize L.headD 0 = x at *
    have w1 : IntKind.u64.wrap (n : Int) = (n : Int) := by rw [IntKind.wrap_u64]; omega
    have w2 : wrap64 (x % (n : Int)) = x % (n : Int) := by unfold wrap64; omega
    have hrem : ∀ W, (binOp .rem 29 (.int .u64 x) (.int .u64 (n : Int))).run Tryz.prog W = .ok (.int .u64 (x % (n : Int))) W := by
      intro W
      have z : (n : Int) ≠ 0 := by omega
      have t : Int.tmod x (n : Int) = x % (n : Int) := Int.tmod_eq_emod_of_nonneg hx.1
      simp [binOp_rem, Op.intDiv, t]
      intro h0
      exact absurd h0 (by omega)
    go_enter Tryz.func120, Tryz.ntmps120
    go_wp2_with fail
    refine hc.mono ?_
    rintro e w' ⟨rfl, h3, h4⟩
    go_wp2
    go_ret
    exact ⟨rfl, h3, h4⟩

/-- make([]E, n), where an element is one cell. -/
theorem make_one (t e : TypeId) (z : Value) (by_ : Nat) (ht : Tryz.prog.underlying t = some (.slice e)) (hi : (Tryz.prog.info? e).map (fun i => (i.zero, i.size, i.bytes)) = some (some z, 1, by_)) (h8 : by_ ≤ 16) (zs : Array Value) (hzs : z.cells = zs) (n : Nat) (hn : n < 4611686018427387904) (hb : n ≤ 8796093022208) (W : World) :
    (Instr.makeSlice t (.int .i64 (n : Int)) (.int .i64 (n : Int))).run Tryz.prog W = .ok (.slice (some ⟨W.heap.size, 0, none⟩) n n) (W.alloc (.cells (madeCells zs n) e)) := by
  subst hzs
  cases hq : Tryz.prog.info? e with
  | none => simp [hq] at hi
  | some i =>
    simp [hq] at hi
    obtain ⟨h1, h2, h3⟩ := hi
    have := run_make (P := Tryz.prog) W t e i z ht hq h1 .i64 .i64 n n (by omega) (Int.le_refl _) (by rw [h3]; have : (by_ : Int) * n ≤ 16 * n := Int.mul_le_mul_of_nonneg_right (by omega) (by omega); omega) (by omega)
    simpa [h2] using this
/-- copy of a whole row into one of as many cells. -/
theorem copy_full {W : World} (sT e : TypeId) (hu : Tryz.prog.underlying sT = some (.slice e)) (hs : (Tryz.prog.info? e).map (·.size) = some 1) {g n : Nat} {cur : Array Value} (hg : W.heap[g]? = some (.cells cur e (0, 0))) (hc : cur.size = n) (cap : Nat) {v : Value} {xs : List Value} (hr : Row W e 1 v n xs) (h1 : ∀ v ∈ xs, v.oneCell' = true) (ty : TypeId) :
    ∃ W', (Builtin.copy_ #[sT, sT] ty #[.slice (some ⟨g, 0, none⟩) n cap, v]).run Tryz.prog W = .ok (.int .i64 (n : Int)) W' ∧ W'.heap[g]? = some (.cells xs.toArray e (0, 0)) ∧ Keep (fun k => k = g) W W' := by
  by_cases h0 : n = 0
  · subst h0
    obtain ⟨A, c, rfl⟩ := hr.shape
    refine ⟨W, run_copy_none (P := Tryz.prog) W sT sT ty e _ A 0 cap 0 c hu hs (by simp), ?_, Keep.refl _ _⟩
    have e1 : xs = [] := by have := hr.1; simpa using this
    have e2 : cur = #[] := Array.eq_empty_of_size_eq_zero hc
    rw [hg, e1, e2]
  · obtain ⟨g', o, c, cs, rfl, hh, hn, hc2, hsz, ht⟩ := hr.pos (by omega)
    have hl : xs.length = n := by have := hr.1; omega
    have := run_copy_row (P := Tryz.prog) W sT sT ty e g 0 n cap ⟨g', o, none⟩ n c cur e xs hu hs hg (by rw [hl]; exact (Nat.min_self n).symm) (fun j v hv => by have := hr.cell hv; unfold Addr.add; split <;> simp_all) (by omega) h1
    rw [hl] at this
    refine ⟨_, this, ?_, ⟨rfl, rfl, rfl, by simp [World.setRow], fun k _ hk => setRow_other W g k _ hk⟩⟩
    rw [setRow_heap W g _ _ e _ hg]
    simp [List.drop_eq_nil_of_le (show cur.toList.length ≤ n by simp [hc])]

theorem info3 : (Tryz.prog.info? 3).map (fun i => (i.zero, i.size, i.bytes)) = some (some (.int .i64 0), 1, 8) := by kernel_rfl
theorem info29 : (Tryz.prog.info? 29).map (fun i => (i.zero, i.size, i.bytes)) = some (some (.int .u64 0), 1, 8) := by kernel_rfl
theorem size3 : (Tryz.prog.info? 3).map (·.size) = some 1 := by kernel_rfl
theorem size29 : (Tryz.prog.info? 29).map (·.size) = some 1 := by kernel_rfl
def intsC (L : List Int) : List Value := L.map fun x => .int .i64 x
theorem one_ints (L : List Int) : ∀ v ∈ intsC L, v.oneCell' = true := by
  intro v hv
  obtain ⟨x, _, rfl⟩ := List.mem_map.1 hv
  rfl
theorem one_words (L : List Int) : ∀ v ∈ wordsC L, v.oneCell' = true := by
  intro v hv
  obtain ⟨x, _, rfl⟩ := List.mem_map.1 hv
  rfl
theorem own_full {W : World} {g : Nat} {e : TypeId} {xs : List Value} {n base : Nat} (h : W.heap[g]? = some (.cells xs.toArray e (0, 0))) (hl : xs.length = n) (hn : n ≤ maxLen) (hb : base ≤ g) : W.ownsRow base e 1 (.slice (some ⟨g, 0, none⟩) n n) n xs :=
  ⟨by omega, .inr ⟨g, n, xs.toArray, rfl, hb, h, Nat.le_refl _, hn, by simp [hl], by simp [← hl]⟩⟩

set_option maxRecDepth 100000 in
set_option maxHeartbeats 1000000 in
theorem lotnew_any {w : World} {v : Value} {L : List Int} (h : Row w 29 1 v L.length (wordsC L)) (hr : ∀ x ∈ L, 0 ≤ x ∧ x < 18446744073709551616) (hl : L.length ≤ 8796093022208) :
    Calls Tryz.prog 10 #[v] w fun e w' => ∃ b, e = .returned (.pointer (some ⟨b, 0, none⟩)) ∧ w.heap.size ≤ b ∧ IsLots w' b L ∧ Keep (fun _ => False) w w' := by
  obtain ⟨A, c, rfl⟩ := h.shape
  have hmk := fun W => make_one 22 29 (.int .u64 0) 8 Tryz.underlying22 info29 (by omega) #[.int .u64 0] rfl L.length (by omega) hl W
  have K2 := ((Keep.refl (fun _ => False) w).alloc (.cells (madeCells #[.int .u64 0] L.length) 29)).alloc (.cells #[.slice (some ⟨w.heap.size, 0, none⟩) L.length L.length] 95)
  have hg2 : ((w.alloc (.cells (madeCells #[.int .u64 0] L.length) 29)).alloc (.cells #[.slice (some ⟨w.heap.size, 0, none⟩) L.length L.length] 95)).heap[w.heap.size]? = some (.cells (madeCells #[.int .u64 0] L.length) 29 (0, 0)) := by
    rw [Below.heap_alloc _ _ _ (by simp)]
    exact heap_alloc_new w _
  have hn2 := heap_alloc_new (w.alloc (.cells (madeCells #[.int .u64 0] L.length) 29)) (.cells #[.slice (some ⟨w.heap.size, 0, none⟩) L.length L.length] 95)
  obtain ⟨W3, hcp, h3, k3⟩ := copy_full 22 29 Tryz.underlying22 size29 hg2 (size_madeCells _ _) L.length (h.keep0 K2) (one_words L) 3
  have H3 := Lib.hid h3
  have KK3 := Lib.hid k3
  have KK2 := Lib.hid K2
  have HN := Lib.hid hn2
  clear h3 k3 K2 hg2 hn2
  go_enter Tryz.func10, Tryz.ntmps10
  go_wp2
  go_ret
  have hs1 : (w.alloc (.cells (madeCells #[.int .u64 0] L.length) 29)).heap.size = w.heap.size + 1 := by simp
  have hn := HN.out
  rw [hs1] at hn
  refine ⟨w.heap.size + 1, rfl, by omega, ⟨⟨_, KK3.out.old hn (by omega), ?_⟩, hr⟩, ?_⟩
  · exact Row.of_own (own_full (base := 0) H3.out (by simp [wordsC]) (by simp only [maxLen]; omega) (by omega))
  · exact KK2.out.trans KK3.out fun i hi hl => absurd hi (by omega)
/-- two places of a list change. -/
def swapL (l : List Int) (i k : Nat) : List Int := (l.set i (l.getD k 0)).set k (l.getD i 0)
theorem swapL_len (l : List Int) (i k : Nat) : (swapL l i k).length = l.length := by simp [swapL]
/-- Shuffle's loop, from i down. -/
def shufL : Nat → List Int → List Int → List Int × List Int
  | 0, l, L => (l, L)
  | i + 1, l, L => shufL i (swapL l (i + 1) (belowN (i + 2) L)) (belowL (i + 2) L)
def shufP (l L : List Int) : List Int × List Int := shufL (l.length - 1) l L
theorem shufL_len : ∀ (i : Nat) (l L : List Int), (shufL i l L).1.length = l.length
  | 0, _, _ => rfl
  | i + 1, l, L => by rw [shufL, shufL_len, swapL_len]
theorem belowL_le (n : Nat) (L : List Int) : ∀ x ∈ belowL n L, x ∈ L := by
  intro x hx
  unfold belowL at hx
  split at hx
  · exact hx
  · exact List.mem_of_mem_tail hx

/-- What holds ahead of a round of Shuffle. -/
structure Shuf (w : World) (b n : Nat) (R : List Int × List Int) (q : Nat) (wr : World) : Prop where
  lt : q < n
  ex : ∃ l L, shufL q l L = R ∧ l.length = n ∧ IsLots wr b L ∧ wr.heap[w.heap.size]? = some (.cells (intsC l).toArray 3 (0, 0))
  keep : Keep (fun k => k = b) w wr
theorem ints_set (l : List Int) (i : Nat) (x : Int) : (intsC l).toArray.setIfInBounds i (.int .i64 x) = (intsC (l.set i x)).toArray := by
  simp [intsC, List.map_set]
theorem shuf_next {w wr w1 : World} {b n j k : Nat} {l1 L1 l2 : List Int} {R : List Int × List Int} {xi xk : Int} (hb : b < w.heap.size) (hj : j + 1 < n) (hk : k < n) (k1 : Keep (fun k => k = b) w wr) (k2 : Keep (fun k => k = b) wr w1) (hL : IsLots w1 b L1)
    (hg : w1.heap[w.heap.size]? = some (.cells (intsC l1).toArray 3 (0, 0))) (hl : l1.length = n) (hs : l2 = (l1.set (j + 1) xk).set k xi) (hR : shufL j l2 L1 = R) :
    Shuf w b n R j ((w1.setCell ⟨w.heap.size, j + 1, none⟩ (.int .i64 xk)).setCell ⟨w.heap.size, k, none⟩ (.int .i64 xi)).drew := by
  have h1 := heap_setCell_at hg (j + 1) (.int .i64 xk)
  have h2 := heap_setCell_at h1 k (.int .i64 xi)
  rw [ints_set, ints_set, ← hs] at h2
  have K := (((Keep.refl (fun k => k = w.heap.size) w1).setAt (j + 1) (.int .i64 xk)).setAt k (.int .i64 xi)).drew
  refine ⟨by omega, ⟨l2, L1, hR, by rw [hs]; simp [hl], hL.keep K (by omega) ?_, h2⟩, (k1.step k2).trans K fun i hi hlt => by omega⟩
  intro g cs hc hgs
  subst hgs
  rw [hg] at hc
  cases hc
set_option maxRecDepth 100000 in
set_option maxHeartbeats 2000000 in
theorem shuffle_any {w : World} {b : Nat} {v : Value} {l L : List Int} (hL : IsLots w b L) (h : Row w 3 1 v l.length (intsC l)) (hl : l.length ≤ 8796093022208) :
    Calls Tryz.prog 89 #[.pointer (some ⟨b, 0, none⟩), v] w fun e w' => ∃ v', e = .returned v' ∧ w'.ownsRow w.heap.size 3 1 v' l.length (intsC (shufP l L).1) ∧ IsLots w' b (shufP l L).2 ∧ Keep (fun k => k = b) w w' := by
  obtain ⟨A, c, rfl⟩ := h.shape
  have hb := hL.lt
  have hmk := fun W => make_one 36 3 (.int .i64 0) 8 Tryz.underlying36 info3 (by omega) #[.int .i64 0] rfl l.length (by omega) hl W
  have K2 := (Keep.refl (fun _ => False) w).alloc (.cells (madeCells #[.int .i64 0] l.length) 3)
  have hg2 := heap_alloc_new w (.cells (madeCells #[.int .i64 0] l.length) 3)
  obtain ⟨W3, hcp, h3, k3⟩ := copy_full 36 3 Tryz.underlying36 size3 hg2 (size_madeCells _ _) l.length (h.keep0 K2) (one_ints l) 3
  have L3 : IsLots W3 b L := (hL.keep0 K2).keep k3 (by omega) (by
    intro g cs hc hgs
    subst hgs
    rw [hg2] at hc
    cases hc)
  have K3 : Keep (fun k => k = b) w W3 := (K2.mono (T := fun k => k = b) (fun _ h _ => h.elim)).trans k3 (fun i hi hl => absurd hi (by omega))
  have H3 := Lib.hid h3
  have LL3 := Lib.hid L3
  have KK3 := Lib.hid K3
  have HB := Lib.hid hb
  clear h3 k3 K2 hg2 L3 K3 h hL hb
  go_enter Tryz.func89, Tryz.ntmps89
  go_upto_region 5 with fail
  by_cases h0 : l.length = 0
  · have e0 : l = [] := List.eq_nil_of_length_eq_zero h0
    have e1 : ((l.length : Int) - 1) = -1 := by omega
    rw [e1]
    have E0 := Lib.hid e0
    clear hmk hcp h0 e0 e1
    go_loopg [7] 0 (fun q v7 wr => v7 = .int .i64 (-1) ∧ wr = W3)
    case atStart => exact ⟨rfl, rfl⟩
    case round =>
      obtain ⟨rfl, rfl⟩ := hrel
      go_wp2
      go_ret
      have e0 := E0.out
      have e1 : shufP l L = (l, L) := by rw [e0]; rfl
      rw [e1]
      exact ⟨_, rfl, own_full H3.out (by simp [intsC]) (by simp only [maxLen]; omega) (Nat.le_refl _), LL3.out, KK3.out⟩
  · obtain ⟨m, hm⟩ : ∃ m, l.length = m + 1 := ⟨l.length - 1, by omega⟩
    have hm1 : ((l.length : Int) - 1) = (m : Int) := by omega
    rw [hm1]
    have HM := Lib.hid hm
    clear hm hm1 h0 hmk hcp
    go_loopg [7] m (fun q v7 wr => v7 = .int .i64 (q : Int) ∧ Shuf w b l.length (shufP l L) q wr)
    case atStart =>
      refine ⟨rfl, by have := HM.out; omega, ⟨l, L, ?_, rfl, LL3.out, H3.out⟩, KK3.out⟩
      have := HM.out
      simp [shufP, this]
    case round =>
      obtain ⟨rfl, hjm, ⟨l1, L1, hR, hl1, hL1, hg1⟩, hK1⟩ := hrel
      have HL1 := Lib.hid hL1
      have HG1 := Lib.hid hg1
      have HK1 := Lib.hid hK1
      have HR := Lib.hid hR
      clear hL1 hg1 hK1 hR
      cases gk with
      | zero =>
        go_wp2
        go_ret
        have e1 := HR.out
        simp only [shufL] at e1
        rw [← e1]
        exact ⟨_, rfl, own_full HG1.out (by simp [intsC, hl1]) (by simp only [maxLen]; omega) (Nat.le_refl _), HL1.out, HK1.out⟩
      | succ j =>
        have d1 : decide ((0 : Int) < ((j + 1 : Nat) : Int)) = true := decide_eq_true (by omega)
        have d2 : (0 : Int) < ((j + 1 : Nat) : Int) := by omega
        have hw : ((j : Int) + 1 + 1) = ((j + 2 : Nat) : Int) := by omega
        have hlen : (intsC l1).length = l.length := by simp [intsC, hl1]
        have hbl := belowN_lt (j + 2) L1 (by omega)
        have HW := Lib.hid hw
        clear hw
        go_wp2_with fail
        rw [HW.out]
        refine (below_any HL1.out (j + 2) (by omega)).mono ?_
        rintro e w1 ⟨rfl, hL2, hk2⟩
        have HL2 := Lib.hid hL2
        have HK2 := Lib.hid hk2
        have HR2 : Hid (shufL j (swapL l1 (j + 1) (belowN (j + 2) L1)) (belowL (j + 2) L1) = shufP l L) := HR
        generalize belowN (j + 2) L1 = k at hbl HR2 ⊢
        have hg2 := hk2.old HG1.out (by have := HB.out; omega)
        have hk : k < l.length := by omega
        have ci : w1.cell? ⟨w.heap.size, j + 1, none⟩ = some (.int .i64 (l1.getD (j + 1) 0)) := by
          simp [World.cell?, hg2, intsC, hl1, hjm]
        have ck : w1.cell? ⟨w.heap.size, k, none⟩ = some (.int .i64 (l1.getD k 0)) := by
          simp [World.cell?, hg2, intsC, hl1, hk]
        have fi : w1.frozen? ⟨w.heap.size, j + 1, none⟩ = false := by simp [World.frozen?, hg2]
        have fk : w1.frozen? ⟨w.heap.size, k, none⟩ = false := by simp [World.frozen?, hg2]
        have HG2 := Lib.hid hg2
        have HSW : Hid (swapL l1 (j + 1) k = (l1.set (j + 1) (l1.getD k 0)).set k (l1.getD (j + 1) 0)) := Lib.hid rfl
        have HJM := Lib.hid hjm
        generalize l1.getD (j + 1) 0 = xi at ci HSW
        generalize l1.getD k 0 = xk at ck HSW
        clear hL2 hk2 hg2
        have dj : decide (j + 1 < l.length) = true := decide_eq_true hjm
        have dk : decide (k < l.length) = true := decide_eq_true (by omega)
        go_upto_region 8 with fail
        by_cases hjk : k = j + 1
        · subst hjk
          obtain rfl : xi = xk := by rw [ci] at ck; simpa using ck
          go_region
          go_wp2
          go_roundg j
          case measure => omega
          case rel => exact ⟨by go_num, shuf_next HB.out HJM.out hk HK1.out HK2.out HL2.out HG2.out hl1 HSW.out HR2.out⟩
        · have cik : ∀ v, (w1.setCell ⟨w.heap.size, j + 1, none⟩ v).cell? ⟨w.heap.size, k, none⟩ = some (.int .i64 xk) := fun v => by
            rw [World.cell?_setCell_other _ _ _ _ (by simp <;> omega)]; exact ck
          have cki : ∀ v, (w1.setCell ⟨w.heap.size, k, none⟩ v).cell? ⟨w.heap.size, j + 1, none⟩ = some (.int .i64 xi) := fun v => by
            rw [World.cell?_setCell_other _ _ _ _ (by simp <;> omega)]; exact ci
          go_region
          go_wp2
          go_roundg j
          case measure => omega
          case rel => exact ⟨by go_num, shuf_next HB.out HJM.out hk HK1.out HK2.out HL2.out HG2.out hl1 HSW.out HR2.out⟩
end Go.Proofs.YtofonfohaocclaaGreatDoor
