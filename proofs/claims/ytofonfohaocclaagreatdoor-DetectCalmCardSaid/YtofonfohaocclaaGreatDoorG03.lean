/- Doubts, as the heap has them; how long one is. A map of doubts behind its owner; ranges over it. Walk of Doubts.Raise. -/
import Derived.Test.YtofonfohaocclaaGreatDoorG02
namespace Go.Proofs.YtofonfohaocclaaGreatDoor.D
open Go.RowKit Sh
open Go.ChangeMaps (setBlock)
set_option linter.unusedVariables false

structure Db where
  n : Int
  i : Int
  s : Int
  f : Int
  c : Int
  t : Int
  u : Int
deriving instance Inhabited for Db
def dbC (x : Db) : List Value := [.int .i64 x.n, .int .u64 x.i, .int .i64 x.s, .int .u64 x.f, .int .u64 x.c, .int .u64 x.t, .int .u64 x.u]
def dbV (x : Db) : Value := .agg #[.int .i64 x.n, .int .u64 x.i, .int .i64 x.s, .int .u64 x.f, .int .u64 x.c, .int .u64 x.t, .int .u64 x.u]

theorem add_run (x y : Int) (hx : 0 ≤ x) (hy : 0 ≤ y) (w : World) : (callFunc 164 #[.int .u64 x, .int .u64 y, .int .u64 0]).run Tryz.prog w = .ok (.value (.tuple #[.int .u64 ((x + y) % 18446744073709551616), .int .u64 ((x + y) / 18446744073709551616)])) w := by
  rw [run_callFunc_extern Tryz.func164 (by kernel_rfl) (by kernel_rfl) (by kernel_rfl) (e := add64Entry) (by kernel_rfl), run_add64 x y 0 hx hy (by omega) (by omega), Int.add_zero]
  rfl
def sat (x y : Int) : Int := if x + y < 18446744073709551616 then x + y else 18446744073709551615
theorem or_ones (a : Nat) (h : a < 18446744073709551616) : a ||| 18446744073709551615 = 18446744073709551615 := by
  have e : (18446744073709551615 : Nat) = 2 ^ 64 - 1 := by decide
  rw [e]
  refine Nat.eq_of_testBit_eq (fun i => ?_)
  rw [Nat.testBit_or, Nat.testBit_two_pow_sub_one]
  by_cases c : i < 64
  · simp [c]
  · have h2 : a < 2 ^ i := Nat.lt_of_lt_of_le (show a < 2 ^ 64 by omega) (Nat.pow_le_pow_right (by omega) (by omega))
    rw [Nat.testBit_lt_two_pow h2]
    simp
theorem held_any (x y : Int) (hx : 0 ≤ x ∧ x < 18446744073709551616) (hy : 0 ≤ y ∧ y < 18446744073709551616) (w : World) :
    Calls Tryz.prog 163 #[.int .u64 ((x + y) % 18446744073709551616), .int .u64 ((x + y) / 18446744073709551616)] w fun e w' => e = .returned (.int .u64 (sat x y)) ∧ w = w' := by
  obtain ⟨a, ha⟩ : ∃ a : Nat, (a : Int) = (x + y) % 18446744073709551616 := ⟨((x + y) % 18446744073709551616).toNat, by omega⟩
  have ha2 : a < 18446744073709551616 := by omega
  rw [← ha]
  by_cases c : x + y < 18446744073709551616
  · have e1 : (x + y) / 18446744073709551616 = 0 := by omega
    have e2 : sat x y = a := by unfold sat; rw [if_pos c]; omega
    rw [e1, e2]
    have e3 : bits BinOp.or IntKind.u64 (a : Int) 0 = a := by
      have := bits_or_u64_nat a 0 ha2 (by omega)
      simpa using this
    have e4 : IntKind.u64.wrap 0 = 0 := by decide
    clear ha e1 e2 c hx hy
    go_enter Tryz.func163, Tryz.ntmps163
    go_wp2
    go_ret
    exact ⟨rfl, rfl⟩
  · have e1 : (x + y) / 18446744073709551616 = 1 := by omega
    have e2 : sat x y = 18446744073709551615 := by unfold sat; rw [if_neg c]
    rw [e1, e2]
    have e3 : bits BinOp.or IntKind.u64 (a : Int) 18446744073709551615 = 18446744073709551615 := by
      have := bits_or_u64_nat a 18446744073709551615 ha2 (by omega)
      rw [or_ones a ha2] at this
      simpa using this
    have e4 : IntKind.u64.wrap (-1) = 18446744073709551615 := by decide
    clear ha e1 e2 c hx hy
    go_enter Tryz.func163, Tryz.ntmps163
    go_wp2
    go_ret
    exact ⟨rfl, rfl⟩

theorem set_other {w : World} {b o o' : Nat} {v u : Value} (h : o ≠ o') (hc : w.cell? ⟨b, o', none⟩ = some u) : (w.setCell ⟨b, o, none⟩ v).cell? ⟨b, o', none⟩ = some u := by
  have hb : ∃ cs t fr, w.heap[b]? = some (.cells cs t fr) := by
    unfold World.cell? at hc
    simp only at hc
    split at hc
    · exact ⟨_, _, _, by assumption⟩
    · simp at hc
  obtain ⟨cs, t, fr, hb⟩ := hb
  have h2 := heap_setCell_at hb o v
  simp only [World.cell?, hb] at hc
  simp only [World.cell?, h2]
  simp only [Array.getElem?_setIfInBounds, if_neg h]
  exact hc
set_option maxRecDepth 100000 in
set_option maxHeartbeats 1000000 in
theorem dwait_any {w : World} {b : Nat} {x : Db} {base : Nat} {nodes : Int} {T : Int → Prop} (hT : WaitIs base nodes T) (hb : w.heap[b]? = some (.cells (dbC x).toArray 153 (0, 0))) (ht : x.t = 0) (hc : 0 ≤ x.c ∧ x.c < 18446744073709551616) :
    Calls Tryz.prog 148 #[.pointer (some ⟨b, 0, none⟩), .int .i64 nodes, .float .f64 base] w fun e w' => e = .returned (.tuple #[]) ∧ ∃ t, (T t ∧ 0 ≤ t ∧ t < 18446744073709551616) ∧ w'.heap[b]? = some (.cells (dbC { x with u := sat x.c t }).toArray 153 (0, 0)) ∧ Keep (fun k => k = b) w w' := by
  obtain ⟨m, h1, h2⟩ := hT
  have H1 := Lib.hid h1
  have H2 := Lib.hid h2
  obtain ⟨n, i, s, f, c, t0, u⟩ := x
  simp only at ht hc ⊢
  subst ht
  have BB := Lib.hid hb
  have HC := Lib.hid hc
  have c4 : w.drew.cell? ⟨b, 4, none⟩ = some (.int .u64 c) := by show w.cell? _ = _; simp [World.cell?, hb, dbC]
  have c5 : w.drew.cell? ⟨b, 5, none⟩ = some (.int .u64 0) := by show w.cell? _ = _; simp [World.cell?, hb, dbC]
  have c6 : w.drew.cell? ⟨b, 6, none⟩ = some (.int .u64 u) := by show w.cell? _ = _; simp [World.cell?, hb, dbC]
  have r6 : w.drew.frozen? ⟨b, 6, none⟩ = false := by show w.frozen? _ = _; simp [World.frozen?, hb]
  have KD : Hid (Keep (fun _ => False) w w.drew) := Lib.hid (Keep.refl _ w).drew
  clear h1 h2 hb hc
  go_enter Tryz.func148, Tryz.ntmps148
  go_upto_region 1 with fail
  go_region_held3 (fun W => W.cell? ⟨b, 4, none⟩ = some (.int .u64 c) ∧ W.cell? ⟨b, 5, none⟩ = some (.int .u64 0)) (go_keep) (first
    | (go_at_call 166; refine (H1.out _).mono ?_; rintro e w1 ⟨rfl, hk1⟩; have f4 := hk1.cell c4; have f5 := hk1.cell c5; have f6 := hk1.cell c6; have s6 := hk1.fro c6 r6; have K1 := Lib.hid (KD.out.step hk1); clear hk1)
    | (go_at_call 165; refine (H2.out _).mono ?_; rintro e w2 ⟨⟨t, rfl, ht0, ht1, hT⟩, hk2⟩; have had := fun W => add_run c t HC.out.1 ht0 W; have g4 := hk2.cell f4; have g5 := hk2.cell f5; have g6 := hk2.cell f6; have q6 := hk2.fro f6 s6; have z4 := fun v => set_other (w := w2) (v := v) (o := 6) (o' := 4) (by decide) g4; have z5 := fun v => set_other (w := w2) (v := v) (o := 6) (o' := 5) (by decide) g5; have K2 := Lib.hid (K1.out.step hk2); have HD := Lib.hid (fun W => held_any c t HC.out ⟨ht0, ht1⟩ W); clear hk2)
    | (go_at_call 163; refine (HD.out _).mono ?_; rintro e w3 ⟨rfl, rfl⟩))
  all_goals
    go_wp2
    go_end0
    refine ⟨rfl, t, ⟨hT, ht0, ht1⟩, ?_, (K2.out.mono (T := fun k => k = b) (fun _ h _ => absurd h id)).setAt 6 (.int .u64 (sat c t))⟩
    have h2 := heap_setCell_at (K2.out.old BB.out id) 6 (.int .u64 (sat c t))
    simpa [dbC] using h2

end Go.Proofs.YtofonfohaocclaaGreatDoor.D

namespace Go.Proofs.YtofonfohaocclaaGreatDoor.D
open Go.RowKit Sh
open Go.ChangeMaps (setBlock)
set_option linter.unusedVariables false

/-- Place q of w is a queue of the doubts M (in whatever order); mb: its map, if it has one. -/
structure IsQ (w : World) (q : Loc) (mb : Option Nat) (M : List Db) : Prop where
  cell : w.heap[q.b]? = some (.cells q.cs q.t (0, 0))
  here_ : q.cs[q.o]? = some (.map mb)
  mp : ∀ B, mb = some B → B ≠ q.b ∧ ∃ M1 : List Db, M1.Perm M ∧ IsMp Db.n dbV w B M1
  non : mb = none → M = []
def QS (q : Loc) (mb : Option Nat) (k : Nat) : Prop := k = q.b ∨ mb = some k
theorem IsQ.keep {S : Nat → Prop} {w w' : World} {q : Loc} {mb : Option Nat} {M : List Db} (h : IsQ w q mb M) (k : Keep S w w') (hn : ∀ j, QS q mb j → ¬ S j) : IsQ w' q mb M :=
  ⟨k.old h.cell (hn q.b (.inl rfl)), h.here_, fun B hB => by
    obtain ⟨h1, M1, h2, h3⟩ := h.mp B hB
    exact ⟨h1, M1, h2, h3.keep k (hn B (.inr hB))⟩, h.non⟩
theorem IsQ.keep0 {w w' : World} {q : Loc} {mb : Option Nat} {M : List Db} (h : IsQ w q mb M) (k : Keep (fun _ => False) w w') : IsQ w' q mb M := h.keep k fun _ _ h => h
theorem IsQ.perm {w : World} {q : Loc} {mb : Option Nat} {M M' : List Db} (h : IsQ w q mb M) (hp : M.Perm M') : IsQ w q mb M' :=
  ⟨h.cell, h.here_, fun B hB => by
    obtain ⟨h1, M1, h2, h3⟩ := h.mp B hB
    exact ⟨h1, M1, h2.trans hp, h3⟩, fun hn => by rw [h.non hn] at hp; exact hp.symm.eq_nil⟩
theorem IsQ.nod {w : World} {q : Loc} {mb : Option Nat} {M : List Db} (h : IsQ w q mb M) : (M.map Db.n).Nodup := by
  cases mb with
  | none => rw [h.non rfl]; simp
  | some B =>
    obtain ⟨h1, M1, h2, h3⟩ := h.mp B rfl
    exact (h2.map Db.n).nodup_iff.1 h3.nod
theorem IsQ.lt {w : World} {q : Loc} {mb : Option Nat} {M : List Db} (h : IsQ w q mb M) : q.b < w.heap.size := (Array.getElem?_eq_some_iff.1 h.cell).1
theorem IsQ.blt {w : World} {q : Loc} {B : Nat} {M : List Db} (h : IsQ w q (some B) M) : B < w.heap.size := by
  obtain ⟨h1, M1, h2, h3⟩ := h.mp B rfl
  exact h3.lt
theorem IsQ.c0 {w : World} {q : Loc} {mb : Option Nat} {M : List Db} (h : IsQ w q mb M) : w.cell? ⟨q.b, q.o, none⟩ = some (.map mb) := by
  have := h.cell
  simp only [World.cell?, this]
  exact h.here_
theorem IsQ.fr {w : World} {q : Loc} {mb : Option Nat} {M : List Db} (h : IsQ w q mb M) : w.frozen? ⟨q.b, q.o, none⟩ = false := by
  have := h.cell
  simp [World.frozen?, this]

def zDb : Db := ⟨0, 0, 0, 0, 0, 0, 0⟩
theorem zero55 (w : World) : (zeroValue 153).run Tryz.prog w = .ok (dbV zDb) w := by kernel_rfl
/-- what a look-up in a queue's map says. -/
theorem IsQ.look {w0 : World} {q : Loc} {mb : Option Nat} {M : List Db} (h : IsQ w0 q mb M) (n : Int) :
    ∃ (x : Db) (b : Bool), (∀ w, Keep (fun _ => False) w0 w → (Instr.lookup 42 (.map mb) (.int .i64 n) true).run Tryz.prog w = .ok (.tuple #[dbV x, .bool b]) w) ∧ ((b = true ∧ x ∈ M ∧ x.n = n) ∨ (b = false ∧ ∀ y ∈ M, y.n ≠ n)) := by
  cases mb with
  | none =>
    refine ⟨zDb, false, fun w k => ?_, .inr ⟨rfl, by rw [h.non rfl]; simp⟩⟩
    exact look_nil (P := Tryz.prog) Tryz.underlying42 Tryz.underlying3 (zero55 w) n true
  | some B =>
    obtain ⟨h1, M1, h2, h3⟩ := h.mp B rfl
    by_cases c : ∃ x ∈ M1, x.n = n
    · obtain ⟨x, hx, hn⟩ := c
      exact ⟨x, true, fun w k => (h3.keep k id).look_in (P := Tryz.prog) Tryz.underlying42 Tryz.underlying3 hx n hn true, .inl ⟨rfl, h2.mem_iff.1 hx, hn⟩⟩
    · refine ⟨zDb, false, fun w k => (h3.keep k id).look_out (P := Tryz.prog) Tryz.underlying42 Tryz.underlying3 (zero55 w) n (fun x hx hn => c ⟨x, hx, hn⟩) true, .inr ⟨rfl, fun y hy hn => c ⟨y, h2.mem_iff.2 hy, hn⟩⟩⟩
/-- where y comes in. -/
def putL (M : List Db) (y : Db) : List Db := M.filter (fun z => z.n ≠ y.n) ++ [y]
theorem map_put (M : List Db) (y : Db) (hn : (M.map Db.n).Nodup) (hx : ∃ x ∈ M, x.n = y.n) : (M.map fun z => if z.n = y.n then y else z).Perm (putL M y) := by
  induction M with
  | nil => obtain ⟨x, hx, _⟩ := hx; simp at hx
  | cons a M ih =>
    rw [List.map_cons, List.nodup_cons] at hn
    by_cases c : a.n = y.n
    · have e : ∀ z ∈ M, z.n ≠ y.n := fun z hz he => hn.1 (List.mem_map.2 ⟨z, hz, he.trans c.symm⟩)
      have e1 : (M.map fun z => if z.n = y.n then y else z) = M := by
        conv => rhs; rw [← List.map_id M]
        exact List.map_congr_left (fun z hz => by simp [e z hz])
      have e2 : M.filter (fun z => z.n ≠ y.n) = M := List.filter_eq_self.2 (fun z hz => by simpa using e z hz)
      rw [List.map_cons, if_pos c, e1, putL, List.filter_cons, if_neg (by simp [c]), e2]
      exact (List.perm_append_singleton y M).symm
    · obtain ⟨x, hx, hxn⟩ := hx
      have hx' : x ∈ M := by
        rcases List.mem_cons.1 hx with rfl | h
        · exact absurd hxn c
        · exact h
      rw [List.map_cons, if_neg c, putL, List.filter_cons, if_pos (by simp [c])]
      exact (ih hn.2 ⟨x, hx', hxn⟩).cons a
theorem put_out (M : List Db) (y : Db) (hx : ∀ x ∈ M, x.n ≠ y.n) : putL M y = M ++ [y] := by
  rw [putL, List.filter_eq_self.2 (fun z hz => by simpa using hx z hz)]
theorem IsQ.put {w : World} {q : Loc} {B : Nat} {M : List Db} (h : IsQ w q (some B) M) (y : Db) :
    ∃ o, (Instr.mapUpdate 42 (.map (some B)) (.int .i64 y.n) (dbV y)).run Tryz.prog w = .ok () (setBlock w B o) ∧ IsQ (setBlock w B o) q (some B) (putL M y) := by
  obtain ⟨h1, M1, h2, h3⟩ := h.mp B rfl
  have hc : ∀ o, (setBlock w B o).heap[q.b]? = some (.cells q.cs q.t (0, 0)) := fun o => (block_other (Ne.symm h1)).trans h.cell
  by_cases c : ∃ x ∈ M1, x.n = y.n
  · obtain ⟨o, hr, hi⟩ := h3.upd_in (P := Tryz.prog) Tryz.underlying42 Tryz.underlying3 y c _ rfl _ rfl
    refine ⟨o, hr, hc o, h.here_, fun B' hB' => ?_, fun h => by cases h⟩
    injection hB' with hB'
    subst hB'
    exact ⟨h1, _, (map_put M1 y h3.nod c).trans ((h2.filter _).append_right _), hi⟩
  · have c' : ∀ x ∈ M1, x.n ≠ y.n := fun x hx he => c ⟨x, hx, he⟩
    obtain ⟨o, hr, hi⟩ := h3.upd_out (P := Tryz.prog) Tryz.underlying42 Tryz.underlying3 y c' _ rfl _ rfl
    refine ⟨o, hr, hc o, h.here_, fun B' hB' => ?_, fun h => by cases h⟩
    injection hB' with hB'
    subst hB'
    refine ⟨h1, _, ?_, hi⟩
    rw [← put_out M1 y c']
    exact (h2.filter _).append_right _
theorem IsQ.del {w : World} {q : Loc} {B : Nat} {M : List Db} (h : IsQ w q (some B) M) (n : Int) (kt ty : TypeId) :
    ∃ o, (Builtin.delete_ #[42, kt] ty #[.map (some B), .int .i64 n]).run Tryz.prog w = .ok (.tuple #[]) (setBlock w B o) ∧ IsQ (setBlock w B o) q (some B) (M.filter fun z => z.n ≠ n) := by
  obtain ⟨h1, M1, h2, h3⟩ := h.mp B rfl
  obtain ⟨o, hr, hi⟩ := h3.del (P := Tryz.prog) Tryz.underlying42 Tryz.underlying3 n kt ty
  refine ⟨o, hr, (block_other (Ne.symm h1)).trans h.cell, h.here_, fun B' hB' => ?_, fun h => by cases h⟩
  injection hB' with hB'
  subst hB'
  exact ⟨h1, _, h2.filter _, hi⟩

theorem IsQ.made {w : World} {q : Loc} {M : List Db} (h : IsQ w q none M) : IsQ ((w.alloc (.map #[] 0)).setCell ⟨q.b, q.o, none⟩ (.map (some w.heap.size))) (q.to (.map (some w.heap.size))) (some w.heap.size) M := by
  have hq := h.lt
  have ka : Keep (fun _ => False) w (w.alloc (.map #[] 0)) := (Keep.refl _ w).alloc _
  have ks : Keep (fun k => k = q.b) (w.alloc (.map #[] 0)) ((w.alloc (.map #[] 0)).setCell ⟨q.b, q.o, none⟩ (.map (some w.heap.size))) := (Keep.refl _ _).setAt _ _
  refine ⟨heap_setCell_at (ka.old h.cell id) q.o (.map (some w.heap.size)), ?_, fun B hB => ?_, fun h => by cases h⟩
  · have := (Array.getElem?_eq_some_iff.1 h.here_).1
    simp [Loc.to, this]
  · injection hB with hB
    subst hB
    exact ⟨by show w.heap.size ≠ q.b; omega, [], by rw [h.non rfl], (IsMp.made w).keep ks (by omega)⟩

theorem putL_len (M : List Db) (y : Db) : (putL M y).length ≤ M.length + 1 := by
  simp only [putL, List.length_append, List.length_cons, List.length_nil]
  have := List.length_filter_le (fun z : Db => decide (z.n ≠ y.n)) M
  omega
theorem own_cell {w : World} {base : Nat} {e : TypeId} {size g n cap : Nat} {xs : List Value} (h : w.ownsRow base e size (.slice (some ⟨g, 0, none⟩) n cap) n xs) (j : Nat) (hj : j < n * size) :
    w.cell? ⟨g, j, none⟩ = xs[j]? ∧ w.frozen? ⟨g, j, none⟩ = false := by
  rcases h.2 with ⟨e0, _⟩ | ⟨g', cap', cur, e0, hb, hg, hn, hm, hs, ht⟩
  · cases e0
  · injection e0 with e1 _ e3
    injection e1 with e1
    injection e1 with e1
    subst e1; subst e3
    refine ⟨?_, by simp [World.frozen?, hg]⟩
    rw [← ht, List.getElem?_take_of_lt hj]
    simp [World.cell?, hg]
theorem own_keepB {S : Nat → Prop} {w w' : World} {base : Nat} {e : TypeId} {size : Nat} {v : Value} {n : Nat} {xs : List Value} (h : w.ownsRow base e size v n xs) (k : Keep S w w') (hS : ∀ g, v.ownBlock = some g → ¬ S g) : w'.ownsRow base e size v n xs := by
  obtain ⟨h1, h2⟩ := h
  refine ⟨h1, ?_⟩
  rcases h2 with h2 | ⟨g, cap, cur, hv, hg, hh, r⟩
  · exact .inl h2
  · exact .inr ⟨g, cap, cur, hv, hg, k.old hh (hS g (by rw [hv]; rfl)), r⟩
theorem own_block {w : World} {base : Nat} {e : TypeId} {size : Nat} {v : Value} {n : Nat} {xs : List Value} (h : w.ownsRow base e size v n xs) {g : Nat} (hg : v.ownBlock = some g) : base ≤ g ∧ g < w.heap.size ∧ ∃ c, w.heap[g]? = some (.cells c e (0, 0)) := by
  rcases h.2 with ⟨rfl, _⟩ | ⟨g', cap, cur, rfl, hb, hh, _⟩
  · cases hg
  · injection hg with hg
    subst hg
    exact ⟨hb, (Array.getElem?_eq_some_iff.1 hh).1, cur, hh⟩

/-- A range over a map that may be nil, of which L is left. -/
def ItO (w : World) (r : Nat) (mb : Option Nat) (M L : List Db) : Prop :=
  (mb = none ∧ L = [] ∧ w.heap[r]? = some (.mapIter none 0 #[] 0)) ∨ ∃ B, mb = some B ∧ r ≠ B ∧ IsIt (key := Db.n) (val := dbV) w r B M L
theorem ItO.keep {S : Nat → Prop} {w w' : World} {r : Nat} {mb : Option Nat} {M L : List Db} (h : ItO w r mb M L) (k : Keep S w w') (hn : ∀ B, mb = some B → ¬ S B) (hr : ¬ S r) : ItO w' r mb M L := by
  rcases h with ⟨rfl, h2, h3⟩ | ⟨B, rfl, h2, h3⟩
  · exact .inl ⟨rfl, h2, k.old h3 hr⟩
  · exact .inr ⟨B, rfl, h2, h3.keep k (hn B rfl) hr⟩
theorem ItO.block {w : World} {r : Nat} {mb : Option Nat} {M L : List Db} (h : ItO w r mb M L) : ∃ a b c d, w.heap[r]? = some (.mapIter a b c d) := by
  rcases h with ⟨rfl, h2, h3⟩ | ⟨B, rfl, h2, h3⟩
  · exact ⟨_, _, _, _, h3⟩
  · obtain ⟨E, c, seen, _, _, _, _, h5, _⟩ := h3
    exact ⟨_, _, _, _, h5⟩
theorem ItO.next {w : World} {r : Nat} {mb : Option Nat} {M L : List Db} (h : ItO w r mb M L) (ty : TypeId) :
    (L = [] ∧ (Instr.next (.pointer (some ⟨r, 0, none⟩)) false ty).run Tryz.prog w = .ok (.tuple #[.bool false]) w) ∨
    ∃ x L', L.Perm (x :: L') ∧ x ∈ M ∧ ∃ wn, Keep (fun k => k = r) w wn ∧ ItO wn r mb M L' ∧ (Instr.next (.pointer (some ⟨r, 0, none⟩)) false ty).run Tryz.prog w = .ok (.tuple #[.bool true, .int .i64 x.n, dbV x]) wn ∧ (Instr.entry (.pointer (some ⟨r, 0, none⟩))).run Tryz.prog wn = .ok (.tuple #[.int .i64 x.n, dbV x]) wn := by
  rcases h with ⟨rfl, h2, h3⟩ | ⟨B, rfl, h2, h3⟩
  · refine .inl ⟨h2, ?_⟩
    simp only [Instr.next, getObj, Sem.run_bind, Sem.run, h3, Result.andThen]
    rfl
  · rcases h3.next (P := Tryz.prog) ty h2 with h | ⟨x, L', p, hm, wn, k, h4, h5, h6⟩
    · exact .inl h
    · exact .inr ⟨x, L', p, hm, wn, k, .inr ⟨B, rfl, h2, h4⟩, h5, h6⟩
theorem IsQ.range {w w0 : World} {q : Loc} {mb : Option Nat} {M : List Db} (h : IsQ w0 q mb M) (k : Keep (fun _ => False) w0 w) :
    ∃ o M1, M1.Perm M ∧ (Instr.range 42 (.map mb)).run Tryz.prog w = .ok (.pointer (some ⟨w.heap.size, 0, none⟩)) (w.alloc o) ∧ ItO (w.alloc o) w.heap.size mb M1 M1 := by
  have h := h.keep0 k
  cases mb with
  | none =>
    refine ⟨.mapIter none 0 #[] 0, [], by rw [h.non rfl], ?_, .inl ⟨rfl, rfl, heap_alloc_new w _⟩⟩
    simp [Instr.range, run_underlying Tryz.underlying42, Result.andThen]
  | some B =>
    obtain ⟨h1, M1, h2, h3⟩ := h.mp B rfl
    obtain ⟨o, hr, hi⟩ := h3.range (P := Tryz.prog) Tryz.underlying42
    have := h3.lt
    exact ⟨o, M1, h2, hr, .inr ⟨B, rfl, by omega, hi⟩⟩
end Go.Proofs.YtofonfohaocclaaGreatDoor.D

namespace Go.Proofs.YtofonfohaocclaaGreatDoor.D
open Go.RowKit Sh
open Go.ChangeMaps (setBlock)
set_option linter.unusedVariables false

structure RaiseIs (w w' : World) (q : Loc) (mb : Option Nat) (M : List Db) (n i f c : Int) (T : Int → Prop) : Prop where
  ex : ∃ B t, (T t ∧ 0 ≤ t ∧ t < 18446744073709551616) ∧ IsQ w' (q.to (.map (some B))) (some B) (putL M ⟨n, i, 1, f, c, 0, sat c t⟩) ∧ (mb = some B ∨ (mb = none ∧ w.heap.size ≤ B))
  keep : Keep (QS q mb) w w'

set_option maxRecDepth 100000 in
set_option maxHeartbeats 4000000 in
theorem raise_new {w : World} {q : Loc} {mb : Option Nat} {M : List Db} {base : Nat} {nodes : Int} {T : Int → Prop} (h : IsQ w q mb M) (hT : WaitIs base nodes T) (n i : Int) (k : Nat) (c : Int) (hn : 0 ≤ n ∧ n < 64) (hk : k ≤ 63) (hc : 0 ≤ c ∧ c < 18446744073709551616) (hnew : ∀ x ∈ M, x.n = n → x.i < i) :
    Calls Tryz.prog 119 #[.pointer (some ⟨q.b, q.o, none⟩), updV n i 1, .int .i64 k, .int .u64 c, .int .i64 nodes, .float .f64 base] w fun e w' => e = .returned (.tuple #[.bool true, .int .i64 0]) ∧ RaiseIs w w' q mb M n i ((2 : Int) ^ k) c T := by
  unfold updV
  have H := Lib.hid h
  have HT := Lib.hid hT
  have hu : mayU n 1 = true := by simp [mayU]; omega
  have d1 : decide ((k : Int) < 0) = false := decide_eq_false (by omega)
  have d2 : decide ((64 : Int) ≤ (k : Int)) = false := decide_eq_false (by omega)
  have d3 : ¬ (64 : Int) ≤ (k : Int) := by omega
  clear h hT
  go_enter Tryz.func119, Tryz.ntmps119
  go_wp2_with fail
  refine (may_any n i 1 _).mono ?_
  rintro e w1 ⟨rfl, hk1⟩
  rw [hu]
  have bu := hk1.old (heap_alloc_new w (.cells #[.int .i64 n, .int .u64 i, .int .i64 1] 52)) id
  have k1 := ((Keep.refl (fun _ => False) w).alloc (.cells #[.int .i64 n, .int .u64 i, .int .i64 1] 52)).step hk1
  have c0 : w1.cell? ⟨w.heap.size, 0, none⟩ = some (.int .i64 n) := by simp [World.cell?, bu]
  have c1 : w1.cell? ⟨w.heap.size, 1, none⟩ = some (.int .u64 i) := by simp [World.cell?, bu]
  have c2 : w1.cell? ⟨w.heap.size, 2, none⟩ = some (.int .i64 1) := by simp [World.cell?, bu]
  have cq := k1.cell H.out.c0
  obtain ⟨x, b, hlk, hb⟩ := H.out.look n
  have BU := Lib.hid bu
  have K1 := Lib.hid k1
  have HB := Lib.hid hb
  clear hk1 bu k1 hb
  obtain ⟨xn, xi, xs, xf, xc, xt, xu⟩ := x
  have hlk2 : (Instr.lookup 42 (.map mb) (.int .i64 n) true).run Tryz.prog w1.drew = .ok (.tuple #[.agg #[.int .i64 xn, .int .u64 xi, .int .i64 xs, .int .u64 xf, .int .u64 xc, .int .u64 xt, .int .u64 xu], .bool b]) w1.drew := hlk _ K1.out.drew
  have hlk3 : ∀ o, (Instr.lookup 42 (.map mb) (.int .i64 n) true).run Tryz.prog (w1.alloc o).drew = .ok (.tuple #[.agg #[.int .i64 xn, .int .u64 xi, .int .i64 xs, .int .u64 xf, .int .u64 xc, .int .u64 xt, .int .u64 xu], .bool b]) (w1.alloc o).drew := fun o => hlk _ (K1.out.alloc _).drew
  clear hlk
  go_upto_region 3 with fail
  go_cut [14, 15] (fun v14 v15 wx => v14 = .pointer (some ⟨w1.heap.size, 0, none⟩) ∧ v15 = .bool b ∧ Keep (fun _ => False) w1 wx ∧ wx.heap[w1.heap.size]? = some (.cells #[.int .i64 xn, .int .u64 xi, .int .i64 xs, .int .u64 xf, .int .u64 xc, .int .u64 xt, .int .u64 xu] 153 (0, 0)))
  case first =>
    go_region_held3 (fun W => W.cell? ⟨q.b, q.o, none⟩ = some (.map mb) ∧ W.cell? ⟨w.heap.size, 0, none⟩ = some (.int .i64 n)) (go_keep) (fail)
    all_goals
      go_wp2_with fail
      go_meet
      exact ⟨rfl, rfl, ((Keep.refl _ w1).alloc _).drew, heap_alloc_new w1 _⟩
  case rest =>
    obtain ⟨rfl, rfl, kb, bb⟩ := hcut
    obtain ⟨wb, hwb⟩ : ∃ wb, wb = wc := ⟨_, rfl⟩
    rw [← hwb] at kb bb ⊢
    clear hwb
    have b1 : wb.cell? ⟨w1.heap.size, 1, none⟩ = some (.int .u64 xi) := by simp [World.cell?, bb]
    have c0 := kb.cell c0
    have c1 := kb.cell c1
    have c2 := kb.cell c2
    have KB := Lib.hid (K1.out.step kb)
    have BUB := Lib.hid (kb.old BU.out (fun h => h))
    have XB := Lib.hid bb
    have hsz : w.heap.size < w1.heap.size := (Array.getElem?_eq_some_iff.1 BU.out).1
    clear kb bb hlk2 hlk3 cq BU K1
    go_upto_block 0 with fail
    go_cut [] (fun wx => wx.heap[w1.heap.size]? = some (.cells (dbC ⟨n, i, 1, (2 : Int) ^ k, c, 0, 0⟩).toArray 153 (0, 0)) ∧ Keep (fun j => j = w1.heap.size) wb wx)
    case first =>
      have c0d : wb.drew.cell? ⟨w.heap.size, 0, none⟩ = some (.int .i64 n) := c0
      have c1d : wb.drew.cell? ⟨w.heap.size, 1, none⟩ = some (.int .u64 i) := c1
      have c2d : wb.drew.cell? ⟨w.heap.size, 2, none⟩ = some (.int .i64 1) := c2
      have FIN : Hid ((wb.drew.setRow w1.heap.size (dbC ⟨n, i, 1, (2 : Int) ^ k, c, 0, 0⟩).toArray).heap[w1.heap.size]? = some (.cells (dbC ⟨n, i, 1, (2 : Int) ^ k, c, 0, 0⟩).toArray 153 (0, 0)) ∧ Keep (fun j => j = w1.heap.size) wb (wb.drew.setRow w1.heap.size (dbC ⟨n, i, 1, (2 : Int) ^ k, c, 0, 0⟩).toArray)) := Lib.hid ⟨setRow_heap wb.drew w1.heap.size _ _ 153 _ XB.out, ⟨rfl, rfl, rfl, by simp [World.setRow], fun j _ hj => setRow_other wb.drew w1.heap.size j _ hj⟩⟩
      have hcase : b = false ∨ (b = true ∧ xi < i) := by
        rcases HB.out with ⟨rfl, hx, hxn⟩ | ⟨rfl, _⟩
        · exact .inr ⟨rfl, hnew _ hx hxn⟩
        · exact .inl rfl
      rcases hcase with rfl | ⟨rfl, hlt⟩
      · go_upto_region 4 with fail
        refine still_tail 5 (by kernel_rfl) (by kernel_rfl) ?_
        simp only [List.take_succ_cons, List.take_zero, List.drop_succ_cons, List.drop_zero]
        repeat still_step
        still_call (to_still (with_zero k hk _))
        repeat still_step
        try refine wpStill_nil ?_
        refine wpList_plain rfl fun K hK => ?_
        refine wp_store_row 153 _ _ rfl w1.heap.size (dbC ⟨n, i, 1, (2 : Int) ^ k, c, 0, 0⟩).toArray rfl rfl 153 _ (show wb.drew.heap[w1.heap.size]? = _ from XB.out) (by kernel_rfl) (by simp [dbC]) (by simp [dbC, Value.oneCell']) (hK _ _ ?_)
        clear hK K
        go_wp2_with fail
        go_meet
        exact FIN.out
      · have e1 : decide (i < xi) = false := decide_eq_false (by omega)
        have e2 : (xi == i) = false := by rw [beq_eq_false_iff_ne]; omega
        have e3 : ¬ xi = i := by omega
        go_upto_region 4 with fail
        refine still_tail 5 (by kernel_rfl) (by kernel_rfl) ?_
        simp only [List.take_succ_cons, List.take_zero, List.drop_succ_cons, List.drop_zero]
        repeat still_step
        still_call (to_still (with_zero k hk _))
        repeat still_step
        try refine wpStill_nil ?_
        refine wpList_plain rfl fun K hK => ?_
        refine wp_store_row 153 _ _ rfl w1.heap.size (dbC ⟨n, i, 1, (2 : Int) ^ k, c, 0, 0⟩).toArray rfl rfl 153 _ (show wb.drew.heap[w1.heap.size]? = _ from XB.out) (by kernel_rfl) (by simp [dbC]) (by simp [dbC, Value.oneCell']) (hK _ _ ?_)
        clear hK K
        go_wp2_with fail
        go_meet
        exact FIN.out
    case rest =>
      obtain ⟨hbx, hkx⟩ := hcut
      obtain ⟨wo, hwo⟩ : ∃ wo, wo = wc := ⟨_, rfl⟩
      rw [← hwo] at hbx hkx ⊢
      clear hwo
      have KO : Hid (Keep (fun _ => False) w wo) := Lib.hid (KB.out.trans hkx (fun j hj h => by omega))
      have BUO := Lib.hid (hkx.old BUB.out (by omega))
      have XO := Lib.hid hbx
      clear hbx hkx c0 c1 c2 b1 KB BUB XB HB
      go_wp2_with fail
      refine (dwait_any HT.out XO.out rfl hc).mono ?_
      rintro e w5 ⟨rfl, t, ⟨hTt, ht0, ht1⟩, hx5, hk5⟩
      have K5 : Hid (Keep (fun _ => False) w w5) := Lib.hid (KO.out.trans hk5 (fun j hj h => by omega))
      have BU5 := Lib.hid (hk5.old BUO.out (by omega))
      have X5 := Lib.hid hx5
      have H5 := Lib.hid (H.out.keep0 K5.out)
      have TT : Hid (T t ∧ 0 ≤ t ∧ t < 18446744073709551616) := Lib.hid ⟨hTt, ht0, ht1⟩
      clear hx5 hk5 KO BUO XO hTt ht0 ht1
      have cq := H5.out.c0
      have hnil := run_eql_map_nil (P := Tryz.prog) w5 42 3 153 mb Tryz.underlying42
      generalize hS : sat c t = st at *
      cases mb with
      | some B =>
        go_upto_region 15 with fail
        have HC2 := H5
        have BC2 := BU5
        have XC2 := X5
        have KC2 : Hid (Keep (QS q (some B)) w w5) := Lib.hid (K5.out.mono (fun _ h _ => absurd h id))
        obtain ⟨ws, hws⟩ : ∃ ws, ws = w5 := ⟨_, rfl⟩
        rw [← hws] at HC2 BC2 XC2 KC2 ⊢
        clear hws H5 BU5 X5 K5 cq hnil
        obtain ⟨o, hup, hiq⟩ := (HC2.out.keep0 (Keep.refl _ ws).drew).put ⟨n, i, 1, (2 : Int) ^ k, c, 0, st⟩
        have hup2 : (Instr.mapUpdate 42 (.map (some B)) (.int .i64 n) (.agg #[.int .i64 n, .int .u64 i, .int .i64 1, .int .u64 ((2 : Int) ^ k), .int .u64 c, .int .u64 0, .int .u64 st])).run Tryz.prog ws.drew = .ok () (setBlock ws.drew B o) := hup
        have xb := XC2.out
        have u0 : ws.drew.cell? ⟨w.heap.size, 0, none⟩ = some (.int .i64 n) := by have := BC2.out; show ws.cell? _ = _; simp [World.cell?, this]
        have cq : ws.drew.cell? ⟨q.b, q.o, none⟩ = some (.map (some B)) := (HC2.out.keep0 (Keep.refl _ ws).drew).c0
        have x0 : ws.drew.cell? ⟨w1.heap.size, 0, none⟩ = some (.int .i64 n) := by show ws.cell? _ = _; simp [World.cell?, xb, dbC]
        have x1 : ws.drew.cell? ⟨w1.heap.size, 1, none⟩ = some (.int .u64 i) := by show ws.cell? _ = _; simp [World.cell?, xb, dbC]
        have x2 : ws.drew.cell? ⟨w1.heap.size, 2, none⟩ = some (.int .i64 1) := by show ws.cell? _ = _; simp [World.cell?, xb, dbC]
        have x3 : ws.drew.cell? ⟨w1.heap.size, 3, none⟩ = some (.int .u64 ((2 : Int) ^ k)) := by show ws.cell? _ = _; simp [World.cell?, xb, dbC]
        have x4 : ws.drew.cell? ⟨w1.heap.size, 4, none⟩ = some (.int .u64 c) := by show ws.cell? _ = _; simp [World.cell?, xb, dbC]
        have x5 : ws.drew.cell? ⟨w1.heap.size, 5, none⟩ = some (.int .u64 0) := by show ws.cell? _ = _; simp [World.cell?, xb, dbC]
        have x6 : ws.drew.cell? ⟨w1.heap.size, 6, none⟩ = some (.int .u64 st) := by show ws.cell? _ = _; simp [World.cell?, xb, dbC]
        have RK := Lib.hid (keep_setBlock KC2.out.drew B o (fun hlt => .inr rfl))
        have RQ := Lib.hid hiq
        clear hup xb hiq HC2 BC2 XC2 KC2
        refine sb_tail 7 (by kernel_rfl) (by kernel_rfl) ?_
        simp only [List.take_succ_cons, List.take_zero, List.drop_succ_cons, List.drop_zero]
        repeat (refine sb_step (fun K hK => ?_); go_simp; refine hK _ ?_; clear hK K)
        try refine sb_nil ?_
        go_wp2
        go_ret2
        exact ⟨rfl, ⟨B, t, TT.out, by rw [hS, Loc.to_self H.out.here_]; exact RQ.out, .inl rfl⟩, RK.out⟩
      | none =>
        have hmm := @run_makeMap Tryz.prog
        have ka := (Keep.refl (fun _ => False) w5).alloc (.map #[] 0)
        have HA := H5.out.keep0 ka
        have fq : (w5.alloc (.map #[] 0)).frozen? ⟨q.b, q.o, none⟩ = false := by have := HA.cell; simp [World.frozen?, this]
        have cqa := HA.c0
        have hBs : w.heap.size ≤ w5.heap.size := K5.out.size
        have hB1 : w1.heap.size < w5.heap.size := (Array.getElem?_eq_some_iff.1 X5.out).1
        go_upto_region 15 with fail
        clear hmm fq cqa cq hnil
        obtain ⟨B, hB⟩ : ∃ B, B = w5.heap.size := ⟨_, rfl⟩
        have hBw : w.heap.size ≤ B := by omega
        have HC2 := Lib.hid H5.out.made
        rw [← hB] at HC2
        have ks : Keep (fun k => k = q.b) w5 ((w5.alloc (.map #[] 0)).setCell ⟨q.b, q.o, none⟩ (.map (some B))) := ((Keep.refl _ w5).alloc _).setAt _ _
        have hqb : w.heap.size ≠ q.b := by have := H.out.lt; omega
        have hqb1 : w1.heap.size ≠ q.b := by have := H.out.lt; omega
        have BC2 := Lib.hid (ks.old BU5.out hqb)
        have XC2 := Lib.hid (ks.old X5.out hqb1)
        have KC2 : Hid (Keep (QS q none) w ((w5.alloc (.map #[] 0)).setCell ⟨q.b, q.o, none⟩ (.map (some B)))) := Lib.hid ((K5.out.mono (fun _ h _ => absurd h id)).trans ks (fun k hk _ => .inl hk))
        obtain ⟨ws, hws⟩ : ∃ ws, ws = (w5.alloc (.map #[] 0)).setCell ⟨q.b, q.o, none⟩ (.map (some B)) := ⟨_, rfl⟩
        rw [← hB]
        rw [← hws] at HC2 BC2 XC2 KC2 ⊢
        clear hws H5 BU5 X5 K5 ka HA ks hB hBs hqb hqb1 hB1
        obtain ⟨o, hup, hiq⟩ := (HC2.out.keep0 (Keep.refl _ ws).drew).put ⟨n, i, 1, (2 : Int) ^ k, c, 0, st⟩
        have hup2 : (Instr.mapUpdate 42 (.map (some B)) (.int .i64 n) (.agg #[.int .i64 n, .int .u64 i, .int .i64 1, .int .u64 ((2 : Int) ^ k), .int .u64 c, .int .u64 0, .int .u64 st])).run Tryz.prog ws.drew = .ok () (setBlock ws.drew B o) := hup
        have xb := XC2.out
        have u0 : ws.drew.cell? ⟨w.heap.size, 0, none⟩ = some (.int .i64 n) := by have := BC2.out; show ws.cell? _ = _; simp [World.cell?, this]
        have cq : ws.drew.cell? ⟨q.b, q.o, none⟩ = some (.map (some B)) := (HC2.out.keep0 (Keep.refl _ ws).drew).c0
        have x0 : ws.drew.cell? ⟨w1.heap.size, 0, none⟩ = some (.int .i64 n) := by show ws.cell? _ = _; simp [World.cell?, xb, dbC]
        have x1 : ws.drew.cell? ⟨w1.heap.size, 1, none⟩ = some (.int .u64 i) := by show ws.cell? _ = _; simp [World.cell?, xb, dbC]
        have x2 : ws.drew.cell? ⟨w1.heap.size, 2, none⟩ = some (.int .i64 1) := by show ws.cell? _ = _; simp [World.cell?, xb, dbC]
        have x3 : ws.drew.cell? ⟨w1.heap.size, 3, none⟩ = some (.int .u64 ((2 : Int) ^ k)) := by show ws.cell? _ = _; simp [World.cell?, xb, dbC]
        have x4 : ws.drew.cell? ⟨w1.heap.size, 4, none⟩ = some (.int .u64 c) := by show ws.cell? _ = _; simp [World.cell?, xb, dbC]
        have x5 : ws.drew.cell? ⟨w1.heap.size, 5, none⟩ = some (.int .u64 0) := by show ws.cell? _ = _; simp [World.cell?, xb, dbC]
        have x6 : ws.drew.cell? ⟨w1.heap.size, 6, none⟩ = some (.int .u64 st) := by show ws.cell? _ = _; simp [World.cell?, xb, dbC]
        have RK := Lib.hid (keep_setBlock KC2.out.drew B o (fun hlt => absurd hlt (by omega)))
        have RQ := Lib.hid hiq
        clear hup xb hiq HC2 BC2 XC2 KC2
        refine sb_tail 7 (by kernel_rfl) (by kernel_rfl) ?_
        simp only [List.take_succ_cons, List.take_zero, List.drop_succ_cons, List.drop_zero]
        repeat (refine sb_step (fun K hK => ?_); go_simp; refine hK _ ?_; clear hK K)
        try refine sb_nil ?_
        go_wp2
        go_ret2
        exact ⟨rfl, ⟨B, t, TT.out, by rw [hS]; exact RQ.out, .inr ⟨rfl, hBw⟩⟩, RK.out⟩

end Go.Proofs.YtofonfohaocclaaGreatDoor.D
