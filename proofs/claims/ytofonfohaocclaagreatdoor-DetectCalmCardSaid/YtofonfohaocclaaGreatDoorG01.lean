/- One name for the library's texts that this seat's walks lean on; frames of blocks; boxed steps of drawn regions. A map keyed by ints, as the heap has it: what a look-up, a store, a delete and a range do there. -/
import Derived.Test.YtofonfohaocclaaGreatDoorRows
import Derived.WalkKit
import Derived.WalkSpells
import Derived.WalkLawsBesides
import Derived.Lib.Hide
import Derived.Deep.RegionWith
import Derived.StillTailTactics
import Derived.Deep.RegionHeld3
import Derived.BigQuiet
import Derived.Deep.QuietTactic
import Derived.Deep.LoopGhost
import Derived.Deep.DeepCutAuto
import Derived.Deep.CutBlock
import Derived.RegionTactic
import Derived.Deep.DeepFit
import Derived.Deep.DeepMust
import Derived.OneCell
import Derived.Deep.AppendLies
import Derived.Maps.AppendAt
import Derived.OpenShut
import Derived.ProofKit
import Derived.BigRegion
import Derived.Maps.RangeRun
import Derived.Carry
namespace Go.Proofs.YtofonfohaocclaaGreatDoor
open Go

theorem still_tail {P : Program} {id : Nat} {Q : Exit → Act → World → Prop} {a : Act} {w : World} {l : List Oper} (n : Nat) (hm : P.follows .mixedOrders = true) (hB : Region.lexTailB .any l.toArray n = true)
    (h : wpStill P l.toArray w.drew (fun a' => wpList P l.toArray Q (l.drop n) a' w.drew) (l.take n) a) : (Code.region id l.toArray true).wp P Q a w :=
  wp_region_still_tail n hm hB h
theorem still_lit {P : Program} {id : Nat} {Q : Exit → Act → World → Prop} {a : Act} {w : World} {l : List Oper} (hm : P.follows .mixedOrders = true) (hB : Region.lexB .any l.toArray = true)
    (h : wpStill P l.toArray w.drew (fun a' => Q .normal a' w.drew) l a) : (Code.region id l.toArray true).wp P Q a w :=
  wp_region_still_lit hm hB h
theorem to_still {P : Program} {f : FuncId} {args : Array Value} {w : World} {v : Value} (h : Calls P f args w fun e w' => e = .returned v ∧ w = w') : Calls P f args w (fun e w'' => e = .returned v ∧ w'' = w) :=
  h.mono fun _ _ ⟨h1, h2⟩ => ⟨h1, h2.symm⟩

namespace Sh
open Go.RowKit
theorem heap_setCell_at {w : World} {b : Nat} {c : Array Value} {t : TypeId} {fr : Nat × Nat} (h : w.heap[b]? = some (.cells c t fr)) (o : Nat) (v : Value) :
    (w.setCell ⟨b, o, none⟩ v).heap[b]? = some (.cells (c.setIfInBounds o v) t fr) := by
  simp only [World.setCell, Array.getElem?_modify, h]; simp
structure Keep (S : Nat → Prop) (w w' : World) : Prop where
  os : w'.os = w.os
  tape : w'.tape = w.tape
  output : w'.output = w.output
  size : w.heap.size ≤ w'.heap.size
  block : ∀ k, k < w.heap.size → ¬ S k → w'.heap[k]? = w.heap[k]?

theorem Keep.refl (S : Nat → Prop) (w : World) : Keep S w w := ⟨rfl, rfl, rfl, Nat.le_refl _, fun _ _ _ => rfl⟩
theorem Keep.trans {S T : Nat → Prop} {a b c : World} (h : Keep S a b) (k : Keep T b c) (hs : ∀ i, T i → i < a.heap.size → S i) : Keep S a c :=
  ⟨k.os.trans h.os, k.tape.trans h.tape, k.output.trans h.output, Nat.le_trans h.size k.size,
    fun i hi hn => (k.block i (Nat.lt_of_lt_of_le hi h.size) (fun ht => hn (hs i ht hi))).trans (h.block i hi hn)⟩
theorem Keep.step {S : Nat → Prop} {a b c : World} (h : Keep S a b) (k : Keep S b c) : Keep S a c := h.trans k fun _ h _ => h
theorem Keep.mono {S T : Nat → Prop} {a b : World} (h : Keep S a b) (hs : ∀ i, S i → i < a.heap.size → T i) : Keep T a b :=
  ⟨h.os, h.tape, h.output, h.size, fun i hi hn => h.block i hi fun hi' => hn (hs i hi' hi)⟩
theorem Keep.drew {S : Nat → Prop} {a b : World} (h : Keep S a b) : Keep S a b.drew := ⟨h.os, h.tape, h.output, h.size, h.block⟩
theorem Keep.drewN {S : Nat → Prop} {a b : World} (h : Keep S a b) (n : Nat) : Keep S a (b.drewN n) := ⟨h.os, h.tape, h.output, h.size, h.block⟩
theorem Keep.alloc {S : Nat → Prop} {a b : World} (h : Keep S a b) (o : Obj) : Keep S a (b.alloc o) :=
  h.trans (T := S) ⟨rfl, rfl, rfl, by simp, fun k hk _ => Below.heap_alloc _ _ _ hk⟩ fun _ h _ => h
theorem Keep.setCell {S : Nat → Prop} {a b : World} (h : Keep S a b) (p : Addr) (u : Value) (hp : p.block < a.heap.size → S p.block) : Keep S a (b.setCell p u) :=
  h.trans (T := fun k => k = p.block) ⟨rfl, rfl, rfl, by simp [World.setCell], fun k _ hk => Below.heap_setCell _ _ _ _ hk⟩ (by rintro i rfl hi; exact hp hi)
theorem Keep.setAt {b : Nat} {a w : World} (h : Keep (fun k => k = b) a w) (o : Nat) (u : Value) : Keep (fun k => k = b) a (w.setCell ⟨b, o, none⟩ u) := h.setCell ⟨b, o, none⟩ u fun _ => rfl
theorem Keep.grown {S : Nat → Prop} {a b c : World} {row : Option Nat} (h : Keep S a b) (hg : b.grownBy c row) (hr : ∀ k, row = some k → k < a.heap.size → S k) : Keep S a c :=
  h.trans (T := fun k => row = some k) ⟨hg.os, hg.tape, hg.output, hg.size, fun k hk hn => hg.block k hk (fun e => hn e.symm)⟩ (fun i hi hl => hr i hi hl)
theorem Keep.below {a b : World} (h : Keep (fun _ => False) a b) : Below a.heap.size a b := ⟨h.os, h.tape, h.output, h.size, fun k hk => h.block k hk (fun h => h)⟩
theorem Keep.old {S : Nat → Prop} {a b : World} (h : Keep S a b) {k : Nat} {o : Obj} (ho : a.heap[k]? = some o) (hn : ¬ S k) : b.heap[k]? = some o :=
  (h.block k (Array.getElem?_eq_some_iff.1 ho).1 hn).trans ho
end Sh
open Go.RowKit Sh
open Go.ChangeMaps (setBlock)
theorem block_set {w : World} {B : Nat} {o o' : Obj} (h : w.heap[B]? = some o') : (setBlock w B o).heap[B]? = some o := by
  have hlt : B < w.heap.size := (Array.getElem?_eq_some_iff.1 h).1
  simp [setBlock, hlt]
theorem block_other {w : World} {B k : Nat} {o : Obj} (h : k ≠ B) : (setBlock w B o).heap[k]? = w.heap[k]? := by
  simp only [setBlock]
  rw [Array.getElem?_setIfInBounds_ne (Ne.symm h)]
theorem keep_setBlock {S : Nat → Prop} {a b : World} (h : Keep S a b) (B : Nat) (o : Obj) (hB : B < a.heap.size → S B) : Keep S a (setBlock b B o) :=
  h.trans (T := fun k => k = B) ⟨rfl, rfl, rfl, by simp [setBlock], fun k _ hk => block_other hk⟩ (by rintro i rfl hi; exact hB hi)
structure SBox (p : Prop) : Prop where
  out : p
theorem sb_step {P : Program} {ops : Array Oper} {w : World} {Q : Act → Prop} {a : Act} {o : Oper} {rest : List Oper} (h : ∀ K : Act → Prop, (∀ a, SBox (wpStill P ops w Q rest a) → K a) → if Region.wanted o (yielded ops a.tmps) then o.still P a w K else K (a.put o.dst undef)) : SBox (wpStill P ops w Q (o :: rest) a) :=
  ⟨wpStill_step fun K hK => h K fun a h => hK a h.out⟩
theorem sb_nil {P : Program} {ops : Array Oper} {w : World} {Q : Act → Prop} {a : Act} (h : Q a) : SBox (wpStill P ops w Q [] a) := ⟨wpStill_nil h⟩
theorem sb_lit {P : Program} {id : Nat} {Q : Exit → Act → World → Prop} {a : Act} {w : World} {l : List Oper} (hm : P.follows .mixedOrders = true) (hB : Region.lexB .any l.toArray = true)
    (h : SBox (wpStill P l.toArray w.drew (fun a' => Q .normal a' w.drew) l a)) : (Code.region id l.toArray true).wp P Q a w :=
  wp_region_still_lit hm hB h.out
theorem sb_tail {P : Program} {id : Nat} {Q : Exit → Act → World → Prop} {a : Act} {w : World} {l : List Oper} (n : Nat) (hm : P.follows .mixedOrders = true) (hB : Region.lexTailB .any l.toArray n = true)
    (h : SBox (wpStill P l.toArray w.drew (fun a' => wpList P l.toArray Q (l.drop n) a' w.drew) (l.take n) a)) : (Code.region id l.toArray true).wp P Q a w :=
  wp_region_still_tail n hm hB h.out
structure Box (p : Prop) : Prop where
  out : p
theorem hq_step {P : Program} {ops : Array Oper} {C : World → Prop} {Q : Act → Prop} {a : Act} {o : Oper} {rest : List Oper} (h : ∀ K : Act → Prop, (∀ a, Box (wpQuiet P ops C Q rest a) → K a) → if Region.wanted o (yielded ops a.tmps) then o.quiet P a C K else K (a.put o.dst undef)) : Box (wpQuiet P ops C Q (o :: rest) a) := ⟨wpQuiet_step fun K hK => h K fun a h => hK a h.out⟩
theorem hq_nil {P : Program} {ops : Array Oper} {C : World → Prop} {Q : Act → Prop} {a : Act} (h : Q a) : Box (wpQuiet P ops C Q [] a) := ⟨wpQuiet_nil h⟩
theorem hq_start {p : Prop} (h : Box p) : p := h.out
theorem quiet_val {C : World → Prop} {u : Value} {K : Value → Prop} (h : K u) : ∃ v, (∀ w, C w → u = v) ∧ K v := ⟨u, fun _ _ => rfl, h⟩
theorem quiet_call {C : World → Prop} {P : Program} {f : Nat} {args : Array Value} {u : Value} {K : Value → Prop} (hc : ∀ w, C w → Calls P f args w (fun e w'' => e = .returned u ∧ C w'')) (h : K u) : ∃ v, (∀ w, C w → Calls P f args w (fun e w'' => e = .returned v ∧ C w'')) ∧ K v := ⟨u, hc, h⟩

set_option maxRecDepth 100000 in
set_option maxHeartbeats 4000000 in
section
variable {P : Program}
theorem step_append_own {w : World} {ops : Array Oper} {o : Oper} {a : Act} {K : Act → World → Prop} {Q : Exit → Act → World → Prop} {E : Prop} (hgd : o.guard = none) (s x : Operand) (t : TypeId)
    (ho : o.op = .call { callee := .builtin .append, args := #[s, x], argTypes := #[t, t] })
    (base : Nat) (e : TypeId) (i : TypeInfo) (z : Value) (size bytes : Nat) (ht : P.underlying t = some (.slice e)) (hi : P.info? e = some i) (hz : i.zero = some z)
    (hsize : i.size = size) (hby : i.bytes = bytes) (hzs : z.cells.size = size) (hsz : 0 < size)
    (v : Value) (n : Nat) (xs : List Value) (hs : a.eval s = v) (hown : w.ownsRow base e size v n xs)
    (ad : Addr) (m c : Nat) (news : List Value) (hx : a.eval x = .slice (some ad) m c) (hl : news.length = m * size) (hnews : ∀ j u, news[j]? = some u → w.cell? (ad.add j) = some u) (h1 : ∀ u ∈ news, u.oneCell' = true)
    (h63 : n + m ≤ maxLen) (hbytes : (n + m) * bytes ≤ 140737488355328) (hbase : base ≤ w.heap.size)
    (h : ∀ v' w', w'.ownsRow base e size v' (n + m) (xs ++ news) → w.grownBy w' v.ownBlock → K (a.put o.dst v') w') :
    if Region.wanted o (yielded ops a.tmps) = true then Oper.wp P o a w K Q else E := by
  have hw : Region.wanted o (yielded ops a.tmps) = true := by simp [Region.wanted, hgd]
  rw [if_pos hw]
  obtain ⟨v', w', hr, h2, h3, _, _⟩ := run_append_own_at (P := P) w base t o.type e i z size bytes ht hi hz hsize hby hzs hsz v n xs hown ad m c news hl hnews h1 h63 hbytes hbase
  unfold Oper.wp execOp
  simp only [ho, resolve, invoke, builtin, Sem.run_bind, Sem.run_pure, Result.andThen_ok, List.map_toArray, List.map_cons, List.map_nil, hs, hx, hr]
  exact h _ _ h2 h3
end
theorem own_keepS {S : Nat → Prop} {w w' : World} {base : Nat} {e : TypeId} {size : Nat} {v : Value} {n : Nat} {xs : List Value} (h : w.ownsRow base e size v n xs) (k : Keep S w w') (hS : ∀ i, base ≤ i → ¬ S i) : w'.ownsRow base e size v n xs := by
  obtain ⟨h1, h2⟩ := h
  refine ⟨h1, ?_⟩
  rcases h2 with h2 | ⟨g, cap, cur, hv, hg, hh, r⟩
  · exact .inl h2
  · exact .inr ⟨g, cap, cur, hv, hg, k.old hh (hS g hg), r⟩
theorem Sh.Keep.cell {w w' : World} (k : Keep (fun _ => False) w w') {a : Addr} {v : Value} (h : w.cell? a = some v) : w'.cell? a = some v :=
  (World.cell?_of_block (k.block a.block (World.block_lt_of_cell? w a h) (fun h => h))).trans h
theorem own_shape {w : World} {base n : Nat} {e : TypeId} {size : Nat} {v : Value} {xs : List Value} (h : w.ownsRow base e size v n xs) : ∃ A c, v = .slice A n c := by
  rcases h.2 with ⟨rfl, rfl⟩ | ⟨g, cap, cur, rfl, _⟩
  · exact ⟨none, 0, rfl⟩
  · exact ⟨_, cap, rfl⟩

theorem Sh.Keep.fro {w w' : World} (k : Keep (fun _ => False) w w') {a : Addr} {v : Value} (h : w.cell? a = some v) (hf : w.frozen? a = false) : w'.frozen? a = false := by
  have := k.block a.block (World.block_lt_of_cell? w a h) (fun h => h)
  unfold World.frozen? at hf ⊢
  rw [this]
  exact hf
end Go.Proofs.YtofonfohaocclaaGreatDoor

namespace Go.Proofs.YtofonfohaocclaaGreatDoor
open Go.RowKit Sh
open Go.ChangeMaps (setBlock)
set_option linter.unusedVariables false

section
variable {α : Type} (key : α → Int) (val : α → Value)
def mpE (p : α × Nat) : MapEntry := { key := .int .i64 (key p.1), val := val p.1, born := p.2 }
def mpA (E : List (α × Nat)) : Array MapEntry := (E.map (mpE key val)).toArray

/-- Block B of w is a map that holds the items M (their keys differ). -/
structure IsMp (w : World) (B : Nat) (M : List α) : Prop where
  out : ∃ E c, w.heap[B]? = some (.map (mpA key val E) c) ∧ E.map (·.1) = M ∧ (∀ p ∈ E, p.2 < c) ∧ (E.map (·.2)).Nodup
  nod : (M.map key).Nodup

variable {key val}
theorem mp_in (n : Int) : ∀ (E : List (α × Nat)) (i : Nat), (∃ p ∈ E, key p.1 = n) → ∃ p ∈ E, key p.1 = n ∧ ∃ j, ∃ h : j < E.length, E[j] = p ∧ Instr.findNow (.int .i64) (.int .i64 n) (E.map (mpE key val)) i = some (some (i + j, val p.1))
  | [], _, h => by obtain ⟨e, he, _⟩ := h; simp at he
  | x :: E, i, h => by
    by_cases c : n = key x.1
    · exact ⟨x, by simp, c.symm, 0, by simp, rfl, by simp [Instr.findNow, Instr.sameNow, mpE, c]⟩
    · obtain ⟨e, he, hk⟩ := h
      have he' : e ∈ E := by
        rcases List.mem_cons.1 he with rfl | h
        · exact absurd hk.symm c
        · exact h
      obtain ⟨e', h1, h2, j, hj, h4, h3⟩ := mp_in n E (i + 1) ⟨e, he', hk⟩
      refine ⟨e', by simp [h1], h2, j + 1, by simpa using hj, by simpa using h4, ?_⟩
      have cb : (n == key x.1) = false := by rw [beq_eq_false_iff_ne]; exact c
      simp only [List.map_cons, Instr.findNow, Instr.sameNow, mpE, cb, if_true]
      rw [show i + (j + 1) = i + 1 + j by omega]
      simpa [mpE] using h3
theorem mp_out (n : Int) : ∀ (E : List (α × Nat)) (i : Nat), (∀ p ∈ E, key p.1 ≠ n) → Instr.findNow (.int .i64) (.int .i64 n) (E.map (mpE key val)) i = some none
  | [], _, _ => by simp [Instr.findNow]
  | x :: E, i, h => by
    have cb : (n == key x.1) = false := by rw [beq_eq_false_iff_ne]; exact fun c => h x (by simp) c.symm
    have := mp_out n E (i + 1) (fun e he => h e (by simp [he]))
    simp only [List.map_cons, Instr.findNow, Instr.sameNow, mpE, cb, if_true]
    simpa [mpE] using this

theorem IsMp.keep {S : Nat → Prop} {w w' : World} {B : Nat} {M : List α} (h : IsMp key val w B M) (k : Keep S w w') (hn : ¬ S B) : IsMp key val w' B M := by
  obtain ⟨⟨E, c, h1, h2⟩, h3⟩ := h
  exact ⟨⟨E, c, k.old h1 hn, h2⟩, h3⟩
theorem IsMp.lt {w : World} {B : Nat} {M : List α} (h : IsMp key val w B M) : B < w.heap.size := by
  obtain ⟨⟨E, c, h1, h2⟩, h3⟩ := h
  exact (Array.getElem?_eq_some_iff.1 h1).1
theorem IsMp.made (w : World) : IsMp key val (w.alloc (.map #[] 0)) w.heap.size [] :=
  ⟨⟨[], 0, heap_alloc_new w _, rfl, by simp, by simp⟩, by simp⟩

theorem nodup_one {M : List α} (h : (M.map key).Nodup) : ∀ {x y : α}, x ∈ M → y ∈ M → key x = key y → x = y := by
  induction M with
  | nil => intro x y hx; simp at hx
  | cons a M ih =>
    intro x y hx hy he
    rw [List.map_cons, List.nodup_cons] at h
    rcases List.mem_cons.1 hx with hx' | hx' <;> rcases List.mem_cons.1 hy with hy' | hy'
    · rw [hx', hy']
    · exact absurd (List.mem_map.2 ⟨y, hy', by rw [← he, hx']⟩) h.1
    · exact absurd (List.mem_map.2 ⟨x, hx', by rw [he, hy']⟩) h.1
    · exact ih h.2 hx' hy' he

variable {P : Program} {t kt et : TypeId}
theorem IsMp.look_in {w : World} {B : Nat} {M : List α} (h : IsMp key val w B M) (ht : P.underlying t = some (.map kt et)) (hkt : P.underlying kt = some (.int .i64)) {x : α} (hx : x ∈ M) (n : Int) (hn : key x = n) (ok : Bool) :
    (Instr.lookup t (.map (some B)) (.int .i64 n) ok).run P w = .ok (if ok then .tuple #[val x, .bool true] else val x) w := by
  obtain ⟨⟨E, c, h1, rfl, h3, h4⟩, h5⟩ := h
  obtain ⟨p, hp, hk, j, hj, _, hf⟩ := mp_in (key := key) (val := val) n E 0 (by obtain ⟨p, hp, rfl⟩ := List.mem_map.1 hx; exact ⟨p, hp, hn⟩)
  have e : p.1 = x := nodup_one h5 (List.mem_map.2 ⟨p, hp, rfl⟩) hx (hk.trans hn.symm)
  subst e
  have hk := MapKept.run_checkKey (w := w) hkt (k := .int .i64 n) (by trivial) (mpA key val E).isEmpty 9999
  have hq := MapKept.run_findKey (w := w) (l := (mpA key val E).toList) hkt hf
  simp only [Instr.lookup, Sem.run_bind, run_underlying ht, MapKept.run_getObj_map h1, Result.andThen, Sem.run_pure, hk, hq]
theorem IsMp.look_out {w : World} {B : Nat} {M : List α} (h : IsMp key val w B M) (ht : P.underlying t = some (.map kt et)) (hkt : P.underlying kt = some (.int .i64)) {z : Value} (hz : (zeroValue et).run P w = .ok z w) (n : Int) (hn : ∀ x ∈ M, key x ≠ n) (ok : Bool) :
    (Instr.lookup t (.map (some B)) (.int .i64 n) ok).run P w = .ok (if ok then .tuple #[z, .bool false] else z) w := by
  obtain ⟨⟨E, c, h1, rfl, h3, h4⟩, h5⟩ := h
  have hf := mp_out (key := key) (val := val) n E 0 (fun p hp => hn _ (List.mem_map.2 ⟨p, hp, rfl⟩))
  have hk := MapKept.run_checkKey (w := w) hkt (k := .int .i64 n) (by trivial) (mpA key val E).isEmpty 9999
  have hq := MapKept.run_findKey (w := w) (l := (mpA key val E).toList) hkt hf
  simp only [Instr.lookup, Sem.run_bind, run_underlying ht, MapKept.run_getObj_map h1, Result.andThen, Sem.run_pure, hk, hq, hz]
theorem look_nil {w : World} (ht : P.underlying t = some (.map kt et)) (hkt : P.underlying kt = some (.int .i64)) {z : Value} (hz : (zeroValue et).run P w = .ok z w) (n : Int) (ok : Bool) :
    (Instr.lookup t (.map none) (.int .i64 n) ok).run P w = .ok (if ok then .tuple #[z, .bool false] else z) w := by
  have hk := MapKept.run_checkKey (w := w) hkt (k := .int .i64 n) (by trivial) true 9999
  have hq := MapKept.run_findKey (w := w) (l := []) (a := none) (k := .int .i64 n) hkt rfl
  have he : (#[] : Array MapEntry).isEmpty = true := rfl
  simp only [Instr.lookup, Sem.run_bind, run_underlying ht, Result.andThen, Sem.run_pure, he, hk, hq, hz]

theorem IsMp.upd_in {w : World} {B : Nat} {M : List α} (h : IsMp key val w B M) (ht : P.underlying t = some (.map kt et)) (hkt : P.underlying kt = some (.int .i64)) (y : α) (hx : ∃ x ∈ M, key x = key y) (v : Value) (hv : v = val y) (n : Int) (hn : n = key y) :
    ∃ o, (Instr.mapUpdate t (.map (some B)) (.int .i64 n) v).run P w = .ok () (setBlock w B o) ∧ IsMp key val (setBlock w B o) B (M.map fun z => if key z = key y then y else z) := by
  obtain ⟨⟨E, c, h1, rfl, h3, h4⟩, h5⟩ := h
  subst hn hv
  obtain ⟨x, hx, hxk⟩ := hx
  obtain ⟨p, hp, hpk, j, hj, hjp, hf⟩ := mp_in (key := key) (val := val) (key y) E 0 (by obtain ⟨p, hp, rfl⟩ := List.mem_map.1 hx; exact ⟨p, hp, hxk⟩)
  have hk := MapKept.run_checkKey (w := w) hkt (k := .int .i64 (key y)) (by trivial) false 9999
  have hq := MapKept.run_findKey (w := w) (l := (mpA key val E).toList) hkt hf
  rw [Nat.zero_add] at hq
  have hs : ((((mpA key val E)[j]?).map (·.key)).getD (.int .i64 (key y))) = .int .i64 (key y) := by
    simp [mpA, hj, mpE, hjp, hpk]
  refine ⟨.map ((mpA key val E).modify j fun e => { e with key := .int .i64 (key y), val := val y }) c, ?_, ⟨E.map fun q => (if key q.1 = key y then y else q.1, q.2), c, ?_, ?_, ?_, ?_⟩, ?_⟩
  · have hks : (Instr.keyThatStays (.int .i64 (key y)) (.int .i64 (key y))).run P w = .ok (.int .i64 (key y)) w := by
      simp [Instr.keyThatStays, Instr.sameBits]
    simp only [Instr.mapUpdate, Sem.run_bind, run_underlying ht, MapKept.run_getObj_map h1, Result.andThen, hk, hq, hs, hks]
    rw [MapKept.run_setObj_map _ h1]
    rfl
  · rw [block_set h1]
    congr 2
    apply Array.ext
    · simp [mpA]
    · intro i h1 h2
      simp only [mpA, Array.size_modify, List.size_toArray, List.length_map] at h1
      simp only [mpA, Array.getElem_modify, List.getElem_toArray, List.getElem_map]
      by_cases c : j = i
      · subst c
        simp [mpE, hjp, hpk]
      · have hne : key (E[i]).1 ≠ key y := fun he => c (by
          have := (List.getElem_inj (i := i) (j := j) (h₀ := by simpa using h1) (h₁ := by simpa using hj) h5).1 (by simp [he, hjp, hpk])
          exact this.symm)
        simp [mpE, c, hne]
  · simp
  · intro q hq
    obtain ⟨q', hq', rfl⟩ := List.mem_map.1 hq
    exact h3 q' hq'
  · rw [List.map_map]
    exact h4
  · rw [List.map_map, show (key ∘ fun z => if key z = key y then y else z) = key from by funext z; simp only [Function.comp]; split <;> simp_all]
    exact h5
theorem IsMp.upd_out {w : World} {B : Nat} {M : List α} (h : IsMp key val w B M) (ht : P.underlying t = some (.map kt et)) (hkt : P.underlying kt = some (.int .i64)) (y : α) (hx : ∀ x ∈ M, key x ≠ key y) (v : Value) (hv : v = val y) (n : Int) (hn : n = key y) :
    ∃ o, (Instr.mapUpdate t (.map (some B)) (.int .i64 n) v).run P w = .ok () (setBlock w B o) ∧ IsMp key val (setBlock w B o) B (M ++ [y]) := by
  obtain ⟨⟨E, c, h1, rfl, h3, h4⟩, h5⟩ := h
  subst hn hv
  have hf := mp_out (key := key) (val := val) (key y) E 0 (fun p hp => hx _ (List.mem_map.2 ⟨p, hp, rfl⟩))
  have hk := MapKept.run_checkKey (w := w) hkt (k := .int .i64 (key y)) (by trivial) false 9999
  have hq := MapKept.run_findKey (w := w) (l := (mpA key val E).toList) hkt hf
  refine ⟨.map ((mpA key val E).push { key := .int .i64 (key y), val := val y, born := c }) (c + 1), ?_, ⟨E ++ [(y, c)], c + 1, ?_, ?_, ?_, ?_⟩, ?_⟩
  · simp only [Instr.mapUpdate, Sem.run_bind, run_underlying ht, MapKept.run_getObj_map h1, Result.andThen, hk, hq]
    rw [MapKept.run_setObj_map _ h1]
    rfl
  · rw [block_set h1]
    simp [mpA, mpE]
  · simp
  · intro p hp
    rcases List.mem_append.1 hp with hp | hp
    · exact Nat.lt_succ_of_lt (h3 p hp)
    · simp at hp; subst hp; exact Nat.lt_succ_self _
  · rw [List.map_append, List.nodup_append]
    refine ⟨h4, by simp, ?_⟩
    intro a ha b hb
    obtain ⟨p, hp, rfl⟩ := List.mem_map.1 ha
    simp at hb
    subst hb
    have := h3 p hp
    omega
  · rw [List.map_append, List.nodup_append]
    refine ⟨h5, by simp, ?_⟩
    intro a ha b hb
    obtain ⟨p, hp, rfl⟩ := List.mem_map.1 ha
    simp at hb
    subst hb
    exact hx p hp
theorem IsMp.del {w : World} {B : Nat} {M : List α} (h : IsMp key val w B M) (ht : P.underlying t = some (.map kt et)) (hkt : P.underlying kt = some (.int .i64)) (n : Int) (kt' ty : TypeId) :
    ∃ o, (Builtin.delete_ #[t, kt'] ty #[.map (some B), .int .i64 n]).run P w = .ok (.tuple #[]) (setBlock w B o) ∧ IsMp key val (setBlock w B o) B (M.filter fun z => key z ≠ n) := by
  obtain ⟨⟨E, c, h1, rfl, h3, h4⟩, h5⟩ := h
  have hk := MapKept.run_checkKey (w := w) hkt (k := .int .i64 n) (by trivial) (mpA key val E).isEmpty 9999
  by_cases hin : ∃ p ∈ E, key p.1 = n
  · obtain ⟨p, hp, hpk, j, hj, hjp, hf⟩ := mp_in (key := key) (val := val) n E 0 hin
    have hq := MapKept.run_findKey (w := w) (l := (mpA key val E).toList) hkt hf
    rw [Nat.zero_add] at hq
    have hE : E.eraseIdx j = E.filter fun q => key q.1 ≠ n := by
      have hq : ∀ (i : Nat) (hi : i < E.length), key (E[i]).1 = n ↔ i = j := fun i hi => ⟨fun he => (List.getElem_inj (i := i) (j := j) (h₀ := by simpa using hi) (h₁ := by simpa using hj) h5).1 (by simp [he, hjp, hpk]), fun he => by subst he; rw [hjp]; exact hpk⟩
      rw [List.eraseIdx_eq_take_drop_succ]
      conv => rhs; rw [← List.take_append_drop j E, List.drop_eq_getElem_cons hj]
      rw [List.filter_append, List.filter_cons]
      have h0 : key (E[j]).1 = n := (hq j hj).2 rfl
      rw [if_neg (by simp [h0])]
      congr 1
      · refine (List.filter_eq_self.2 ?_).symm
        intro q hqm
        obtain ⟨i, hi, rfl⟩ := List.getElem_of_mem hqm
        simp only [List.length_take] at hi
        simp only [List.getElem_take, ne_eq, decide_not, Bool.not_eq_true', decide_eq_false_iff_not]
        intro he
        have := (hq i (by omega)).1 he
        omega
      · refine (List.filter_eq_self.2 ?_).symm
        intro q hqm
        obtain ⟨i, hi, rfl⟩ := List.getElem_of_mem hqm
        simp only [List.length_drop] at hi
        simp only [List.getElem_drop, ne_eq, decide_not, Bool.not_eq_true', decide_eq_false_iff_not]
        intro he
        have := (hq (j + 1 + i) (by omega)).1 he
        omega
    have hM : (E.filter fun q => key q.1 ≠ n).map (·.1) = (E.map (·.1)).filter fun z => key z ≠ n := by
      rw [List.filter_map]; rfl
    refine ⟨.map ((mpA key val E).eraseIdxIfInBounds j) c, ?_, ⟨E.filter fun q => key q.1 ≠ n, c, ?_, hM, ?_, ?_⟩, ?_⟩
    · simp only [Builtin.delete_, List.getElem?_toArray, List.getElem?_cons_zero, List.getElem?_cons_succ, Sem.run_bind, run_underlying ht, MapKept.run_getObj_map h1, Result.andThen, hk, hq]
      rw [MapKept.run_setObj_map _ h1]
      rfl
    · rw [block_set h1, ← hE]
      congr 2
      simp only [mpA, List.eraseIdxIfInBounds_toArray]
      congr 1
      rw [List.eraseIdx_eq_take_drop_succ, List.eraseIdx_eq_take_drop_succ, List.map_append, List.map_take, List.map_drop]
    · exact fun p hp => h3 p (List.mem_filter.1 hp).1
    · exact h4.sublist ((List.filter_sublist).map _)
    · exact h5.sublist ((List.filter_sublist).map _)
  · have hn : ∀ p ∈ E, key p.1 ≠ n := fun p hp he => hin ⟨p, hp, he⟩
    have hf := mp_out (key := key) (val := val) n E 0 hn
    have hq := MapKept.run_findKey (w := w) (l := (mpA key val E).toList) hkt hf
    have hM : (E.map (·.1)).filter (fun z => key z ≠ n) = E.map (·.1) := List.filter_eq_self.2 (by
      intro z hz
      obtain ⟨p, hp, rfl⟩ := List.mem_map.1 hz
      simpa using hn p hp)
    refine ⟨.map (mpA key val E) c, ?_, ⟨E, c, block_set h1, hM.symm, h3, h4⟩, by rw [hM]; exact h5⟩
    simp only [Builtin.delete_, List.getElem?_toArray, List.getElem?_cons_zero, List.getElem?_cons_succ, Sem.run_bind, run_underlying ht, MapKept.run_getObj_map h1, Result.andThen, hk, hq]
    rw [MapKept.run_setObj_map _ h1]
    rfl
theorem IsMp.len {w : World} {B : Nat} {M : List α} (h : IsMp key val w B M) (ht : P.underlying t = some (.map (P.mapKeyOf t) (P.mapElemOf t))) (ty : TypeId) :
    (Builtin.len_ #[t] ty #[.map (some B)]).run P w = .ok (goInt M.length) w := by
  obtain ⟨⟨E, c, h1, rfl, h3, h4⟩, h5⟩ := h
  have := run_len_map (P := P) w t ty B _ _ ht h1
  simpa [mpA] using this

/-- Block r of w ranges over block B, of whose items L are left. -/
structure IsIt (w : World) (r B : Nat) (M L : List α) : Prop where
  out : ∃ E c seen, w.heap[B]? = some (.map (mpA key val E) c) ∧ E.map (·.1) = M ∧ (∀ p ∈ E, p.2 < c) ∧ (E.map (·.2)).Nodup ∧ w.heap[r]? = some (.mapIter (some B) c seen c) ∧ L = (E.filter fun p => !seen.contains p.2).map (·.1)
theorem IsIt.keep {S : Nat → Prop} {w w' : World} {r B : Nat} {M L : List α} (h : IsIt (key := key) (val := val) w r B M L) (k : Keep S w w') (hn : ¬ S B) (hr : ¬ S r) : IsIt (key := key) (val := val) w' r B M L := by
  obtain ⟨E, c, seen, h1, h2, h3, h4, h5, h6⟩ := h
  exact ⟨E, c, seen, k.old h1 hn, h2, h3, h4, k.old h5 hr, h6⟩

theorem IsMp.range {w : World} {B : Nat} {M : List α} (h : IsMp key val w B M) (ht : P.underlying t = some (.map kt et)) :
    ∃ o, (Instr.range t (.map (some B))).run P w = .ok (.pointer (some ⟨w.heap.size, 0, none⟩)) (w.alloc o) ∧ IsIt (key := key) (val := val) (w.alloc o) w.heap.size B M M := by
  obtain ⟨⟨E, c, h1, rfl, h3, h4⟩, h5⟩ := h
  refine ⟨.mapIter (some B) c #[] c, run_range_map (P := P) w t kt et _ _ _ ht h1, ⟨E, c, #[], ?_, rfl, h3, h4, heap_alloc_new w _, ?_⟩⟩
  · exact ((Keep.refl (fun _ => False) w).alloc _).old h1 id
  · rw [List.filter_eq_self.2 (fun _ _ => by simp)]

theorem IsIt.next {w : World} {r B : Nat} {M L : List α} (h : IsIt (key := key) (val := val) w r B M L) (ty : TypeId) (hrB : r ≠ B) :
    (L = [] ∧ (Instr.next (.pointer (some ⟨r, 0, none⟩)) false ty).run P w = .ok (.tuple #[.bool false]) w) ∨
    ∃ x L', L.Perm (x :: L') ∧ x ∈ M ∧ ∃ wn, Keep (fun k => k = r) w wn ∧ IsIt (key := key) (val := val) wn r B M L' ∧ (Instr.next (.pointer (some ⟨r, 0, none⟩)) false ty).run P w = .ok (.tuple #[.bool true, .int .i64 (key x), val x]) wn ∧ (Instr.entry (.pointer (some ⟨r, 0, none⟩))).run P wn = .ok (.tuple #[.int .i64 (key x), val x]) wn := by
  obtain ⟨E, c, seen, h1, h2, h3, h4, h5, h6⟩ := h
  have hold : ∀ x ∈ (mpA key val E).toList, x.born < c := by
    intro x hx
    simp only [mpA, List.mem_map] at hx
    obtain ⟨p, hp, rfl⟩ := hx
    exact h3 p hp
  have hnd : ((mpA key val E).toList.map (·.born)).Nodup := by
    simp only [mpA, List.map_map]
    exact h4
  rcases run_next_at (P := P) w ty r B c c seen (mpA key val E) c h5 h1 hold (Nat.le_refl _) with ⟨h0, hnext⟩ | ⟨en, hen, w1, hw1, hnext⟩
  · left
    refine ⟨?_, hnext⟩
    subst h6
    rw [List.map_eq_nil_iff, List.filter_eq_nil_iff]
    intro p hp hc
    have : mpE key val p ∈ (leftOf (mpA key val E) seen) := by
      unfold leftOf
      rw [Array.mem_filter]
      exact ⟨by simp only [mpA, List.mem_toArray]; exact List.mem_map.2 ⟨p, hp, rfl⟩, hc⟩
    have h00 : leftOf (mpA key val E) seen = #[] := Array.size_eq_zero_iff.1 h0
    rw [h00] at this
    simp at this
  · right
    obtain ⟨hmem, hns⟩ := mem_left hen
    have hmem2 := hmem
    simp only [mpA, List.mem_map] at hmem2
    obtain ⟨p, hp, rfl⟩ := hmem2
    have k0 : Keep (fun _ => False) w w1 := by
      rcases hw1 with rfl | rfl
      · exact Keep.refl _ _
      · exact (Keep.refl _ _).drew
    have k1 : Keep (fun k => k = r) w (setBlock w1 r (.mapIter (some B) c (seen.push (mpE key val p).born) c)) := keep_setBlock (k0.mono (fun _ h _ => absurd h id)) _ _ (fun _ => rfl)
    have hin : (setBlock w1 r (.mapIter (some B) c (seen.push (mpE key val p).born) c)).heap[r]? = some (.mapIter (some B) c (seen.push (mpE key val p).born) c) := block_set (k0.old h5 (fun h => h))
    have hb : (setBlock w1 r (.mapIter (some B) c (seen.push (mpE key val p).born) c)).heap[B]? = some (.map (mpA key val E) c) := k1.old h1 (fun h => hrB h.symm)
    refine ⟨p.1, (E.filter fun q => !(seen.push p.2).contains q.2).map (·.1), ?_, ?_, _, k1, ⟨E, c, _, hb, h2, h3, h4, hin, rfl⟩, hnext, run_entry_at (P := P) _ r B c seen (mpA key val E) c (mpE key val p) hin hb hmem hnd⟩
    · subst h6
      rw [← List.map_cons (f := (·.1)) (a := p)]
      refine List.Perm.map _ ?_
      have hns' : (!seen.contains p.2) = true := by simpa [mpE] using hns
      clear hnext hin hb k1 hmem hnd hen hold h1 h2 h3 h5 hns
      induction E with
      | nil => simp at hp
      | cons q E ih =>
        rw [List.map_cons, List.nodup_cons] at h4
        rcases List.mem_cons.1 hp with rfl | hp
        · rw [List.filter_cons, List.filter_cons, if_pos hns', if_neg (by simp)]
          refine List.Perm.cons _ ?_
          have : E.filter (fun q => !(seen.push p.2).contains q.2) = E.filter (fun q => !seen.contains q.2) := by
            refine List.filter_congr ?_
            intro q hq
            have : q.2 ≠ p.2 := fun he => h4.1 (List.mem_map.2 ⟨q, hq, he⟩)
            simp [this]
          rw [this]
        · have hne : q.2 ≠ p.2 := fun he => h4.1 (List.mem_map.2 ⟨p, hp, he.symm⟩)
          have ih := ih h4.2 hp
          by_cases hc : (!seen.contains q.2) = true
          · rw [List.filter_cons, List.filter_cons, if_pos hc, if_pos (by simp [hne] at hc ⊢; exact hc)]
            exact (List.Perm.cons _ ih).trans (List.Perm.swap _ _ _)
          · rw [List.filter_cons, List.filter_cons, if_neg hc, if_neg (by simp [hne] at hc ⊢; exact hc)]
            exact ih
    · rw [← h2]
      exact List.mem_map.2 ⟨p, hp, rfl⟩
end

/-- A place: cell o of block b; what the block holds; its type. -/
structure Loc where
  b : Nat
  o : Nat
  cs : Array Value
  t : TypeId
/-- the same place, where v lies there. -/
def Loc.to (q : Loc) (v : Value) : Loc := { q with cs := q.cs.setIfInBounds q.o v }
theorem Loc.to_self {q : Loc} {v : Value} (h : q.cs[q.o]? = some v) : q.to v = q := by
  obtain ⟨b, o, cs, t⟩ := q
  have h2 : cs[o]? = some v := h
  unfold Loc.to
  congr 1
  refine Array.ext_getElem? fun i => ?_
  simp only [Array.getElem?_setIfInBounds]
  by_cases c : o = i
  · subst c
    rw [if_pos rfl]
    have := (Array.getElem?_eq_some_iff.1 h2).1
    rw [if_pos this, h2]
  · rw [if_neg c]
end Go.Proofs.YtofonfohaocclaaGreatDoor
