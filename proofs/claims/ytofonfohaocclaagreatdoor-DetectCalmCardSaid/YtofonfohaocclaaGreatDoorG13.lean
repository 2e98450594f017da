/- slices.Index, Contains, IndexFunc at ints. round.Next. slices.Insert of one int; round's Left and Join. -/
import Derived.Test.YtofonfohaocclaaGreatDoorG12
import Derived.Shelf.Spec.SlicesInsert
import Derived.Shelf.Spec.SlicesInsertGrow
namespace Go.Proofs.YtofonfohaocclaaGreatDoor
open Go.RowKit Sh
open Go.ChangeMaps (setBlock)
set_option linter.unusedVariables false

theorem Row.int_at {w : World} {g o c : Nat} {l : List Int} (h : Row w 3 1 (.slice (some ⟨g, o, none⟩) l.length c) l.length (intsC l)) (i : Nat) (hi : i < l.length) : w.cell? ⟨g, o + i, none⟩ = some (.int .i64 l[i]) := by
  refine h.cell ?_
  simp [intsC, hi]

set_option maxRecDepth 100000 in
set_option maxHeartbeats 2000000 in
theorem index_any {w : World} {v : Value} {l : List Int} (x : Int) (h : Row w 3 1 v l.length (intsC l)) (hl : l.length < 4611686018427387904) :
    Calls Tryz.prog 127 #[v, .int .i64 x] w fun e w' => ∃ r, e = .returned (.int .i64 r) ∧ -1 ≤ r ∧ (0 ≤ r ↔ x ∈ l) ∧ w' = w := by
  by_cases h0 : l.length = 0
  · obtain ⟨A, c, rfl⟩ := h.shape
    have e0 : l = [] := List.eq_nil_of_length_eq_zero h0
    have E0 := Lib.hid e0
    rw [h0]
    clear h e0 h0 hl
    go_enter Tryz.func127, Tryz.ntmps127
    go_wp2
    go_loopg [8] 0 (fun q v8 wr => v8 = .int .i64 0 ∧ wr = w)
    case atStart => exact ⟨rfl, rfl⟩
    case round =>
      obtain ⟨rfl, rfl⟩ := hrel
      go_wp2
      go_ret
      exact ⟨-1, rfl, by omega, by rw [E0.out]; simp, rfl⟩
  · obtain ⟨g, o, c, cs, rfl, _⟩ := h.pos (by omega)
    have hcell := Lib.hid (fun i hi => h.int_at i hi)
    clear h
    go_enter Tryz.func127, Tryz.ntmps127
    go_wp2
    go_loopg [8] l.length (fun q v8 wr => ∃ i : Nat, i + q = l.length ∧ v8 = .int .i64 (i : Int) ∧ (∀ (j : Nat) (hj : j < l.length), j < i → l[j] ≠ x) ∧ wr = w)
    case atStart => exact ⟨0, by omega, rfl, fun j hj h => absurd h (by omega), rfl⟩
    case round =>
      obtain ⟨i, hq, rfl, hno, rfl⟩ := hrel
      have HQ := Lib.hid hq
      have HNO := Lib.hid hno
      clear hq hno
      by_cases hi : i < l.length
      · have ci := hcell.out i hi
        have d1 : decide ((i : Int) < (l.length : Int)) = true := decide_eq_true (by omega)
        have di : decide (i < l.length) = true := decide_eq_true hi
        have wi : wrap64 ((i : Int) + 1) = ((i : Int) + 1) := by unfold wrap64; omega
        have HI := Lib.hid hi
        by_cases hx : x = l[i]
        · have HX := Lib.hid hx
          have t1 : (x == l[i]) = true := by simp [hx]
          have HM := Lib.hid (List.getElem_mem hi)
          generalize l[i] = y at ci t1 HX HM
          clear hx
          go_wp2
          go_ret
          refine ⟨(i : Int), rfl, by omega, ⟨fun _ => ?_, fun _ => by omega⟩, rfl⟩
          rw [HX.out]; exact HM.out
        · have HX := Lib.hid hx
          have t1 : (x == l[i]) = false := by rw [beq_eq_false_iff_ne]; exact hx
          generalize l[i] = y at ci t1
          clear hx
          go_wp2
          go_roundg (l.length - (i + 1))
          case measure => have := HQ.out; have := HI.out; omega
          case rel =>
            refine ⟨i + 1, by have := HQ.out; have := HI.out; omega, by go_num, fun j hj hji => ?_, rfl⟩
            rcases Nat.lt_succ_iff_lt_or_eq.1 hji with h | rfl
            · exact HNO.out j hj h
            · exact fun e => HX.out e.symm
      · have d1 : decide ((i : Int) < (l.length : Int)) = false := decide_eq_false (by omega)
        have HI := Lib.hid hi
        go_wp2
        go_ret
        refine ⟨-1, rfl, by omega, ⟨fun h => absurd h (by omega), fun h => ?_⟩, rfl⟩
        obtain ⟨j, hj, rfl⟩ := List.getElem_of_mem h
        exact absurd rfl (HNO.out j hj (by have := HI.out; omega))

def bitAt (l : List Int) (x : Int) : Bool := decide (x ∈ l)
theorem contains_any {w : World} {v : Value} {l : List Int} (x : Int) (h : Row w 3 1 v l.length (intsC l)) (hl : l.length < 4611686018427387904) :
    Calls Tryz.prog 87 #[v, .int .i64 x] w fun e w' => e = .returned (.bool (decide (x ∈ l))) ∧ w' = w := by
  go_enter Tryz.func87, Tryz.ntmps87
  go_wp2_with fail
  refine (index_any x h hl).mono ?_
  rintro e w' ⟨r, rfl, h1, h2, rfl⟩
  by_cases c : x ∈ l
  · have d1 : decide (0 ≤ r) = true := decide_eq_true (h2.2 c)
    have HC : Hid (decide (x ∈ l) = true) := Lib.hid (decide_eq_true c)
    clear h1 h2 c
    go_wp2
    go_ret
    rw [HC.out]
    exact ⟨rfl, rfl⟩
  · have d1 : decide (0 ≤ r) = false := decide_eq_false (fun h => c (h2.1 h))
    have HC : Hid (decide (x ∈ l) = false) := Lib.hid (decide_eq_false c)
    clear h1 h2 c
    go_wp2
    go_ret
    rw [HC.out]
    exact ⟨rfl, rfl⟩

/-- What a function value says of each of a list's, in whatever world that has grown of w. -/
def Says (w : World) (kf : Nat) (cap : Array Value) (p : Int → Bool) : Prop :=
  ∀ x W, Keep (fun _ => False) w W → Calls Tryz.prog kf (#[.int .i64 x] ++ cap) W fun e w' => e = .returned (.bool (p x)) ∧ Keep (fun _ => False) W w'
def fidx (p : Int → Bool) (l : List Int) : Int := if l.findIdx p < l.length then (l.findIdx p : Nat) else -1

set_option maxRecDepth 100000 in
set_option maxHeartbeats 2000000 in
theorem idxfunc_any {w : World} {v : Value} {l : List Int} (p : Int → Bool) (kf : Nat) (hkf : kf = 86 ∨ kf = 79) (cp : Value) (hp : Says w kf #[cp] p) (h : Row w 3 1 v l.length (intsC l)) (hl : l.length < 4611686018427387904) :
    Calls Tryz.prog 88 #[v, .func (.func kf) #[] #[cp]] w fun e w' => e = .returned (.int .i64 (fidx p l)) ∧ Keep (fun _ => False) w w' := by
  by_cases h0 : l.length = 0
  · obtain ⟨A, c, rfl⟩ := h.shape
    have e0 : l = [] := List.eq_nil_of_length_eq_zero h0
    have E0 := Lib.hid e0
    rw [h0]
    clear h e0 h0 hl hp
    go_enter Tryz.func88, Tryz.ntmps88
    go_wp2
    go_loopg [8] 0 (fun q v8 wr => v8 = .int .i64 0 ∧ wr = w)
    case atStart => exact ⟨rfl, rfl⟩
    case round =>
      obtain ⟨rfl, rfl⟩ := hrel
      go_wp2
      go_ret
      exact ⟨by rw [E0.out]; rfl, Keep.refl _ _⟩
  · obtain ⟨g, o, c, cs, rfl, _⟩ := h.pos (by omega)
    have hcell := Lib.hid (fun i hi => h.int_at i hi)
    have HP := Lib.hid hp
    have h63 := Lib.hid hl
    clear h hp
    rcases hkf with rfl | rfl
    all_goals
      go_enter Tryz.func88, Tryz.ntmps88
      go_wp2
      go_loopg [8] l.length (fun q v8 wr => ∃ i : Nat, i + q = l.length ∧ v8 = .int .i64 (i : Int) ∧ (∀ (j : Nat) (hj : j < l.length), j < i → p l[j] = false) ∧ Keep (fun _ => False) w wr)
      case atStart => exact ⟨0, by omega, rfl, fun j hj h => absurd h (by omega), Keep.refl _ _⟩
      case round =>
        obtain ⟨i, hq, rfl, hno, hk⟩ := hrel
        have HQ := Lib.hid hq
        have HNO := Lib.hid hno
        have HK := Lib.hid hk
        by_cases hi : i < l.length
        · have ci := hk.cell (hcell.out i hi)
          have d1 : decide ((i : Int) < (l.length : Int)) = true := decide_eq_true (by omega)
          have di : decide (i < l.length) = true := decide_eq_true hi
          have HI := Lib.hid hi
          have HCL := Lib.hid (HP.out l[i] wr hk)
          clear hq hno hk
          cases hx : p l[i]
          · have HX := Lib.hid hx
            rw [hx] at HCL
            generalize l[i] = y at ci HCL
            clear hx
            go_wp2_with fail
            refine HCL.out.mono ?_
            rintro e w1 ⟨rfl, hk1⟩
            have HK1 := Lib.hid hk1
            clear hk1
            go_wp2
            go_roundg (l.length - (i + 1))
            case measure => have := HQ.out; have := HI.out; omega
            case rel =>
              refine ⟨i + 1, by have := HQ.out; have := HI.out; omega, by go_num, fun j hj hji => ?_, HK.out.step HK1.out⟩
              rcases Nat.lt_succ_iff_lt_or_eq.1 hji with h | rfl
              · exact HNO.out j hj h
              · exact HX.out
          · have HX : Hid (fidx p l = (i : Int)) := Lib.hid (by
              have : l.findIdx p = i := (List.findIdx_eq hi).2 ⟨hx, fun j hj => HNO.out j (by omega) hj⟩
              simp [fidx, this, hi])
            rw [hx] at HCL
            generalize l[i] = y at ci HCL
            clear hx
            go_wp2_with fail
            refine HCL.out.mono ?_
            rintro e w1 ⟨rfl, hk1⟩
            have HK1 := Lib.hid hk1
            clear hk1
            go_wp2
            go_ret
            exact ⟨by rw [HX.out]; rfl, HK.out.step HK1.out⟩
        · have d1 : decide ((i : Int) < (l.length : Int)) = false := decide_eq_false (by omega)
          have HX : Hid (fidx p l = -1) := Lib.hid (by
            have : ¬ l.findIdx p < l.length := by
              intro hlt
              have h1 := List.findIdx_getElem (w := hlt)
              rw [HNO.out _ hlt (by omega)] at h1
              cases h1
            simp only [fidx, if_neg this])
          clear hq hno hk
          go_wp2
          go_ret
          exact ⟨by rw [HX.out]; rfl, HK.out⟩
end Go.Proofs.YtofonfohaocclaaGreatDoor

namespace Go.Proofs.YtofonfohaocclaaGreatDoor
open Go.RowKit Sh
open Go.ChangeMaps (setBlock)
set_option linter.unusedVariables false

/-- Place q of w holds v. -/
structure At (w : World) (q : Loc) (v : Value) : Prop where
  cell : w.heap[q.b]? = some (.cells q.cs q.t (0, 0))
  here_ : q.cs[q.o]? = some v
theorem At.c0 {w : World} {q : Loc} {v : Value} (h : At w q v) : w.cell? ⟨q.b, q.o, none⟩ = some v := by
  have := h.cell
  simp only [World.cell?, this]
  exact h.here_
theorem At.fr {w : World} {q : Loc} {v : Value} (h : At w q v) : w.frozen? ⟨q.b, q.o, none⟩ = false := by
  have := h.cell
  simp [World.frozen?, this]
theorem At.lt {w : World} {q : Loc} {v : Value} (h : At w q v) : q.b < w.heap.size := (Array.getElem?_eq_some_iff.1 h.cell).1
theorem At.keep {S : Nat → Prop} {w w' : World} {q : Loc} {v : Value} (h : At w q v) (k : Keep S w w') (hn : ¬ S q.b) : At w' q v := ⟨k.old h.cell hn, h.here_⟩
theorem At.keep0 {w w' : World} {q : Loc} {v : Value} (h : At w q v) (k : Keep (fun _ => False) w w') : At w' q v := h.keep k id
theorem At.set {w : World} {q : Loc} {v : Value} (h : At w q v) (u : Value) : At (w.setCell ⟨q.b, q.o, none⟩ u) (q.to u) u := by
  refine ⟨heap_setCell_at h.cell q.o u, ?_⟩
  have := (Array.getElem?_eq_some_iff.1 h.here_).1
  simp [Loc.to, this]
theorem Loc.to_to (q : Loc) (u v : Value) : (q.to u).to v = q.to v := by simp [Loc.to]

theorem At.not_row {w : World} {q : Loc} {v : Value} (h : At w q v) {e : TypeId} (ht : q.t ≠ e) {k : Nat} {u : Value} {n : Nat} {xs : List Value} (hr : Row w e k u n xs) (g : Nat) (hg : u.ownBlock = some g) : ¬ g = q.b := by
  rintro rfl
  obtain ⟨cs, hc⟩ := hr.typed hg
  rw [h.cell] at hc
  cases hc
  exact ht rfl
theorem At.lots {w w' : World} {q : Loc} {v : Value} (h : At w q v) (ht : q.t ≠ 29) {xl : Nat} {L : List Int} (hL : IsLots w xl L) (hx : q.b ≠ xl) (k : Keep (fun k => k = q.b) w w') : IsLots w' xl L := by
  refine hL.keep k (fun e => hx e.symm) fun g cs hc hgs => ?_
  subst hgs
  have e := hc.symm.trans h.cell
  injection e with e
  injection e with _ e2
  exact ht e2.symm
theorem intsC_drop (l : List Int) (i : Nat) : (intsC l).drop (i * 1) = intsC (l.drop i) := by simp [intsC, List.map_drop]
/-- What Next of a round gives: who, what is left, the lots. -/
def nextP (others left L : List Int) : Option (Int × List Int × List Int) :=
  if others = [] then none
  else if left.findIdx (fun x => decide (x ∈ others)) < left.length then some (left.getD (left.findIdx (fun x => decide (x ∈ others))) 0, left.drop (left.findIdx (fun x => decide (x ∈ others)) + 1), L)
  else some ((shufP others L).1.getD 0 0, (shufP others L).1.drop 1, (shufP others L).2)

set_option maxHeartbeats 1000000 in
theorem there_any {w : World} {B : Nat} {v : Value} {l : List Int} (hb : w.cell? ⟨B, 0, none⟩ = some v) (h : Row w 3 1 v l.length (intsC l)) (hl : l.length < 4611686018427387904) : Says w 86 #[.pointer (some ⟨B, 0, none⟩)] (fun x => decide (x ∈ l)) := by
  intro x W hk
  have c0 := hk.cell hb
  have hc := contains_any x (h.keep0 hk) hl
  show Calls Tryz.prog 86 #[.int .i64 x, .pointer (some ⟨B, 0, none⟩)] W fun e w' => e = .returned (.bool (decide (x ∈ l))) ∧ Keep (fun _ => False) W w'
  generalize decide (x ∈ l) = d at hc ⊢
  clear hb h
  go_enter Tryz.func86, Tryz.ntmps86
  go_wp2_with fail
  refine hc.mono ?_
  rintro e w' ⟨rfl, rfl⟩
  go_wp2
  go_ret
  exact ⟨rfl, Keep.refl _ _⟩

/-- How Next ends. -/
structure NextIs (w w' : World) (q : Loc) (vl : Value) (xl : Nat) (left' L' : List Int) : Prop where
  ex : ∃ v', At w' (q.to v') v' ∧ Row w' 3 1 v' left'.length (intsC left') ∧ (v'.ownBlock = vl.ownBlock ∨ ∃ g, v'.ownBlock = some g ∧ w.heap.size ≤ g)
  lots : IsLots w' xl L'
  keep : Keep (fun k => k = q.b ∨ k = xl) w w'

theorem next_fin {w w1 : World} {q : Loc} {vl v0 : Value} {A1 : Option Addr} {c1 n : Nat} {xl : Nat} {left' L' : List Int} (t3 : q.t ≠ 3) (t29 : q.t ≠ 29) (hqx : q.b ≠ xl) (hq : At w1 q v0) (hk : Keep (fun _ => False) w w1)
    (hr : Row w1 3 1 (.slice A1 n c1) left'.length (intsC left')) (hL : IsLots w1 xl L') (hb : (Value.slice A1 n c1).ownBlock = vl.ownBlock ∨ ∃ g, (Value.slice A1 n c1).ownBlock = some g ∧ w.heap.size ≤ g) :
    NextIs w (w1.setCell ⟨q.b, q.o, none⟩ (.slice A1 n c1)) q vl xl left' L' := by
  have K := (Keep.refl (fun k => k = q.b) w1).setAt q.o (.slice A1 n c1)
  exact ⟨⟨_, hq.set _, hr.keep K (hq.not_row t3 hr), hb⟩, hq.lots t29 hL hqx K, (hk.mono (fun _ h _ => h.elim)).step (K.mono fun _ h _ => .inl h)⟩
set_option maxRecDepth 100000 in
set_option maxHeartbeats 2000000 in
theorem next_round {w : World} {q : Loc} {vl vo : Value} {xl : Nat} {left others L : List Int} (hq : At w q vl) (hl : Row w 3 1 vl left.length (intsC left)) (ho : Row w 3 1 vo others.length (intsC others)) (hL : IsLots w xl L)
    (hqx : q.b ≠ xl) (ht : q.t ≠ 3 ∧ q.t ≠ 29) (n1 : left.length ≤ 8796093022208) (n2 : others.length ≤ 8796093022208) :
    Calls Tryz.prog 39 #[.pointer (some ⟨q.b, q.o, none⟩), vo, .pointer (some ⟨xl, 0, none⟩)] w fun e w' =>
      (nextP others left L = none ∧ e = .returned (.tuple #[.int .i64 0, .bool false]) ∧ Keep (fun _ => False) w w') ∨
      ∃ n left' L', nextP others left L = some (n, left', L') ∧ e = .returned (.tuple #[.int .i64 n, .bool true]) ∧ NextIs w w' q vl xl left' L' := by
  obtain ⟨A, c, rfl⟩ := ho.shape
  have ka := (Keep.refl (fun _ => False) w).alloc (.cells #[.slice A others.length c] 36)
  have cb : (w.alloc (.cells #[.slice A others.length c] 36)).cell? ⟨w.heap.size, 0, none⟩ = some (.slice A others.length c) := by simp
  by_cases h0 : others.length = 0
  · have e0 : others = [] := List.eq_nil_of_length_eq_zero h0
    have E0 := Lib.hid e0
    have KA := Lib.hid ka
    clear hq hl ho hL ka cb e0
    rw [h0] at KA ⊢
    go_enter Tryz.func39, Tryz.ntmps39
    go_wp2
    go_ret2
    exact .inl ⟨by rw [E0.out]; rfl, rfl, KA.out⟩
  · have hsays := there_any (B := w.heap.size) (w := w.alloc (.cells #[.slice A others.length c] 36)) cb (ho.keep0 ka) (by omega)
    have c0 := ka.cell hq.c0
    have HQ := Lib.hid (hq.keep0 ka)
    have HL := Lib.hid (hl.keep0 ka)
    have HO := Lib.hid (ho.keep0 ka)
    have HLL := Lib.hid (hL.keep0 ka)
    have KA := Lib.hid ka
    have hcl := Lib.hid (idxfunc_any (fun x => decide (x ∈ others)) 86 (.inl rfl) (.pointer (some ⟨w.heap.size, 0, none⟩)) hsays (hl.keep0 ka) (by omega))
    have d0 : decide ((others.length : Int) = 0) = false := decide_eq_false (by omega)
    have d1 : ((others.length : Int) == 0) = false := by rw [beq_eq_false_iff_ne]; omega
    clear hq hl ho hL ka hsays h0
    go_enter Tryz.func39, Tryz.ntmps39
    go_wp2_with fail
    refine hcl.out.mono ?_
    rintro e w1 ⟨rfl, hk1⟩
    have b1 := hk1.cell cb
    have b2 := hk1.cell c0
    have Q1 := Lib.hid (HQ.out.keep0 hk1)
    have L1 := Lib.hid (HL.out.keep0 hk1)
    have O1 := Lib.hid (HO.out.keep0 hk1)
    have LL1 := Lib.hid (HLL.out.keep0 hk1)
    have K1 := Lib.hid (KA.out.step hk1)
    clear hk1 HQ HL HO HLL KA hcl
    by_cases hi : left.findIdx (fun x => decide (x ∈ others)) < left.length
    · have hf : fidx (fun x => decide (x ∈ others)) left = ((left.findIdx (fun x => decide (x ∈ others)) : Nat) : Int) := by simp [fidx, hi]
      have HN : Hid (nextP others left L = some (left.getD (left.findIdx (fun x => decide (x ∈ others))) 0, left.drop (left.findIdx (fun x => decide (x ∈ others)) + 1), L)) := Lib.hid (by
        have : others ≠ [] := fun e => by rw [e] at d1; simp at d1
        simp [nextP, this, hi])
      rw [hf]
      generalize left.findIdx (fun x => decide (x ∈ others)) = i at hi HN
      clear hf
      have d2 : decide ((i : Int) < 0) = false := decide_eq_false (by omega)
      obtain ⟨g, o, cc, cs, rfl, _⟩ := L1.out.pos (by omega)
      have ci := L1.out.int_at i hi
      have di : decide (i < left.length) = true := decide_eq_true hi
      have wi : wrap64 ((i : Int) + 1) = ((i : Int) + 1) := by unfold wrap64; omega
      have hsl : ∀ W, (Instr.slice 36 (.slice (some ⟨g, o, none⟩) left.length cc) (some (.int .i64 ((i : Int) + 1))) none none).run Tryz.prog W = .ok (sliced (some ⟨g, o, none⟩) (i + 1) left.length cc 1) W := fun W => by
        have := slice_from 36 3 Tryz.underlying36 1 (fun w => Tryz.sizeOf3 w) (some ⟨g, o, none⟩) left.length cc ((i : Int) + 1) (by omega) (by omega) W
        rw [this]; congr 1
      have HT := Lib.hid (L1.out.tail (i := i + 1) (by omega))
      have hgd : left.getD i 0 = left[i] := by simp [hi]
      rw [hgd] at HN
      generalize left[i] = y at ci HN
      have hob : (sliced (some ⟨g, o, none⟩) (i + 1) left.length cc 1).ownBlock = some g := by
        unfold sliced
        split <;> simp [Value.ownBlock, Addr.add]
      generalize sliced (some ⟨g, o, none⟩) (i + 1) left.length cc 1 = v1 at hsl HT hob
      have hex := HT.out.shape
      obtain ⟨A1, c1, rfl⟩ := hex
      have fr := Q1.out.fr
      have HI := Lib.hid hi
      have HB := Lib.hid hob
      clear hob hgd
      go_wp2
      go_ret2
      refine .inr ⟨y, _, _, HN.out, rfl, next_fin ht.1 ht.2 hqx Q1.out K1.out ?_ LL1.out (.inl HB.out)⟩
      have := HT.out
      rw [intsC_drop] at this
      simpa using this
    · have hf : fidx (fun x => decide (x ∈ others)) left = -1 := by simp [fidx, hi]
      have HN : Hid (nextP others left L = some ((shufP others L).1.getD 0 0, (shufP others L).1.drop 1, (shufP others L).2)) := Lib.hid (by
        have : others ≠ [] := fun e => by rw [e] at d1; simp at d1
        simp [nextP, this, hi])
      have hsl' := Lib.hid (shufL_len (others.length - 1) others L)
      rw [hf]
      clear hf hi
      go_wp2_with fail
      refine (shuffle_any LL1.out O1.out n2).mono ?_
      rintro e w2 ⟨v2, rfl, ho2, hL2, hk2⟩
      have hlen : (shufP others L).1.length = others.length := hsl'.out
      generalize shufP others L = R at HN ho2 hL2 hlen
      obtain ⟨s, L'⟩ := R
      simp only at HN ho2 hL2 hlen
      have hs0 : 0 < s.length := by
        rw [hlen]
        exact Nat.pos_of_ne_zero fun h => by rw [h] at d1; simp at d1
      rw [← hlen] at ho2
      have hs8 : s.length ≤ 8796093022208 := by omega
      clear hlen
      have hr2 := Row.of_own ho2
      obtain ⟨g, cc, rfl⟩ : ∃ g cc, v2 = .slice (some ⟨g, 0, none⟩) s.length cc := by
        rcases ho2.2 with ⟨_, h⟩ | ⟨g, cc, _, rfl, _⟩
        · omega
        · exact ⟨g, cc, rfl⟩
      have Q2 := Q1.out.keep hk2 hqx
      have K := (Keep.refl (fun k => k = q.b) w2).setAt q.o (.slice (some ⟨g, 0, none⟩) s.length cc)
      have hr3 := hr2.keep K (Q2.not_row ht.1 hr2)
      have ci := hr3.int_at 0 hs0
      have fr := Q2.fr
      have c2 := Q2.c0
      simp only [Nat.zero_add] at ci
      have hgd : s.getD 0 0 = s[0] := by simp [hs0]
      rw [hgd] at HN
      generalize s[0] = y at ci HN
      have hsl : ∀ W, (Instr.slice 36 (.slice (some ⟨g, 0, none⟩) s.length cc) (some (.int .i64 1)) none none).run Tryz.prog W = .ok (sliced (some ⟨g, 0, none⟩) 1 s.length cc 1) W := fun W => slice_from 36 3 Tryz.underlying36 1 (fun w => Tryz.sizeOf3 w) (some ⟨g, 0, none⟩) s.length cc 1 (by omega) (by omega) W
      have HT := Lib.hid (hr3.tail (i := 1) (by omega))
      have hob : (sliced (some ⟨g, 0, none⟩) 1 s.length cc 1).ownBlock = some g := by
        unfold sliced
        split <;> simp [Value.ownBlock, Addr.add]
      generalize sliced (some ⟨g, 0, none⟩) 1 s.length cc 1 = v1 at hsl HT hob
      have hex := HT.out.shape
      obtain ⟨A1, c1, rfl⟩ := hex
      have hg0 : w1.heap.size ≤ g := by
        rcases ho2.2 with ⟨h, _⟩ | ⟨g', _, _, h, hb, _⟩
        · cases h
        · cases h; exact hb
      have HG := Lib.hid hg0
      have HS := Lib.hid hs0
      have Q3 := Lib.hid (Q2.set (.slice (some ⟨g, 0, none⟩) s.length cc))
      have LL3 := Lib.hid (Q2.lots ht.2 hL2 hqx K)
      have K3 := Lib.hid (((K1.out.mono (T := fun k => k = q.b ∨ k = xl) (fun _ h _ => h.elim)).step (hk2.mono fun _ h _ => .inr h)).step (K.mono fun _ h _ => .inl h))
      have HB := Lib.hid hob
      have KK1 := Lib.hid K1.out.size
      clear hob hgd ho2 hL2 hk2 hr2 hr3 K Q2 hg0
      have di : decide (0 < s.length) = true := decide_eq_true hs0
      go_wp2
      go_ret2
      refine .inr ⟨y, _, _, HN.out, rfl, ⟨⟨_, ?_, ?_, .inr ⟨g, HB.out, Nat.le_trans KK1.out HG.out⟩⟩, ?_, ?_⟩⟩
      · have := Q3.out.set (.slice A1 (s.length - 1) c1)
        rw [Loc.to_to] at this
        exact this
      · have h := HT.out
        rw [intsC_drop] at h
        refine Row.keep (S := fun k => k = q.b) (by simpa using h) ((Keep.refl _ _).setAt q.o _) (Q3.out.not_row ht.1 h)
      · exact Q3.out.lots ht.2 LL3.out hqx ((Keep.refl (fun k => k = q.b) _).setAt q.o _)
      · exact K3.out.step (((Keep.refl (fun k => k = q.b) _).setAt q.o _).mono fun _ h _ => .inl h)
end Go.Proofs.YtofonfohaocclaaGreatDoor

namespace Go.Proofs.YtofonfohaocclaaGreatDoor
open Go.RowKit Sh Go.Shelf
open Go.ChangeMaps (setBlock)
set_option linter.unusedVariables false

def Tryz.ins_ren : Go.Shelf.Ren := ⟨fun | 21 => 121 | 27 => 150 | 28 => 151 | 35 => 167 | 39 => 191 | n => n, fun | 22 => 36 | 3 => 3 | 4 => 4 | 0 => 0 | n => n, fun n => n⟩
theorem Tryz.ins : Go.Proofs.Lays2.n21 Tryz.prog Tryz.ins_ren := {
  mixed := by kernel_rfl
  f21 := Tryz.func121.trans (congrArg some (by kernel_rfl))
  f27 := Tryz.func150.trans (congrArg some (by kernel_rfl))
  f28 := Tryz.func151.trans (congrArg some (by kernel_rfl))
  f35 := Tryz.func167.trans (congrArg some (by kernel_rfl))
  f39 := Tryz.func191.trans (congrArg some (by kernel_rfl))
  t0 := Tryz.underlying0
  a0 := Tryz.isAgg0
  z0 := Tryz.sizeOf0
  v0 := Tryz.zeroValue0
  t3 := Tryz.underlying3
  a3 := Tryz.isAgg3
  z3 := Tryz.sizeOf3
  v3 := Tryz.zeroValue3
  t4 := Tryz.underlying4
  a4 := Tryz.isAgg4
  z4 := Tryz.sizeOf4
  v4 := Tryz.zeroValue4
  t22 := Tryz.underlying36
  a22 := Tryz.isAgg36
  z22 := Tryz.sizeOf36
  v22 := Tryz.zeroValue36
  i3 := by kernel_rfl }
def setL (cs : Array Value) : Nat → List Value → Array Value
  | _, [] => cs
  | o, v :: r => setL (cs.setIfInBounds o v) (o + 1) r
theorem setL_size : ∀ (vs : List Value) (cs : Array Value) (o : Nat), (setL cs o vs).size = cs.size
  | [], _, _ => rfl
  | v :: r, cs, o => by rw [setL, setL_size r]; simp
theorem setL_get : ∀ (vs : List Value) (cs : Array Value) (o k : Nat), k < cs.size → (setL cs o vs)[k]? = if o ≤ k ∧ k < o + vs.length then vs[k - o]? else cs[k]?
  | [], cs, o, k, h => by
    rw [setL, if_neg (by simp)]
  | v :: r, cs, o, k, h => by
    rw [setL, setL_get r _ (o + 1) k (by simpa using h)]
    by_cases c1 : o + 1 ≤ k ∧ k < o + 1 + r.length
    · rw [if_pos c1, if_pos (by simp; omega), show k - o = (k - (o + 1)) + 1 by omega, List.getElem?_cons_succ]
    · rw [if_neg c1]
      by_cases c2 : k = o
      · subst c2
        rw [if_pos (by simp)]
        simp [h]
      · rw [if_neg (by simp; omega), Array.getElem?_setIfInBounds_ne (fun e => c2 e.symm)]
theorem heap_setCells {w : World} {b : Nat} {t : TypeId} {fr : Nat × Nat} : ∀ (vs : List Value) (o : Nat) (w : World) (cs : Array Value), w.heap[b]? = some (.cells cs t fr) → (w.setCells b o vs).heap[b]? = some (.cells (setL cs o vs) t fr)
  | [], _, _, _, h => h
  | v :: r, o, w, cs, h => by
    rw [World.setCells, setL]
    exact heap_setCells (w := w) r (o + 1) _ _ (heap_setCell_at h o v)
theorem keep_setCells {S : Nat → Prop} {a : World} {b : Nat} (hS : b < a.heap.size → S b) : ∀ (vs : List Value) (o : Nat) (w : World), Keep S a w → Keep S a (w.setCells b o vs)
  | [], _, _, h => h
  | v :: r, o, w, h => by
    rw [World.setCells]
    exact keep_setCells hS r (o + 1) _ (h.setCell ⟨b, o, none⟩ v hS)

def insL (l : List Int) (k : Nat) (x : Int) : List Int := l.take k ++ x :: l.drop k
theorem insL_len (l : List Int) (k : Nat) (x : Int) : (insL l k x).length = l.length + 1 := by simp [insL]; omega
theorem grow_cells (xs Z : List Value) (k : Nat) (x : Value) (hk : k ≤ xs.length) (cs : Array Value) (hcs : cs.toList = xs.take k ++ Z) (hZ : xs.length + 1 - k ≤ Z.length) :
    ((setL (setL cs k [x]) (k + 1) (xs.drop k)).toList.take (xs.length + 1)) = xs.take k ++ x :: xs.drop k := by
  have hsz : xs.length + 1 ≤ cs.size := by
    have : cs.toList.length = cs.size := rfl
    rw [← this, hcs, List.length_append, List.length_take]
    omega
  apply List.ext_getElem?
  intro i
  rw [List.getElem?_take]
  by_cases hi : i < xs.length + 1
  · rw [if_pos hi, Array.getElem?_toList, setL_get _ _ _ _ (by rw [setL_size]; omega), setL_get _ _ _ _ (by omega)]
    have hk1 : (xs.take k).length = k := by simp; omega
    by_cases c1 : i < k
    · rw [if_neg (by simp; omega), if_neg (by omega), ← Array.getElem?_toList, hcs, List.getElem?_append_left (by omega), List.getElem?_append_left (by omega)]
    · rw [List.getElem?_append_right (by omega), hk1]
      by_cases c2 : i = k
      · subst c2
        rw [if_neg (by omega), if_pos (by simp)]
        simp
      · rw [if_pos (by simp; omega), show i - k = (i - (k + 1)) + 1 by omega, List.getElem?_cons_succ]
  · rw [if_neg hi, List.getElem?_eq_none (by simp; omega)]

set_option maxRecDepth 100000 in
set_option maxHeartbeats 1000000 in
theorem insert_any {w : World} {g vb : Nat} {l : List Int} (k : Nat) (x : Int) (hk : k ≤ l.length) (hl : l.length ≤ 8796093022208) (hg : w.heap[g]? = some (.cells (intsC l).toArray 3 (0, 0))) (hx : w.cell? ⟨vb, 0, none⟩ = some (.int .i64 x)) :
    Calls Tryz.prog 121 #[.slice (some ⟨g, 0, none⟩) l.length l.length, .int .i64 (k : Int), .slice (some ⟨vb, 0, none⟩) 1 1] w fun e w' => ∃ v', e = .returned v' ∧ Row w' 3 1 v' (l.length + 1) (intsC (insL l k x)) ∧ (∃ g', v'.ownBlock = some g' ∧ w.heap.size ≤ g') ∧ Keep (fun _ => False) w w' := by
  have hcs : ∀ j v, (intsC l)[j]? = some v → w.cell? ⟨g, j, none⟩ = some v := fun j v hv => by simp [World.cell?, hg, hv]
  have hvs : ∀ j v, [Value.int .i64 x][j]? = some v → w.cell? ⟨vb, 0 + j, none⟩ = some v := fun j v hv => by
    cases j with
    | zero => simp at hv; subst hv; simpa using hx
    | succ j => simp at hv
  have hlen : (intsC l).length = l.length := by simp [intsC]
  have hins : (intsC (insL l k x)) = (intsC l).take k ++ .int .i64 x :: (intsC l).drop k := by simp [intsC, insL, List.map_take, List.map_drop]
  by_cases c : k = l.length
  · subst c
    have h := Any2.slices_Insert_int_end_grow Tryz.ins (some ⟨g, 0, none⟩) l.length l.length vb 0 1 1 (intsC l) [.int .i64 x] w (by omega) (by omega) (by omega) (by omega) hlen rfl (by simp)
      (fun a ha j v hv => by cases ha; unfold Addr.add; split <;> simp_all) hvs (by intro v hv; simp at hv; subst hv; rfl)
    change Calls Tryz.prog 121 _ _ _ at h
    refine h.mono ?_
    rintro e w' ⟨rfl, rfl⟩
    have hge := grownCap_ge w (l.length + 1) l.length 3
    have hle := grownCap_le_maxLen w (l.length + 1) l.length 3 (by simp only [maxLen]; omega)
    refine ⟨_, rfl, ⟨by simp [hins, hlen], .inr ⟨_, 0, _, _, rfl, heap_alloc_new w.drew _, hge, hle, ?_, ?_⟩⟩, ⟨_, rfl, Nat.le_refl _⟩, (Keep.refl _ w).drew.alloc _⟩
    · simp [size_zeroCells, Value.cells, hlen]; omega
    · rw [hins]
      rw [List.take_of_length_le (show (intsC l).length ≤ l.length by omega), List.drop_of_length_le (show (intsC l).length ≤ l.length by omega)]
      simp [hlen, List.take_append, List.take_of_length_le (show (intsC l).length ≤ l.length + 1 by omega)]
  · have h := Any2.slices_Insert_int_grow Tryz.ins g 0 l.length l.length k vb 0 1 1 (intsC l) [.int .i64 x] w (by omega) (by omega) (by omega) (by omega) (by omega) hlen rfl
      (fun j v hv => by simpa using hcs j v hv) hvs (one_ints l) (by intro v hv; simp at hv; subst hv; rfl)
    change Calls Tryz.prog 121 _ _ _ at h
    have h3 : Tryz.ins_ren.t 3 = 3 := rfl
    rw [h3] at h
    have hge := grownCap_ge w (l.length + 1) l.length 3
    have hle := grownCap_le_maxLen w (l.length + 1) l.length 3 (by simp only [maxLen]; omega)
    generalize grownCap w (l.length + 1) l.length 3 = C at h hge hle
    refine h.mono ?_
    rintro e w' ⟨rfl, rfl⟩
    clear h
    have hn := heap_alloc_new w (.cells (((intsC l).take k).toArray ++ Builtin.zeroCells (Value.int .i64 0).cells (l.length + 1 - k) ++ Builtin.zeroCells (Value.int .i64 0).cells (C - (l.length + 1))) 3)
    generalize hW : w.alloc _ = W at hn ⊢
    have hK : Keep (fun _ => False) w W := by rw [← hW]; exact (Keep.refl _ w).alloc _
    generalize hC : ((List.take k (intsC l)).toArray ++ Builtin.zeroCells (Value.int .i64 0).cells (l.length + 1 - k) ++ Builtin.zeroCells (Value.int .i64 0).cells (C - (l.length + 1))) = cs at hn
    have h1 := heap_setCells (w := w) [.int .i64 x] k W.drew cs hn
    have h2 := heap_setCells (w := w) ((intsC l).drop k) (k + 1) ((W.drew.setCells w.heap.size k [.int .i64 x]).drew) _ h1
    refine ⟨_, rfl, ⟨by simp [hins, hlen]; omega, .inr ⟨_, 0, _, _, rfl, h2, hge, hle, ?_, ?_⟩⟩, ⟨_, rfl, Nat.le_refl _⟩, ?_⟩
    · rw [setL_size, setL_size]
      rw [← hC]
      simp [size_zeroCells, Value.cells, hlen]
      omega
    · rw [hins]
      have := grow_cells (intsC l) (Builtin.zeroCells (Value.int .i64 0).cells (l.length + 1 - k) ++ Builtin.zeroCells (Value.int .i64 0).cells (C - (l.length + 1))).toList k (.int .i64 x) (by omega) cs (by rw [← hC]; simp) (by simp [size_zeroCells, Value.cells, hlen])
      rw [hlen] at this
      simpa using this
    · refine keep_setCells (fun h => absurd h (by omega)) _ _ _ (Keep.drew ?_)
      exact keep_setCells (fun h => absurd h (by omega)) _ _ _ hK.drew
end Go.Proofs.YtofonfohaocclaaGreatDoor
