/- mend.Give and MendGives: the iterator, what it gathers, the range over it, the row. -/
import Derived.RangeFuncBox
import Derived.RangeFuncNested
import Derived.RangeFuncBound
import Derived.RangeFuncCalls
import Derived.RangeFuncLeaves
import Derived.Shelf.Abstract
import Derived.Shelf.RegionOpen
import Derived.OwnWalkIn
import Derived.TacticsInMore
import Derived.LoopNIn
import Derived.LoopIn
import Derived.Test.YtkbmggclecimeaaFill
import Derived.Test.YtkbmggclecimeaaGivesW
import Derived.Maps.AppendAt
import Derived.Maps.OwnIn
import Derived.Test.YtkbmggclecimeaaSizeM
/- mend.there: the numbers of a shelf's room that spans have, one by one (an iterator). -/
namespace Go.Proofs.Ytkbmggclecimeaa
open Go.RowKit Go.Shelf Sh
set_option linter.unusedVariables false
attribute [local go_sem] Oper.semAt_some

abbrev N64 := { x : Int // 1 ≤ x ∧ x ≤ 64 }
def gs (K : Int → Bool) : Nat → List N64
  | 0 => []
  | i + 1 => if h : (i : Int) < 64 then (if K ((i : Int) + 1) = true then gs K i ++ [⟨(i : Int) + 1, by omega⟩] else gs K i) else gs K i
theorem gs_yes {K : Int → Bool} {i : Nat} (h : (i : Int) < 64) (hk : K ((i : Int) + 1) = true) : gs K (i + 1) = gs K i ++ [⟨(i : Int) + 1, by omega⟩] := by
  simp only [gs]; rw [dif_pos h, if_pos hk]
theorem gs_no {K : Int → Bool} {i : Nat} (hk : K ((i : Int) + 1) = false) : gs K (i + 1) = gs K i := by
  simp only [gs]
  by_cases h : (i : Int) < 64
  · rw [dif_pos h, if_neg (by rw [hk]; simp)]
  · rw [dif_neg h]
theorem gs_len (K : Int → Bool) : ∀ i : Nat, (gs K i).length ≤ i
  | 0 => by simp [gs]
  | i + 1 => by
    have := gs_len K i
    simp only [gs]
    split
    · split
      · simp; omega
      · omega
    · omega
theorem keep_of_below {a c : World} (h : Below a.heap.size a c) : Keep (fun _ => False) a c := ⟨h.os, h.tape, h.output, h.size, fun k hk _ => h.block k hk⟩
theorem grown_of_keep {a c : World} (h : Keep (fun _ => False) a c) (row : Option Nat) : a.grownBy c row := ⟨h.os, h.tape, h.output, h.size, fun k hk _ => h.block k hk (fun h => h)⟩

/-- what a round may not turn. -/
def KpB (m Bs Bv : Nat) (A B : World) : Prop := Below m A B ∧ B.heap[Bs]? = A.heap[Bs]? ∧ B.heap[Bv]? = A.heap[Bv]?
theorem KpB.t {m Bs Bv : Nat} {A B C : World} (h : KpB m Bs Bv A B) (k : KpB m Bs Bv B C) : KpB m Bs Bv A C := ⟨h.1.trans k.1, k.2.1.trans h.2.1, k.2.2.trans h.2.2⟩
theorem KpB.b {m Bs Bv : Nat} {w : World} (hm : m ≤ w.heap.size) (h1 : Bs < w.heap.size) (h2 : Bv < w.heap.size) (W : World) (l : Nat) (o o' : Obj) (hl : w.heap.size ≤ l) (h : W.heap[l]? = some o) (_ : o.isCells = false) (_ : o.isWalk = false) : KpB m Bs Bv W (W.putObj l o') :=
  ⟨(Below.refl m W).grown (grownBy_putObj' W l o') (by have := (Array.getElem?_eq_some_iff.1 h).1; omega) (fun k e => by cases e; omega), World.putObj_heap_other (by omega), World.putObj_heap_other (by omega)⟩
theorem cell_of_same {A B : World} {k : Nat} {v : Value} (h : A.cell? ⟨k, 0, none⟩ = some v) (e : B.heap[k]? = A.heap[k]?) : B.cell? ⟨k, 0, none⟩ = some v := by
  simp only [World.cell?] at h ⊢
  rw [e]; exact h

set_option maxRecDepth 100000 in
set_option maxHeartbeats 1000000 in
theorem there_stops (n : Nat) (hn : 1 ≤ n) {w w0 : World} {b : Nat} {st : St} {v : Value} {K : Int → Bool} {Bs Bv : Nat} (hsh : IsShelf w b st) (hlow : st.low = 0) (hset : IsSet w v K) (hb0 : Below w.heap.size w w0)
    (l1 : Bs < w0.heap.size) (l2 : Bv < w0.heap.size)
    (B1 : w0.cell? ⟨Bs, 0, none⟩ = some (.pointer (some ⟨b, 0, none⟩))) (B2 : w0.cell? ⟨Bv, 0, none⟩ = some v) :
    SeqStopsK Fence.wide n Try.prog 69 #[.pointer (some ⟨Bs, 0, none⟩), .pointer (some ⟨Bv, 0, none⟩)] (fun x : N64 => #[Value.int .u64 x.1]) (KpB w.heap.size Bs Bv) (fun xs => xs = gs K 64) (fun pre => ∃ i, i ≤ 64 ∧ pre = gs K i) 64 w0 := fun l J Jx W hW hJ hJx hY h0 => by
  have S0 := Lib.hid hsh
  have X0 := Lib.hid hset
  have HJ := Lib.hid hJ
  have HY := Lib.hid hY
  have q1 : W.cell? ⟨Bs, 0, none⟩ = some (.pointer (some ⟨b, 0, none⟩)) := (hW.cell (p := ⟨Bs, 0, none⟩) l1).trans B1
  have q2 : W.cell? ⟨Bv, 0, none⟩ = some v := (hW.cell (p := ⟨Bv, 0, none⟩) l2).trans B2
  have hW0 : Below w.heap.size w W := hb0.trans (hW.mono hb0.size)
  clear hsh hset B1 B2 hJ hY hW hb0
  refine callsIn_of_wp Try.func69 rfl trivial ?_ rfl
  simp only [Try.ntmps69, List.size_toArray, List.length_cons, List.length_nil, Nat.reduceAdd, Nat.reduceSub, Array.replicate_succ, Array.replicate_zero, List.push_toArray, List.append_toArray, List.nil_append, List.cons_append]
  gi_wp2
  gi_loopw [6] (fun p wr => ∃ i : Nat, i ≤ 64 ∧ p = .int .u64 i ∧ J (gs K i) wr ∧ Below w.heap.size w wr ∧ wr.cell? ⟨Bs, 0, none⟩ = some (.pointer (some ⟨b, 0, none⟩)) ∧ wr.cell? ⟨Bv, 0, none⟩ = some v) (fun p wr => 64 - (intOf p).toNat)
  case atStart => exact ⟨0, by omega, rfl, h0, hW0, q1, q2⟩
  case round =>
    clear q1 q2
    obtain ⟨i, hi, rfl, hJi, hWi, c1, c2⟩ := hrel
    by_cases hlt : i < 64
    · have kk := keep_of_below hWi
      have SR := Lib.hid (S0.out.keep kk id)
      have XR := Lib.hid (X0.out.keep kk)
      have JI := Lib.hid hJi
      have WI := Lib.hid hWi
      have C1 := Lib.hid c1
      have C2 := Lib.hid c2
      have e1 : IntKind.u64.wrap (1 + (i : Int)) = (i : Int) + 1 := by rw [IntKind.wrap_u64]; omega
      have t1 : decide ((i : Int) < 64) = true := decide_eq_true (by omega)
      have t2 : (i : Int) < 64 := by omega
      have t3 : decide (i < 64) = true := decide_eq_true hlt
      clear kk hJi hWi h0 hW0
      gi_wp2_with fail
      refine ⟨trivial, ?_⟩
      refine (callsIn_wide.2 (low_any b st _ SR.out)).mono ?_
      rintro e w4 ⟨rfl, rfl⟩
      rw [hlow]
      gi_wp2_with fail
      refine ⟨trivial, ?_⟩
      refine (callsIn_wide.2 (has_set XR.out ((i : Int) + 1))).mono ?_
      rintro e w5 ⟨rfl, hk5⟩
      have hb5 : Below w.heap.size w w5 := (((keep_of_below WI.out).step hk5)).below
      have J5 := Lib.hid (HJ.out _ _ _ none JI.out (grown_of_keep hk5 none) (fun r h => by cases h))
      have B5 := Lib.hid hb5
      have D1 := Lib.hid (hk5.cell C1.out)
      have D2 := Lib.hid (hk5.cell C2.out)
      clear hk5 hb5 c1 c2
      cases hk : K ((i : Int) + 1) with
      | true =>
        obtain ⟨fn, tmps, assign, body, hy, hR⟩ := HY.out (gs K i) ⟨(i : Int) + 1, by omega⟩ w5 J5.out (by have := gs_len K i; omega)
        have HR := Lib.hid hR
        clear hR
        dsimp only at hy
        gi_wp2_with fail
        refine HR.out.mono ?_
        rintro e W' (⟨rfl, hJ', hkB, hk1, hk2⟩ | ⟨rfl, hJx'⟩)
        · have hr : ∃ k : Nat, k ≤ 64 ∧ Value.int .u64 ((i : Int) + 1) = .int .u64 k ∧ J (gs K k) W' ∧ Below w.heap.size w W' ∧ W'.cell? ⟨Bs, 0, none⟩ = some (.pointer (some ⟨b, 0, none⟩)) ∧ W'.cell? ⟨Bv, 0, none⟩ = some v :=
            ⟨i + 1, by omega, rfl, (gs_yes (by omega) hk) ▸ hJ', B5.out.trans hkB, cell_of_same D1.out hk1, cell_of_same D2.out hk2⟩
          have HR2 := Lib.hid hr
          clear hr hk1 hk2
          gi_wp2
          go_roundw
          case rel => exact HR2.out
          case measure => simp only [intOf]; omega
        · gi_wp2
          refine bodyPost_ret (results_none rfl _ _ _) rfl ?_
          exact ⟨⟨_, rfl⟩, .inr ⟨gs K i ++ [_], ⟨i + 1, by omega, (gs_yes (by omega) hk).symm⟩, hJx'⟩⟩
      | false =>
        gi_wp2_with fail
        refine ⟨fun _ h => (by cases h), ?_⟩
        have hr : ∃ k : Nat, k ≤ 64 ∧ Value.int .u64 ((i : Int) + 1) = .int .u64 k ∧ J (gs K k) w5 ∧ Below w.heap.size w w5 ∧ w5.cell? ⟨Bs, 0, none⟩ = some (.pointer (some ⟨b, 0, none⟩)) ∧ w5.cell? ⟨Bv, 0, none⟩ = some v := ⟨i + 1, by omega, rfl, (gs_no hk) ▸ J5.out, B5.out, D1.out, D2.out⟩
        have HR2 := Lib.hid hr
        clear hr
        gi_wp2
        go_roundw
        case rel => exact HR2.out
        case measure => simp only [intOf]; omega
    · have t1 : decide ((i : Int) < 64) = false := decide_eq_false (by omega)
      have t2 : ¬ (i : Int) < 64 := by omega
      have t3 : decide (i < 64) = false := decide_eq_false hlt
      obtain rfl : i = 64 := by omega
      gi_wp2
      go_end0
      refine ⟨⟨_, rfl⟩, .inl ?_⟩
      exact hJi

set_option maxHeartbeats 1000000 in
theorem there_in (n : Nat) (x : Option Addr) (A : Option Addr) (k c : Nat) (w : World) :
    CallsIn Fence.wide n Try.prog 61 #[.pointer x, .slice A k c] w fun e w' => e = .returned (.func (.func 69) #[] #[.pointer (some ⟨w.heap.size, 0, none⟩), .pointer (some ⟨w.heap.size + 1, 0, none⟩)]) ∧ w' = (w.alloc (.cells #[.pointer x] 24)).alloc (.cells #[.slice A k c] 43) := by
  refine callsIn_of_wp Try.func61 rfl trivial ?_ rfl
  simp only [Try.ntmps61, List.size_toArray, List.length_cons, List.length_nil, Nat.reduceAdd, Nat.reduceSub, Array.replicate_succ, Array.replicate_zero, List.push_toArray, List.append_toArray, List.nil_append, List.cons_append]
  gi_wp2
  go_ret
  exact ⟨rfl, rfl⟩

end Go.Proofs.Ytkbmggclecimeaa

/- mend.Give, in plain Lean: what is gathered of the numbers that come. -/
namespace Go.Proofs.Ytkbmggclecimeaa
open Go.RowKit Sh
set_option linter.unusedVariables false

def gent (st : St) (n : Int) : Ent := ⟨n, (st.ring (n % 64).toNat).s, (st.ring (n % 64).toNat).num⟩
def gv (st : St) (pre : List N64) : List Ent := (pre.filter (fun x => hasB st x.1)).map (fun x => gent st x.1)
theorem gv_yes {st : St} {pre : List N64} {x : N64} (h : hasB st x.1 = true) : gv st (pre ++ [x]) = gv st pre ++ [gent st x.1] := by simp [gv, h]
theorem gv_no {st : St} {pre : List N64} {x : N64} (h : hasB st x.1 = false) : gv st (pre ++ [x]) = gv st pre := by simp [gv, h]
theorem gv_len (st : St) (pre : List N64) : (gv st pre).length ≤ pre.length := by
  simp only [gv, List.length_map]; exact List.length_filter_le _ _
theorem gv_pre (st : St) {a b : List N64} (h : a <+: b) : (gv st a).length ≤ (gv st b).length := by
  obtain ⟨t, rfl⟩ := h
  simp [gv]

theorem gs_in (K : Int → Bool) : ∀ i : Nat, ∀ x ∈ gs K i, K x.1 = true ∧ x.1 ≤ i
  | 0 => by simp [gs]
  | i + 1 => by
    intro x hx
    cases hk : K ((i : Int) + 1) with
    | false => rw [gs_no hk] at hx; have := gs_in K i x hx; exact ⟨this.1, by omega⟩
    | true =>
      by_cases h : (i : Int) < 64
      · rw [gs_yes h hk] at hx
        rcases List.mem_append.1 hx with c | c
        · have := gs_in K i x c; exact ⟨this.1, by omega⟩
        · simp only [List.mem_singleton] at c; subst c; exact ⟨hk, by show (i : Int) + 1 ≤ _; omega⟩
      · have e : gs K (i + 1) = gs K i := by simp only [gs]; rw [dif_neg h]
        rw [e] at hx; have := gs_in K i x hx; exact ⟨this.1, by omega⟩
theorem gs_up (K : Int → Bool) : ∀ i : Nat, (gs K i).Pairwise (fun x y => x.1 < y.1)
  | 0 => by simp [gs]
  | i + 1 => by
    cases hk : K ((i : Int) + 1) with
    | false => rw [gs_no hk]; exact gs_up K i
    | true =>
      by_cases h : (i : Int) < 64
      · rw [gs_yes h hk]
        refine List.pairwise_append.2 ⟨gs_up K i, List.pairwise_singleton _ _, ?_⟩
        intro x hx y hy
        simp only [List.mem_singleton] at hy; subst hy
        have := (gs_in K i x hx).2
        show x.1 < (i : Int) + 1
        omega
      · have e : gs K (i + 1) = gs K i := by simp only [gs]; rw [dif_neg h]
        rw [e]; exact gs_up K i
theorem gs_pre (K : Int → Bool) (i : Nat) : ∀ d : Nat, gs K i <+: gs K (i + d)
  | 0 => List.prefix_refl _
  | d + 1 => by
    refine (gs_pre K i d).trans ?_
    show gs K (i + d) <+: gs K (i + d + 1)
    simp only [gs]
    split
    · split
      · exact List.prefix_append _ _
      · exact List.prefix_refl _
    · exact List.prefix_refl _
theorem gs_cK (K : Int → Bool) (st : St) : ∀ i : Nat, i ≤ 64 → ((gv st (gs K i)).length : Int) = cK (fun x => decide (1 ≤ x) && K x && hasB st x) (i + 1)
  | 0, _ => by simp [gs, gv, cK]
  | i + 1, h => by
    have ih := gs_cK K st i (by omega)
    have e : cK (fun x => decide (1 ≤ x) && K x && hasB st x) (i + 1 + 1) = cK (fun x => decide (1 ≤ x) && K x && hasB st x) (i + 1) + cond (decide ((1 : Int) ≤ ((i + 1 : Nat) : Int)) && K ((i + 1 : Nat) : Int) && hasB st ((i + 1 : Nat) : Int)) 1 0 := rfl
    have e1 : decide ((1 : Int) ≤ ((i + 1 : Nat) : Int)) = true := decide_eq_true (by omega)
    have e2 : ((i + 1 : Nat) : Int) = (i : Int) + 1 := by omega
    rw [e, ← ih, e1, e2, Bool.true_and]
    cases hk : K ((i : Int) + 1) with
    | false => rw [gs_no hk]; simp
    | true =>
      rw [gs_yes (by omega) hk]
      cases hb : hasB st ((i : Int) + 1) with
      | false => rw [gv_no hb]; simp
      | true => rw [gv_yes hb]; simp

def RingOk (st : St) : Prop := ∀ n, hasB st n = true → st.ring (n % 64).toNat = ⟨n, (gent st n).s, (gent st n).m, ⟨#[]⟩⟩
theorem ring_ok {w : World} {b : Nat} {st : St} {E : List Ent} (h : Two w b st E) : RingOk st := by
  intro n hn
  obtain ⟨e, he, rfl⟩ := h.kps.conv n hn
  rcases (h.kps.ent e he).2 with c | ⟨_, c⟩
  · have := (hasB_iff.1 hn).1; omega
  · simp only [gent]; rw [c]

theorem gives_pre {K : Int → Bool} {st : St} (hr : RingOk st) {pre : List N64} (hp : pre <+: gs K 64) {most : Int} (hl : ((gv st pre).length : Int) = min (cK (fun x => decide (1 ≤ x) && K x && hasB st x) 65) most) : Gives most K st (gv st pre) := by
  have hs : pre.Sublist (gs K 64) := hp.sublist
  have hpw : (gv st pre).Pairwise (fun a b => a.k < b.k) := by
    have h1 := (gs_up K 64).sublist hs
    have h2 := h1.sublist (List.filter_sublist (p := fun x : N64 => hasB st x.1))
    exact List.pairwise_map.2 h2
  constructor
  · intro j hj
    have hm : en (gv st pre) j ∈ gv st pre := by
      have : en (gv st pre) j = (gv st pre)[j] := by simp [en, List.getD, hj]
      rw [this]; exact List.getElem_mem hj
    obtain ⟨x, hx, e⟩ := List.mem_map.1 hm
    obtain ⟨hx1, hx2⟩ := List.mem_filter.1 hx
    have hk := gs_in K 64 x (hs.subset hx1)
    rw [← e]
    exact ⟨x.2.1, x.2.2, hk.1, hx2, hr x.1 hx2⟩
  · intro j h0 hj
    have e1 : en (gv st pre) j = (gv st pre)[j] := by simp [en, List.getD, hj]
    have e2 : en (gv st pre) (j - 1) = (gv st pre)[j - 1]'(by omega) := by simp [en, List.getD, show j - 1 < (gv st pre).length by omega]
    rw [e1, e2]
    exact (List.pairwise_iff_getElem.1 hpw) (j - 1) j (by omega) hj (by omega)
  · exact hl
theorem gives_done {K : Int → Bool} {st : St} (hr : RingOk st) {most : Int} (hl : ((gv st (gs K 64)).length : Int) ≤ most) : Gives most K st (gv st (gs K 64)) := by
  refine gives_pre hr (List.prefix_refl _) ?_
  have := gs_cK K st 64 (Nat.le_refl _)
  show _ = min (cK _ (64 + 1)) most
  omega
theorem gives_stop {K : Int → Bool} {st : St} (hr : RingOk st) {most : Int} {pre : List N64} {x : N64} {i : Nat} (hi : i ≤ 64) (hp : pre ++ [x] = gs K i) (hl : ((gv st pre).length : Int) = most) : Gives most K st (gv st pre) := by
  have h1 : pre <+: gs K 64 := by
    refine (List.prefix_append pre [x]).trans (hp ▸ ?_)
    have := gs_pre K i (64 - i)
    rwa [show i + (64 - i) = 64 by omega] at this
  refine gives_pre hr h1 ?_
  have h2 := gs_cK K st 64 (Nat.le_refl _)
  have h3 := gv_pre st h1
  show _ = min (cK _ (64 + 1)) most
  omega

/-- the pieces out of the row that the slice owns. -/
theorem IsP.ofOwn {w : World} {base : Nat} {v : Value} {L : List Ent} (h : w.ownsRow base 72 4 v L.length (itCells L)) : IsP w v L := by
  rcases h.2 with ⟨rfl, h0⟩ | ⟨g, cap, cur, rfl, hb, hg, hn, hc, hs, ht⟩
  · refine ⟨none, 0, by rw [h0], fun hp => by omega⟩
  · refine ⟨_, cap, rfl, fun hp => ⟨g, 0, rfl, fun i hi => ?_⟩⟩
    have hat : ∀ k, k < L.length * 4 → w.cell? ⟨g, k, none⟩ = (itCells L)[k]? := by
      intro k hk
      rw [← ht, List.getElem?_take_of_lt hk]
      simp [World.cell?, hg]
    obtain ⟨a1, a2, a3, a4⟩ := itCells_at L i hi
    simp only [Nat.zero_add]
    rw [hat _ (by omega), hat _ (by omega), hat _ (by omega), hat _ (by omega)]
    exact ⟨a1, a2, a3, a4⟩

end Go.Proofs.Ytkbmggclecimeaa

/- mend.Give: the range over the function, walked. -/
namespace Go.Proofs.Ytkbmggclecimeaa
open Go.RowKit Go.Shelf Sh
set_option linter.unusedVariables false
attribute [local go_sem] Oper.semAt_some

theorem info72 : (Try.prog.info? 72).map (fun i => (i.zero, i.size, i.bytes)) = some (some (.agg #[.int .u64 0, .int .i64 0, .int .u64 0, .string ⟨#[]⟩]), 4, 40) := by kernel_rfl

theorem own_slice {W : World} {base : Nat} {e : TypeId} {size : Nat} {v : Value} {k : Nat} {xs : List Value} (h : W.ownsRow base e size v k xs) : ∃ A c, v = .slice A k c := by
  rcases h.2 with ⟨rfl, rfl⟩ | ⟨g, cap, cur, rfl, _⟩
  · exact ⟨_, _, rfl⟩
  · exact ⟨_, _, rfl⟩

theorem give_fin {w W : World} {B D : Nat} {v : Value} {L : List Ent} (hv : Boxed W B 69 v) (hrow : W.ownsRow w.heap.size 72 4 v L.length (itCells L)) (hB : Below w.heap.size w W) (hBn : w.heap.size ≤ B) (hK : W.heap[D]? = some (.deferred (some []))) (hD : w.heap.size ≤ D) :
    ((W.setCell ⟨B, 0, none⟩ v).putObj D (.deferred none)).cell? ⟨B, 0, none⟩ = some v ∧ IsP ((W.setCell ⟨B, 0, none⟩ v).putObj D (.deferred none)) v L ∧ Keep (fun _ => False) w ((W.setCell ⟨B, 0, none⟩ v).putObj D (.deferred none)) := by
  have hK1 : (W.setCell ⟨B, 0, none⟩ v).heap[D]? = some (.deferred (some [])) := (KeepsOthers.setCell _ _ _).same D _ hK rfl
  have hv1 : Boxed (W.setCell ⟨B, 0, none⟩ v) B 69 v := hv.set v
  have hrow1 : (W.setCell ⟨B, 0, none⟩ v).ownsRow w.heap.size 72 4 v L.length (itCells L) := hrow.kept (grownBy_setCell' W B v) (.inr (hv.not_row (by decide) hrow).symm)
  have hB1 : Below w.heap.size w (W.setCell ⟨B, 0, none⟩ v) := hB.setCell (p := ⟨B, 0, none⟩) hBn _
  refine ⟨(cell_kept hv1.cell (grownBy_putObj' _ D (.deferred none)) (fun r e => by cases e; exact ⟨_, hK1, rfl⟩)), IsP.ofOwn (ownsRow_putObj hrow1 _ hK1 rfl), keep_of_below ?_⟩
  exact hB1.grown (grownBy_putObj' _ D (.deferred none)) hB1.size (fun k e => by cases e; exact hD)

theorem kpB_keep {W W' : World} {m Bs Bv : Nat} (h : Keep (fun _ => False) W W') (hm : m ≤ W.heap.size) (h1 : Bs < W.heap.size) (h2 : Bv < W.heap.size) : KpB m Bs Bv W W' :=
  ⟨h.below.mono hm, h.block _ h1 id, h.block _ h2 id⟩
theorem keepsFrom_keep {W W' : World} (h : Keep (fun _ => False) W W') (B : Nat) : KeepsFrom B W W' := (KeepsOthers.of_grownBy (grown_of_keep h none) (by simp)).from _
theorem boxed_keep {W W' : World} {B : Nat} {t : TypeId} {v : Value} (h : Boxed W B t v) (k : Keep (fun _ => False) W W') : Boxed W' B t v := h.kept (grown_of_keep k none) (by simp)

set_option maxRecDepth 100000 in
set_option maxHeartbeats 2000000 in
theorem give_law : GiveLaw := by
  intro w b st E v K most hT hset hsm m0 m1
  have TT := Lib.hid hT
  have XX := Lib.hid hset
  have RO := Lib.hid (ring_ok hT)
  obtain ⟨l, hl, _⟩ := hset.ex
  obtain ⟨A, cp, rfl, _⟩ := hl.ex
  obtain ⟨i0, hi, hz0, hz1, hz2⟩ := info_parts info72
  have Hi := Lib.hid hi
  have Hz0 := Lib.hid hz0
  have Hz1 := Lib.hid hz1
  have Hz2 := Lib.hid hz2
  clear hT hset hl hi hz0 hz1 hz2
  refine (callsIn_wide (n := 9)).1 ?_
  refine callsIn_of_wp_marks Try.func45 rfl trivial ?_ rfl
  simp only [Try.ntmps45, List.size_toArray, List.length_cons, List.length_nil, Nat.reduceAdd, Nat.reduceSub, Array.replicate_succ, Array.replicate_zero, List.push_toArray, List.append_toArray, List.nil_append, List.cons_append]
  gi_wp2_with fail
  refine ⟨trivial, ?_⟩
  refine (there_in 8 _ _ _ _ _).mono ?_
  rintro e w' ⟨rfl, rfl⟩
  have bS0 := Boxed.new w 24 (.pointer (some ⟨b, 0, none⟩))
  have bM0 := Boxed.new (w.alloc (.cells #[.pointer (some ⟨b, 0, none⟩)] 24)) 3 (.int .i64 most)
  have bL0 := Boxed.new ((w.alloc (.cells #[.pointer (some ⟨b, 0, none⟩)] 24)).alloc (.cells #[.int .i64 most] 3)) 69 (.slice none 0 0)
  have bA0 := Boxed.new (((w.alloc (.cells #[.pointer (some ⟨b, 0, none⟩)] 24)).alloc (.cells #[.int .i64 most] 3)).alloc (.cells #[.slice none 0 0] 69)) 24 (.pointer (some ⟨b, 0, none⟩))
  have bB0 := Boxed.new ((((w.alloc (.cells #[.pointer (some ⟨b, 0, none⟩)] 24)).alloc (.cells #[.int .i64 most] 3)).alloc (.cells #[.slice none 0 0] 69)).alloc (.cells #[.pointer (some ⟨b, 0, none⟩)] 24)) 43 (.slice A l.length cp)
  have bS := (((bS0.alloc (.cells #[.int .i64 most] 3)).alloc (.cells #[.slice none 0 0] 69)).alloc (.cells #[.pointer (some ⟨b, 0, none⟩)] 24)).alloc (.cells #[.slice A l.length cp] 43)
  have bM := ((bM0.alloc (.cells #[.slice none 0 0] 69)).alloc (.cells #[.pointer (some ⟨b, 0, none⟩)] 24)).alloc (.cells #[.slice A l.length cp] 43)
  have bL := (bL0.alloc (.cells #[.pointer (some ⟨b, 0, none⟩)] 24)).alloc (.cells #[.slice A l.length cp] 43)
  have bA := bA0.alloc (.cells #[.slice A l.length cp] 43)
  have bB := bB0
  have hB0 : Below w.heap.size w (((((w.alloc (.cells #[.pointer (some ⟨b, 0, none⟩)] 24)).alloc (.cells #[.int .i64 most] 3)).alloc (.cells #[.slice none 0 0] 69)).alloc (.cells #[.pointer (some ⟨b, 0, none⟩)] 24)).alloc (.cells #[.slice A l.length cp] 43)) :=
    (((((Below.refl _ w).alloc (Nat.le_refl _) _).alloc (by simp) _).alloc (by simp; omega) _).alloc (by simp; omega) _).alloc (by simp; omega) _
  simp only [World.size_alloc] at bS bM bL bA bB ⊢
  clear bS0 bM0 bL0 bA0 bB0
  have hsz : (((((w.alloc (.cells #[.pointer (some ⟨b, 0, none⟩)] 24)).alloc (.cells #[.int .i64 most] 3)).alloc (.cells #[.slice none 0 0] 69)).alloc (.cells #[.pointer (some ⟨b, 0, none⟩)] 24)).alloc (.cells #[.slice A l.length cp] 43)).heap.size = w.heap.size + 5 := by simp
  obtain ⟨W0, hW0⟩ : ∃ W0, (((((w.alloc (.cells #[.pointer (some ⟨b, 0, none⟩)] 24)).alloc (.cells #[.int .i64 most] 3)).alloc (.cells #[.slice none 0 0] 69)).alloc (.cells #[.pointer (some ⟨b, 0, none⟩)] 24)).alloc (.cells #[.slice A l.length cp] 43)) = W0 := ⟨_, rfl⟩
  rw [hW0] at bS bM bL bA bB hB0 hsz ⊢
  clear hW0
  have hS := there_stops 8 (by omega) TT.out.shelf TT.out.low XX.out hB0 (Bs := w.heap.size + 1 + 1 + 1) (Bv := w.heap.size + 1 + 1 + 1 + 1) (by omega) (by omega) bA.cell bB.cell
  gi_wp2_with fail
  refine wpIn_rangeFunc_ownG rfl (by omega) (gf := 69) (lb := #[.pointer (some ⟨w.heap.size + 1 + 1 + 1, 0, none⟩), .pointer (some ⟨w.heap.size + 1 + 1 + 1 + 1, 0, none⟩)]) rfl trivial (enters_of Try.func69 (by kernel_rfl) rfl)
    hS (fun h k => h.t k) (KpB.b (by omega) (by omega) (by omega)) (Below.refl _ _) (fun _ => rfl)
    (fun pre W => (∃ v, Boxed W (w.heap.size + 1 + 1) 69 v ∧ W.ownsRow w.heap.size 72 4 v (gv st pre).length (itCells (gv st pre)) ∧ ((gv st pre).length : Int) ≤ most) ∧ Boxed W w.heap.size 24 (.pointer (some ⟨b, 0, none⟩)) ∧ Boxed W (w.heap.size + 1) 3 (.int .i64 most) ∧ Boxed W (w.heap.size + 1 + 1 + 1) 24 (.pointer (some ⟨b, 0, none⟩)) ∧ Boxed W (w.heap.size + 1 + 1 + 1 + 1) 43 (.slice A l.length cp) ∧ Below w.heap.size w W)
    (fun c pre' W => (∃ pre x, c = .exit 0 ∧ pre' = pre ++ [x] ∧ ((gv st pre).length : Int) = most ∧ ∃ v, Boxed W (w.heap.size + 1 + 1) 69 v ∧ W.ownsRow w.heap.size 72 4 v (gv st pre).length (itCells (gv st pre))) ∧ Below w.heap.size w W)
    (OwnFrom.and (Own.from (holdsRow_own w.heap.size (w.heap.size + 1 + 1) 69 72 4 (fun pre => (gv st pre).length) (fun pre => itCells (gv st pre)) (fun pre v => ((gv st pre).length : Int) ≤ most)) _) (OwnFrom.and (Own.from (boxed_own _ _ _) _) (OwnFrom.and (Own.from (boxed_own _ _ _) _) (OwnFrom.and (Own.from (boxed_own _ _ _) _) (OwnFrom.and (Own.from (boxed_own _ _ _) _) (ownFrom_below (Nat.le_refl _) (by omega)))))))
    (fun c => OwnFrom.and (fun s A B row hs hg hr => by
      obtain ⟨pre, x, e1, e2, e3, v, hv, ho⟩ := hs
      obtain ⟨v', h1, h2, _⟩ := holdsRow_own w.heap.size (w.heap.size + 1 + 1) 69 72 4 (fun pre => (gv st pre).length) (fun pre => itCells (gv st pre)) (fun _ _ => True) pre A B row ⟨v, hv, ho, trivial⟩ hg (fun r e => (hr r e).2)
      exact ⟨pre, x, e1, e2, e3, v', h1, h2⟩) (ownFrom_below (Nat.le_refl _) (by omega)))
    ⟨⟨_, bL, World.ownsRow_nil _ _ _ _, by simpa [gv] using m0⟩, bS, bM, bA, bB, hB0⟩
    (fun x => { tmps := #[.pointer (some ⟨b, 0, none⟩), .slice A l.length cp, .int .i64 most, .pointer (some ⟨w.heap.size, 0, none⟩), undef, .pointer (some ⟨w.heap.size + 1, 0, none⟩), .pointer (some ⟨w.heap.size + 1 + 1, 0, none⟩), .int .u64 x.1, undef, undef, .pointer (some ⟨b, 0, none⟩), .slice A l.length cp, .func (.func 69) #[] #[.pointer (some ⟨w.heap.size + 1 + 1 + 1, 0, none⟩), .pointer (some ⟨w.heap.size + 1 + 1 + 1 + 1, 0, none⟩)], .int .u64 x.1, undef, undef, undef, undef, undef, undef, undef, undef, undef, undef, undef, undef, undef, undef, undef, undef, undef, undef, undef], defers := [] }) ?assign ?body ?done ?stop
  case assign =>
    intro l x W K hK
    gi_wp2
    exact hK
  case body =>
    rintro l0 pre x W ⟨⟨v, hv, hrow, hle⟩, hs, hm, ha, hb, hB⟩ hlt
    have HL := Lib.hid hle
    have HLT := Lib.hid hlt
    obtain ⟨Av, cv, rfl⟩ := own_slice hrow
    have hc := hv.cell
    have hf := hv.frozen
    have hsc := hs.cell
    have hmc := hm.cell
    have HR := Lib.hid hrow
    have HV := Lib.hid hv
    have HB := Lib.hid hB
    have HS := Lib.hid hs
    have HM := Lib.hid hm
    have HA := Lib.hid ha
    have HBB := Lib.hid hb
    clear hrow hv hs hm ha hb hB hle hlt
    by_cases hfull : most ≤ (gv st pre).length
    · have t1 : decide (most ≤ ((gv st pre).length : Int)) = true := decide_eq_true hfull
      gi_wp2_with fail
      exact ⟨KeepsFrom.refl _ _, ⟨pre, x, rfl, rfl, by have := HL.out; omega, _, HV.out, HR.out⟩, HB.out⟩
    · have t1 : decide (most ≤ ((gv st pre).length : Int)) = false := decide_eq_false hfull
      have t2 : ¬ most ≤ ((gv st pre).length : Int) := hfull
      have OK : Hid (St.ok st) := ⟨by rw [TT.out.low]; omega, by rw [TT.out.low]; omega⟩
      have kk := keep_of_below HB.out
      have SK := TT.out.keep kk
      have hx := x.2
      have hlow := TT.out.low
      cases hh : hasB st x.1 with
      | false =>
        gi_wp2_with fail
        refine ⟨trivial, ?_⟩
        refine (CallsIn.inRound l0 (callsIn_wide.2 (get_none b st x.1 W SK.shelf OK.out (by omega) (by omega) hh))).mono ?_
        rintro e w1 ⟨rfl, hk1⟩
        have HK1 := Lib.hid hk1
        clear hk1 SK kk
        gi_wp2_with fail
        have hk2 := HK1.out.alloc (Obj.cells #[Value.int IntKind.i64 0, Value.int IntKind.u64 0, Value.string { data := #[] }] 27)
        have z1 := HA.out.lt
        have z2 := HBB.out.lt
        refine ⟨keepsFrom_keep hk2 _, kpB_keep hk2 (by omega) z1 z2, ⟨_, boxed_keep HV.out hk2, ?_, ?_⟩, boxed_keep HS.out hk2, boxed_keep HM.out hk2, boxed_keep HA.out hk2, boxed_keep HBB.out hk2, ((keep_of_below HB.out).step hk2).below⟩
        · rw [gv_no hh]; exact own_keepS HR.out hk2 (fun _ _ h => h)
        · rw [gv_no hh]; exact HL.out
      | true =>
        have er := RO.out x.1 hh
        have G := get_ok b st x.1 W SK.shelf OK.out (by omega) (by omega) hh
        rw [er] at G
        dsimp only at G
        have GG := Lib.hid G
        clear G er
        gi_wp2_with fail
        refine ⟨trivial, ?_⟩
        refine (CallsIn.inRound l0 (callsIn_wide.2 GG.out)).mono ?_
        rintro e w1 ⟨rfl, hk1⟩
        have V1 := boxed_keep HV.out hk1
        have c1 := V1.cell
        have f1 := V1.frozen
        have n1 := V1.lt
        have c2 := (boxed_keep HV.out (hk1.alloc (Obj.cells #[Value.int IntKind.i64 (gent st x.1).s, Value.int IntKind.u64 (gent st x.1).m, Value.string { data := #[] }] 27))).cell
        have f2 := (boxed_keep HV.out (hk1.alloc (Obj.cells #[Value.int IntKind.i64 (gent st x.1).s, Value.int IntKind.u64 (gent st x.1).m, Value.string { data := #[] }] 27))).frozen
        have hk2 := hk1.alloc (Obj.cells #[Value.int IntKind.i64 (gent st x.1).s, Value.int IntKind.u64 (gent st x.1).m, Value.string { data := #[] }] 27)
        have z1 := HA.out.lt
        have z2 := HBB.out.lt
        have HK2 := Lib.hid hk2
        have V2 := Lib.hid (boxed_keep HV.out hk2)
        have R2 := Lib.hid (own_keepS HR.out hk2 (fun _ _ h => h))
        have HA2 := Lib.hid (boxed_keep HA.out hk2)
        have HBB2 := Lib.hid (boxed_keep HBB.out hk2)
        have HS2 := Lib.hid (boxed_keep HS.out hk2)
        have HM2 := Lib.hid (boxed_keep HM.out hk2)
        have B2 := Lib.hid (((keep_of_below HB.out).step hk2).below)
        have hlen := gv_len st pre
        have hlt := HLT.out
        have s2 := B2.out.size
        have nb := World.alloc_heap_new (w1.alloc (Obj.cells #[Value.int IntKind.i64 (gent st x.1).s, Value.int IntKind.u64 (gent st x.1).m, Value.string { data := #[] }] 27)) (Obj.cells #[Value.int IntKind.u64 x.1, Value.int IntKind.i64 (gent st x.1).s, Value.int IntKind.u64 (gent st x.1).m, Value.string { data := #[] }] 72)
        rw [World.size_alloc] at nb
        have NB := Lib.hid nb
        clear hk1 SK kk V1 hk2 GG nb
        gi_wp2_with (gi_at_builtin; refine wpListIn_append_own _ rfl _ _ 69 rfl w.heap.size 72 i0 (.agg #[.int .u64 0, .int .i64 0, .int .u64 0, .string ⟨#[]⟩]) 4 40 Try.underlying69 Hi.out Hz0.out Hz1.out Hz2.out rfl (by decide) _ _ _ rfl (R2.out.alloc _) ⟨w1.heap.size + 1, 0, none⟩ 1 1 (itCells [gent st x.1]) rfl rfl (World.news_of_block (cs := (#[Value.int IntKind.u64 x.1, Value.int IntKind.i64 (gent st x.1).s, Value.int IntKind.u64 (gent st x.1).m, Value.string { data := #[] }] : Array Value)) (t := 72) (fr := (0, 0)) NB.out) (itCells_one _) (by simp only [maxLen]; omega) (by omega) (by simp only [World.size_alloc] at s2 ⊢; omega) ?_; intro v' w2 hown' hgrow _; obtain ⟨g', cap', rfl⟩ := ownsRow_succ hown'; obtain ⟨hv1, hv2, hr2, hk2, hb2⟩ := V2.out.appended (by decide) R2.out s2 (by omega) hown' hgrow; have hc1 := hv1.cell; have hf1 := hv1.frozen; have HV2 := Lib.hid hv2; have HR2 := Lib.hid hr2; have HKO := Lib.hid hk2; have HB2 := Lib.hid hb2; have HG := Lib.hid hgrow; clear hv1 hv2 hr2 hk2 hb2 hgrow hown')
        have o1 := (HA2.out.alloc _).kept HG.out (HA2.out.not_row (by decide) R2.out)
        have o2 := (HBB2.out.alloc _).kept HG.out (HBB2.out.not_row (by decide) R2.out)
        have o3 := (HS2.out.alloc _).kept HG.out (HS2.out.not_row (by decide) R2.out)
        have o4 := (HM2.out.alloc _).kept HG.out (HM2.out.not_row (by decide) R2.out)
        have p1 := o1.other (B' := w.heap.size + 1 + 1) (by omega) (.slice (some ⟨g', 0, none⟩) ((gv st pre).length + 1) cap')
        have p2 := o2.other (B' := w.heap.size + 1 + 1) (by omega) (.slice (some ⟨g', 0, none⟩) ((gv st pre).length + 1) cap')
        have p3 := o3.other (B' := w.heap.size + 1 + 1) (by omega) (.slice (some ⟨g', 0, none⟩) ((gv st pre).length + 1) cap')
        have p4 := o4.other (B' := w.heap.size + 1 + 1) (by omega) (.slice (some ⟨g', 0, none⟩) ((gv st pre).length + 1) cap')
        have eg : (gv st (pre ++ [x])).length = (gv st pre).length + 1 := by rw [gv_yes hh]; simp
        have eb : itCells (gv st (pre ++ [x])) = itCells (gv st pre) ++ itCells [gent st x.1] := by rw [gv_yes hh, itCells_append]
        refine ⟨(keepsFrom_keep HK2.out _).trans (HKO.out.from _), ⟨(HK2.out.below.mono HB.out.size).trans HB2.out, ?_, ?_⟩, ⟨_, HV2.out, ?_, ?_⟩, p3, p4, p1, p2, B2.out.trans HB2.out⟩
        · exact (show _ = _ from p1).trans (show _ = _ from HA.out).symm
        · exact (show _ = _ from p2).trans (show _ = _ from HBB.out).symm
        · rw [eb, eg]; exact HR2.out
        · rw [eg]; omega
  case done =>
    rintro D ys W hD rfl ⟨⟨v, hv, hrow, hle⟩, hs, hm, _, _, hB⟩ hK
    have HL := Lib.hid hle
    obtain ⟨Av, cv, rfl⟩ := own_slice hrow
    have hc := hv.cell
    have hf := hv.frozen
    have HR := Lib.hid hrow
    have HV := Lib.hid hv
    have HB := Lib.hid hB
    have HKK := Lib.hid hK
    clear hrow hv hs hm hB hK hle
    gi_wp2
    refine ⟨by simp, .inl ⟨_, _, rfl, run_takeDeferred ((KeepsOthers.setCell _ _ _).same D _ HKK.out rfl), ?_⟩⟩
    obtain ⟨z1, z2, z3⟩ := give_fin HV.out HR.out HB.out (by omega) HKK.out (by omega)
    exact ⟨_, by simp [results, Try.results45, go_sem, z1], ⟨_, _, rfl, z2, gives_done RO.out HL.out⟩, z3⟩
  case stop =>
    rintro D c pre W hD ⟨i, hi, e⟩ ⟨⟨p1, x, rfl, rfl, hl, v, hv, hrow⟩, hB⟩ hK
    obtain ⟨Av, cv, rfl⟩ := own_slice hrow
    have HL := Lib.hid hl
    have hc := hv.cell
    have hf := hv.frozen
    have HR := Lib.hid hrow
    have HV := Lib.hid hv
    have HB := Lib.hid hB
    have HKK := Lib.hid hK
    clear hrow hv hB hK hl
    gi_wp2
    refine ⟨by simp, .inl ⟨_, _, rfl, run_takeDeferred ((KeepsOthers.setCell _ _ _).same D _ HKK.out rfl), ?_⟩⟩
    obtain ⟨z1, z2, z3⟩ := give_fin HV.out HR.out HB.out (by omega) HKK.out (by omega)
    exact ⟨_, by simp [results, Try.results45, go_sem, z1], ⟨_, _, rfl, z2, gives_stop RO.out hi e HL.out⟩, z3⟩

end Go.Proofs.Ytkbmggclecimeaa

/- MendGives, as the row asks for it. -/
namespace Go.Proofs.Ytkbmggclecimeaa
open Go.RowKit Go.ChangeShapes Go.WideShapes
set_option linter.unusedVariables false
theorem gives_row (a0 : Option Addr) (len0 cap0 : Nat) (z0 : List Int) (a1 : Option Addr) (len1 cap1 : Nat) (z1 : List Int) (a2 : Int) (w : World) (w0 : IsRow .u8 w a0 len0 cap0 z0) (y0 : len0 * 1 ≤ 140737488351232) (w1 : IsRow .u8 w a1 len1 cap1 z1) (y1 : len1 * 1 ≤ 140737488351232) (w2 : (Lit.int .u8 a2).wf = true) :
    Calls Try.prog 14 #[.slice a0 len0 cap0, .slice a1 len1 cap1, .int .u8 a2] w fun e w' => e = .returned (.bool true) ∧ Below w.heap.size w w' := by
  obtain ⟨b0, h0⟩ := IsB.ofRow w0 y0
  obtain ⟨b1, h1⟩ := IsB.ofRow w1 y1
  obtain ⟨r0, r1⟩ := wf_u8 w2
  refine (gives_walk give_law h0 h1 a2 r0 r1).mono ?_
  rintro e w' ⟨rfl, hk⟩
  exact ⟨rfl, hk.below⟩
end Go.Proofs.Ytkbmggclecimeaa
