/- Walk of Queue.Put. -/
import Derived.Test.YtofonfohaocclaaGreatDoorG09
namespace Go.Proofs.YtofonfohaocclaaGreatDoor.Q
open Go.RowKit Sh
open Go.ChangeMaps (setBlock)
set_option linter.unusedVariables false

def zIt : It := ⟨0, 0, 0, 0⟩
theorem zero41 (w : World) : (zeroValue 164).run Tryz.prog w = .ok (itV zIt) w := by kernel_rfl
/-- what a look-up in a queue's map says. -/
theorem IsQ.look {w0 : World} {q : Loc} {mb : Option Nat} {M : List It} (h : IsQ w0 q mb M) (n : Int) :
    ∃ (x : It) (b : Bool), (∀ w, Keep (fun _ => False) w0 w → (Instr.lookup 39 (.map mb) (.int .i64 n) true).run Tryz.prog w = .ok (.tuple #[itV x, .bool b]) w) ∧ ((b = true ∧ x ∈ M ∧ x.n = n) ∨ (b = false ∧ ∀ y ∈ M, y.n ≠ n)) := by
  cases mb with
  | none =>
    refine ⟨zIt, false, fun w k => ?_, .inr ⟨rfl, by rw [h.non rfl]; simp⟩⟩
    exact look_nil (P := Tryz.prog) Tryz.underlying39 Tryz.underlying3 (zero41 w) n true
  | some B =>
    obtain ⟨h1, M1, h2, h3⟩ := h.mp B rfl
    by_cases c : ∃ x ∈ M1, x.n = n
    · obtain ⟨x, hx, hn⟩ := c
      exact ⟨x, true, fun w k => (h3.keep k id).look_in (P := Tryz.prog) Tryz.underlying39 Tryz.underlying3 hx n hn true, .inl ⟨rfl, h2.mem_iff.1 hx, hn⟩⟩
    · refine ⟨zIt, false, fun w k => (h3.keep k id).look_out (P := Tryz.prog) Tryz.underlying39 Tryz.underlying3 (zero41 w) n (fun x hx hn => c ⟨x, hx, hn⟩) true, .inr ⟨rfl, fun y hy hn => c ⟨y, h2.mem_iff.2 hy, hn⟩⟩⟩
/-- where y comes in. -/
def putL (M : List It) (y : It) : List It := M.filter (fun z => z.n ≠ y.n) ++ [y]
theorem map_put (M : List It) (y : It) (hn : (M.map It.n).Nodup) (hx : ∃ x ∈ M, x.n = y.n) : (M.map fun z => if z.n = y.n then y else z).Perm (putL M y) := by
  induction M with
  | nil => obtain ⟨x, hx, _⟩ := hx; simp at hx
  | cons a M ih =>
    rw [List.map_cons, List.nodup_cons] at hn
    by_cases c : a.n = y.n
    · have e : ∀ z ∈ M, z.n ≠ y.n := fun z hz he => hn.1 (List.mem_map.2 ⟨z, hz, he.trans c.symm⟩)
      have e1 : (M.map fun z => if z.n = y.n then y else z) = M := by
        conv => rhs; rw [← List.map_id M]
        exact List.map_congr_left (fun z hz => by simp [e z hz])
      have e2 : M.filter (fun z => z.n ≠ y.n) = M := List.filter_eq_self.2 (fun z hz => by simpa using e z hz)
      rw [List.map_cons, if_pos c, e1, putL, List.filter_cons, if_neg (by simp [c]), e2]
      exact (List.perm_append_singleton y M).symm
    · obtain ⟨x, hx, hxn⟩ := hx
      have hx' : x ∈ M := by
        rcases List.mem_cons.1 hx with rfl | h
        · exact absurd hxn c
        · exact h
      rw [List.map_cons, if_neg c, putL, List.filter_cons, if_pos (by simp [c])]
      exact (ih hn.2 ⟨x, hx', hxn⟩).cons a
theorem put_out (M : List It) (y : It) (hx : ∀ x ∈ M, x.n ≠ y.n) : putL M y = M ++ [y] := by
  rw [putL, List.filter_eq_self.2 (fun z hz => by simpa using hx z hz)]
theorem IsQ.put {w : World} {q : Loc} {B : Nat} {M : List It} (h : IsQ w q (some B) M) (y : It) :
    ∃ o, (Instr.mapUpdate 39 (.map (some B)) (.int .i64 y.n) (itV y)).run Tryz.prog w = .ok () (setBlock w B o) ∧ IsQ (setBlock w B o) q (some B) (putL M y) := by
  obtain ⟨h1, M1, h2, h3⟩ := h.mp B rfl
  have hc : ∀ o, (setBlock w B o).heap[q.b]? = some (.cells q.cs q.t (0, 0)) := fun o => (block_other (Ne.symm h1)).trans h.cell
  by_cases c : ∃ x ∈ M1, x.n = y.n
  · obtain ⟨o, hr, hi⟩ := h3.upd_in (P := Tryz.prog) Tryz.underlying39 Tryz.underlying3 y c _ rfl _ rfl
    refine ⟨o, hr, hc o, h.here_, fun B' hB' => ?_, fun h => by cases h⟩
    injection hB' with hB'
    subst hB'
    exact ⟨h1, _, (map_put M1 y h3.nod c).trans ((h2.filter _).append_right _), hi⟩
  · have c' : ∀ x ∈ M1, x.n ≠ y.n := fun x hx he => c ⟨x, hx, he⟩
    obtain ⟨o, hr, hi⟩ := h3.upd_out (P := Tryz.prog) Tryz.underlying39 Tryz.underlying3 y c' _ rfl _ rfl
    refine ⟨o, hr, hc o, h.here_, fun B' hB' => ?_, fun h => by cases h⟩
    injection hB' with hB'
    subst hB'
    refine ⟨h1, _, ?_, hi⟩
    rw [← put_out M1 y c']
    exact (h2.filter _).append_right _
theorem IsQ.del {w : World} {q : Loc} {B : Nat} {M : List It} (h : IsQ w q (some B) M) (n : Int) (kt ty : TypeId) :
    ∃ o, (Builtin.delete_ #[39, kt] ty #[.map (some B), .int .i64 n]).run Tryz.prog w = .ok (.tuple #[]) (setBlock w B o) ∧ IsQ (setBlock w B o) q (some B) (M.filter fun z => z.n ≠ n) := by
  obtain ⟨h1, M1, h2, h3⟩ := h.mp B rfl
  obtain ⟨o, hr, hi⟩ := h3.del (P := Tryz.prog) Tryz.underlying39 Tryz.underlying3 n kt ty
  refine ⟨o, hr, (block_other (Ne.symm h1)).trans h.cell, h.here_, fun B' hB' => ?_, fun h => by cases h⟩
  injection hB' with hB'
  subst hB'
  exact ⟨h1, _, h2.filter _, hi⟩

theorem IsQ.made {w : World} {q : Loc} {M : List It} (h : IsQ w q none M) : IsQ ((w.alloc (.map #[] 0)).setCell ⟨q.b, q.o, none⟩ (.map (some w.heap.size))) (q.to (.map (some w.heap.size))) (some w.heap.size) M := by
  have hq := h.lt
  have ka : Keep (fun _ => False) w (w.alloc (.map #[] 0)) := (Keep.refl _ w).alloc _
  have ks : Keep (fun k => k = q.b) (w.alloc (.map #[] 0)) ((w.alloc (.map #[] 0)).setCell ⟨q.b, q.o, none⟩ (.map (some w.heap.size))) := (Keep.refl _ _).setAt _ _
  refine ⟨heap_setCell_at (ka.old h.cell id) q.o (.map (some w.heap.size)), ?_, fun B hB => ?_, fun h => by cases h⟩
  · have := (Array.getElem?_eq_some_iff.1 h.here_).1
    simp [Loc.to, this]
  · injection hB with hB
    subst hB
    exact ⟨by show w.heap.size ≠ q.b; omega, [], by rw [h.non rfl], (IsMp.made w).keep ks (by omega)⟩

theorem putL_len (M : List It) (y : It) : (putL M y).length ≤ M.length + 1 := by
  simp only [putL, List.length_append, List.length_cons, List.length_nil]
  have := List.length_filter_le (fun z : It => decide (z.n ≠ y.n)) M
  omega
theorem drop_last {L : List It} (h : L.length = 33) (hn : (L.map It.n).Nodup) : L.filter (fun z => z.n ≠ (it L 32).n) = L.take 32 := by
  have h32 : 32 < L.length := by omega
  have e : L = L.take 32 ++ [it L 32] := by
    rw [it_of h32]
    conv => lhs; rw [← List.take_append_drop 32 L, List.drop_eq_getElem_cons h32]
    rw [List.drop_eq_nil_of_le (by omega)]
  generalize it L 32 = z at e ⊢
  generalize L.take 32 = T at e ⊢
  subst e
  rw [List.map_append, List.nodup_append] at hn
  rw [List.filter_append, List.filter_eq_self.2, List.filter_cons, if_neg (by simp)]
  · simp
  · intro x hx
    have := hn.2.2 x.n (List.mem_map.2 ⟨x, hx, rfl⟩) z.n (by simp)
    simpa using this

structure PutIs (w w' : World) (q : Loc) (mb : Option Nat) (M : List It) (y : It) : Prop where
  ex : ∃ L B, L.Perm (putL M y) ∧ Srt L ∧ IsQ w' (q.to (.map (some B))) (some B) (L.take 32) ∧ (mb = some B ∨ (mb = none ∧ w.heap.size ≤ B))
  keep : Keep (QS q mb) w w'

set_option maxRecDepth 100000 in
set_option maxHeartbeats 2000000 in
theorem put_new {w : World} {q : Loc} {mb : Option Nat} {M : List It} (h : IsQ w q mb M) (hM : M.length ≤ 32) (n i s : Int) (hu : mayU n s = true) (hnew : ∀ x ∈ M, x.n = n → newI i s x.i x.s = true) :
    Calls Tryz.prog 47 #[.pointer (some ⟨q.b, q.o, none⟩), updV n i s] w fun e w' => e = .returned (.int .i64 0) ∧ PutIs w w' q mb M ⟨n, i, s, 0⟩ := by
  unfold updV
  have H := Lib.hid h
  clear h
  go_enter Tryz.func47, Tryz.ntmps47
  go_wp2_with fail
  refine (may_any n i s _).mono ?_
  rintro e w1 ⟨rfl, hk1⟩
  rw [hu]
  have bu := hk1.old (heap_alloc_new w (.cells #[.int .i64 n, .int .u64 i, .int .i64 s] 52)) id
  have k1 := ((Keep.refl (fun _ => False) w).alloc (.cells #[.int .i64 n, .int .u64 i, .int .i64 s] 52)).step hk1
  have c0 : w1.cell? ⟨w.heap.size, 0, none⟩ = some (.int .i64 n) := by simp [World.cell?, bu]
  have c1 : w1.cell? ⟨w.heap.size, 1, none⟩ = some (.int .u64 i) := by simp [World.cell?, bu]
  have c2 : w1.cell? ⟨w.heap.size, 2, none⟩ = some (.int .i64 s) := by simp [World.cell?, bu]
  have cq := k1.cell H.out.c0
  obtain ⟨x, b, hlk, hb⟩ := H.out.look n
  have BU := Lib.hid bu
  have K1 := Lib.hid k1
  have HB := Lib.hid hb
  clear hk1 bu k1 hb
  obtain ⟨xn, xi, xs, xt⟩ := x
  have hlk2 : (Instr.lookup 39 (.map mb) (.int .i64 n) true).run Tryz.prog w1.drew = .ok (.tuple #[.agg #[.int .i64 xn, .int .u64 xi, .int .i64 xs, .int .i64 xt], .bool b]) w1.drew := hlk _ K1.out.drew
  have hlk3 : ∀ o, (Instr.lookup 39 (.map mb) (.int .i64 n) true).run Tryz.prog (w1.alloc o).drew = .ok (.tuple #[.agg #[.int .i64 xn, .int .u64 xi, .int .i64 xs, .int .i64 xt], .bool b]) (w1.alloc o).drew := fun o => hlk _ (K1.out.alloc _).drew
  clear hlk
  go_upto_region 3 with fail
  go_cut [5, 6] (fun v5 v6 wx => v5 = .pointer (some ⟨w1.heap.size, 0, none⟩) ∧ v6 = .bool b ∧ Keep (fun _ => False) w1 wx ∧ wx.heap[w1.heap.size]? = some (.cells #[.int .i64 xn, .int .u64 xi, .int .i64 xs, .int .i64 xt] 164 (0, 0)))
  case first =>
    go_region_held3 (fun W => W.cell? ⟨q.b, q.o, none⟩ = some (.map mb) ∧ W.cell? ⟨w.heap.size, 0, none⟩ = some (.int .i64 n)) (go_keep) (fail)
    all_goals
      go_wp2_with fail
      go_meet
      exact ⟨rfl, rfl, ((Keep.refl _ w1).alloc _).drew, heap_alloc_new w1 _⟩
  case rest =>
    obtain ⟨rfl, rfl, kb, bb⟩ := hcut
    obtain ⟨wb, hwb⟩ : ∃ wb, wb = wc := ⟨_, rfl⟩
    rw [← hwb] at kb bb ⊢
    clear hwb
    have b0 : wb.cell? ⟨w1.heap.size, 0, none⟩ = some (.int .i64 xn) := by simp [World.cell?, bb]
    have b1 : wb.cell? ⟨w1.heap.size, 1, none⟩ = some (.int .u64 xi) := by simp [World.cell?, bb]
    have b2 : wb.cell? ⟨w1.heap.size, 2, none⟩ = some (.int .i64 xs) := by simp [World.cell?, bb]
    have c0 := kb.cell c0
    have c1 := kb.cell c1
    have c2 := kb.cell c2
    have KB := Lib.hid (K1.out.step kb)
    have BUB := Lib.hid (kb.old BU.out (fun h => h))
    clear kb bb hlk2 hlk3 cq BU K1
    go_upto_region 4 with fail
    go_cut [28] (fun v28 wx => v28 = .bool false ∧ Keep (fun _ => False) wb wx)
    case first =>
      rcases HB.out with ⟨rfl, hx, hxn⟩ | ⟨rfl, hno⟩
      · have hnw := hnew _ hx hxn
        clear hx hxn
        go_wp2_with fail
        refine (newer_any n i s xn xi xs _).mono ?_
        rintro e w2 ⟨rfl, hk2⟩
        rw [hnw]
        go_wp2_with fail
        go_meet
        exact ⟨rfl, hk2⟩
      · go_wp2_with fail
        go_meet
        exact ⟨rfl, Keep.refl _ wb⟩
    case rest =>
      obtain ⟨rfl, hkc⟩ := hcut
      have KC := Lib.hid (KB.out.step hkc)
      have BC := Lib.hid (hkc.old BUB.out (fun h => h))
      have HC := Lib.hid (H.out.keep0 KC.out)
      obtain ⟨wo, hwo⟩ : ∃ wo, wo = wc := ⟨_, rfl⟩
      rw [← hwo] at KC BC HC ⊢
      clear hwo hkc c0 c1 c2 b0 b1 b2 BUB KB HB
      have cq := HC.out.c0
      have hnil := run_eql_map_nil (P := Tryz.prog) wo 39 3 164 mb Tryz.underlying39
      apply_assumption
      cases mb with
      | some B =>
        go_upto_region 8 with fail
        have HC2 := HC
        have BC2 := BC
        have KC2 : Hid (Keep (QS q (some B)) w wo) := Lib.hid (KC.out.mono (fun _ h _ => absurd h id))
        obtain ⟨ws, hws⟩ : ∃ ws, ws = wo := ⟨_, rfl⟩
        rw [← hws] at HC2 BC2 KC2 ⊢
        clear hws HC BC KC cq hnil
        obtain ⟨o, hup, hiq⟩ := (HC2.out.keep0 (Keep.refl _ ws).drew).put ⟨n, i, s, 0⟩
        have hup2 : (Instr.mapUpdate 39 (.map (some B)) (.int .i64 n) (.agg #[.int .i64 n, .int .u64 i, .int .i64 s, .int .i64 0])).run Tryz.prog ws.drew = .ok () (setBlock ws.drew B o) := hup
        have cq : ws.cell? ⟨q.b, q.o, none⟩ = some (.map (some B)) := HC2.out.c0
        have u0 : ws.cell? ⟨w.heap.size, 0, none⟩ = some (.int .i64 n) := by have := BC2.out; simp [World.cell?, this]
        have u1 : ws.cell? ⟨w.heap.size, 1, none⟩ = some (.int .u64 i) := by have := BC2.out; simp [World.cell?, this]
        have u2 : ws.cell? ⟨w.heap.size, 2, none⟩ = some (.int .i64 s) := by have := BC2.out; simp [World.cell?, this]
        clear hup
        refine still_tail 8 (by kernel_rfl) (by kernel_rfl) ?_
        simp only [List.take_succ_cons, List.take_zero, List.drop_succ_cons, List.drop_zero]
        repeat still_step
        try refine wpStill_nil ?_
        go_upto_region 9 with fail
        have KT : Hid (Keep (QS q (some B)) w (setBlock ws.drew B o)) := Lib.hid (keep_setBlock KC2.out.drew B o (fun hlt => .inr rfl))
        have QT := Lib.hid hiq
        obtain ⟨wt, hwt⟩ : ∃ wt, wt = setBlock ws.drew B o := ⟨_, rfl⟩
        rw [← hwt] at KT QT ⊢
        clear hwt hiq hup2 cq u0 u1 u2 BC2 KC2 HC2
        go_wp2_with fail
        refine (items_any QT.out (by have := putL_len M ⟨n, i, s, 0⟩; omega)).mono ?_
        rintro e w2 ⟨v, L, rfl, hI⟩
        obtain ⟨hIp, hIs, ⟨g, c, rfl, hg, _, hrow⟩, hk⟩ := hI
        have hLl : L.length ≤ 33 := by rw [hIp.length_eq]; have := putL_len M ⟨n, i, s, 0⟩; omega
        have Q2 := Lib.hid ((QT.out.keep0 hk).perm hIp.symm)
        have K2 := Lib.hid (KT.out.trans hk (fun _ h _ => absurd h id))
        have IP := Lib.hid hIp
        have IS := Lib.hid hIs
        have HROW := Lib.hid hrow
        clear hIp hIs hrow hk hg KT QT
        by_cases h33 : L.length = 33
        · have LN := Lib.hid h33
          rw [h33]
          have r0 : w2.drew.cell? ⟨g, 128, none⟩ = some (.int .i64 (it L 32).n) := (HROW.out 32 (by omega)).1
          obtain ⟨o2, hdel, hq2⟩ := (Q2.out.keep0 (Keep.refl _ w2).drew).del (it L 32).n 3 0
          rw [drop_last h33 Q2.out.nod] at hq2
          have K3 := Lib.hid (keep_setBlock K2.out.drew B o2 (fun hlt => .inr rfl))
          have Q3 := Lib.hid hq2
          have cq2 : w2.cell? ⟨q.b, q.o, none⟩ = some (.map (some B)) := Q2.out.c0
          generalize (it L 32).n = z at r0 hdel
          have e32 : IntKind.i64.wrap 32 = 32 := by rw [IntKind.wrap_i64]; omega
          clear hq2 h33 hLl HROW
          go_upto_region 11 with fail
          refine sb_tail 12 (by kernel_rfl) (by kernel_rfl) ?_
          simp only [List.take_succ_cons, List.take_zero, List.drop_succ_cons, List.drop_zero]
          repeat (refine sb_step (fun K hK => ?_); go_simp; refine hK _ ?_; clear hK K)
          try refine sb_nil ?_
          go_wp2
          go_ret
          exact ⟨rfl, ⟨L, B, IP.out, IS.out, by rw [Loc.to_self Q3.out.here_]; exact Q3.out, .inl rfl⟩, K3.out⟩
        · have hle : L.length ≤ 32 := by omega
          have d1 : decide ((32 : Int) < (L.length : Int)) = false := decide_eq_false (by omega)
          have d2 : ¬ (32 : Int) < (L.length : Int) := by omega
          have Q3 : Hid (IsQ w2 q (some B) (L.take 32)) := Lib.hid (by rw [List.take_of_length_le hle]; exact Q2.out)
          clear h33 hLl hle
          go_wp2
          go_ret
          exact ⟨rfl, ⟨L, B, IP.out, IS.out, by rw [Loc.to_self Q3.out.here_]; exact Q3.out, .inl rfl⟩, K2.out⟩
      | none =>
        have hmm := @run_makeMap Tryz.prog
        have ka := (Keep.refl (fun _ => False) wo).alloc (.map #[] 0)
        have HA := HC.out.keep0 ka
        have fq : (wo.alloc (.map #[] 0)).frozen? ⟨q.b, q.o, none⟩ = false := by have := HA.cell; simp [World.frozen?, this]
        have cqa := HA.c0
        have hBs : w.heap.size ≤ wo.heap.size := KC.out.size
        go_upto_region 8 with fail
        clear hmm fq cqa cq hnil
        obtain ⟨B, hB⟩ : ∃ B, B = wo.heap.size := ⟨_, rfl⟩
        have hBw : w.heap.size ≤ B := by omega
        have HC2 := Lib.hid HC.out.made
        rw [← hB] at HC2
        have ks : Keep (fun k => k = q.b) wo ((wo.alloc (.map #[] 0)).setCell ⟨q.b, q.o, none⟩ (.map (some B))) := ((Keep.refl _ wo).alloc _).setAt _ _
        have hqb : w.heap.size ≠ q.b := by have := H.out.lt; omega
        have BC2 := Lib.hid (ks.old BC.out hqb)
        have KC2 : Hid (Keep (QS q none) w ((wo.alloc (.map #[] 0)).setCell ⟨q.b, q.o, none⟩ (.map (some B)))) := Lib.hid ((KC.out.mono (fun _ h _ => absurd h id)).trans ks (fun k hk _ => .inl hk))
        obtain ⟨ws, hws⟩ : ∃ ws, ws = (wo.alloc (.map #[] 0)).setCell ⟨q.b, q.o, none⟩ (.map (some B)) := ⟨_, rfl⟩
        rw [← hB]
        rw [← hws] at HC2 BC2 KC2 ⊢
        clear hws HC BC KC ka HA ks hB hBs hqb
        obtain ⟨o, hup, hiq⟩ := (HC2.out.keep0 (Keep.refl _ ws).drew).put ⟨n, i, s, 0⟩
        have hup2 : (Instr.mapUpdate 39 (.map (some B)) (.int .i64 n) (.agg #[.int .i64 n, .int .u64 i, .int .i64 s, .int .i64 0])).run Tryz.prog ws.drew = .ok () (setBlock ws.drew B o) := hup
        have cq : ws.cell? ⟨q.b, q.o, none⟩ = some (.map (some B)) := HC2.out.c0
        have u0 : ws.cell? ⟨w.heap.size, 0, none⟩ = some (.int .i64 n) := by have := BC2.out; simp [World.cell?, this]
        have u1 : ws.cell? ⟨w.heap.size, 1, none⟩ = some (.int .u64 i) := by have := BC2.out; simp [World.cell?, this]
        have u2 : ws.cell? ⟨w.heap.size, 2, none⟩ = some (.int .i64 s) := by have := BC2.out; simp [World.cell?, this]
        clear hup
        refine still_tail 8 (by kernel_rfl) (by kernel_rfl) ?_
        simp only [List.take_succ_cons, List.take_zero, List.drop_succ_cons, List.drop_zero]
        repeat still_step
        try refine wpStill_nil ?_
        go_upto_region 9 with fail
        have KT : Hid (Keep (QS q none) w (setBlock ws.drew B o)) := Lib.hid (keep_setBlock KC2.out.drew B o (fun hlt => absurd hlt (by omega)))
        have QT := Lib.hid hiq
        obtain ⟨wt, hwt⟩ : ∃ wt, wt = setBlock ws.drew B o := ⟨_, rfl⟩
        rw [← hwt] at KT QT ⊢
        clear hwt hiq hup2 cq u0 u1 u2 BC2 KC2 HC2
        go_wp2_with fail
        refine (items_any QT.out (by have := putL_len M ⟨n, i, s, 0⟩; omega)).mono ?_
        rintro e w2 ⟨v, L, rfl, hI⟩
        obtain ⟨hIp, hIs, ⟨g, c, rfl, hg, _, hrow⟩, hk⟩ := hI
        have hLl : L.length ≤ 33 := by rw [hIp.length_eq]; have := putL_len M ⟨n, i, s, 0⟩; omega
        have Q2 := Lib.hid ((QT.out.keep0 hk).perm hIp.symm)
        have K2 := Lib.hid (KT.out.trans hk (fun _ h _ => absurd h id))
        have IP := Lib.hid hIp
        have IS := Lib.hid hIs
        have HROW := Lib.hid hrow
        clear hIp hIs hrow hk hg KT QT
        by_cases h33 : L.length = 33
        · have LN := Lib.hid h33
          rw [h33]
          have r0 : w2.drew.cell? ⟨g, 128, none⟩ = some (.int .i64 (it L 32).n) := (HROW.out 32 (by omega)).1
          obtain ⟨o2, hdel, hq2⟩ := (Q2.out.keep0 (Keep.refl _ w2).drew).del (it L 32).n 3 0
          rw [drop_last h33 Q2.out.nod] at hq2
          have K3 := Lib.hid (keep_setBlock K2.out.drew B o2 (fun hlt => absurd hlt (by omega)))
          have Q3 := Lib.hid hq2
          have cq2 : w2.cell? ⟨q.b, q.o, none⟩ = some (.map (some B)) := Q2.out.c0
          generalize (it L 32).n = z at r0 hdel
          have e32 : IntKind.i64.wrap 32 = 32 := by rw [IntKind.wrap_i64]; omega
          clear hq2 h33 hLl HROW
          go_upto_region 11 with fail
          refine sb_tail 12 (by kernel_rfl) (by kernel_rfl) ?_
          simp only [List.take_succ_cons, List.take_zero, List.drop_succ_cons, List.drop_zero]
          repeat (refine sb_step (fun K hK => ?_); go_simp; refine hK _ ?_; clear hK K)
          try refine sb_nil ?_
          go_wp2
          go_ret
          exact ⟨rfl, ⟨L, B, IP.out, IS.out, Q3.out, .inr ⟨rfl, hBw⟩⟩, K3.out⟩
        · have hle : L.length ≤ 32 := by omega
          have d1 : decide ((32 : Int) < (L.length : Int)) = false := decide_eq_false (by omega)
          have d2 : ¬ (32 : Int) < (L.length : Int) := by omega
          have Q3 : Hid (IsQ w2 (q.to (.map (some B))) (some B) (L.take 32)) := Lib.hid (by rw [List.take_of_length_le hle]; exact Q2.out)
          clear h33 hLl hle
          go_wp2
          go_ret
          exact ⟨rfl, ⟨L, B, IP.out, IS.out, Q3.out, .inr ⟨rfl, hBw⟩⟩, K2.out⟩

set_option maxRecDepth 100000 in
set_option maxHeartbeats 2000000 in
theorem put_old {w : World} {q : Loc} {mb : Option Nat} {M : List It} (h : IsQ w q mb M) (n i s : Int) (hu : mayU n s = true) (x0 : It) (hx0 : x0 ∈ M) (hx1 : x0.n = n) (hold : newI i s x0.i x0.s = false) :
    Calls Tryz.prog 47 #[.pointer (some ⟨q.b, q.o, none⟩), updV n i s] w fun e w' => e = .returned (.int .i64 70) ∧ Keep (fun _ => False) w w' := by
  unfold updV
  have H := Lib.hid h
  clear h
  go_enter Tryz.func47, Tryz.ntmps47
  go_wp2_with fail
  refine (may_any n i s _).mono ?_
  rintro e w1 ⟨rfl, hk1⟩
  rw [hu]
  have bu := hk1.old (heap_alloc_new w (.cells #[.int .i64 n, .int .u64 i, .int .i64 s] 52)) id
  have k1 := ((Keep.refl (fun _ => False) w).alloc (.cells #[.int .i64 n, .int .u64 i, .int .i64 s] 52)).step hk1
  have c0 : w1.cell? ⟨w.heap.size, 0, none⟩ = some (.int .i64 n) := by simp [World.cell?, bu]
  have c1 : w1.cell? ⟨w.heap.size, 1, none⟩ = some (.int .u64 i) := by simp [World.cell?, bu]
  have c2 : w1.cell? ⟨w.heap.size, 2, none⟩ = some (.int .i64 s) := by simp [World.cell?, bu]
  have cq := k1.cell H.out.c0
  obtain ⟨x, b, hlk, hb⟩ := H.out.look n
  have BU := Lib.hid bu
  have K1 := Lib.hid k1
  have HB := Lib.hid hb
  clear hk1 bu k1 hb
  obtain ⟨xn, xi, xs, xt⟩ := x
  have hlk2 : (Instr.lookup 39 (.map mb) (.int .i64 n) true).run Tryz.prog w1.drew = .ok (.tuple #[.agg #[.int .i64 xn, .int .u64 xi, .int .i64 xs, .int .i64 xt], .bool b]) w1.drew := hlk _ K1.out.drew
  have hlk3 : ∀ o, (Instr.lookup 39 (.map mb) (.int .i64 n) true).run Tryz.prog (w1.alloc o).drew = .ok (.tuple #[.agg #[.int .i64 xn, .int .u64 xi, .int .i64 xs, .int .i64 xt], .bool b]) (w1.alloc o).drew := fun o => hlk _ (K1.out.alloc _).drew
  clear hlk
  go_upto_region 3 with fail
  go_cut [5, 6] (fun v5 v6 wx => v5 = .pointer (some ⟨w1.heap.size, 0, none⟩) ∧ v6 = .bool b ∧ Keep (fun _ => False) w1 wx ∧ wx.heap[w1.heap.size]? = some (.cells #[.int .i64 xn, .int .u64 xi, .int .i64 xs, .int .i64 xt] 164 (0, 0)))
  case first =>
    go_region_held3 (fun W => W.cell? ⟨q.b, q.o, none⟩ = some (.map mb) ∧ W.cell? ⟨w.heap.size, 0, none⟩ = some (.int .i64 n)) (go_keep) (fail)
    all_goals
      go_wp2_with fail
      go_meet
      exact ⟨rfl, rfl, ((Keep.refl _ w1).alloc _).drew, heap_alloc_new w1 _⟩
  case rest =>
    obtain ⟨rfl, rfl, kb, bb⟩ := hcut
    obtain ⟨wb, hwb⟩ : ∃ wb, wb = wc := ⟨_, rfl⟩
    rw [← hwb] at kb bb ⊢
    clear hwb
    have b0 : wb.cell? ⟨w1.heap.size, 0, none⟩ = some (.int .i64 xn) := by simp [World.cell?, bb]
    have b1 : wb.cell? ⟨w1.heap.size, 1, none⟩ = some (.int .u64 xi) := by simp [World.cell?, bb]
    have b2 : wb.cell? ⟨w1.heap.size, 2, none⟩ = some (.int .i64 xs) := by simp [World.cell?, bb]
    have c0 := kb.cell c0
    have c1 := kb.cell c1
    have c2 := kb.cell c2
    have KB := Lib.hid (K1.out.step kb)
    have BUB := Lib.hid (kb.old BU.out (fun h => h))
    clear kb bb hlk2 hlk3 cq BU K1
    rcases HB.out with ⟨rfl, hx, hxn⟩ | ⟨rfl, hno⟩
    · have e0 := nodup_one H.out.nod hx hx0 (hxn.trans hx1.symm)
      subst e0
      have hnw : newI i s xi xs = false := hold
      clear hx hxn hx0 hx1 hold
      go_wp2_with fail
      refine (newer_any n i s xn xi xs _).mono ?_
      rintro e w2 ⟨rfl, hk2⟩
      rw [hnw]
      have K2 := Lib.hid (KB.out.step hk2)
      clear hk2
      go_wp2
      go_ret
      exact ⟨rfl, K2.out⟩
    · exact absurd hx1 (hno _ hx0)

end Go.Proofs.YtofonfohaocclaaGreatDoor.Q
