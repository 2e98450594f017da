/- Walk of Queue.Take. -/
import Derived.Test.YtacfigociobgmaaTell
namespace Go.Proofs.Ytacfigociobgmaa
open Go.RowKit Sh
open Go.ChangeMaps (setBlock)
set_option linter.unusedVariables false

/-- as TellIs, of a map that may be nil. -/
structure TakeIs (w : World) (q : Nat) (mb : Option Nat) (qc nd lc base : Nat) (nodes : Int) (M U : List It) : Prop where
  que : IsQ w q mb M
  lst : ∃ A c, w.heap[lc]? = some (.cells #[.slice A U.length c] 37 (0, 0)) ∧ w.ownsRow base 33 3 (.slice A U.length c) U.length (upCells U)
  cn : w.heap[nd]? = some (.cells #[.int .i64 nodes] 3 (0, 0))
  cq : w.heap[qc]? = some (.cells #[.pointer (some ⟨q, 0, none⟩)] 24 (0, 0))
  bq : q < base
  bB : ∀ B, mb = some B → B < base ∧ lc ≠ B ∧ B ≠ nd ∧ B ≠ qc
  bqc : qc < base
  bnd : nd < base
  blc : lc < base
  n1 : lc ≠ q
  n3 : lc ≠ nd
  n4 : lc ≠ qc
  n7 : q ≠ nd
  n8 : q ≠ qc
theorem TakeIs.tell {w : World} {q B qc nd lc base : Nat} {nodes : Int} {M U : List It} (h : TakeIs w q (some B) qc nd lc base nodes M U) : TellIs w q B qc nd lc base nodes M U := by
  obtain ⟨h1, h2, h3, h4⟩ := h.bB B rfl
  exact ⟨h.que, h.lst, h.cn, h.cq, h.bq, h1, h.bqc, h.bnd, h.blc, h.n1, h2, h.n3, h.n4, h3, h4⟩
theorem TellIs.take {w : World} {q B qc nd lc base : Nat} {nodes : Int} {M U : List It} (h : TellIs w q B qc nd lc base nodes M U) (n7 : q ≠ nd) (n8 : q ≠ qc) : TakeIs w q (some B) qc nd lc base nodes M U :=
  ⟨h.que, h.lst, h.cn, h.cq, h.bq, fun B' hB => by
    injection hB with hB
    subst hB
    exact ⟨h.bB, h.n2, h.n5, h.n6⟩, h.bqc, h.bnd, h.blc, h.n1, h.n3, h.n4, n7, n8⟩
theorem TakeIs.keep {S : Nat → Prop} {w w' : World} {q : Nat} {mb : Option Nat} {qc nd lc base : Nat} {nodes : Int} {M U : List It} (h : TakeIs w q mb qc nd lc base nodes M U) (k : Keep (fun _ => False) w w') : TakeIs w' q mb qc nd lc base nodes M U := by
  obtain ⟨A, c, h1, h2⟩ := h.lst
  exact ⟨h.que.keep0 k, ⟨A, c, k.old h1 id, own_keepB h2 k (fun _ _ h => h)⟩, k.old h.cn id, k.old h.cq id, h.bq, h.bB, h.bqc, h.bnd, h.blc, h.n1, h.n3, h.n4, h.n7, h.n8⟩

/-- a slice of updates. -/
def UpAt (w : World) (v : Value) (U : List It) : Prop := ∃ A c, v = .slice A U.length c ∧ (0 < U.length → ∃ g, A = some ⟨g, 0, none⟩ ∧ ∀ i, i < U.length → w.cell? ⟨g, i * 3, none⟩ = some (.int .i64 (it U i).n) ∧ w.cell? ⟨g, i * 3 + 1, none⟩ = some (.int .u64 (it U i).i) ∧ w.cell? ⟨g, i * 3 + 2, none⟩ = some (.int .i64 (it U i).s))
theorem up_of {w : World} {base : Nat} {A : Option Addr} {c : Nat} {U : List It} (h : w.ownsRow base 33 3 (.slice A U.length c) U.length (upCells U)) : UpAt w (.slice A U.length c) U := by
  refine ⟨A, c, rfl, fun hU => ?_⟩
  rcases h.2 with ⟨e0, h0⟩ | ⟨g, cap', cur, e0, r⟩
  · omega
  · injection e0 with e1 e2 e3
    subst e1; subst e3
    have h' : w.ownsRow base 33 3 (.slice (some ⟨g, 0, none⟩) U.length c) U.length (upCells U) := h
    refine ⟨g, rfl, fun i hi => ?_⟩
    have a0 := (own_cell h' (i * 3 + 0) (by omega)).1.trans (upCells_get U i 0 hi (by omega))
    have a1 := (own_cell h' (i * 3 + 1) (by omega)).1.trans (upCells_get U i 1 hi (by omega))
    have a2 := (own_cell h' (i * 3 + 2) (by omega)).1.trans (upCells_get U i 2 hi (by omega))
    exact ⟨a0, a1, a2⟩

structure TakeDone (w w' : World) (q : Nat) (mb : Option Nat) (v : Value) (n nodes : Int) (M L : List It) (k : Nat) : Prop where
  perm : L.Perm M
  srt : Srt L
  hk : (k : Int) = max 0 (min n L.length)
  up : UpAt w' v (L.take k)
  que : IsQ w' q mb ((L.take k).foldl (tellL (capI nodes)) M)
  keep : Keep (QS q mb) w w'

set_option maxRecDepth 100000 in
set_option maxHeartbeats 2000000 in
theorem take_any {w : World} {q : Nat} {mb : Option Nat} {M : List It} (h : IsQ w q mb M) (hM : M.length ≤ 1000) (ht : ∀ x ∈ M, 0 ≤ x.t ∧ x.t ≤ 1000) (n nodes : Int) (n0 : -9223372036854775808 ≤ nodes) (n1 : nodes < 9223372036854775808) :
    Calls Try.prog 12 #[.pointer (some ⟨q, 0, none⟩), .int .i64 n, .int .i64 nodes] w fun e w' => ∃ v L k, e = .returned v ∧ TakeDone w w' q mb v n nodes M L k := by
  have H := Lib.hid h
  have HT := Lib.hid ht
  clear h ht
  go_enter Try.func12, Try.ntmps12
  go_wp2_with fail
  have k3 : Keep (fun _ => False) w (((w.alloc (.cells #[.pointer (some ⟨q, 0, none⟩)] 24)).alloc (.cells #[.int .i64 nodes] 3)).alloc (.cells #[.slice none 0 0] 37)) := (((Keep.refl _ w).alloc _).alloc _).alloc _
  refine (items_any (H.out.keep0 k3) hM).mono ?_
  rintro e w2 ⟨v, L, rfl, hI⟩
  obtain ⟨hIp, hIs, ⟨g, c, rfl, hg, hc, hrow⟩, hk2⟩ := hI
  have hB0 := H.out.lt
  have hw2 : w.heap.size + 3 ≤ w2.heap.size := by have := hk2.size; simp at this; omega
  have TI : Hid (TakeIs w2 q mb w.heap.size (w.heap.size + 1) (w.heap.size + 1 + 1) w2.heap.size nodes M []) := Lib.hid (by
    refine ⟨(H.out.keep0 k3).keep0 hk2, ⟨none, 0, hk2.old ?_ id, World.ownsRow_nil _ _ _ _⟩, hk2.old ?_ id, hk2.old ?_ id, by omega, fun B hB => ?_, by omega, by omega, by omega, by omega, by omega, by omega, by omega, by omega⟩
    · have := heap_alloc_new ((w.alloc (.cells #[.pointer (some ⟨q, 0, none⟩)] 24)).alloc (.cells #[.int .i64 nodes] 3)) (.cells #[.slice none 0 0] 37)
      simpa using this
    · have := ((Keep.refl (fun _ => False) _).alloc (.cells #[.slice none 0 0] 37)).old (heap_alloc_new (w.alloc (.cells #[.pointer (some ⟨q, 0, none⟩)] 24)) (.cells #[.int .i64 nodes] 3)) id
      simpa using this
    · exact (((Keep.refl (fun _ => False) _).alloc _).alloc _).old (heap_alloc_new w _) id
    · subst hB
      have := H.out.blt
      omega)
  have K2 := Lib.hid (k3.step hk2)
  have IP := Lib.hid hIp
  have IS := Lib.hid hIs
  have ROW := Lib.hid hrow
  have hg2 : w.heap.size + 3 ≤ g := by simp at hg; omega
  have hLl : L.length ≤ 1000 := by rw [hIp.length_eq]; exact hM
  obtain ⟨k, hk⟩ : ∃ k : Nat, (k : Int) = max 0 (min n (L.length : Int)) := ⟨(max 0 (min n (L.length : Int))).toNat, by omega⟩
  have HKK := Lib.hid hk
  have hkL : k ≤ L.length := by omega
  have e1 : max 0 (min n (L.length : Int)) = (k : Int) := hk.symm
  have e2 : (k : Int) ≤ (c : Int) := by omega
  have e3 : k ≤ c := by omega
  have e4 : (0 : Int) ≤ (k : Int) := by omega
  clear k3 hIp hIs hrow hk2 hk hg
  go_wp2_with fail
  go_loopg [10, 22] k (fun m v10 v22 wr => ∃ i : Nat, i + m = k ∧ v22 = .int .i64 i ∧ TakeIs wr q mb w.heap.size (w.heap.size + 1) (w.heap.size + 1 + 1) w2.heap.size nodes ((L.take i).foldl (tellL (capI nodes)) M) (L.take i) ∧ RowAt wr g L ∧ Keep (QS q mb) w wr ∧ w2.heap.size ≤ wr.heap.size)
  case atStart => exact ⟨0, by omega, rfl, TI.out, ROW.out, K2.out.mono (fun _ h _ => absurd h id), Nat.le_refl _⟩
  case round =>
    obtain ⟨i, hm, rfl, hti, hrow, hkw, hsz⟩ := hrel
    have T := Lib.hid hti
    have HR := Lib.hid hrow
    have KW := Lib.hid hkw
    have HM := Lib.hid hm
    clear hti hrow hkw hm
    by_cases hlt : i < k
    · have hiL : i < L.length := by omega
      have hg3 : g < w2.heap.size := World.block_lt_of_cell? w2 _ (ROW.out i hiL).1
      obtain ⟨c0, c1, c2, c3⟩ := HR.out i hiL
      have hxt := HT.out (it L i) (IP.out.mem_iff.1 (it_mem hiL))
      have hstep : L.take (i + 1) = L.take i ++ [it L i] := by rw [it_of hiL, List.take_succ_eq_append_getElem hiL]
      have HST := Lib.hid hstep
      obtain ⟨x, hx⟩ : ∃ x, x = it L i := ⟨_, rfl⟩
      rw [← hx] at c0 c1 c2 c3 hxt hstep
      have HX := Lib.hid hx
      have HST2 := Lib.hid hstep
      obtain ⟨xn, xi, xs, xt⟩ := x
      simp only at c0 c1 c2 c3 hxt
      have t1 : decide ((i : Int) < (k : Int)) = true := by simp; omega
      have e5 : i < L.length := hiL
      clear hx hstep hiL HST
      obtain ⟨B, rfl⟩ : ∃ B, mb = some B := by
        cases hmb : mb with
        | some B => exact ⟨B, rfl⟩
        | none =>
          subst hmb
          have := H.out.non rfl
          have h0 := IP.out.length_eq
          rw [this] at h0
          simp at h0
          subst h0
          simp at e5
      have hB1 := H.out.blt
      go_wp2_with fail
      have ka := (Keep.refl (fun _ => False) wr).alloc (.cells #[.int .i64 xn, .int .u64 xi, .int .i64 xs, .int .i64 xt] 41)
      refine (tell_any (T.out.keep (S := fun _ => False) ka).tell ⟨xn, xi, xs, xt⟩ hxt (by simp; omega) (by simp; omega) n0 n1).mono ?_
      rintro e w4 ⟨rfl, hT4, hk4⟩
      have ht4 := hT4.take T.out.n7 T.out.n8
      rw [← HST2.out] at ht4
      have hfold : tellL (capI nodes) ((L.take i).foldl (tellL (capI nodes)) M) ⟨xn, xi, xs, xt⟩ = (L.take (i + 1)).foldl (tellL (capI nodes)) M := by
        rw [HST2.out, List.foldl_append]; rfl
      rw [hfold] at ht4
      have T4 := Lib.hid ht4
      have HR4 := Lib.hid ((HR.out.keep ka id).keep hk4 (by
        rintro (h | h | h)
        · omega
        · omega
        · omega))
      have KW4 := Lib.hid ((KW.out.step (ka.mono (T := QS q (some B)) (fun _ h _ => absurd h id))).trans hk4 (by
        rintro j (h | h | h) hj
        · exact .inr (by rw [h])
        · omega
        · omega))
      have hs4 : w2.heap.size ≤ w4.heap.size := Nat.le_trans hsz (Nat.le_trans ka.size hk4.size)
      clear hT4 hk4 ht4 hfold ka
      go_wp2
      go_roundg (k - (i + 1))
      case measure => have := HM.out; omega
      case rel => exact ⟨i + 1, by omega, by go_num, T4.out, HR4.out, KW4.out, hs4⟩
    · obtain rfl : k = i := by have := HM.out; omega
      have t1 : decide ((k : Int) < (k : Int)) = false := by simp
      obtain ⟨A, cc, hl, hown⟩ := T.out.lst
      have cl : wr.cell? ⟨w.heap.size + 1 + 1, 0, none⟩ = some (.slice A (L.take k).length cc) := by simp [World.cell?, hl]
      have fl : wr.frozen? ⟨w.heap.size + 1 + 1, 0, none⟩ = false := by simp [World.frozen?, hl]
      have hlen : (L.take k).length = k := by simp; omega
      obtain ⟨v, hv⟩ : ∃ v, v = Value.slice A k cc := ⟨_, rfl⟩
      have ks : Keep (fun j => j = w.heap.size + 1 + 1) wr (wr.setCell ⟨w.heap.size + 1 + 1, 0, none⟩ (.slice A k cc)) := (Keep.refl _ wr).setAt _ _
      have hl2 := heap_setCell_at hl 0 (.slice A k cc)
      have cl2 : (wr.setCell ⟨w.heap.size + 1 + 1, 0, none⟩ (.slice A k cc)).cell? ⟨w.heap.size + 1 + 1, 0, none⟩ = some (.slice A k cc) := by
        simp only [World.cell?, hl2]
        simp
      have D : Hid (TakeDone w (wr.setCell ⟨w.heap.size + 1 + 1, 0, none⟩ (.slice A k cc)) q mb (.slice A k cc) n nodes M L k) := Lib.hid (by
        refine ⟨IP.out, IS.out, HKK.out, ?_, ?_, KW.out.trans ks (fun j hj h => by omega)⟩
        · have ho := own_keepB hown ks (fun g' hg' => by
            have := (own_block hown hg').1
            omega)
          have hu := up_of ho
          rw [hlen] at hu
          exact hu
        · refine T.out.que.keep ks ?_
          rintro j (h | h) hj
          · have := T.out.n1; omega
          · exact (T.out.bB j h).2.1 hj.symm)
      clear hl2 ks
      go_wp2_with fail
      exact bodyPost_ret (v := .slice A k cc) (by simp [results, Try.results12, go_sem, cl2]) rfl ⟨_, L, k, rfl, D.out⟩

end Go.Proofs.Ytacfigociobgmaa
