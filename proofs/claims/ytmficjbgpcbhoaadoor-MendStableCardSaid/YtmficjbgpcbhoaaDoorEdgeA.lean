/- Walks: the edges of a list of spans are appended. -/
import Derived.Test.YtmficjbgpcbhoaaDoorKit
import Derived.Test.YtmficjbgpcbhoaaDoorEdgeM
namespace Go.Proofs.YtmficjbgpcbhoaaDoor
open Go.RowKit Sh
set_option linter.unusedVariables false

theorem info52 : (Tryd.prog.info? 52).map (fun i => (i.zero, i.size, i.bytes)) = some (some (.agg #[.int .u64 0, .bool false, .bool false]), 3, 16) := by kernel_rfl

set_option maxRecDepth 100000 in
set_option maxHeartbeats 1000000 in
theorem edges_any (w0 w : World) (v lv : Value) (l : List Sp) (es : List Edge) (s : Bool) (B : Nat) (hl : IsL w0 v l) (hk : Keep (fun _ => False) w0 w) (hB : w0.heap.size ≤ B)
    (hb : w.heap[B]? = some (.cells #[lv] 50 (0, 0))) (ho : w.ownsRow (B + 1) 52 3 lv es.length (edCells es)) (hsz : es.length + l.length * 2 ≤ 1073741824) (hr : Rng l) :
    Calls Tryd.prog 22 #[v, .bool s, .pointer (some ⟨B, 0, none⟩)] w fun e w' => e = .returned (.tuple #[]) ∧ (∃ lv', w'.heap[B]? = some (.cells #[lv'] 50 (0, 0)) ∧ w'.ownsRow (B + 1) 52 3 lv' (es ++ edsTo l s l.length).length (edCells (es ++ edsTo l s l.length))) ∧ Keep (fun _ => False) w0 w' := by
  obtain ⟨A, cp, rfl, hcp, hlen, hA⟩ := hl.ex
  obtain ⟨i0, hi, hz0, hz1, hz2⟩ := info_parts info52
  have Hi := Lib.hid hi
  have Hz0 := Lib.hid hz0
  have Hz1 := Lib.hid hz1
  have Hz2 := Lib.hid hz2
  have HA := Lib.hid hA
  have HB := Lib.hid hb
  have HO := Lib.hid ho
  have HK := Lib.hid hk
  have HR := Lib.hid hr
  clear hA hl hb ho hk hi hz0 hz1 hz2 hr
  go_enter Tryd.func22, Tryd.ntmps22
  go_wp2
  go_loopg [9] l.length (fun q u wr => ∃ (i : Nat) (lv : Value), i + q = l.length ∧ u = .int .i64 i ∧ wr.heap[B]? = some (.cells #[lv] 50 (0, 0)) ∧ wr.ownsRow (B + 1) 52 3 lv (es ++ edsTo l s i).length (edCells (es ++ edsTo l s i)) ∧ Keep (fun _ => False) w0 wr)
  case atStart => exact ⟨0, lv, by omega, rfl, HB.out, by simpa [edsTo] using HO.out, HK.out⟩
  case round =>
    clear HB HO HK
    obtain ⟨i, lv, hq, rfl, hb, ho, hk⟩ := hrel
    have HB' := Lib.hid hb
    have HO := Lib.hid ho
    have HK := Lib.hid hk
    have HQ := Lib.hid hq
    have hBlt : B < wr.heap.size := (Array.getElem?_eq_some_iff.1 hb).1
    have cB := cell_of_one hb
    clear hb ho hk hq
    by_cases hlt : i < l.length
    · obtain ⟨g, o, rfl, hc⟩ := HA.out (by omega)
      obtain ⟨c0, c1⟩ := hc i hlt
      have c0 := HK.out.cell c0
      have c1 := HK.out.cell c1
      clear hc
      go_wp2_with (at_builtin; refine wpList_append_own_at _ rfl _ _ 50 rfl (B + 1) 52 i0 (.agg #[.int .u64 0, .bool false, .bool false]) 3 16 Tryd.underlying50 Hi.out Hz0.out Hz1.out Hz2.out rfl (by decide) _ _ _ rfl ((HO.out.alloc _).alloc _) ⟨wr.heap.size + 1, 0, none⟩ 2 2 (edCells (edOf (sp l i) s)) rfl rfl ?c1 ?c2 ?c3 ?c4 ?c5 ?_)
      case c1 =>
        refine World.news_of_block (cs := (edCells (edOf (sp l i) s)).toArray) (t := 52) (fr := (0, 0)) ?_
        have h := heap_alloc_new (wr.alloc (.cells #[.int .u64 (sp l i).f, .int .u64 (sp l i).t] 36)) (.cells (edCells (edOf (sp l i) s)).toArray 52)
        simpa [edOf, edCells] using h
      case c2 => exact edOf_one _ _
      case c3 => simp only [List.length_append, edsTo_length, maxLen]; omega
      case c4 => simp only [List.length_append, edsTo_length]; omega
      case c5 => simp; omega
      intro v' w' hown hg _ _
      obtain ⟨A', c', rfl⟩ := own_shape hown
      have hne : some B ≠ lv.ownBlock := by
        intro e
        have := (HO.out.lt B e.symm).1
        omega
      have hb' : w'.heap[B]? = some (.cells #[lv] 50 (0, 0)) := by
        rw [hg.block B (by simp; omega) hne]
        simp only [Below.heap_alloc _ _ B (show B < (wr.alloc _).heap.size by simp; omega), Below.heap_alloc _ _ B hBlt]
        exact HB'.out
      have cB' := cell_of_one hb'
      have fB' := free_of_one hb'
      have hk' : Keep (fun _ => False) w0 w' := ((HK.out.alloc _).alloc _).grown hg (by
        intro k hk hlt
        have := (HO.out.lt k hk).1
        omega)
      have HBB := Lib.hid hb'
      have HO' := Lib.hid hown
      have HK' := Lib.hid hk'
      clear hown hg hb' hk' hne
      go_wp2
      go_roundg (l.length - (i + 1))
      case measure => have := HQ.out; omega
      case rel =>
        refine ⟨i + 1, _, by omega, by go_num, one_setCell HBB.out, ?_, HK'.out.setCell _ _ (by intro h; simp at h; omega)⟩
        have e1 : (es ++ edsTo l s (i + 1)).length = es.length + (edsTo l s i).length + 2 := by simp only [edsTo, List.length_append]; rfl
        have e2 : edCells (es ++ edsTo l s (i + 1)) = edCells (es ++ edsTo l s i) ++ edCells (edOf (sp l i) s) := by simp only [edsTo, edCells_append, List.append_assoc]
        rw [e1, e2]
        refine ownsRow_setCell_other HO'.out ?_ _
        intro e
        have : B + 1 ≤ B := (HO'.out.lt _ e).1
        omega
    · obtain rfl : l.length = i := by have := HQ.out; omega
      go_wp2
      go_end0
      exact ⟨rfl, ⟨lv, HB'.out, HO.out⟩, HK.out⟩

end Go.Proofs.YtmficjbgpcbhoaaDoor
