/- mend.Stable: the walk. -/
import Derived.Test.YtmficjbgpcbhoaaDoorStab
namespace Go.Proofs.YtmficjbgpcbhoaaDoor
open Go.RowKit Go.Shelf Sh
open Go.ChangeMaps (setBlock)
set_option linter.unusedVariables false

theorem stab_cons (m : Int → Option Int) (c : N63) (l : List N63) (i : Nat) (least : Int) : stab m (c :: l) i least = match m (c.1 : Int) with | none => 0 | some v => stab m l (i + 1) (if i = 0 then v else min least v) := rfl
set_option maxRecDepth 100000 in
set_option maxHeartbeats 1000000 in
theorem mstable_any (x : Nat) (hx : x < 2 ^ 64) {w : World} {B : Nat} {m : Int → Option Int} (hm : IsFn iV uV w B m) (hT : TabAt 0 tabS w) (h0 : 0 < w.heap.size) :
    Calls Tryd.prog 5 #[.int .u64 (x : Int), .map (some B)] w fun e w' => e = .returned (.int .u64 (stab m (gs x 64) 0 0)) ∧ Keep (fun _ => False) w w' := by
  have HM := Lib.hid hm
  have k1 := (Keep.refl (fun _ => False) w).alloc (.cells #[.int .u64 0] 22)
  have HL := Lib.hid (list_any x hx (w.alloc (.cells #[.int .u64 0] 22)) (tab_keep hT k1 id) (by simp))
  have K1 := Lib.hid k1
  have hb0 := heap_alloc_new w (.cells #[.int .u64 0] 22)
  have HB0 := Lib.hid hb0
  have hlen := gs_len x 64
  clear hm hT k1 hb0
  generalize gs x 64 = L at *
  go_enter Tryd.func5, Tryd.ntmps5
  go_wp2_with fail
  refine HL.out.mono ?_
  rintro e w2 ⟨v, rfl, ho, hk⟩
  have hN := IsN.of_own ho
  have hfar : ∀ A c g, v = .slice (some ⟨g, 0, none⟩) A c → g ≠ w.heap.size := fun A c g e h => by
    subst e; subst h
    rcases ho.2 with ⟨e1, _⟩ | ⟨g', cap, cur, e1, hb, _⟩
    · cases e1
    · injection e1 with e1; injection e1 with e1; injection e1 with e1
      simp at hb; omega
  have K2 := Lib.hid (K1.out.step (hk.mono (fun _ h _ => h)))
  have HB2 := Lib.hid (hk.old HB0.out id)
  have HN := Lib.hid hN
  have HF := Lib.hid hfar
  obtain ⟨A, c, rfl, _⟩ := hN.ex
  clear hN ho hk hfar HL HB0
  go_wp2_with fail
  go_loopg [6, 7, 8, 9, 14] L.length (fun q v6 v7 v8 v9 v14 wr => ∃ (i : Nat) (least : Int), i + q = L.length ∧ v14 = .int .i64 i ∧ wr.heap[w.heap.size]? = some (.cells #[.int .u64 least] 22 (0, 0)) ∧ Hid (stab m L 0 0 = stab m (L.drop i) i least) ∧ Keep (fun k => k = w.heap.size) w2 wr)
  case atStart => exact ⟨0, 0, by omega, rfl, HB2.out, Lib.hid (by rw [List.drop_zero]), Keep.refl _ _⟩
  case round =>
    obtain ⟨i, least, hq, rfl, hb, HV, hK⟩ := hrel
    have HQ := Lib.hid hq
    have HB := Lib.hid hb
    have KR := Lib.hid hK
    have hkw : Keep (fun _ => False) w wr := ⟨hK.os.trans K2.out.os, hK.tape.trans K2.out.tape, hK.output.trans K2.out.output, Nat.le_trans K2.out.size hK.size, fun k hk _ => (hK.block k (Nat.lt_of_lt_of_le hk K2.out.size) (by omega)).trans (K2.out.block k hk id)⟩
    have KW := Lib.hid hkw
    have c1 := cell_of_one hb
    have f1 := free_of_one hb
    have bl := (Array.getElem?_eq_some_iff.1 hb).1
    clear hq hb hK hkw HB2
    by_cases hlt : i < L.length
    · obtain ⟨A', c', hform, h2⟩ := (HN.out.keep KR.out (fun A c g e => HF.out A c g e)).ex
      injection hform with e1 e2 e3
      subst e1; subst e3
      clear e2
      obtain ⟨g, rfl, h3⟩ := h2 (by omega)
      obtain ⟨h4, _⟩ := h3 i hlt
      have e4 : L.drop i = L[i] :: L.drop (i + 1) := List.drop_eq_getElem_cons hlt
      have HD : Hid (stab m L 0 0 = match m ((L[i]).1 : Int) with | none => 0 | some v => stab m (L.drop (i + 1)) (i + 1) (if i = 0 then v else min least v)) := Lib.hid (by rw [HV.out, e4, stab_cons])
      have d1 : decide ((i : Int) < (L.length : Int)) = true := decide_eq_true (by omega)
      have d2 : (i : Int) < (L.length : Int) := by omega
      have d3 : (0 : Int) ≤ (i : Int) := by omega
      have wi : IntKind.i64.wrap ((i : Int) + 1) = (i : Int) + 1 := IntWalk.i64_in _ (by omega)
      generalize (L[i]).1 = nd at h4 HD
      have lk := look_26 (HM.out.keep KW.out id) (nd : Int)
      clear e4 h2 h3 HV
      cases hmn : m (nd : Int) with
      | none =>
        rw [hmn] at lk HD
        simp only [Option.getD_none, Option.isSome_none] at lk HD
        have HU := Lib.hid HD.out
        have c3 := cell_of_one (one_setCell (u := .int .u64 0) HB.out)
        clear hmn HD
        go_wp2_with fail
        refine bodyPost_ret (v := .int .u64 0) (by simp [results, Tryd.results5, go_sem, c3]) rfl ⟨by rw [HU.out], KW.out.setCell _ _ (fun h => absurd h (by simp))⟩
      | some v =>
        rw [hmn] at lk HD
        simp only [Option.getD_some, Option.isSome_some] at lk HD
        clear hmn
        by_cases hi0 : i = 0
        · subst hi0
          rw [if_pos rfl] at HD
          have HU := Lib.hid HD.out
          clear HD
          go_wp2_with fail
          refine (less_first v _ _).mono ?_
          rintro e w' ⟨rfl, rfl⟩
          have hbn := one_setCell (u := .int .u64 v) HB.out
          have hkn : Keep (fun k => k = w.heap.size) w2 (wr.setCell ⟨w.heap.size, 0, none⟩ (.int .u64 v)) := KR.out.setAt 0 _
          have HBN := Lib.hid hbn
          have HKN := Lib.hid hkn
          clear hbn hkn
          go_wp2_with fail
          go_roundg (L.length - (0 + 1))
          case measure => have := HQ.out; omega
          case rel => exact ⟨0 + 1, v, by omega, by go_num, HBN.out, HU, HKN.out⟩
        · have t1 : ((i : Int) == 0) = false := by simp; omega
          rw [if_neg hi0] at HD
          have HU := Lib.hid HD.out
          clear HD
          go_wp2_with fail
          refine (less_next v least _ _ c1).mono ?_
          rintro e w' ⟨rfl, rfl⟩
          have hbn := one_setCell (u := .int .u64 (min least v)) HB.out
          have hkn : Keep (fun k => k = w.heap.size) w2 (wr.setCell ⟨w.heap.size, 0, none⟩ (.int .u64 (min least v))) := KR.out.setAt 0 _
          have HBN := Lib.hid hbn
          have HKN := Lib.hid hkn
          clear hbn hkn
          go_wp2_with fail
          go_roundg (L.length - (i + 1))
          case measure => have := HQ.out; omega
          case rel => exact ⟨i + 1, min least v, by omega, by go_num, HBN.out, HU, HKN.out⟩
    · have hd : L.drop i = [] := List.drop_eq_nil_of_le (by omega)
      have HU : Hid (stab m L 0 0 = least) := Lib.hid (by rw [HV.out, hd]; rfl)
      have d1 : decide ((i : Int) < (L.length : Int)) = false := decide_eq_false (by omega)
      have d2 : ¬ (i : Int) < (L.length : Int) := by omega
      clear hd HV
      have c3 := cell_of_one (one_setCell (u := .int .u64 least) HB.out)
      go_wp2_with fail
      refine bodyPost_ret (v := .int .u64 least) (by simp [results, Tryd.results5, go_sem, c3]) rfl ⟨by rw [HU.out], KW.out.setCell _ _ (fun h => absurd h (by simp))⟩
end Go.Proofs.YtmficjbgpcbhoaaDoor
