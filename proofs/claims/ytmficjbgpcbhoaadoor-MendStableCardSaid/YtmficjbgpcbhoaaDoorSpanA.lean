/- Walks of spans: May. -/
import Derived.Test.YtmficjbgpcbhoaaDoorKit
import Derived.Test.YtmficjbgpcbhoaaDoorSpanM
namespace Go.Proofs.YtmficjbgpcbhoaaDoor
open Go.RowKit Sh
set_option linter.unusedVariables false

set_option maxHeartbeats 1000000 in
theorem may_any (v : Value) (l : List Sp) (w : World) (h : IsL w v l) (hr : Rng l) :
    Calls Tryd.prog 17 #[v] w fun e w' => e = .returned (.bool (okB l)) ∧ Keep (fun _ => False) w w' := by
  obtain ⟨A, cp, rfl, hcp, hlen, hA⟩ := h.ex
  have HA := Lib.hid hA
  have HR := Lib.hid hr
  clear hA h hr
  go_enter Tryd.func17, Tryd.ntmps17
  go_wp2
  go_loopg [3, 8] l.length (fun q v u wr => ∃ i : Nat, i + q = l.length ∧ v = .int .u64 (leastV l i) ∧ u = .int .i64 i ∧ OkTo l i ∧ Keep (fun _ => False) w wr)
  case atStart => exact ⟨0, by omega, by simp [leastV], rfl, fun j hj => by omega, Keep.refl _ w⟩
  case round =>
    obtain ⟨i, hq, rfl, rfl, hO, hK⟩ := hrel
    have HO := Lib.hid hO
    have HK := Lib.hid hK
    have HQ := Lib.hid hq
    clear hO hK hq
    by_cases hlt : i < l.length
    · obtain ⟨g, o, rfl, hc⟩ := HA.out (by omega)
      obtain ⟨c0, c1⟩ := hc i hlt
      have c0 := HK.out.cell c0
      have c1 := HK.out.cell c1
      have hrr := HR.out i hlt
      have HN := Lib.hid (fun g => okB_false (OkTo.not HR.out hlt g))
      obtain ⟨L, hL⟩ : ∃ L, L = leastV l i := ⟨_, rfl⟩
      have hL0 : 0 ≤ L := by rw [hL]; unfold leastV; split <;> omega
      have hL1 : L < 18446744073709551616 := by rw [hL]; unfold leastV; split <;> omega
      obtain ⟨f, hf⟩ : ∃ f, f = (sp l i).f := ⟨_, rfl⟩
      obtain ⟨t, ht⟩ : ∃ t, t = (sp l i).t := ⟨_, rfl⟩
      rw [← hf] at c0 hrr
      rw [← ht] at c1 hrr
      obtain ⟨r0, r1, r2, r3⟩ := hrr
      rw [← hL]
      have XL := Lib.hid hL
      have Xf := Lib.hid hf
      have Xt := Lib.hid ht
      clear hL hf ht hc
      by_cases g1 : f < L
      · go_wp2
        go_ret
        exact ⟨by rw [HN.out (.inl (by rw [← XL.out, ← Xf.out]; exact g1))]; rfl, HK.out.alloc _⟩
      · by_cases g2 : t < f
        · go_wp2
          go_ret
          exact ⟨by rw [HN.out (.inr (.inl (by rw [← Xt.out, ← Xf.out]; exact g2)))]; rfl, HK.out.alloc _⟩
        · by_cases g3 : t = 18446744073709551615
          · have g3' : (t == 18446744073709551615) = true := by rw [beq_iff_eq]; exact g3
            have G3 := Lib.hid g3
            clear g3
            go_wp2
            go_ret
            exact ⟨by rw [HN.out (.inr (.inr (.inl (by rw [← Xt.out]; exact G3.out))))]; rfl, HK.out.alloc _⟩
          · have g3' : (t == 18446744073709551615) = false := by rw [beq_eq_false_iff_ne]; exact g3
            by_cases g4 : 0 < i ∧ L = 0
            · obtain ⟨g4, g5⟩ := g4
              have g5' : (L == 0) = true := by rw [beq_iff_eq]; exact g5
              have G5 := Lib.hid g5
              clear g3 g5
              go_wp2
              go_ret
              exact ⟨by rw [HN.out (.inr (.inr (.inr ⟨g4, by rw [← XL.out]; exact G5.out⟩)))]; rfl, HK.out.alloc _⟩
            · have hs := HO.out.succ HR.out hlt (by rw [← XL.out, ← Xf.out]; exact g1) (by rw [← Xt.out, ← Xf.out]; exact g2) (by rw [← Xt.out]; exact g3) (by rw [← XL.out]; omega)
              have HS := Lib.hid hs
              have hlv : leastV l (i + 1) = (t + 2) % 18446744073709551616 := by rw [Xt.out]; simp [leastV]
              have HLV := Lib.hid hlv
              have HM := Lib.hid (show l.length - (i + 1) < gk by have := HQ.out; omega)
              have HE := Lib.hid (show i + 1 + (l.length - (i + 1)) = l.length by omega)
              clear hs hlv
              by_cases g5 : 0 < i
              · have g5' : (L == 0) = false := by rw [beq_eq_false_iff_ne]; omega
                clear g3 g4
                go_wp2
                go_roundg (l.length - (i + 1))
                case measure => exact HM.out
                case rel => exact ⟨i + 1, HE.out, by rw [HLV.out, IntKind.wrap_u64], by first | rfl | go_num, HS.out, HK.out.alloc _⟩
              · clear g3 g4
                go_wp2
                go_roundg (l.length - (i + 1))
                case measure => exact HM.out
                case rel => exact ⟨i + 1, HE.out, by rw [HLV.out, IntKind.wrap_u64], by first | rfl | go_num, HS.out, HK.out.alloc _⟩
    · obtain rfl : l.length = i := by have := HQ.out; omega
      go_wp2
      go_ret
      exact ⟨by rw [okB_true HO.out]; rfl, HK.out⟩

end Go.Proofs.YtmficjbgpcbhoaaDoor
