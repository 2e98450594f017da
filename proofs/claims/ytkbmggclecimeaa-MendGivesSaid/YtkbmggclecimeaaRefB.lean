/- The document's Has and 'glued': walks. -/
import Derived.Test.YtkbmggclecimeaaRefA
namespace Go.Proofs.Ytkbmggclecimeaa
open Go.RowKit Sh
set_option linter.unusedVariables false

set_option maxRecDepth 100000 in
set_option maxHeartbeats 2000000 in
theorem rhas_any (v : Value) (l : List Sp) (n : Int) (w : World) (h : IsL w v l) (hr : Rng l) :
    Calls Try.prog 24 #[v, .int .u64 n] w fun e w' => e = .returned (.bool (hasLB l n)) ∧ Keep (fun _ => False) w w' := by
  by_cases hO : Ok l
  · have H := Lib.hid h
    have HR := Lib.hid hr
    have HOB := Lib.hid (okB_true hO)
    have HO := Lib.hid hO
    clear hO h hr
    go_enter Try.func24, Try.ntmps24
    go_wp2_with fail
    refine (rmay_any v l _ H.out HR.out).mono ?_
    rintro e w1 ⟨rfl, hK1⟩
    rw [HOB.out]
    obtain ⟨A, cp, rfl, hcp, hlen, hA⟩ := H.out.ex
    have HA := Lib.hid hA
    have HK1 := Lib.hid hK1
    clear hK1 hA
    go_wp2_with fail
    go_loopg [5] l.length (fun q u wr => ∃ i : Nat, i + q = l.length ∧ u = .int .i64 i ∧ (∀ k, k < i → ¬ ((sp l k).f ≤ n ∧ n ≤ (sp l k).t)) ∧ Keep (fun _ => False) w wr)
    case atStart => exact ⟨0, by omega, rfl, fun k hk => by omega, HK1.out⟩
    case round =>
      obtain ⟨i, hq, rfl, hno, hK⟩ := hrel
      have HK := Lib.hid hK
      have HQ := Lib.hid hq
      have HNO := Lib.hid hno
      clear hK hq hno
      by_cases hlt : i < l.length
      · obtain ⟨g, o, rfl, hc⟩ := HA.out (by omega)
        obtain ⟨c0, c1⟩ := hc i hlt
        have c0 := HK.out.cell c0
        have c1 := HK.out.cell c1
        obtain ⟨f, hf⟩ : ∃ f, f = (sp l i).f := ⟨_, rfl⟩
        obtain ⟨t, ht⟩ : ∃ t, t = (sp l i).t := ⟨_, rfl⟩
        rw [← hf] at c0
        rw [← ht] at c1
        have HF := Lib.hid hf
        have HT := Lib.hid ht
        clear hc hf ht
        by_cases h1 : f ≤ n
        · have t1 : decide (f ≤ n) = true := decide_eq_true h1
          by_cases h2 : n ≤ t
          · have t2 : decide (n ≤ t) = true := decide_eq_true h2
            have hN : hasLB l n = true := hasLB_true ⟨HO.out, i, hlt, by rw [← HF.out]; exact h1, by rw [← HT.out]; exact h2⟩
            have HN := Lib.hid hN
            clear hN
            go_wp2
            go_ret
            exact ⟨by rw [HN.out]; rfl, HK.out⟩
          · have t2 : decide (n ≤ t) = false := decide_eq_false h2
            go_wp2
            go_roundg (l.length - (i + 1))
            case measure => have := HQ.out; omega
            case rel => exact ⟨i + 1, by omega, by go_num, fun k hk => by
              by_cases e : k = i
              · subst e; rw [← HF.out, ← HT.out]; omega
              · exact HNO.out k (by omega), HK.out⟩
        · have t1 : decide (f ≤ n) = false := decide_eq_false h1
          go_wp2
          go_roundg (l.length - (i + 1))
          case measure => have := HQ.out; omega
          case rel => exact ⟨i + 1, by omega, by go_num, fun k hk => by
            by_cases e : k = i
            · subst e; rw [← HF.out]; omega
            · exact HNO.out k (by omega), HK.out⟩
      · obtain rfl : i = l.length := by have := HQ.out; omega
        have hN : hasLB l n = false := hasLB_false (fun h => by
          obtain ⟨k, hk, m1, m2⟩ := h.2
          exact HNO.out k hk ⟨m1, m2⟩)
        have HN := Lib.hid hN
        clear hN
        go_wp2
        go_ret
        exact ⟨by rw [HN.out]; rfl, HK.out⟩
  · have H := Lib.hid h
    have HR := Lib.hid hr
    have HOB := Lib.hid (okB_false hO)
    have HN := Lib.hid (show hasLB l n = false from hasLB_false (fun h => hO h.1))
    clear hO h hr
    go_enter Try.func24, Try.ntmps24
    go_wp2_with fail
    refine (rmay_any v l _ H.out HR.out).mono ?_
    rintro e w1 ⟨rfl, hK1⟩
    rw [HOB.out]
    have HK1 := Lib.hid hK1
    clear hK1
    go_wp2
    go_ret
    exact ⟨by rw [HN.out]; rfl, HK1.out⟩

theorem cells2 {w : World} {base g n cap : Nat} {out : List Sp} (h : w.ownsRow base 46 2 (.slice (some ⟨g, 0, none⟩) n cap) n (spCells out)) (hn : out.length = n) (k : Nat) (hk : k < n) :
    w.cell? ⟨g, k * 2, none⟩ = some (.int .u64 (sp out k).f) ∧ w.cell? ⟨g, k * 2 + 1, none⟩ = some (.int .u64 (sp out k).t) ∧ w.frozen? ⟨g, k * 2 + 1, none⟩ = false := by
  obtain ⟨a1, a2⟩ := spCells_at out k (by omega)
  obtain ⟨b1, _⟩ := own_cell h (k * 2) (by omega)
  obtain ⟨b2, b3⟩ := own_cell h (k * 2 + 1) (by omega)
  exact ⟨b1.trans a1, b2.trans a2, b3⟩
theorem own_form {w : World} {base n : Nat} {e : TypeId} {size : Nat} {A : Option Addr} {m cap : Nat} {xs : List Value} (h : w.ownsRow base e size (.slice A m cap) n xs) (hn : 0 < n) : ∃ g, A = some ⟨g, 0, none⟩ ∧ m = n := by
  rcases h.2 with ⟨e0, h0⟩ | ⟨g, cap', cur, e0, _⟩
  · omega
  · injection e0 with e1 e2 e3
    exact ⟨g, e1, e2⟩

set_option maxRecDepth 100000 in
set_option maxHeartbeats 4000000 in
theorem glued_any (v : Value) (l : List Sp) (w : World) (h : IsL w v l) (hr : Rng l) (hs : Ris l) (hsz : l.length ≤ 268435456) :
    Calls Try.prog 51 #[v] w fun e w' => (∃ u out, e = .returned u ∧ w'.ownsRow w.heap.size 46 2 u out.length (spCells out) ∧ Glu l l.length out) ∧ Keep (fun _ => False) w w' := by
  have H := Lib.hid h
  have HR := Lib.hid hr
  have HS := Lib.hid hs
  obtain ⟨A, cp, rfl, hcp, hlen, hA⟩ := h.ex
  have HA := Lib.hid hA
  obtain ⟨i0, hi, hz0, hz1, hz2⟩ := info_parts info46
  have Hi := Lib.hid hi
  have Hz0 := Lib.hid hz0
  have Hz1 := Lib.hid hz1
  have Hz2 := Lib.hid hz2
  clear h hr hs hA hi hz0 hz1 hz2
  go_enter Try.func51, Try.ntmps51
  go_wp2_with fail
  go_loopg [3, 4] l.length (fun q v3 v4 wr => ∃ (i : Nat) (out : List Sp), i + q = l.length ∧ v4 = .int .i64 i ∧ Glu l i out ∧ wr.ownsRow w.heap.size 46 2 v3 out.length (spCells out) ∧ Keep (fun _ => False) w wr)
  case atStart =>
    exact ⟨0, [], by omega, rfl, Glu.nil l, World.ownsRow_lit w #[] 0 (Nat.le_refl _) (by simp [maxLen]) rfl, (Keep.refl _ w).alloc _⟩
  case round =>
    obtain ⟨i, out, hq, rfl, hg, ho, hK⟩ := hrel
    have HQ := Lib.hid hq
    have HG := Lib.hid hg
    have HOW := Lib.hid ho
    have HK := Lib.hid hK
    obtain ⟨A3, c3, rfl⟩ := own_shape ho
    have hol := hg.len
    clear hq hg ho hK
    by_cases hlt : i < l.length
    · obtain ⟨g, o, rfl, hc⟩ := HA.out (by omega)
      obtain ⟨x0, x1⟩ := hc i hlt
      have x0 := HK.out.cell x0
      have x1 := HK.out.cell x1
      have hrl := HR.out i hlt
      obtain ⟨f, hfx⟩ : ∃ f, f = (sp l i).f := ⟨_, rfl⟩
      obtain ⟨t, htx⟩ : ∃ t, t = (sp l i).t := ⟨_, rfl⟩
      rw [← hfx] at x0 hrl
      rw [← htx] at x1 hrl
      have HFX := Lib.hid hfx
      have HTX := Lib.hid htx
      obtain ⟨l0, l1, l2, l3⟩ := hrl
      clear hfx htx hc
      have hsp : sp l i = ⟨f, t⟩ := by rw [HFX.out, HTX.out]
      have HSP := Lib.hid hsp
      have HOWd : Hid ((wr.alloc (.cells #[.int .u64 f, .int .u64 t] 46)).drew.ownsRow w.heap.size 46 2 (.slice A3 out.length c3) out.length (spCells out)) := HOW.out.alloc _
      have HKd : Hid (Keep (fun _ => False) w (wr.alloc (.cells #[.int .u64 f, .int .u64 t] 46)).drew) := (HK.out.alloc _).drew
      clear hsp
      by_cases h0 : out.length = 0
      · obtain rfl : out = [] := List.eq_nil_of_length_eq_zero h0
        have HGN : Hid (Glu l (i + 1) ([] ++ [(⟨f, t⟩ : Sp)])) := by
          have := HG.out.next HR.out HS.out hlt (fun k hk => by simp at hk)
          rwa [HSP.out] at this
        clear h0
        go_upto_region 6 with fail
        refine sb_lit (by kernel_rfl) (by kernel_rfl) ?_
        repeat (refine sb_step (fun K hK => ?_); go_simp; refine hK _ ?_; clear hK K)
        refine sb_nil ?_
        go_wp2_with (at_builtin; refine wpList_append_own_at _ rfl _ _ 43 rfl w.heap.size 46 i0 (.agg #[.int .u64 0, .int .u64 0]) 2 16 Try.underlying43 Hi.out Hz0.out Hz1.out Hz2.out rfl (by decide) _ _ _ rfl HOWd.out ⟨wr.heap.size, 0, none⟩ 1 1 (spCells [⟨f, t⟩]) rfl rfl ?c1 ?c2 ?c3 ?c4 ?c5 ?_)
        case c1 =>
          first
            | exact World.news_of_block (cs := #[.int .u64 f, .int .u64 t]) (t := 46) (fr := (0, 0)) (heap_alloc_new wr _)
            | (intro j u h; simpa [spCells] using h)
        case c2 => exact spCells_one _
        case c3 => simp only [maxLen]; omega
        case c4 => omega
        case c5 => have := HK.out.size; simp; omega
        intro v' w' hown hg _ _
        obtain ⟨A', c', rfl⟩ := own_shape hown
        have hK' : Keep (fun _ => False) w w' := HKd.out.grown hg (by
          intro k hk hlt
          have := (HOWd.out.lt k hk).1
          omega)
        have hlen : ([] ++ [(⟨f, t⟩ : Sp)]).length = ([] : List Sp).length + 1 := by simp
        have hown' : w'.ownsRow w.heap.size 46 2 (.slice A' (([] : List Sp).length + 1) c') ([] ++ [(⟨f, t⟩ : Sp)]).length (spCells ([] ++ [(⟨f, t⟩ : Sp)])) := by
          rw [hlen, spCells_append]; exact hown
        have HO' := Lib.hid hown'
        have HK' := Lib.hid hK'
        clear hown hown' hK' hg hlen
        go_wp2
        go_roundg (l.length - (i + 1))
        case measure => have := HQ.out; omega
        case rel => exact ⟨i + 1, _, by omega, by go_num, HGN.out, HO'.out, HK'.out⟩
      · obtain ⟨k, hk⟩ : ∃ k, out.length = k + 1 := ⟨out.length - 1, by omega⟩
        obtain ⟨g3, rfl, _⟩ := own_form HOW.out (by omega)
        obtain ⟨y0, y1, y2⟩ := cells2 HOW.out rfl k (by omega)
        have hok := HG.out.ok k (by omega)
        have hrk := HG.out.rng k (by omega)
        obtain ⟨t3, ht3⟩ : ∃ t3, t3 = (sp out k).t := ⟨_, rfl⟩
        obtain ⟨f3, hf3⟩ : ∃ f3, f3 = (sp out k).f := ⟨_, rfl⟩
        rw [← ht3] at y1 hok hrk
        rw [← hf3] at y0 hok hrk
        have HT3 := Lib.hid ht3
        have HF3 := Lib.hid hf3
        obtain ⟨q0, q1, q2, q3⟩ := hrk
        have q4 := hok.2.1
        have k3 : IntKind.i64.wrap ((out.length : Int) - 1) = (k : Int) := (IntWalk.i64_in _ (by omega)).trans (by omega)
        have k4 : (k : Int) < (out.length : Int) := by omega
        have k5 : 0 ≤ (k : Int) := by omega
        have k6 : k < out.length := by omega
        have u1 : IntKind.u64.wrap (t3 + 1) = t3 + 1 := by rw [IntKind.wrap_u64]; omega
        have HKK := Lib.hid hk
        clear ht3 hf3 hok hk h0
        go_upto_region 6 with fail
        by_cases hc : f ≤ t3 + 1
        · have d1 : decide (f ≤ t3 + 1) = true := decide_eq_true hc
          have hmore := HG.out.more HR.out HS.out hlt HKK.out (by rw [← HT3.out, HSP.out]; exact hc)
          rw [HSP.out, ← HT3.out] at hmore
          have HM := Lib.hid hmore
          clear hmore
          refine sb_lit (by kernel_rfl) (by kernel_rfl) ?_
          repeat (refine sb_step (fun K hK => ?_); go_simp; refine hK _ ?_; clear hK K)
          refine sb_nil ?_
          by_cases hm : t3 < t
          · have hm1 : ¬ t < t3 := by omega
            have hmx : max t3 t = t := by omega
            have HM2 := HM.out
            simp only [hmx] at HM2
            have HMM := Lib.hid HM2
            have hset := own_setCell HOW.out (k * 2 + 1) (by omega) (.int .u64 t)
            rw [← @spCells_lastTo out k (t) out k k6] at hset
            have hset2 : (wr.setCell ⟨g3, k * 2 + 1, none⟩ (.int .u64 t)).drew.drew.ownsRow w.heap.size 46 2 (.slice (some ⟨g3, 0, none⟩) out.length c3) (lastTo out k t).length (spCells (lastTo out k t)) := by rw [lastTo_len]; exact hset
            have HS2 := Lib.hid hset2
            have hk2 : Keep (fun _ => False) w (wr.setCell ⟨g3, k * 2 + 1, none⟩ (.int .u64 t)).drew.drew := ((HK.out.setCell _ _ (fun h => by have := (HOW.out.lt g3 rfl).1; simp at h; omega)).drew).drew
            have HK2 := Lib.hid hk2
            clear HM2 hset hset2 hk2 hmx
            go_wp2_with fail
            refine sb_tail 15 (by kernel_rfl) (by kernel_rfl) ?_
            simp only [List.take_succ_cons, List.take_zero, List.drop_succ_cons, List.drop_zero]
            repeat (refine sb_step (fun K hK => ?_); go_simp; refine hK _ ?_; clear hK K)
            refine sb_nil ?_
            go_wp2
            go_roundg (l.length - (i + 1))
            case measure => have := HQ.out; omega
            case rel => exact ⟨i + 1, _, by omega, by go_num, HMM.out, HS2.out, HK2.out⟩
          · have hmx : max t3 t = t3 := by omega
            have HM2 := HM.out
            simp only [hmx] at HM2
            have HMM := Lib.hid HM2
            have hset := own_setCell HOW.out (k * 2 + 1) (by omega) (.int .u64 t3)
            rw [← @spCells_lastTo out k (t3) out k k6] at hset
            have hset2 : (wr.setCell ⟨g3, k * 2 + 1, none⟩ (.int .u64 t3)).drew.drew.ownsRow w.heap.size 46 2 (.slice (some ⟨g3, 0, none⟩) out.length c3) (lastTo out k t3).length (spCells (lastTo out k t3)) := by rw [lastTo_len]; exact hset
            have HS2 := Lib.hid hset2
            have hk2 : Keep (fun _ => False) w (wr.setCell ⟨g3, k * 2 + 1, none⟩ (.int .u64 t3)).drew.drew := ((HK.out.setCell _ _ (fun h => by have := (HOW.out.lt g3 rfl).1; simp at h; omega)).drew).drew
            have HK2 := Lib.hid hk2
            clear HM2 hset hset2 hk2 hmx
            go_wp2_with fail
            refine sb_tail 15 (by kernel_rfl) (by kernel_rfl) ?_
            simp only [List.take_succ_cons, List.take_zero, List.drop_succ_cons, List.drop_zero]
            repeat (refine sb_step (fun K hK => ?_); go_simp; refine hK _ ?_; clear hK K)
            refine sb_nil ?_
            go_wp2
            go_roundg (l.length - (i + 1))
            case measure => have := HQ.out; omega
            case rel => exact ⟨i + 1, _, by omega, by go_num, HMM.out, HS2.out, HK2.out⟩
        · have d1 : decide (f ≤ t3 + 1) = false := decide_eq_false hc
          have HGN : Hid (Glu l (i + 1) (out ++ [(⟨f, t⟩ : Sp)])) := by
            have := HG.out.next HR.out HS.out hlt (fun k' hk' => by
              obtain rfl : k' = k := by have := HKK.out; omega
              rw [← HT3.out, HSP.out]; simp only; omega)
            rwa [HSP.out] at this
          refine sb_lit (by kernel_rfl) (by kernel_rfl) ?_
          repeat (refine sb_step (fun K hK => ?_); go_simp; refine hK _ ?_; clear hK K)
          refine sb_nil ?_
          go_wp2_with (at_builtin; refine wpList_append_own_at _ rfl _ _ 43 rfl w.heap.size 46 i0 (.agg #[.int .u64 0, .int .u64 0]) 2 16 Try.underlying43 Hi.out Hz0.out Hz1.out Hz2.out rfl (by decide) _ _ _ rfl HOWd.out ⟨wr.heap.size, 0, none⟩ 1 1 (spCells [⟨f, t⟩]) rfl rfl ?c1 ?c2 ?c3 ?c4 ?c5 ?_)
          case c1 =>
            first
              | exact World.news_of_block (cs := #[.int .u64 f, .int .u64 t]) (t := 46) (fr := (0, 0)) (heap_alloc_new wr _)
              | (intro j u h; simpa [spCells] using h)
          case c2 => exact spCells_one _
          case c3 => simp only [maxLen]; omega
          case c4 => omega
          case c5 => have := HK.out.size; simp; omega
          intro v' w' hown hg _ _
          obtain ⟨A', c', rfl⟩ := own_shape hown
          have hK' : Keep (fun _ => False) w w' := HKd.out.grown hg (by
            intro k hk hlt
            have := (HOWd.out.lt k hk).1
            omega)
          have hlen : (out ++ [(⟨f, t⟩ : Sp)]).length = out.length + 1 := by simp
          have hown' : w'.ownsRow w.heap.size 46 2 (.slice A' (out.length + 1) c') (out ++ [(⟨f, t⟩ : Sp)]).length (spCells (out ++ [(⟨f, t⟩ : Sp)])) := by
            rw [hlen, spCells_append]; exact hown
          have HO' := Lib.hid hown'
          have HK' := Lib.hid hK'
          clear hown hown' hK' hg hlen
          go_wp2
          go_roundg (l.length - (i + 1))
          case measure => have := HQ.out; omega
          case rel => exact ⟨i + 1, _, by omega, by go_num, HGN.out, HO'.out, HK'.out⟩
    · obtain rfl : l.length = i := by have := HQ.out; omega
      go_wp2
      go_ret
      exact ⟨⟨_, out, rfl, HOW.out, HG.out⟩, HK.out⟩

end Go.Proofs.Ytkbmggclecimeaa
