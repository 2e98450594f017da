/- The document's Many, Reach, First and 'cut': walks. -/
import Derived.Test.YtkbmggclecimeaaTellB
namespace Go.Proofs.Ytkbmggclecimeaa
open Go.RowKit Sh
set_option linter.unusedVariables false

set_option maxRecDepth 100000 in
set_option maxHeartbeats 2000000 in
theorem rmany_gen (v : Value) (l : List Sp) (w : World) (h : IsL w v l) (hr : Rng l) :
    Calls Try.prog 37 #[v] w fun e w' => e = .returned (.int .u64 (manyL l)) ∧ Keep (fun _ => False) w w' := by
  by_cases hO : Ok l
  · have H := Lib.hid h
    have HR := Lib.hid hr
    have HOB := Lib.hid (okB_true hO)
    have HO := Lib.hid hO
    have HML := Lib.hid (show manyL l = cnt l l.length by rw [manyL, if_pos (okB_true hO)])
    clear hO h hr
    go_enter Try.func37, Try.ntmps37
    go_wp2_with fail
    refine (rmay_any v l _ H.out HR.out).mono ?_
    rintro e w1 ⟨rfl, hK1⟩
    rw [HOB.out]
    obtain ⟨A, cp, rfl, hcp, hlen, hA⟩ := H.out.ex
    have HA := Lib.hid hA
    have HK1 := Lib.hid hK1
    clear hK1 hA
    go_wp2_with fail
    go_loopg [3, 4] l.length (fun q v3 v4 wr => ∃ i : Nat, i + q = l.length ∧ v3 = .int .u64 (cnt l i) ∧ v4 = .int .i64 i ∧ Keep (fun _ => False) w wr)
    case atStart => exact ⟨0, by omega, rfl, rfl, HK1.out⟩
    case round =>
      obtain ⟨i, hq, rfl, rfl, hK⟩ := hrel
      have HK := Lib.hid hK
      have HQ := Lib.hid hq
      clear hK hq
      by_cases hlt : i < l.length
      · obtain ⟨g, o, rfl, hc⟩ := HA.out (by omega)
        obtain ⟨c0, c1⟩ := hc i hlt
        have c0 := HK.out.cell c0
        have c1 := HK.out.cell c1
        have hrr := HR.out i hlt
        have hoo := HO.out i hlt
        obtain ⟨f, hf⟩ : ∃ f, f = (sp l i).f := ⟨_, rfl⟩
        obtain ⟨t, ht⟩ : ∃ t, t = (sp l i).t := ⟨_, rfl⟩
        rw [← hf] at c0 hrr hoo
        rw [← ht] at c1 hrr hoo
        have HF := Lib.hid hf
        have HT := Lib.hid ht
        obtain ⟨r0, r1, r2, r3⟩ := hrr
        obtain ⟨o1, o2, _⟩ := hoo
        clear hc hf ht
        obtain ⟨b0, b1⟩ := cnt_le HO.out HR.out i (by omega)
        obtain ⟨b2, b3⟩ := cnt_le HO.out HR.out (i + 1) (by omega)
        have b3 := b3 (by omega)
        simp only [Nat.add_sub_cancel] at b3
        have hc1 : cnt l (i + 1) = cnt l i + ((sp l i).t - (sp l i).f + 1) := rfl
        rw [← HF.out, ← HT.out] at hc1
        rw [← HT.out] at b3
        obtain ⟨C, hC⟩ : ∃ C, C = cnt l i := ⟨_, rfl⟩
        rw [← hC] at hc1 b0 ⊢
        have HC1 := Lib.hid hc1
        rw [hc1] at b2 b3
        clear hc1 hC b1
        have e1 : IntKind.u64.wrap (t - f) = t - f := by rw [IntKind.wrap_u64]; omega
        have e2 : IntKind.u64.wrap (C + (t - f)) = C + (t - f) := by rw [IntKind.wrap_u64]; omega
        have e3 : IntKind.u64.wrap (C + (t - f) + 1) = C + (t - f) + 1 := by rw [IntKind.wrap_u64]; omega
        go_upto_region 7 with fail
        refine sb_lit (by kernel_rfl) (by kernel_rfl) ?_
        repeat (refine sb_step (fun K hK => ?_); go_simp; refine hK _ ?_; clear hK K)
        refine sb_nil ?_
        go_wp2
        go_roundg (l.length - (i + 1))
        case measure => have := HQ.out; omega
        case rel => exact ⟨i + 1, by omega, by rw [HC1.out, Int.add_assoc], by go_num, HK.out.drew⟩
      · obtain rfl : l.length = i := by have := HQ.out; omega
        go_wp2
        go_ret
        exact ⟨by rw [HML.out]; rfl, HK.out⟩
  · have H := Lib.hid h
    have HR := Lib.hid hr
    have HOB := Lib.hid (okB_false hO)
    have HML := Lib.hid (show manyL l = 0 by rw [manyL, if_neg (by rw [okB_false hO]; simp)])
    clear hO h hr
    go_enter Try.func37, Try.ntmps37
    go_wp2_with fail
    refine (rmay_any v l _ H.out HR.out).mono ?_
    rintro e w1 ⟨rfl, hK1⟩
    rw [HOB.out]
    have HK1 := Lib.hid hK1
    clear hK1
    go_wp2
    go_ret
    exact ⟨by rw [HML.out]; rfl, HK1.out⟩

set_option maxRecDepth 100000 in
set_option maxHeartbeats 2000000 in
theorem rreach_gen (v : Value) (l : List Sp) (n : Int) (w : World) (h : IsL w v l) (hr : Rng l) (n0 : 0 ≤ n) (n1 : n < 18446744073709551616) :
    Calls Try.prog 40 #[v, .int .u64 n] w fun e w' => (∃ r, e = .returned (.int .u64 r) ∧ IsReach l n r) ∧ Keep (fun _ => False) w w' := by
  by_cases hO : Ok l
  · have H := Lib.hid h
    have HR := Lib.hid hr
    have HOB := Lib.hid (okB_true hO)
    have HO := Lib.hid hO
    clear hO h hr
    go_enter Try.func40, Try.ntmps40
    go_wp2_with fail
    refine (rmay_any v l _ H.out HR.out).mono ?_
    rintro e w1 ⟨rfl, hK1⟩
    rw [HOB.out]
    obtain ⟨A, cp, rfl, hcp, hlen, hA⟩ := H.out.ex
    have HA := Lib.hid hA
    have HK1 := Lib.hid hK1
    clear hK1 hA
    go_wp2_with fail
    go_loopg [5] l.length (fun q v5 wr => ∃ i : Nat, i + q = l.length ∧ v5 = .int .i64 i ∧ (∀ k, k < i → ¬ ((sp l k).f ≤ n + 1 ∧ n + 1 ≤ (sp l k).t)) ∧ Keep (fun _ => False) w wr)
    case atStart => exact ⟨0, by omega, rfl, fun k hk => by omega, HK1.out⟩
    case round =>
      obtain ⟨i, hq, rfl, hno, hK⟩ := hrel
      have HK := Lib.hid hK
      have HQ := Lib.hid hq
      have HN := Lib.hid hno
      clear hK hq hno
      by_cases hlt : i < l.length
      · obtain ⟨g, o, rfl, hc⟩ := HA.out (by omega)
        obtain ⟨c0, c1⟩ := hc i hlt
        have c0 := HK.out.cell c0
        have c1 := HK.out.cell c1
        have hrr := HR.out i hlt
        have hoo := HO.out i hlt
        obtain ⟨f, hf⟩ : ∃ f, f = (sp l i).f := ⟨_, rfl⟩
        obtain ⟨t, ht⟩ : ∃ t, t = (sp l i).t := ⟨_, rfl⟩
        rw [← hf] at c0 hrr hoo
        rw [← ht] at c1 hrr hoo
        have HF := Lib.hid hf
        have HT := Lib.hid ht
        obtain ⟨r0, r1, r2, r3⟩ := hrr
        obtain ⟨o1, o2, _⟩ := hoo
        clear hc hf ht
        have NX : Hid (¬ (f ≤ n + 1 ∧ n + 1 ≤ t) → ∀ k, k < i + 1 → ¬ ((sp l k).f ≤ n + 1 ∧ n + 1 ≤ (sp l k).t)) := fun h k hk => by
          by_cases e : k = i
          · subst e; rw [← HF.out, ← HT.out]; exact h
          · exact HN.out k (by omega)
        by_cases h0 : n < 18446744073709551615
        · have t0 : decide (n < 18446744073709551615) = true := decide_eq_true h0
          have e1 : IntKind.u64.wrap (n + 1) = n + 1 := by rw [IntKind.wrap_u64]; omega
          by_cases h1 : f ≤ n + 1
          · have t1 : decide (f ≤ n + 1) = true := decide_eq_true h1
            by_cases h2 : n + 1 ≤ t
            · have t2 : decide (n + 1 ≤ t) = true := decide_eq_true h2
              have RI : Hid (IsReach l n t) := .inr (.inl ⟨HO.out, i, hlt, by rw [← HF.out]; exact h1, by rw [← HT.out]; exact h2, HT.out⟩)
              go_wp2
              go_ret
              exact ⟨⟨t, rfl, RI.out⟩, HK.out⟩
            · have t2 : decide (n + 1 ≤ t) = false := decide_eq_false h2
              go_wp2
              go_roundg (l.length - (i + 1))
              case measure => have := HQ.out; omega
              case rel => exact ⟨i + 1, by omega, by go_num, NX.out (fun h => by omega), HK.out⟩
          · have t1 : decide (f ≤ n + 1) = false := decide_eq_false h1
            go_wp2
            go_roundg (l.length - (i + 1))
            case measure => have := HQ.out; omega
            case rel => exact ⟨i + 1, by omega, by go_num, NX.out (fun h => by omega), HK.out⟩
        · have t0 : decide (n < 18446744073709551615) = false := decide_eq_false h0
          go_wp2
          go_roundg (l.length - (i + 1))
          case measure => have := HQ.out; omega
          case rel => exact ⟨i + 1, by omega, by go_num, NX.out (fun h => by omega), HK.out⟩
      · obtain rfl : l.length = i := by have := HQ.out; omega
        have RI : Hid (IsReach l n n) := .inr (.inr ⟨HO.out, fun ⟨k, hk, m1, m2⟩ => HN.out k hk ⟨m1, m2⟩, rfl⟩)
        go_wp2
        go_ret
        exact ⟨⟨n, rfl, RI.out⟩, HK.out⟩
  · have H := Lib.hid h
    have HR := Lib.hid hr
    have HOB := Lib.hid (okB_false hO)
    have RI : Hid (IsReach l n 0) := .inl ⟨hO, rfl⟩
    clear hO h hr
    go_enter Try.func40, Try.ntmps40
    go_wp2_with fail
    refine (rmay_any v l _ H.out HR.out).mono ?_
    rintro e w1 ⟨rfl, hK1⟩
    rw [HOB.out]
    have HK1 := Lib.hid hK1
    clear hK1
    go_wp2
    go_ret
    exact ⟨⟨0, rfl, RI.out⟩, HK1.out⟩

set_option maxRecDepth 100000 in
set_option maxHeartbeats 2000000 in
theorem rfirst_gen (v : Value) (l : List Sp) (n : Int) (w : World) (h : IsL w v l) (hr : Rng l) (n0 : 0 ≤ n) (n1 : n < 18446744073709551616) (hsz : l.length ≤ 268435456) :
    Calls Try.prog 42 #[v, .int .u64 n] w fun e w' => (∃ u out, e = .returned u ∧ IsL w' u out ∧ FirstAll l n out) ∧ Keep (fun _ => False) w w' := by
  obtain ⟨i0, hi, hz0, hz1, hz2⟩ := info_parts info46
  have Hi := Lib.hid hi
  have Hz0 := Lib.hid hz0
  have Hz1 := Lib.hid hz1
  have Hz2 := Lib.hid hz2
  clear hi hz0 hz1 hz2
  by_cases hO : Ok l
  · have H := Lib.hid h
    have HR := Lib.hid hr
    have HOB := Lib.hid (okB_true hO)
    have HO := Lib.hid hO
    have HFF : Hid (∀ i r out, i ≤ l.length → FirstAt l n i r out → (r = 0 ∨ i = l.length) → FirstAll l n out) := fun i r out a b c => ⟨fun _ => first_fin l n hr hO i r out a b c, fun d => absurd hO d⟩
    clear hO h hr
    go_enter Try.func42, Try.ntmps42
    go_wp2_with fail
    refine (rmay_any v l _ H.out HR.out).mono ?_
    rintro e w1 ⟨rfl, hK1⟩
    rw [HOB.out]
    obtain ⟨A, cp, rfl, hcp, hlen, hA⟩ := H.out.ex
    have HA := Lib.hid hA
    have HK1 := Lib.hid hK1
    clear hK1 hA
    go_wp2_with fail
    go_loopg [1, 5, 6] l.length (fun q v1 v5 v6 wr => ∃ (i : Nat) (r : Int) (out : List Sp), i + q = l.length ∧ v6 = .int .i64 i ∧ v1 = .int .u64 r ∧ 0 ≤ r ∧ r < 18446744073709551616 ∧ FirstAt l n i r out ∧ out.length ≤ i ∧ wr.ownsRow w.heap.size 46 2 v5 out.length (spCells out) ∧ Keep (fun _ => False) w wr)
    case atStart => exact ⟨0, n, [], by omega, by go_num, rfl, n0, n1, .inl ⟨by simp, n0, by simp [cnt]⟩, by simp, World.ownsRow_lit w1 #[] 0 HK1.out.size (by simp [maxLen]) rfl, HK1.out.alloc _⟩
    case round =>
      obtain ⟨i, r, out, hq, rfl, rfl, q0, q1, hf, hol, ho, hK⟩ := hrel
      have HQ := Lib.hid hq
      have HFA := Lib.hid hf
      have HOW := Lib.hid ho
      have HK := Lib.hid hK
      obtain ⟨A4, c4, rfl⟩ := own_shape ho
      clear hq hf ho hK
      by_cases hlt : i < l.length
      · obtain ⟨g, o, rfl, hc⟩ := HA.out (by omega)
        obtain ⟨c0, c1⟩ := hc i hlt
        have c0 := HK.out.cell c0
        have c1 := HK.out.cell c1
        have hrr := HR.out i hlt
        have hoo := HO.out i hlt
        obtain ⟨f, hf⟩ : ∃ f, f = (sp l i).f := ⟨_, rfl⟩
        obtain ⟨t, ht⟩ : ∃ t, t = (sp l i).t := ⟨_, rfl⟩
        rw [← hf] at c0 hrr hoo
        rw [← ht] at c1 hrr hoo
        have HF := Lib.hid hf
        have HT := Lib.hid ht
        obtain ⟨r0, r1, r2, r3⟩ := hrr
        obtain ⟨o1, o2, _⟩ := hoo
        clear hc hf ht
        by_cases hr0 : r = 0
        · subst hr0
          go_wp2
          go_ret
          exact ⟨⟨.slice A4 out.length c4, out, rfl, IsL.ofOwn (base := w.heap.size) HOW.out (by omega), HFF.out i 0 out (by omega) HFA.out (.inl rfl)⟩, HK.out⟩
        · have hb : decide ((0 : Int) < r) = true := decide_eq_true (by omega)
          have hb2 : (0 : Int) < r := by omega
          have hfa : out = l.take i ∧ 0 ≤ r ∧ cnt l i + r = n := by
            rcases HFA.out with h | h
            · exact h
            · exact absurd h.1 hr0
          obtain ⟨hot, _, hcn⟩ := hfa
          have hsp : sp l i = ⟨f, t⟩ := by rw [HF.out, HT.out]
          have e1 : IntKind.u64.wrap (t - f) = t - f := by rw [IntKind.wrap_u64]; omega
          by_cases hm : r ≤ t - f
          · have d1 : decide (r ≤ t - f) = true := decide_eq_true hm
            obtain ⟨y, hy⟩ : ∃ y, y = f + r - 1 := ⟨_, rfl⟩
            have HFB : Hid (FirstAt l n (i + 1) 0 (out ++ [⟨f, y⟩])) := by
              refine .inr ⟨rfl, y, i, hlt, by omega, ?_, ?_, ?_, ?_⟩
              · rw [hsp]; simp only; omega
              · rw [hsp]; simp only; omega
              · rw [hot, hsp]
              · rw [hsp]; simp only; omega
            have e2 : IntKind.u64.wrap (f + r) = f + r := by rw [IntKind.wrap_u64]; omega
            have e3 : IntKind.u64.wrap (f + r - 1) = y := by rw [IntKind.wrap_u64]; omega
            have e4 : IntKind.u64.wrap (y - f) = y - f := by rw [IntKind.wrap_u64]; omega
            have e5 : IntKind.u64.wrap (y - f + 1) = r := by rw [IntKind.wrap_u64]; omega
            have e6 : IntKind.u64.wrap (r - r) = 0 := by rw [IntKind.wrap_u64]; omega
            clear hot hcn hsp hy
            go_wp2_with (at_builtin; refine wpList_append_own_at _ rfl _ _ 43 rfl w.heap.size 46 i0 (.agg #[.int .u64 0, .int .u64 0]) 2 16 Try.underlying43 Hi.out Hz0.out Hz1.out Hz2.out rfl (by decide) _ _ _ rfl ((HOW.out.alloc _).alloc _) ⟨wr.heap.size + 1, 0, none⟩ 1 1 (spCells [⟨f, y⟩]) rfl rfl ?c1 ?c2 ?c3 ?c4 ?c5 ?_)
            case c1 =>
              first
                | exact World.news_of_block (cs := #[.int .u64 f, .int .u64 y]) (t := 46) (fr := (0, 0)) (by simpa using heap_alloc_new (wr.alloc (.cells #[.int .u64 f, .int .u64 y] 46)) (.cells #[.int .u64 f, .int .u64 y] 46))
                | (intro j u h; simpa [spCells] using h)
            case c2 => exact spCells_one _
            case c3 => simp only [maxLen]; omega
            case c4 => omega
            case c5 => have := HK.out.size; simp; omega
            intro v' w' hown hg _ _
            obtain ⟨A', c', rfl⟩ := own_shape hown
            have hK' : Keep (fun _ => False) w w' := ((HK.out.alloc _).alloc _).grown hg (by
              intro k hk hlt
              have := (HOW.out.lt k hk).1
              omega)
            have hlen : (out ++ [(⟨f, y⟩ : Sp)]).length = out.length + 1 := by simp
            have hown' : w'.ownsRow w.heap.size 46 2 (.slice A' (out.length + 1) c') (out ++ [(⟨f, y⟩ : Sp)]).length (spCells (out ++ [(⟨f, y⟩ : Sp)])) := by
              rw [hlen, spCells_append]; exact hown
            have HO' := Lib.hid hown'
            have HK' := Lib.hid hK'
            have HLE := Lib.hid hlen
            clear hown hown' hK' hg hlen
            go_wp2
            go_roundg (l.length - (i + 1))
            case measure => have := HQ.out; omega
            case rel => exact ⟨i + 1, 0, _, by omega, by go_num, rfl, by omega, by omega, HFB.out, by rw [HLE.out]; omega, HO'.out, HK'.out⟩
          · have d1 : decide (r ≤ t - f) = false := decide_eq_false hm
            have HFB : Hid (FirstAt l n (i + 1) (r - (t - f + 1)) (out ++ [⟨f, t⟩])) := by
              refine .inl ⟨?_, by omega, ?_⟩
              · rw [hot, take_succ_sp hlt, hsp]
              · simp only [cnt, hsp]; omega
            have e4 : IntKind.u64.wrap (t - f + 1) = t - f + 1 := by rw [IntKind.wrap_u64]; omega
            have e5 : IntKind.u64.wrap (r - (t - f + 1)) = r - (t - f + 1) := by rw [IntKind.wrap_u64]; omega
            clear hot hcn hsp
            go_wp2_with (at_builtin; refine wpList_append_own_at _ rfl _ _ 43 rfl w.heap.size 46 i0 (.agg #[.int .u64 0, .int .u64 0]) 2 16 Try.underlying43 Hi.out Hz0.out Hz1.out Hz2.out rfl (by decide) _ _ _ rfl ((HOW.out.alloc _).alloc _) ⟨wr.heap.size + 1, 0, none⟩ 1 1 (spCells [⟨f, t⟩]) rfl rfl ?c1 ?c2 ?c3 ?c4 ?c5 ?_)
            case c1 =>
              first
                | exact World.news_of_block (cs := #[.int .u64 f, .int .u64 t]) (t := 46) (fr := (0, 0)) (by simpa using heap_alloc_new (wr.alloc (.cells #[.int .u64 f, .int .u64 t] 46)) (.cells #[.int .u64 f, .int .u64 t] 46))
                | (intro j u h; simpa [spCells] using h)
            case c2 => exact spCells_one _
            case c3 => simp only [maxLen]; omega
            case c4 => omega
            case c5 => have := HK.out.size; simp; omega
            intro v' w' hown hg _ _
            obtain ⟨A', c', rfl⟩ := own_shape hown
            have hK' : Keep (fun _ => False) w w' := ((HK.out.alloc _).alloc _).grown hg (by
              intro k hk hlt
              have := (HOW.out.lt k hk).1
              omega)
            have hlen : (out ++ [(⟨f, t⟩ : Sp)]).length = out.length + 1 := by simp
            have hown' : w'.ownsRow w.heap.size 46 2 (.slice A' (out.length + 1) c') (out ++ [(⟨f, t⟩ : Sp)]).length (spCells (out ++ [(⟨f, t⟩ : Sp)])) := by
              rw [hlen, spCells_append]; exact hown
            have HO' := Lib.hid hown'
            have HK' := Lib.hid hK'
            have HLE := Lib.hid hlen
            clear hown hown' hK' hg hlen
            go_wp2
            go_roundg (l.length - (i + 1))
            case measure => have := HQ.out; omega
            case rel => exact ⟨i + 1, r - (t - f + 1), _, by omega, by go_num, rfl, by omega, by omega, HFB.out, by rw [HLE.out]; omega, HO'.out, HK'.out⟩
      · obtain rfl : l.length = i := by have := HQ.out; omega
        go_wp2
        go_ret
        exact ⟨⟨_, out, rfl, IsL.ofOwn (base := w.heap.size) HOW.out (by omega), HFF.out l.length r out (Nat.le_refl _) HFA.out (.inr rfl)⟩, HK.out⟩
  · have H := Lib.hid h
    have HR := Lib.hid hr
    have HOB := Lib.hid (okB_false hO)
    have RI : Hid (FirstAll l n []) := ⟨fun c => absurd c hO, fun _ => rfl⟩
    clear hO h hr
    go_enter Try.func42, Try.ntmps42
    go_wp2_with fail
    refine (rmay_any v l _ H.out HR.out).mono ?_
    rintro e w1 ⟨rfl, hK1⟩
    rw [HOB.out]
    have HK1 := Lib.hid hK1
    clear hK1
    go_wp2
    go_ret
    exact ⟨⟨_, [], rfl, IsL.nil _, RI.out⟩, HK1.out⟩

end Go.Proofs.Ytkbmggclecimeaa
