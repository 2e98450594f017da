/- The program's answers of any spans. -/
import Derived.Test.YtkbmggclecimeaaTellP
import Derived.Test.YtkbmggclecimeaaSpanH
namespace Go.Proofs.Ytkbmggclecimeaa
open Go.RowKit Sh
set_option linter.unusedVariables false

set_option maxRecDepth 100000 in
set_option maxHeartbeats 1000000 in
theorem first_gen (v : Value) (l : List Sp) (n : Int) (w : World) (h : IsL w v l) (hr : Rng l) (hO : Ok l) (n0 : 0 ≤ n) (n1 : n < 18446744073709551616) (hlen : l.length ≤ 268435456) :
    Calls Try.prog 41 #[v, .int .u64 n] w fun e w' => (∃ u out, e = .returned u ∧ IsL w' u out ∧ FirstIs l n out) ∧ Keep (fun _ => False) w w' := by
  have H := Lib.hid h
  have HR := Lib.hid hr
  have HO := Lib.hid hO
  have HF := Lib.hid (first_fin l n hr hO)
  have HOB := Lib.hid (okB_true hO)
  have hrl : ∀ i, i < l.length → 0 ≤ (sp l i).f ∧ (sp l i).f < 18446744073709551616 ∧ (sp l i).t < 18446744073709551616 ∧ (sp l i).f ≤ (sp l i).t := fun i hi => ⟨(hr i hi).1, (hr i hi).2.1, (hr i hi).2.2.2, (hO i hi).1⟩
  have HRL := Lib.hid hrl
  obtain ⟨i0, hi, hz0, hz1, hz2⟩ := info_parts info46
  have Hi := Lib.hid hi
  have Hz0 := Lib.hid hz0
  have Hz1 := Lib.hid hz1
  have Hz2 := Lib.hid hz2
  clear h hr hO hrl hi hz0 hz1 hz2
  go_enter Try.func41, Try.ntmps41
  go_wp2_with fail
  refine (may_any v l _ H.out HR.out).mono ?_
  rintro e w1 ⟨rfl, hK1⟩
  rw [HOB.out]
  have HK1 := Lib.hid hK1
  clear hK1
  obtain ⟨A, cp, rfl, hcp, _, hA⟩ := (H.out.keep HK1.out).ex
  have HA := Lib.hid hA
  clear hA
  go_wp2_with fail
  go_loopg [1, 4, 12] l.length (fun q v1 v4 v12 wr => ∃ (i : Nat) (r : Int) (out : List Sp), i + q = l.length ∧ v12 = .int .i64 i ∧ v1 = .int .u64 r ∧ 0 ≤ r ∧ r < 18446744073709551616 ∧ FirstAt l n i r out ∧ out.length ≤ i ∧ wr.ownsRow w1.heap.size 46 2 v4 out.length (spCells out) ∧ Keep (fun _ => False) w1 wr)
  case atStart => exact ⟨0, n, [], by omega, by go_num, rfl, n0, n1, .inl ⟨by simp, n0, by simp [cnt]⟩, by simp, World.ownsRow_nil _ _ _ _, Keep.refl _ w1⟩
  case round =>
    obtain ⟨i, r, out, hq, rfl, rfl, r0, r1, hf, hol, ho, hK⟩ := hrel
    have HQ := Lib.hid hq
    have HFA := Lib.hid hf
    have HOW := Lib.hid ho
    have HK := Lib.hid hK
    obtain ⟨A4, c4, rfl⟩ := own_shape ho
    clear hq hf ho hK
    by_cases hlt : i < l.length
    · obtain ⟨g, o, rfl, hc⟩ := HA.out (by omega)
      obtain ⟨x0, x1⟩ := hc i hlt
      have x0 := HK.out.cell x0
      have x1 := HK.out.cell x1
      have hrl := HRL.out i hlt
      obtain ⟨f, hfx⟩ : ∃ f, f = (sp l i).f := ⟨_, rfl⟩
      obtain ⟨t, htx⟩ : ∃ t, t = (sp l i).t := ⟨_, rfl⟩
      rw [← hfx] at x0 hrl
      rw [← htx] at x1 hrl
      have HFX := Lib.hid hfx
      have HTX := Lib.hid htx
      obtain ⟨l0, l1, l2, l3⟩ := hrl
      clear hfx htx hc
      by_cases hr0 : r = 0
      · subst hr0
        go_wp2
        go_ret
        refine ⟨⟨.slice A4 out.length c4, out, rfl, IsL.ofOwn (base := w1.heap.size) (HOW.out.alloc _) (by omega), HF.out i 0 out (by omega) HFA.out (.inl rfl)⟩, HK1.out.step (HK.out.alloc _)⟩
      · have hb : (r == 0) = false := by rw [beq_eq_false_iff_ne]; exact hr0
        have hfa : out = l.take i ∧ 0 ≤ r ∧ cnt l i + r = n := by
          rcases HFA.out with h | h
          · exact h
          · exact absurd h.1 hr0
        obtain ⟨ho, _, hcn⟩ := hfa
        have hsp : sp l i = ⟨f, t⟩ := by rw [HFX.out, HTX.out]
        have e1 : IntKind.u64.wrap (t - f) = t - f := by rw [IntKind.wrap_u64]; omega
        have e2 : IntKind.u64.wrap (r - 1) = r - 1 := by rw [IntKind.wrap_u64]; omega
        by_cases hm : t - f ≤ r - 1
        · have HFB : Hid (FirstAt l n (i + 1) (r - (t - f + 1)) (out ++ [⟨f, t⟩])) := by
            refine .inl ⟨?_, by omega, ?_⟩
            · rw [ho, take_succ_sp hlt, hsp]
            · simp only [cnt, hsp]; omega
          have q0 : 0 ≤ r - (t - f + 1) := by omega
          have q1 : r - (t - f + 1) < 18446744073709551616 := by omega
          have e3 : IntKind.u64.wrap (f + (t - f)) = t := by rw [IntKind.wrap_u64]; omega
          have e4 : IntKind.u64.wrap (t - f + 1) = t - f + 1 := by rw [IntKind.wrap_u64]; omega
          have e5 : IntKind.u64.wrap (r - (t - f + 1)) = r - (t - f + 1) := by rw [IntKind.wrap_u64]; omega
          have e6 : min (t - f) (r - 1) = t - f := by omega
          clear ho hcn hsp
          go_wp2_with (at_builtin; refine wpList_append_own_at _ rfl _ _ 43 rfl w1.heap.size 46 i0 (.agg #[.int .u64 0, .int .u64 0]) 2 16 Try.underlying43 Hi.out Hz0.out Hz1.out Hz2.out rfl (by decide) _ _ _ rfl ((HOW.out.alloc _).alloc _) ⟨wr.heap.size + 1, 0, none⟩ 1 1 (spCells [⟨f, t⟩]) rfl rfl ?c1 ?c2 ?c3 ?c4 ?c5 ?_)
          case c1 =>
            refine World.news_of_block (cs := (spCells [⟨f, t⟩]).toArray) (t := 46) (fr := (0, 0)) ?_
            have h := heap_alloc_new (wr.alloc (.cells #[.int .u64 f, .int .u64 t] 46)) (.cells (spCells [⟨f, t⟩]).toArray 46)
            simpa [spCells] using h
          case c2 => exact spCells_one _
          case c3 => simp only [maxLen]; omega
          case c4 => omega
          case c5 => have := HK.out.size; simp; omega
          intro v' w' hown hg _ _
          obtain ⟨A', c', rfl⟩ := own_shape hown
          have hK' : Keep (fun _ => False) w1 w' := ((HK.out.alloc _).alloc _).grown hg (by
            intro k hk hlt
            have := (HOW.out.lt k hk).1
            omega)
          have hlen : (out ++ [(⟨f, t⟩ : Sp)]).length = out.length + 1 := by simp
          have hown' : w'.ownsRow w1.heap.size 46 2 (.slice A' (out.length + 1) c') (out ++ [(⟨f, t⟩ : Sp)]).length (spCells (out ++ [(⟨f, t⟩ : Sp)])) := by
            rw [hlen, spCells_append]; exact hown
          have HO' := Lib.hid hown'
          have HK' := Lib.hid hK'
          have HLE := Lib.hid hlen
          clear hown hown' hK' hg hlen
          go_wp2
          go_roundg (l.length - (i + 1))
          case measure => have := HQ.out; omega
          case rel => exact ⟨i + 1, _, _, by omega, by go_num, rfl, q0, q1, HFB.out, by rw [HLE.out]; omega, HO'.out, HK'.out⟩
        · obtain ⟨y, hy⟩ : ∃ y, y = f + (r - 1) := ⟨_, rfl⟩
          have HFB : Hid (FirstAt l n (i + 1) 0 (out ++ [⟨f, y⟩])) := by
            refine .inr ⟨rfl, y, i, hlt, by omega, ?_, ?_, ?_, ?_⟩
            · rw [hsp]; simp only; omega
            · rw [hsp]; simp only; omega
            · rw [ho, hsp]
            · rw [hsp]; simp only; omega
          have q0 : (0 : Int) ≤ 0 := by omega
          have q1 : (0 : Int) < 18446744073709551616 := by omega
          have e3 : IntKind.u64.wrap (f + (r - 1)) = y := by rw [IntKind.wrap_u64]; omega
          have e4 : IntKind.u64.wrap (y - f) = y - f := by rw [IntKind.wrap_u64]; omega
          have e5 : IntKind.u64.wrap (y - f + 1) = y - f + 1 := by rw [IntKind.wrap_u64]; omega
          have e7 : IntKind.u64.wrap (r - (y - f + 1)) = 0 := by rw [IntKind.wrap_u64]; omega
          have e6 : min (t - f) (r - 1) = r - 1 := by omega
          have hm' : r - 1 < t - f := by omega
          clear ho hcn hsp hy
          go_wp2_with (at_builtin; refine wpList_append_own_at _ rfl _ _ 43 rfl w1.heap.size 46 i0 (.agg #[.int .u64 0, .int .u64 0]) 2 16 Try.underlying43 Hi.out Hz0.out Hz1.out Hz2.out rfl (by decide) _ _ _ rfl ((HOW.out.alloc _).alloc _) ⟨wr.heap.size + 1, 0, none⟩ 1 1 (spCells [⟨f, y⟩]) rfl rfl ?c1 ?c2 ?c3 ?c4 ?c5 ?_)
          case c1 =>
            intro j u h
            simpa [spCells] using h
          case c2 => exact spCells_one _
          case c3 => simp only [maxLen]; omega
          case c4 => omega
          case c5 => have := HK.out.size; simp; omega
          intro v' w' hown hg _ _
          obtain ⟨A', c', rfl⟩ := own_shape hown
          have hK' : Keep (fun _ => False) w1 w' := ((HK.out.alloc _).alloc _).grown hg (by
            intro k hk hlt
            have := (HOW.out.lt k hk).1
            omega)
          have hlen : (out ++ [(⟨f, y⟩ : Sp)]).length = out.length + 1 := by simp
          have hown' : w'.ownsRow w1.heap.size 46 2 (.slice A' (out.length + 1) c') (out ++ [(⟨f, y⟩ : Sp)]).length (spCells (out ++ [(⟨f, y⟩ : Sp)])) := by
            rw [hlen, spCells_append]; exact hown
          have HO' := Lib.hid hown'
          have HK' := Lib.hid hK'
          have HLE := Lib.hid hlen
          clear hown hown' hK' hg hlen
          go_wp2
          go_roundg (l.length - (i + 1))
          case measure => have := HQ.out; omega
          case rel => exact ⟨i + 1, _, _, by omega, by go_num, rfl, q0, q1, HFB.out, by rw [HLE.out]; omega, HO'.out, HK'.out⟩
    · obtain rfl : i = l.length := by have := HQ.out; omega
      go_wp2
      go_ret
      refine ⟨⟨.slice A4 out.length c4, out, rfl, IsL.ofOwn (base := w1.heap.size) HOW.out (by omega), HF.out l.length r out (by omega) HFA.out (.inr rfl)⟩, HK1.out.step HK.out⟩


theorem first_all (v : Value) (l : List Sp) (n : Int) (w : World) (h : IsL w v l) (hr : Rng l) (n0 : 0 ≤ n) (n1 : n < 18446744073709551616) (hlen : l.length ≤ 268435456) :
    Calls Try.prog 41 #[v, .int .u64 n] w fun e w' => (∃ u out, e = .returned u ∧ IsL w' u out ∧ FirstAll l n out) ∧ Keep (fun _ => False) w w' := by
  by_cases o : Ok l
  · refine (first_gen v l n w h hr o n0 n1 hlen).mono ?_
    rintro e w' ⟨⟨u, out, rfl, h1, h2⟩, hk⟩
    exact ⟨⟨u, out, rfl, h1, fun _ => h2, fun c => absurd o c⟩, hk⟩
  · refine (first_not n h hr o).mono ?_
    rintro e w' ⟨rfl, hk⟩
    exact ⟨⟨_, [], rfl, IsL.nil _, fun c => absurd c o, fun _ => rfl⟩, hk⟩

theorem walk_gen {w : World} {va vb : Value} {a b : List Sp} (ha : IsL w va a) (hb : IsL w vb b) (ra : Rng a) (rb : Rng b) (oa : Ok a) (ob : Ok b) (hs : a.length + b.length ≤ 268435456) (kf : Nat) (keep : Bool → Bool → Bool) (k0 : keep false false = false) (hkk : kf = 53 ∨ kf = 54)
    (hkf : ∀ x y W, Calls Try.prog kf #[.bool x, .bool y] W fun e w' => e = .returned (.bool (keep x y)) ∧ W = w') :
    Calls Try.prog 52 #[va, vb, .func (.func kf) #[] #[]] w fun e w' => (∃ v out, e = .returned v ∧ IsL w' v out ∧ Ok out ∧ Rng out ∧ ∀ z, memB out z = keep (memB a z) (memB b z)) ∧ Keep (fun _ => False) w w' := by
  refine (walk_any va vb a b kf keep w ha hb ra rb oa ob hs k0 hkk hkf).mono ?_
  rintro e w'' ⟨v, out, rfl, h1, h2, h3, h4, h5, h6⟩
  exact ⟨⟨v, out, rfl, IsL.ofOwn h1 (by omega), h2, h3, fun x => by rw [h4, KF]⟩, h6⟩

set_option maxHeartbeats 1000000 in
theorem join_gen {w : World} {va vb : Value} {a b : List Sp} (ha : IsL w va a) (hb : IsL w vb b) (ra : Rng a) (rb : Rng b) (hs : a.length + b.length ≤ 268435456) :
    Calls Try.prog 29 #[va, vb] w fun e w' => (∃ u out, e = .returned u ∧ IsL w' u out ∧ BothIs a b (fun z => memB a z || memB b z) out) ∧ Keep (fun _ => False) w w' := by
  by_cases oa : Ok a
  · have HA := Lib.hid ha
    have HB := Lib.hid hb
    have RA := Lib.hid ra
    have RB := Lib.hid rb
    have BA := Lib.hid (okB_true oa)
    by_cases ob : Ok b
    · have BB := Lib.hid (okB_true ob)
      have HW : Hid (∀ (w' : World), Keep (fun _ => False) w w' → Calls Try.prog 52 #[va, vb, .func (.func 53) #[] #[]] w' fun e w'' => (∃ v out, e = .returned v ∧ IsL w'' v out ∧ BothIs a b (fun z => memB a z || memB b z) out) ∧ Keep (fun _ => False) w' w'') := fun w' hk => by
        refine (walk_gen (ha.keep hk) (hb.keep hk) ra rb oa ob hs 53 (fun x y => x || y) rfl (.inl rfl) (fun x y W => or_any x y W)).mono ?_
        rintro e w'' ⟨⟨v, out, rfl, h1, h2, h3, h4⟩, hk2⟩
        exact ⟨⟨v, out, rfl, h1, fun _ => ⟨h2, h3, h4⟩, fun c => absurd ⟨oa, ob⟩ c⟩, hk2⟩
      clear ha hb ra rb oa ob hs
      go_enter Try.func29, Try.ntmps29
      go_wp2_with fail
      refine (may_any _ a _ HA.out RA.out).mono ?_
      rintro e w1 ⟨rfl, hk1⟩
      rw [BA.out]
      have HK1 := Lib.hid hk1
      clear hk1
      go_wp2_with fail
      refine (may_any _ b _ (HB.out.keep HK1.out) RB.out).mono ?_
      rintro e w2 ⟨rfl, hk2⟩
      rw [BB.out]
      have HK2 := Lib.hid (HK1.out.step hk2)
      clear hk2
      go_wp2_with fail
      refine (HW.out _ HK2.out).mono ?_
      rintro e w3 ⟨⟨v, out, rfl, h1, h2⟩, hk3⟩
      have H1 := Lib.hid h1
      have H2 := Lib.hid h2
      have HK3 := Lib.hid (HK2.out.step hk3)
      clear hk3 h1 h2
      go_wp2
      go_ret
      exact ⟨⟨v, out, rfl, H1.out, H2.out⟩, HK3.out⟩
    · have BB := Lib.hid (okB_false ob)
      have HN : Hid (BothIs a b (fun z => memB a z || memB b z) []) := ⟨fun c => absurd c.2 ob, fun _ => rfl⟩
      clear ha hb ra rb oa ob hs
      go_enter Try.func29, Try.ntmps29
      go_wp2_with fail
      refine (may_any _ a _ HA.out RA.out).mono ?_
      rintro e w1 ⟨rfl, hk1⟩
      rw [BA.out]
      have HK1 := Lib.hid hk1
      clear hk1
      go_wp2_with fail
      refine (may_any _ b _ (HB.out.keep HK1.out) RB.out).mono ?_
      rintro e w2 ⟨rfl, hk2⟩
      rw [BB.out]
      have HK2 := Lib.hid (HK1.out.step hk2)
      clear hk2
      go_wp2
      go_ret
      exact ⟨⟨_, [], rfl, IsL.nil _, HN.out⟩, HK2.out⟩
  · refine (join_not ha ra oa).mono ?_
    rintro e w' ⟨rfl, hk⟩
    exact ⟨⟨_, [], rfl, IsL.nil _, fun c => absurd c.1 oa, fun _ => rfl⟩, hk⟩

set_option maxHeartbeats 1000000 in
theorem minus_gen {w : World} {va vb : Value} {a b : List Sp} (ha : IsL w va a) (hb : IsL w vb b) (ra : Rng a) (rb : Rng b) (hs : a.length + b.length ≤ 268435456) :
    Calls Try.prog 30 #[va, vb] w fun e w' => (∃ u out, e = .returned u ∧ IsL w' u out ∧ BothIs a b (fun z => memB a z && !memB b z) out) ∧ Keep (fun _ => False) w w' := by
  by_cases oa : Ok a
  · have HA := Lib.hid ha
    have HB := Lib.hid hb
    have RA := Lib.hid ra
    have RB := Lib.hid rb
    have BA := Lib.hid (okB_true oa)
    by_cases ob : Ok b
    · have BB := Lib.hid (okB_true ob)
      have HW : Hid (∀ (w' : World), Keep (fun _ => False) w w' → Calls Try.prog 52 #[va, vb, .func (.func 54) #[] #[]] w' fun e w'' => (∃ v out, e = .returned v ∧ IsL w'' v out ∧ BothIs a b (fun z => memB a z && !memB b z) out) ∧ Keep (fun _ => False) w' w'') := fun w' hk => by
        refine (walk_gen (ha.keep hk) (hb.keep hk) ra rb oa ob hs 54 (fun x y => x && !y) rfl (.inr rfl) (fun x y W => andnot_any x y W)).mono ?_
        rintro e w'' ⟨⟨v, out, rfl, h1, h2, h3, h4⟩, hk2⟩
        exact ⟨⟨v, out, rfl, h1, fun _ => ⟨h2, h3, h4⟩, fun c => absurd ⟨oa, ob⟩ c⟩, hk2⟩
      clear ha hb ra rb oa ob hs
      go_enter Try.func30, Try.ntmps30
      go_wp2_with fail
      refine (may_any _ a _ HA.out RA.out).mono ?_
      rintro e w1 ⟨rfl, hk1⟩
      rw [BA.out]
      have HK1 := Lib.hid hk1
      clear hk1
      go_wp2_with fail
      refine (may_any _ b _ (HB.out.keep HK1.out) RB.out).mono ?_
      rintro e w2 ⟨rfl, hk2⟩
      rw [BB.out]
      have HK2 := Lib.hid (HK1.out.step hk2)
      clear hk2
      go_wp2_with fail
      refine (HW.out _ HK2.out).mono ?_
      rintro e w3 ⟨⟨v, out, rfl, h1, h2⟩, hk3⟩
      have H1 := Lib.hid h1
      have H2 := Lib.hid h2
      have HK3 := Lib.hid (HK2.out.step hk3)
      clear hk3 h1 h2
      go_wp2
      go_ret
      exact ⟨⟨v, out, rfl, H1.out, H2.out⟩, HK3.out⟩
    · have BB := Lib.hid (okB_false ob)
      have HN : Hid (BothIs a b (fun z => memB a z && !memB b z) []) := ⟨fun c => absurd c.2 ob, fun _ => rfl⟩
      clear ha hb ra rb oa ob hs
      go_enter Try.func30, Try.ntmps30
      go_wp2_with fail
      refine (may_any _ a _ HA.out RA.out).mono ?_
      rintro e w1 ⟨rfl, hk1⟩
      rw [BA.out]
      have HK1 := Lib.hid hk1
      clear hk1
      go_wp2_with fail
      refine (may_any _ b _ (HB.out.keep HK1.out) RB.out).mono ?_
      rintro e w2 ⟨rfl, hk2⟩
      rw [BB.out]
      have HK2 := Lib.hid (HK1.out.step hk2)
      clear hk2
      go_wp2
      go_ret
      exact ⟨⟨_, [], rfl, IsL.nil _, HN.out⟩, HK2.out⟩
  · refine (minus_not ha ra oa).mono ?_
    rintro e w' ⟨rfl, hk⟩
    exact ⟨⟨_, [], rfl, IsL.nil _, fun c => absurd c.1 oa, fun _ => rfl⟩, hk⟩

end Go.Proofs.Ytkbmggclecimeaa
