/- The document's 'cut' and Minus: walks. -/
import Derived.Test.YtkbmggclecimeaaTellC
namespace Go.Proofs.Ytkbmggclecimeaa
open Go.RowKit Sh
set_option linter.unusedVariables false

section
variable {P : Program}
theorem step_append_own {w : World} {ops : Array Oper} {o : Oper} {a : Act} {K : Act → World → Prop} {Q : Exit → Act → World → Prop} {E : Prop} (hgd : o.guard = none) (s x : Operand) (t : TypeId)
    (ho : o.op = .call { callee := .builtin .append, args := #[s, x], argTypes := #[t, t] })
    (base : Nat) (e : TypeId) (i : TypeInfo) (z : Value) (size bytes : Nat) (ht : P.underlying t = some (.slice e)) (hi : P.info? e = some i) (hz : i.zero = some z)
    (hsize : i.size = size) (hby : i.bytes = bytes) (hzs : z.cells.size = size) (hsz : 0 < size)
    (v : Value) (n : Nat) (xs : List Value) (hs : a.eval s = v) (hown : w.ownsRow base e size v n xs)
    (ad : Addr) (m c : Nat) (news : List Value) (hx : a.eval x = .slice (some ad) m c) (hl : news.length = m * size) (hnews : ∀ j u, news[j]? = some u → w.cell? (ad.add j) = some u) (h1 : ∀ u ∈ news, u.oneCell' = true)
    (h63 : n + m ≤ maxLen) (hbytes : (n + m) * bytes ≤ 140737488355328) (hbase : base ≤ w.heap.size)
    (h : ∀ v' w', w'.ownsRow base e size v' (n + m) (xs ++ news) → w.grownBy w' v.ownBlock → K (a.put o.dst v') w') :
    if Region.wanted o (yielded ops a.tmps) = true then Oper.wp P o a w K Q else E := by
  have hw : Region.wanted o (yielded ops a.tmps) = true := by simp [Region.wanted, hgd]
  rw [if_pos hw]
  obtain ⟨v', w', hr, h2, h3, _, _⟩ := run_append_own_at (P := P) w base t o.type e i z size bytes ht hi hz hsize hby hzs hsz v n xs hown ad m c news hl hnews h1 h63 hbytes hbase
  unfold Oper.wp execOp
  simp only [ho, resolve, invoke, builtin, Sem.run_bind, Sem.run_pure, Result.andThen_ok, List.map_toArray, List.map_cons, List.map_nil, hs, hx, hr]
  exact h _ _ h2 h3
end

theorem own_read {w : World} {base n : Nat} {A : Option Addr} {c : Nat} {p : List Sp} (h : w.ownsRow base 46 2 (.slice A n c) n (spCells p)) (hp : p.length = n) (hA : ∃ ad, A = some ad) (hl : n ≤ 1000) : ∃ ad, A = some ad ∧ IsL w (.slice A p.length c) p := by
  obtain ⟨ad, rfl⟩ := hA
  subst hp
  exact ⟨ad, rfl, IsL.ofOwn h (by omega)⟩

set_option maxRecDepth 100000 in
set_option maxHeartbeats 4000000 in
theorem cut_gen (w : World) (x0 x1 y0 y1 : Int) (hx : 0 ≤ x0 ∧ x0 ≤ x1 ∧ x1 < 18446744073709551615) (hy : 0 ≤ y0 ∧ y0 ≤ y1 ∧ y1 < 18446744073709551615) :
    Calls Try.prog 57 #[.agg #[.int .u64 x0, .int .u64 x1], .agg #[.int .u64 y0, .int .u64 y1]] w fun e w' => (∃ ad c, e = .returned (.slice (some ad) (cutL ⟨x0, x1⟩ ⟨y0, y1⟩).length c) ∧ IsL w' (.slice (some ad) (cutL ⟨x0, x1⟩ ⟨y0, y1⟩).length c) (cutL ⟨x0, x1⟩ ⟨y0, y1⟩)) ∧ Keep (fun _ => False) w w' := by
  obtain ⟨i0, hi, hz0, hz1, hz2⟩ := info_parts info46
  have Hi := Lib.hid hi
  have Hz0 := Lib.hid hz0
  have Hz1 := Lib.hid hz1
  have Hz2 := Lib.hid hz2
  clear hi hz0 hz1 hz2
  have K2 : Hid (Keep (fun _ => False) w ((w.alloc (.cells #[.int .u64 x0, .int .u64 x1] 46)).alloc (.cells #[.int .u64 y0, .int .u64 y1] 46))) := ((Keep.refl _ w).alloc _).alloc _
  have K3 : Hid (∀ o, Keep (fun _ => False) w (((w.alloc (.cells #[.int .u64 x0, .int .u64 x1] 46)).alloc (.cells #[.int .u64 y0, .int .u64 y1] 46)).alloc o)) := fun o => (((Keep.refl _ w).alloc _).alloc _).alloc o
  have SZ : Hid (((w.alloc (.cells #[.int .u64 x0, .int .u64 x1] 46)).alloc (.cells #[.int .u64 y0, .int .u64 y1] 46)).heap.size = w.heap.size + 2) := by simp [Hid]
  have NEW : Hid ((((w.alloc (.cells #[.int .u64 x0, .int .u64 x1] 46)).alloc (.cells #[.int .u64 y0, .int .u64 y1] 46)).alloc (.cells #[.int .u64 x0, .int .u64 x1] 46)).heap[w.heap.size + 2]? = some (.cells #[.int .u64 x0, .int .u64 x1] 46 (0, 0))) := by
    have := heap_alloc_new ((w.alloc (.cells #[.int .u64 x0, .int .u64 x1] 46)).alloc (.cells #[.int .u64 y0, .int .u64 y1] 46)) (.cells #[.int .u64 x0, .int .u64 x1] 46)
    rwa [SZ.out] at this
  have OWN : Hid ((((w.alloc (.cells #[.int .u64 x0, .int .u64 x1] 46)).alloc (.cells #[.int .u64 y0, .int .u64 y1] 46)).alloc (.cells #[] 46)).ownsRow (w.heap.size + 2) 46 2 (.slice (some ⟨w.heap.size + 2, 0, none⟩) 0 0) 0 (spCells [])) := by
    have := World.ownsRow_lit (base := w.heap.size + 2) (e := 46) (size := 2) ((w.alloc (.cells #[.int .u64 x0, .int .u64 x1] 46)).alloc (.cells #[.int .u64 y0, .int .u64 y1] 46)) #[] 0 (by have := SZ.out; omega) (by simp [maxLen]) rfl
    rwa [SZ.out] at this
  have ONE : Hid (∀ W, Keep (fun _ => False) (((w.alloc (.cells #[.int .u64 x0, .int .u64 x1] 46)).alloc (.cells #[.int .u64 y0, .int .u64 y1] 46)).alloc (.cells #[.int .u64 x0, .int .u64 x1] 46)) W → IsL W (.slice (some ⟨w.heap.size + 2, 0, none⟩) 1 1) [⟨x0, x1⟩]) := fun W k =>
    ⟨some ⟨w.heap.size + 2, 0, none⟩, 1, rfl, by simp, by simp, fun _ => ⟨w.heap.size + 2, 0, rfl, fun i hi => by
      obtain rfl : i = 0 := by simp at hi; omega
      obtain ⟨c0, c1, _, _⟩ := two_cells (k.old NEW.out (fun h => h))
      exact ⟨c0, c1⟩⟩⟩
  have C2 : Hid (∀ W, Keep (fun _ => False) ((w.alloc (.cells #[.int .u64 x0, .int .u64 x1] 46)).alloc (.cells #[.int .u64 y0, .int .u64 y1] 46)) W → W.cell? ⟨w.heap.size, 1, none⟩ = some (.int .u64 x1) ∧ W.cell? ⟨w.heap.size + 1, 1, none⟩ = some (.int .u64 y1)) := fun W k => by
    have h0 : ((w.alloc (.cells #[.int .u64 x0, .int .u64 x1] 46)).alloc (.cells #[.int .u64 y0, .int .u64 y1] 46)).heap[w.heap.size]? = some (.cells #[.int .u64 x0, .int .u64 x1] 46 (0, 0)) := ((Keep.refl (fun _ => False) (w.alloc (.cells #[.int .u64 x0, .int .u64 x1] 46))).alloc (.cells #[.int .u64 y0, .int .u64 y1] 46)).old (heap_alloc_new w _) (fun h => h)
    have h1 : ((w.alloc (.cells #[.int .u64 x0, .int .u64 x1] 46)).alloc (.cells #[.int .u64 y0, .int .u64 y1] 46)).heap[w.heap.size + 1]? = some (.cells #[.int .u64 y0, .int .u64 y1] 46 (0, 0)) := by
      have := heap_alloc_new (w.alloc (.cells #[.int .u64 x0, .int .u64 x1] 46)) (.cells #[.int .u64 y0, .int .u64 y1] 46)
      rwa [show (w.alloc (.cells #[.int .u64 x0, .int .u64 x1] 46)).heap.size = w.heap.size + 1 by simp] at this
    exact ⟨(two_cells (k.old h0 (fun h => h))).2.1, (two_cells (k.old h1 (fun h => h))).2.1⟩
  have KA : Hid (∀ o o', Keep (fun _ => False) ((w.alloc (.cells #[.int .u64 x0, .int .u64 x1] 46)).alloc (.cells #[.int .u64 y0, .int .u64 y1] 46)) ((((w.alloc (.cells #[.int .u64 x0, .int .u64 x1] 46)).alloc (.cells #[.int .u64 y0, .int .u64 y1] 46)).alloc o).alloc o')) := fun o o' => ((Keep.refl _ _).alloc o).alloc o'
  by_cases h1 : y1 < x0
  · have d1 : decide (y1 < x0) = true := decide_eq_true h1
    have CL : Hid (cutL ⟨x0, x1⟩ ⟨y0, y1⟩ = [⟨x0, x1⟩]) := by unfold cutL; rw [if_pos (by simp only; omega)]; exact rfl
    go_enter Try.func57, Try.ntmps57
    go_wp2
    go_ret
    refine ⟨⟨⟨w.heap.size + 2, 0, none⟩, 1, by rw [CL.out]; rfl, ?_⟩, K3.out _⟩
    rw [CL.out]
    exact ONE.out _ (Keep.refl _ _)
  · have d1 : decide (y1 < x0) = false := decide_eq_false h1
    by_cases h2 : x1 < y0
    · have d2 : decide (x1 < y0) = true := decide_eq_true h2
      have CL : Hid (cutL ⟨x0, x1⟩ ⟨y0, y1⟩ = [⟨x0, x1⟩]) := by unfold cutL; rw [if_pos (by simp only; omega)]; exact rfl
      go_enter Try.func57, Try.ntmps57
      go_wp2
      go_ret
      refine ⟨⟨⟨w.heap.size + 2, 0, none⟩, 1, by rw [CL.out]; rfl, ?_⟩, K3.out _⟩
      rw [CL.out]
      exact ONE.out _ (Keep.refl _ _)
    · have d2 : decide (x1 < y0) = false := decide_eq_false h2
      have e1 : IntKind.u64.wrap (y1 + 1) = y1 + 1 := by rw [IntKind.wrap_u64]; omega
      by_cases h3 : x0 < y0
      · have d3 : decide (x0 < y0) = true := decide_eq_true h3
        have e2 : IntKind.u64.wrap (y0 - 1) = y0 - 1 := by rw [IntKind.wrap_u64]; omega
        by_cases h4 : y1 < x1
        · have d4 : decide (y1 < x1) = true := decide_eq_true h4
          have CL : Hid (cutL ⟨x0, x1⟩ ⟨y0, y1⟩ = [⟨x0, y0 - 1⟩, ⟨y1 + 1, x1⟩]) := by unfold cutL; rw [if_neg (by simp only; omega), if_pos (by simp only; omega), if_pos (by simp only; omega)]; exact rfl
          clear K3 NEW ONE
          go_enter Try.func57, Try.ntmps57
          go_wp2_with (at_builtin; (refine wpList_append_own_at _ rfl _ _ 43 rfl (w.heap.size + 2) 46 i0 (.agg #[.int .u64 0, .int .u64 0]) 2 16 Try.underlying43 Hi.out Hz0.out Hz1.out Hz2.out rfl (by decide) _ _ _ rfl (OWN.out.alloc _) ⟨w.heap.size + 2 + 1, 0, none⟩ 1 1 (spCells [⟨x0, y0 - 1⟩]) rfl rfl ?c1_1 ?c1_2 ?c1_3 ?c1_4 ?c1_5 ?_))
          case c1_1 => first | (intro j u h; simpa [spCells] using h) | exact World.news_of_block (cs := (#[Value.int IntKind.u64 (x0), Value.int IntKind.u64 (y0 - 1)] : Array Value)) (t := 46) (fr := (0, 0)) (heap_alloc_new _ _)
          case c1_2 => exact spCells_one _
          all_goals try (simp [maxLen]; done)
          all_goals try (simp; done)
          intro v1 w1 hown hg _ _
          have hK' : Keep (fun _ => False) ((w.alloc (.cells #[.int .u64 x0, .int .u64 x1] 46)).alloc (.cells #[.int .u64 y0, .int .u64 y1] 46)) w1 := (KA.out _ _).grown hg (by
            intro k hk hlt
            have := (OWN.out.lt k hk).1
            have := SZ.out
            omega)
          have hown1 : w1.ownsRow (w.heap.size + 2) 46 2 v1 1 (spCells [⟨x0, y0 - 1⟩]) := by simpa [spCells] using hown
          obtain ⟨A1, c1, rfl⟩ := own_shape hown1
          obtain ⟨b0, b1⟩ := C2.out w1 hK'
          have HO1 := Lib.hid hown1
          have HK1 := Lib.hid hK'
          clear hown hown1 hg hK' 
          go_wp2_with (at_builtin; (refine wpList_append_own_at _ rfl _ _ 43 rfl (w.heap.size + 2) 46 i0 (.agg #[.int .u64 0, .int .u64 0]) 2 16 Try.underlying43 Hi.out Hz0.out Hz1.out Hz2.out rfl (by decide) _ _ _ rfl (HO1.out.alloc _) ⟨w1.heap.size, 0, none⟩ 1 1 (spCells [⟨y1 + 1, x1⟩]) rfl rfl ?c2_1 ?c2_2 ?c2_3 ?c2_4 ?c2_5 ?_))
          case c2_1 => first | (intro j u h; simpa [spCells] using h) | exact World.news_of_block (cs := (#[Value.int IntKind.u64 (y1 + 1), Value.int IntKind.u64 (x1)] : Array Value)) (t := 46) (fr := (0, 0)) (heap_alloc_new _ _)
          case c2_2 => exact spCells_one _
          all_goals try (simp [maxLen]; done)
          all_goals try (have := HK1.out.size; simp at this ⊢; omega; done)
          intro vN wN hown hg _ _
          have hK' : Keep (fun _ => False) ((w.alloc (.cells #[.int .u64 x0, .int .u64 x1] 46)).alloc (.cells #[.int .u64 y0, .int .u64 y1] 46)) wN := (HK1.out.alloc _).grown hg (by
            intro k hk hlt
            have := (HO1.out.lt k hk).1
            have := SZ.out
            omega)
          have hown2 : wN.ownsRow (w.heap.size + 2) 46 2 vN 2 (spCells [⟨x0, y0 - 1⟩, ⟨y1 + 1, x1⟩]) := by simpa [spCells] using hown
          obtain ⟨AN, cN, rfl⟩ := own_shape hown2
          obtain ⟨gN, rfl, _⟩ := own_form hown2 (by omega)
          have HO2 := Lib.hid (IsL.ofOwn (l := [⟨x0, y0 - 1⟩, ⟨y1 + 1, x1⟩]) hown2 (by simp))
          have HKF := Lib.hid (K2.out.step hK')
          clear hown hown2 hg hK'
          go_wp2
          go_ret
          refine ⟨⟨⟨gN, 0, none⟩, cN, by rw [CL.out]; rfl, ?_⟩, HKF.out⟩
          rw [CL.out]
          exact HO2.out
        · have d4 : decide (y1 < x1) = false := decide_eq_false h4
          have CL : Hid (cutL ⟨x0, x1⟩ ⟨y0, y1⟩ = [⟨x0, y0 - 1⟩]) := by unfold cutL; rw [if_neg (by simp only; omega), if_pos (by simp only; omega), if_neg (by simp only; omega)]; exact rfl
          clear K3 NEW ONE
          go_enter Try.func57, Try.ntmps57
          go_wp2_with (at_builtin; (refine wpList_append_own_at _ rfl _ _ 43 rfl (w.heap.size + 2) 46 i0 (.agg #[.int .u64 0, .int .u64 0]) 2 16 Try.underlying43 Hi.out Hz0.out Hz1.out Hz2.out rfl (by decide) _ _ _ rfl (OWN.out.alloc _) ⟨w.heap.size + 2 + 1, 0, none⟩ 1 1 (spCells [⟨x0, y0 - 1⟩]) rfl rfl ?c3_1 ?c3_2 ?c3_3 ?c3_4 ?c3_5 ?_))
          case c3_1 => first | (intro j u h; simpa [spCells] using h) | exact World.news_of_block (cs := (#[Value.int IntKind.u64 (x0), Value.int IntKind.u64 (y0 - 1)] : Array Value)) (t := 46) (fr := (0, 0)) (heap_alloc_new _ _)
          case c3_2 => exact spCells_one _
          all_goals try (simp [maxLen]; done)
          all_goals try (simp; done)
          intro vN wN hown hg _ _
          have hK' : Keep (fun _ => False) ((w.alloc (.cells #[.int .u64 x0, .int .u64 x1] 46)).alloc (.cells #[.int .u64 y0, .int .u64 y1] 46)) wN := (KA.out _ _).grown hg (by
            intro k hk hlt
            have := (OWN.out.lt k hk).1
            have := SZ.out
            omega)
          have hown2 : wN.ownsRow (w.heap.size + 2) 46 2 vN 1 (spCells [⟨x0, y0 - 1⟩]) := by simpa [spCells] using hown
          obtain ⟨AN, cN, rfl⟩ := own_shape hown2
          obtain ⟨gN, rfl, _⟩ := own_form hown2 (by omega)
          have HO2 := Lib.hid (IsL.ofOwn (l := [⟨x0, y0 - 1⟩]) hown2 (by simp))
          have HKX := Lib.hid hK'
          have HKF := Lib.hid (K2.out.step hK')
          clear hown hown2 hg hK'
          obtain ⟨b0, b1⟩ := C2.out wN HKX.out
          go_wp2
          go_ret
          refine ⟨⟨⟨gN, 0, none⟩, cN, by rw [CL.out]; rfl, ?_⟩, HKF.out⟩
          rw [CL.out]
          exact HO2.out
      · have d3 : decide (x0 < y0) = false := decide_eq_false h3
        by_cases h4 : y1 < x1
        · have d4 : decide (y1 < x1) = true := decide_eq_true h4
          have CL : Hid (cutL ⟨x0, x1⟩ ⟨y0, y1⟩ = [⟨y1 + 1, x1⟩]) := by unfold cutL; rw [if_neg (by simp only; omega), if_neg (by simp only; omega), if_pos (by simp only; omega)]; exact rfl
          clear K3 NEW ONE
          go_enter Try.func57, Try.ntmps57
          go_wp2_with (at_builtin; (refine wpList_append_own_at _ rfl _ _ 43 rfl (w.heap.size + 2) 46 i0 (.agg #[.int .u64 0, .int .u64 0]) 2 16 Try.underlying43 Hi.out Hz0.out Hz1.out Hz2.out rfl (by decide) _ _ _ rfl (OWN.out.alloc _) ⟨w.heap.size + 2 + 1, 0, none⟩ 1 1 (spCells [⟨y1 + 1, x1⟩]) rfl rfl ?c4_1 ?c4_2 ?c4_3 ?c4_4 ?c4_5 ?_))
          case c4_1 => first | (intro j u h; simpa [spCells] using h) | exact World.news_of_block (cs := (#[Value.int IntKind.u64 (y1 + 1), Value.int IntKind.u64 (x1)] : Array Value)) (t := 46) (fr := (0, 0)) (heap_alloc_new _ _)
          case c4_2 => exact spCells_one _
          all_goals try (simp [maxLen]; done)
          all_goals try (simp; done)
          intro vN wN hown hg _ _
          have hK' : Keep (fun _ => False) ((w.alloc (.cells #[.int .u64 x0, .int .u64 x1] 46)).alloc (.cells #[.int .u64 y0, .int .u64 y1] 46)) wN := (KA.out _ _).grown hg (by
            intro k hk hlt
            have := (OWN.out.lt k hk).1
            have := SZ.out
            omega)
          have hown2 : wN.ownsRow (w.heap.size + 2) 46 2 vN 1 (spCells [⟨y1 + 1, x1⟩]) := by simpa [spCells] using hown
          obtain ⟨AN, cN, rfl⟩ := own_shape hown2
          obtain ⟨gN, rfl, _⟩ := own_form hown2 (by omega)
          have HO2 := Lib.hid (IsL.ofOwn (l := [⟨y1 + 1, x1⟩]) hown2 (by simp))
          have HKF := Lib.hid (K2.out.step hK')
          clear hown hown2 hg hK'
          go_wp2
          go_ret
          refine ⟨⟨⟨gN, 0, none⟩, cN, by rw [CL.out]; rfl, ?_⟩, HKF.out⟩
          rw [CL.out]
          exact HO2.out
        · have d4 : decide (y1 < x1) = false := decide_eq_false h4
          have CL : Hid (cutL ⟨x0, x1⟩ ⟨y0, y1⟩ = []) := by unfold cutL; rw [if_neg (by simp only; omega), if_neg (by simp only; omega), if_neg (by simp only; omega)]; exact rfl
          go_enter Try.func57, Try.ntmps57
          go_wp2
          go_ret
          refine ⟨⟨⟨w.heap.size + 2, 0, none⟩, 0, by rw [CL.out]; rfl, ?_⟩, K3.out _⟩
          rw [CL.out]
          exact IsL.ofOwn OWN.out (by simp)

end Go.Proofs.Ytkbmggclecimeaa
