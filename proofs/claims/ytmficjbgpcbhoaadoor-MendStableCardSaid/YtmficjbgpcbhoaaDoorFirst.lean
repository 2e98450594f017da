/- Walks of spans: First. -/
import Derived.Test.YtmficjbgpcbhoaaDoorSpanG
namespace Go.Proofs.YtmficjbgpcbhoaaDoor
open Go.RowKit Sh
set_option linter.unusedVariables false

/-- how far the walk of First has come. -/
def FirstAt (l : List Sp) (n : Int) (i : Nat) (r : Int) (out : List Sp) : Prop :=
  (out = l.take i ∧ 0 ≤ r ∧ cnt l i + r = n) ∨ (r = 0 ∧ ∃ (y : Int) (j : Nat), j < l.length ∧ j < i ∧ (sp l j).f ≤ y ∧ y < (sp l j).t ∧ out = l.take j ++ [⟨(sp l j).f, y⟩] ∧ cnt l j + (y - (sp l j).f + 1) = n)
/-- what First leaves. -/
def FirstIs (l : List Sp) (n : Int) (out : List Sp) : Prop :=
  Ok out ∧ Rng out ∧ (∃ B : Int, ∀ z, memB out z = (memB l z && decide (z < B))) ∧ cnt out out.length = min n (cnt l l.length)

theorem sp_take {l : List Sp} {i k : Nat} (h : k < i) : sp (l.take i) k = sp l k := by
  unfold sp
  simp [List.getD_eq_getElem?_getD, List.getElem?_take_of_lt h]
theorem take_succ_sp {l : List Sp} {i : Nat} (h : i < l.length) : l.take (i + 1) = l.take i ++ [sp l i] := by
  rw [List.take_add_one]; simp [h, sp_of h]
theorem cnt_congr {l m : List Sp} (i : Nat) (h : ∀ k, k < i → sp l k = sp m k) : cnt l i = cnt m i := by
  induction i with
  | zero => rfl
  | succ i ih => simp only [cnt]; rw [ih (fun k hk => h k (by omega)), h i (by omega)]
theorem cnt_mono {l : List Sp} (hO : Ok l) (i : Nat) : ∀ j, i ≤ j → j ≤ l.length → cnt l i ≤ cnt l j := by
  intro j
  induction j with
  | zero => intro h1 _; obtain rfl : i = 0 := by omega
            omega
  | succ j ih =>
    intro h1 h2
    by_cases e : i = j + 1
    · subst e; omega
    · have := ih (by omega) (by omega)
      have := (hO j (by omega)).1
      simp only [cnt]; omega
theorem take_len {l : List Sp} {i : Nat} (h : i ≤ l.length) : (l.take i).length = i := by simp; omega
theorem Ok.take {l : List Sp} (h : Ok l) (i : Nat) (hi : i ≤ l.length) : Ok (l.take i) := by
  intro j hj
  rw [take_len hi] at hj
  have := h j (by omega)
  rw [sp_take hj, sp_take (by omega)]
  exact this
theorem Rng.take {l : List Sp} (h : Rng l) (i : Nat) (hi : i ≤ l.length) : Rng (l.take i) := by
  intro j hj
  rw [take_len hi] at hj
  rw [sp_take hj]
  exact h j (by omega)
theorem mem_take {l : List Sp} (h : Ok l) {j : Nat} (hj : j < l.length) (z : Int) : mem (l.take j) z ↔ mem l z ∧ z < (sp l j).f := by
  constructor
  · rintro ⟨k, hk, m1, m2⟩
    rw [take_len (by omega)] at hk
    rw [sp_take hk] at m1 m2
    have := h.rise k j hk hj
    exact ⟨⟨k, by omega, m1, m2⟩, by omega⟩
  · rintro ⟨⟨k, hk, m1, m2⟩, hz⟩
    have hkj : k < j := by
      apply Classical.byContradiction
      intro c
      by_cases e : k = j
      · subst e; omega
      · have := h.rise j k (by omega) hk
        have := (h j hj).1
        omega
    exact ⟨k, by rw [take_len (by omega)]; exact hkj, by rw [sp_take hkj]; exact m1, by rw [sp_take hkj]; exact m2⟩
theorem first_fin (l : List Sp) (n : Int) (hr : Rng l) (hO : Ok l) : ∀ i r out, i ≤ l.length → FirstAt l n i r out → (r = 0 ∨ i = l.length) → FirstIs l n out := by
  intro i r out hi h he
  rcases h with ⟨rfl, r0, hc⟩ | ⟨rfl, y, j, hj, hji, h1, h2, rfl, hc⟩
  · refine ⟨hO.take i hi, hr.take i hi, ?_, ?_⟩
    · by_cases e : i = l.length
      · refine ⟨18446744073709551616, fun z => ?_⟩
        rw [e, List.take_length]
        by_cases c : mem l z
        · obtain ⟨k, hk, m1, m2⟩ := c
          have := hr k hk
          rw [memB_iff.2 ⟨k, hk, m1, m2⟩, decide_eq_true (by omega)]; rfl
        · rw [memB_false.2 c]; rfl
      · refine ⟨(sp l i).f, fun z => ?_⟩
        rw [Bool.eq_iff_iff, memB_iff, mem_take hO (by omega), Bool.and_eq_true, memB_iff, decide_eq_true_iff]
    · rw [take_len hi, cnt_congr i (fun k hk => sp_take hk)]
      have := cnt_mono hO i l.length hi (Nat.le_refl _)
      rcases he with e | e
      · omega
      · subst e; omega
  · have hlen : (l.take j ++ [(⟨(sp l j).f, y⟩ : Sp)]).length = j + 1 := by simp; omega
    have hoj := hO j hj
    have hrj := hr j hj
    refine ⟨(hO.take j (by omega)).snoc _ h1 (by simp only; omega) (fun k hk => ?_), (hr.take j (by omega)).snoc _ (by simp only; omega), ⟨y + 1, fun z => ?_⟩, ?_⟩
    · rw [take_len (by omega)] at hk
      rw [sp_take hk]
      exact hO.rise k j hk hj
    · rw [Bool.eq_iff_iff, memB_iff, mem_snoc, mem_take hO hj, Bool.and_eq_true, memB_iff, decide_eq_true_iff]
      simp only
      constructor
      · rintro (⟨g1, g2⟩ | ⟨g1, g2⟩)
        · exact ⟨g1, by omega⟩
        · exact ⟨⟨j, hj, g1, by omega⟩, by omega⟩
      · rintro ⟨g1, g2⟩
        by_cases c : z < (sp l j).f
        · exact .inl ⟨g1, c⟩
        · exact .inr ⟨by omega, by omega⟩
    · rw [hlen]
      have e : cnt (l.take j ++ [(⟨(sp l j).f, y⟩ : Sp)]) (j + 1) = cnt l j + (y - (sp l j).f + 1) := by
        simp only [cnt]
        rw [sp_snoc, take_len (by omega), if_neg (by omega), if_pos rfl, cnt_congr (m := l) j (fun k hk => by rw [sp_snoc, take_len (by omega), if_pos hk, sp_take hk])]
      rw [e]
      have := cnt_mono hO (j + 1) l.length (by omega) (Nat.le_refl _)
      simp only [cnt] at this
      omega

set_option maxRecDepth 100000 in
set_option maxHeartbeats 1000000 in
theorem first_any (v : Value) (l : List Sp) (n : Int) (w : World) (h : IsL w v l) (hr : Rng l) (hO : Ok l) (n0 : 0 ≤ n) (n1 : n ≤ 255) (hlen : l.length ≤ 128) :
    Calls Tryd.prog 13 #[v, .int .u64 n] w fun e w' => (∃ u out, e = .returned u ∧ IsL w' u out ∧ FirstIs l n out) ∧ Keep (fun _ => False) w w' := by
  have H := Lib.hid h
  have HR := Lib.hid hr
  have HO := Lib.hid hO
  have HF := Lib.hid (first_fin l n hr hO)
  have HOB := Lib.hid (okB_true hO)
  have hrl : ∀ i, i < l.length → 0 ≤ (sp l i).f ∧ (sp l i).f < 18446744073709551616 ∧ (sp l i).t < 18446744073709551616 ∧ (sp l i).f ≤ (sp l i).t := fun i hi => ⟨(hr i hi).1, (hr i hi).2.1, (hr i hi).2.2.2, (hO i hi).1⟩
  have HRL := Lib.hid hrl
  obtain ⟨i0, hi, hz0, hz1, hz2⟩ := info_parts info36
  have Hi := Lib.hid hi
  have Hz0 := Lib.hid hz0
  have Hz1 := Lib.hid hz1
  have Hz2 := Lib.hid hz2
  clear h hr hO hrl hi hz0 hz1 hz2
  go_enter Tryd.func13, Tryd.ntmps13
  go_wp2_with fail
  refine (may_any v l _ H.out HR.out).mono ?_
  rintro e w1 ⟨rfl, hK1⟩
  rw [HOB.out]
  have HK1 := Lib.hid hK1
  clear hK1
  obtain ⟨A, cp, rfl, hcp, _, hA⟩ := (H.out.keep HK1.out).ex
  have HA := Lib.hid hA
  clear hA
  go_wp2_with fail
  go_loopg [1, 4, 12] l.length (fun q v1 v4 v12 wr => ∃ (i : Nat) (r : Int) (out : List Sp), i + q = l.length ∧ v12 = .int .i64 i ∧ v1 = .int .u64 r ∧ 0 ≤ r ∧ r ≤ 255 ∧ FirstAt l n i r out ∧ out.length ≤ i ∧ wr.ownsRow w1.heap.size 36 2 v4 out.length (spCells out) ∧ Keep (fun _ => False) w1 wr)
  case atStart => exact ⟨0, n, [], by omega, by go_num, rfl, n0, n1, .inl ⟨by simp, n0, by simp [cnt]⟩, by simp, World.ownsRow_nil _ _ _ _, Keep.refl _ w1⟩
  case round =>
    obtain ⟨i, r, out, hq, rfl, rfl, r0, r1, hf, hol, ho, hK⟩ := hrel
    have HQ := Lib.hid hq
    have HFA := Lib.hid hf
    have HOW := Lib.hid ho
    have HK := Lib.hid hK
    obtain ⟨A4, c4, rfl⟩ := own_shape ho
    clear hq hf ho hK
    by_cases hlt : i < l.length
    · obtain ⟨g, o, rfl, hc⟩ := HA.out (by omega)
      obtain ⟨x0, x1⟩ := hc i hlt
      have x0 := HK.out.cell x0
      have x1 := HK.out.cell x1
      have hrl := HRL.out i hlt
      obtain ⟨f, hfx⟩ : ∃ f, f = (sp l i).f := ⟨_, rfl⟩
      obtain ⟨t, htx⟩ : ∃ t, t = (sp l i).t := ⟨_, rfl⟩
      rw [← hfx] at x0 hrl
      rw [← htx] at x1 hrl
      have HFX := Lib.hid hfx
      have HTX := Lib.hid htx
      obtain ⟨l0, l1, l2, l3⟩ := hrl
      clear hfx htx hc
      by_cases hr0 : r = 0
      · subst hr0
        go_wp2
        go_ret
        refine ⟨⟨.slice A4 out.length c4, out, rfl, IsL.ofOwn (base := w1.heap.size) (HOW.out.alloc _) (by omega), HF.out i 0 out (by omega) HFA.out (.inl rfl)⟩, HK1.out.step (HK.out.alloc _)⟩
      · have hb : (r == 0) = false := by rw [beq_eq_false_iff_ne]; exact hr0
        have hfa : out = l.take i ∧ 0 ≤ r ∧ cnt l i + r = n := by
          rcases HFA.out with h | h
          · exact h
          · exact absurd h.1 hr0
        obtain ⟨ho, _, hcn⟩ := hfa
        have hsp : sp l i = ⟨f, t⟩ := by rw [HFX.out, HTX.out]
        have e1 : IntKind.u64.wrap (t - f) = t - f := by rw [IntKind.wrap_u64]; omega
        have e2 : IntKind.u64.wrap (r - 1) = r - 1 := by rw [IntKind.wrap_u64]; omega
        by_cases hm : t - f ≤ r - 1
        · have HFB : Hid (FirstAt l n (i + 1) (r - (t - f + 1)) (out ++ [⟨f, t⟩])) := by
            refine .inl ⟨?_, by omega, ?_⟩
            · rw [ho, take_succ_sp hlt, hsp]
            · simp only [cnt, hsp]; omega
          have q0 : 0 ≤ r - (t - f + 1) := by omega
          have q1 : r - (t - f + 1) ≤ 255 := by omega
          have e3 : IntKind.u64.wrap (f + (t - f)) = t := by rw [IntKind.wrap_u64]; omega
          have e4 : IntKind.u64.wrap (t - f + 1) = t - f + 1 := by rw [IntKind.wrap_u64]; omega
          have e5 : IntKind.u64.wrap (r - (t - f + 1)) = r - (t - f + 1) := by rw [IntKind.wrap_u64]; omega
          have e6 : min (t - f) (r - 1) = t - f := by omega
          clear ho hcn hsp
          go_wp2_with (at_builtin; refine wpList_append_own_at _ rfl _ _ 33 rfl w1.heap.size 36 i0 (.agg #[.int .u64 0, .int .u64 0]) 2 16 Tryd.underlying33 Hi.out Hz0.out Hz1.out Hz2.out rfl (by decide) _ _ _ rfl ((HOW.out.alloc _).alloc _) ⟨wr.heap.size + 1, 0, none⟩ 1 1 (spCells [⟨f, t⟩]) rfl rfl ?c1 ?c2 ?c3 ?c4 ?c5 ?_)
          case c1 =>
            refine World.news_of_block (cs := (spCells [⟨f, t⟩]).toArray) (t := 36) (fr := (0, 0)) ?_
            have h := heap_alloc_new (wr.alloc (.cells #[.int .u64 f, .int .u64 t] 36)) (.cells (spCells [⟨f, t⟩]).toArray 36)
            simpa [spCells] using h
          case c2 => exact spCells_one _
          case c3 => simp only [maxLen]; omega
          case c4 => omega
          case c5 => have := HK.out.size; simp; omega
          intro v' w' hown hg _ _
          obtain ⟨A', c', rfl⟩ := own_shape hown
          have hK' : Keep (fun _ => False) w1 w' := ((HK.out.alloc _).alloc _).grown hg (by
            intro k hk hlt
            have := (HOW.out.lt k hk).1
            omega)
          have hlen : (out ++ [(⟨f, t⟩ : Sp)]).length = out.length + 1 := by simp
          have hown' : w'.ownsRow w1.heap.size 36 2 (.slice A' (out.length + 1) c') (out ++ [(⟨f, t⟩ : Sp)]).length (spCells (out ++ [(⟨f, t⟩ : Sp)])) := by
            rw [hlen, spCells_append]; exact hown
          have HO' := Lib.hid hown'
          have HK' := Lib.hid hK'
          have HLE := Lib.hid hlen
          clear hown hown' hK' hg hlen
          go_wp2
          go_roundg (l.length - (i + 1))
          case measure => have := HQ.out; omega
          case rel => exact ⟨i + 1, _, _, by omega, by go_num, rfl, q0, q1, HFB.out, by rw [HLE.out]; omega, HO'.out, HK'.out⟩
        · obtain ⟨y, hy⟩ : ∃ y, y = f + (r - 1) := ⟨_, rfl⟩
          have HFB : Hid (FirstAt l n (i + 1) 0 (out ++ [⟨f, y⟩])) := by
            refine .inr ⟨rfl, y, i, hlt, by omega, ?_, ?_, ?_, ?_⟩
            · rw [hsp]; simp only; omega
            · rw [hsp]; simp only; omega
            · rw [ho, hsp]
            · rw [hsp]; simp only; omega
          have q0 : (0 : Int) ≤ 0 := by omega
          have q1 : (0 : Int) ≤ 255 := by omega
          have e3 : IntKind.u64.wrap (f + (r - 1)) = y := by rw [IntKind.wrap_u64]; omega
          have e4 : IntKind.u64.wrap (y - f) = y - f := by rw [IntKind.wrap_u64]; omega
          have e5 : IntKind.u64.wrap (y - f + 1) = y - f + 1 := by rw [IntKind.wrap_u64]; omega
          have e7 : IntKind.u64.wrap (r - (y - f + 1)) = 0 := by rw [IntKind.wrap_u64]; omega
          have e6 : min (t - f) (r - 1) = r - 1 := by omega
          have hm' : r - 1 < t - f := by omega
          clear ho hcn hsp hy
          go_wp2_with (at_builtin; refine wpList_append_own_at _ rfl _ _ 33 rfl w1.heap.size 36 i0 (.agg #[.int .u64 0, .int .u64 0]) 2 16 Tryd.underlying33 Hi.out Hz0.out Hz1.out Hz2.out rfl (by decide) _ _ _ rfl ((HOW.out.alloc _).alloc _) ⟨wr.heap.size + 1, 0, none⟩ 1 1 (spCells [⟨f, y⟩]) rfl rfl ?c1 ?c2 ?c3 ?c4 ?c5 ?_)
          case c1 =>
            intro j u h
            simpa [spCells] using h
          case c2 => exact spCells_one _
          case c3 => simp only [maxLen]; omega
          case c4 => omega
          case c5 => have := HK.out.size; simp; omega
          intro v' w' hown hg _ _
          obtain ⟨A', c', rfl⟩ := own_shape hown
          have hK' : Keep (fun _ => False) w1 w' := ((HK.out.alloc _).alloc _).grown hg (by
            intro k hk hlt
            have := (HOW.out.lt k hk).1
            omega)
          have hlen : (out ++ [(⟨f, y⟩ : Sp)]).length = out.length + 1 := by simp
          have hown' : w'.ownsRow w1.heap.size 36 2 (.slice A' (out.length + 1) c') (out ++ [(⟨f, y⟩ : Sp)]).length (spCells (out ++ [(⟨f, y⟩ : Sp)])) := by
            rw [hlen, spCells_append]; exact hown
          have HO' := Lib.hid hown'
          have HK' := Lib.hid hK'
          have HLE := Lib.hid hlen
          clear hown hown' hK' hg hlen
          go_wp2
          go_roundg (l.length - (i + 1))
          case measure => have := HQ.out; omega
          case rel => exact ⟨i + 1, _, _, by omega, by go_num, rfl, q0, q1, HFB.out, by rw [HLE.out]; omega, HO'.out, HK'.out⟩
    · obtain rfl : i = l.length := by have := HQ.out; omega
      go_wp2
      go_ret
      refine ⟨⟨.slice A4 out.length c4, out, rfl, IsL.ofOwn (base := w1.heap.size) HOW.out (by omega), HF.out l.length r out (by omega) HFA.out (.inr rfl)⟩, HK1.out.step HK.out⟩

end Go.Proofs.YtmficjbgpcbhoaaDoor
