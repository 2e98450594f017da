/- slices.DeleteFunc, in place. (Printed by mkdel.py.) slices.IndexFunc and DeleteFunc at Errand. (Printed by mkel.py.) slices.DeleteFunc, in place. (Printed by mkdel.py.) Bands and a roll, as plain functions. -/
import Derived.Test.YtofonfohaocclaaGreatDoorG14
import Derived.Test.YtofonfohaocclaaGreatDoorG08
namespace Go.Proofs.YtofonfohaocclaaGreatDoor
open Go.RowKit Sh
open Go.ChangeMaps (setBlock)
set_option linter.unusedVariables false

theorem zero_wt (w : World) : (zeroValue 96).run Tryz.prog w = .ok (.agg #[.int .i64 0, .int .u64 0, .int .u64 0, .bool false]) w := by kernel_rfl
theorem zsize_wt : (.agg #[.int .i64 0, .int .u64 0, .int .u64 0, .bool false] : Value).cells.size = 4 := by simp [Value.cells]
theorem zone_wt : ∀ v ∈ (.agg #[.int .i64 0, .int .u64 0, .int .u64 0, .bool false] : Value).cells, v.oneCell' = true := by simp [Value.cells, Value.oneCell']
set_option maxRecDepth 100000 in
set_option maxHeartbeats 400000 in
theorem delfunc_wt {w : World} {v : Value} {l : List Wt} (p : Wt → Bool) (cp : Value) (hp : ∀ g, v.ownBlock = some g → SaysS (fun b => b = g) wtC w 98 #[cp] p) (hp0 : SaysS (fun _ => False) wtC w 98 #[cp] p) (h : Row w 96 4 v l.length (flat wtC l)) (hl : l.length < 4611686018427387904) :
    Calls Tryz.prog 97 #[v, .func (.func 98) #[] #[cp]] w fun e w' => ∃ v', e = .returned v' ∧ v'.ownBlock = v.ownBlock ∧ Row w' 96 4 v' (l.filter fun x => !p x).length (flat wtC (l.filter fun x => !p x)) ∧ Keep (fun b => v.ownBlock = some b) w w' := by
  have hcl := idxfunc_wt p 98 (by decide) cp hp0 h hl
  by_cases hf : l.findIdx p < l.length
  · have hi : fidxG p l = ((l.findIdx p : Nat) : Int) := by simp [fidxG, hf]
    rw [hi] at hcl
    obtain ⟨g, o, cc, cs, rfl, hrow⟩ := h.pos (by omega)
    have hlc : l.length ≤ cc := hrow.2.1
    have hmx : cc ≤ maxLen := hrow.2.2.1
    have HROW := Lib.hid h
    have HP := Lib.hid (hp g rfl)
    have HL := Lib.hid hl
    clear hp hp0 h hrow hi
    have d1 : decide (((l.findIdx p : Nat) : Int) = -1) = false := decide_eq_false (by omega)
    have d2 : (((l.findIdx p : Nat) : Int) == -1) = false := by rw [beq_eq_false_iff_ne]; omega
    have w1i := wrap_succ (l.findIdx p) (by omega)
    have hfd : ∀ wr, Keep (fun _ => False) w wr → ∃ sz, o + l.length * 4 ≤ sz ∧ o + cc * 4 ≤ sz ∧ DelI wtC 4 p l w g o 96 sz wr (l.findIdx p) (l.findIdx p + 1) := fun wr hk => DelI.start (enc := wtC) (k := 4) (fun _ => rfl) (cc := cc) HROW.out hf hk
    generalize l.findIdx p = i0 at hcl hf d1 d2 w1i hfd
    have HFD := Lib.hid hfd
    have HF := Lib.hid hf
    clear hf hfd
    go_enter Tryz.func97, Tryz.ntmps97
    go_wp2_with fail
    refine hcl.mono ?_
    rintro e wc ⟨rfl, hk1⟩
    obtain ⟨sz, hsz1, hsz2, hDI⟩ := HFD.out wc hk1
    have HDI := Lib.hid hDI
    have HF2 : i0 < l.length := HF.out
    have HK1 := Lib.hid hk1
    clear hk1 hDI HFD hcl
    go_upto_region 5 with fail
    go_loopg [5, 6] (l.length - (i0 + 1)) (fun q v5 v6 wr => ∃ i j : Nat, j + q = l.length ∧ i < j ∧ v5 = .int .i64 (i : Int) ∧ v6 = .int .i64 (j : Int) ∧ DelI wtC 4 p l w g o 96 sz wr i j)
    case atStart => exact ⟨i0, i0 + 1, by omega, by omega, by go_num, by go_num, HDI.out⟩
    case round =>
      obtain ⟨i, j, hq, hij, rfl, rfl, hD⟩ := hrel
      have HD := Lib.hid hD
      have HQ := Lib.hid hq
      have HIJ := Lib.hid hij
      clear HDI
      by_cases hj : j < l.length
      · have e1 : decide ((j : Int) < (l.length : Int)) = true := decide_eq_true (by omega)
        have ej : decide (j < l.length) = true := decide_eq_true hj
        have ei : decide (i < l.length) = true := decide_eq_true (by omega)
        have hil : i < l.length := by omega
        have hcells := fun t u (hu : (wtC l[j])[t]? = some u) => hD.cell hj hu
        have HP1 := HP.out l[j]
        have c0 := hcells 0 _ rfl
        have c1 := hcells 1 _ rfl
        have c2 := hcells 2 _ rfl
        have c3 := hcells 3 _ rfl
        simp only [Nat.add_zero] at c0
        obtain ⟨bx, hbx⟩ : ∃ bx, bx = p l[j] := ⟨_, rfl⟩
        have HYN : Hid (bx = true → ∀ W, DelI wtC 4 p l w g o 96 sz W i j → DelI wtC 4 p l w g o 96 sz W i (j + 1)) := Lib.hid (fun hb W h => h.skip hj (hbx.symm.trans hb))
        have HYJ : Hid (bx = false → ∀ W, DelI wtC 4 p l w g o 96 sz W i j → DelI wtC 4 p l w g o 96 sz (W.setCells g (o + i * 4) (wtC l[j])) (i + 1) (j + 1)) := Lib.hid (fun hb W h => DelI.put (enc := wtC) (p := p) (fun _ => rfl) h hj hsz1 hij (hbx.symm.trans hb))
        rw [← hbx] at HP1
        clear hcells hq hij hD hbx
        generalize l[j] = y at HP1 HYJ c0 c1 c2 c3
        unfold wtC at HP1
        obtain ⟨yn, ys, ya, yh⟩ := y
        simp only at HP1 HYJ c0 c1 c2 c3
        go_wp2_with fail
        have HT2 := Lib.hid (HD.out.there hsz1 hil)
        cases bx
        · refine (HP1 _ (HD.out.keep.alloc _)).mono ?_
          rintro e w1 ⟨rfl, hk2⟩
          have hb1 := hk2.old (heap_alloc_new wr _) (fun h => h)
          have HW := Lib.hid ((HD.out.keep0 ((Keep.refl _ wr).alloc _)).keep0 hk2)
          have HT3 : Hid (w1.there g (o + i * 4) 4) := Lib.hid (HW.out.there hsz1 hil)
          have b0 : w1.cell? ⟨wr.heap.size, 0, none⟩ = some (.int .i64 yn) := by simp [World.cell?, hb1]
          have b1 : w1.cell? ⟨wr.heap.size, 1, none⟩ = some (.int .u64 ys) := by simp [World.cell?, hb1]
          have b2 : w1.cell? ⟨wr.heap.size, 2, none⟩ = some (.int .u64 ya) := by simp [World.cell?, hb1]
          have b3 : w1.cell? ⟨wr.heap.size, 3, none⟩ = some (.bool yh) := by simp [World.cell?, hb1]
          clear hb1 hk2 c0 c1 c2 c3 HP1
          have HY2 := Lib.hid (HYJ.out rfl w1 HW.out)
          simp only [wtC] at HY2
          obtain ⟨W2, hW2⟩ : ∃ W2, W2 = w1.setCells g (o + i * 4) [.int .i64 yn, .int .u64 ys, .int .u64 ya, .bool yh] := ⟨_, rfl⟩
          rw [← hW2] at HY2
          go_upto_region 9 with fail
          refine wp_region_lit ?_
          iterate 4 (refine wpList_plain rfl fun K hK => ?_; go_simp; refine hK _ _ ?_; clear hK K)
          refine wpList_store_mid rfl 96 _ _ rfl g (o + i * 4) #[.int .i64 yn, .int .u64 ys, .int .u64 ya, .bool yh] rfl rfl HT3.out (by kernel_rfl) (by simp [Value.oneCell']) ?_
          show wpList _ _ _ _ _ (w1.setCells g (o + i * 4) [.int .i64 yn, .int .u64 ys, .int .u64 ya, .bool yh])
          rw [← hW2]
          clear hW2
          go_wp2
          go_roundg (l.length - (j + 1))
          case measure => have := HQ.out; omega
          case rel => exact ⟨i + 1, j + 1, by have := HQ.out; omega, by have := HIJ.out; omega, by go_num, by go_num, HY2.out⟩
        · refine (HP1 _ (HD.out.keep.alloc _)).mono ?_
          rintro e w1 ⟨rfl, hk2⟩
          have HW := Lib.hid (HYN.out rfl _ ((HD.out.keep0 ((Keep.refl _ wr).alloc _)).keep0 hk2))
          clear hk2 c0 c1 c2 c3 HP1
          go_wp2
          go_roundg (l.length - (j + 1))
          case measure => have := HQ.out; omega
          case rel => exact ⟨i, j + 1, by have := HQ.out; omega, by have := HIJ.out; omega, rfl, by go_num, HW.out⟩
      · have hjl : j = l.length := by omega
        have e1 : decide ((j : Int) < (l.length : Int)) = false := decide_eq_false (by omega)
        have ej : decide (j < l.length) = false := decide_eq_false hj
        have hil : i ≤ l.length := by omega
        have hfin : Hid (∀ wf, (∃ cs cs', wr.heap[g]? = some (.cells cs 96 (0, 0)) ∧ wf.heap[g]? = some (.cells cs' 96 (0, 0)) ∧ cs'.size = cs.size ∧ ∀ t, t < o + i * 4 → cs'[t]? = cs[t]?) → Row wf 96 4 (.slice (some ⟨g, o, none⟩) i cc) (l.filter fun x => !p x).length (flat wtC (l.filter fun x => !p x))) := Lib.hid (fun wf h => DelI.fin (enc := wtC) (fun _ => rfl) (hjl ▸ hD) hsz2 (by omega) hmx h)
        obtain ⟨cs1, hh1, hs1, _⟩ := hD.ex
        have hcs1 : o + cc * 4 ≤ cs1.size := by omega
        obtain ⟨wf, hclr, ⟨cs2, hh2, hsz3, hag⟩, hkf⟩ := clear_tail (W := wr) 45 96 0 _ Tryz.underlying45 zero_wt (k := 4) zsize_wt zone_wt hh1 hil hlc hcs1
        have HF2 : Hid (Row wf 96 4 (.slice (some ⟨g, o, none⟩) i cc) (l.filter fun x => !p x).length (flat wtC (l.filter fun x => !p x))) := Lib.hid (hfin.out wf ⟨cs1, cs2, hh1, hh2, hsz3, hag⟩)
        have HKF : Hid (Keep (fun b => b = g) w wf) := Lib.hid (hD.keep.step hkf)
        have hsl := slice_from 45 96 Tryz.underlying45 4 Tryz.sizeOf96 (some ⟨g, o, none⟩) l.length cc (i : Int) (by omega) (by omega) wr
        rw [Int.toNat_natCast] at hsl
        generalize sliced (some ⟨g, o, none⟩) i l.length cc 4 = sv at hsl hclr
        clear hjl hq hij hD hfin hh1 hs1 hcs1 hh2 hsz3 hag hkf hsz1 hsz2
        go_wp2
        go_ret
        exact ⟨_, rfl, rfl, HF2.out, HKF.out.mono fun b h _ => by rw [h]; rfl⟩
  · have hi : fidxG p l = -1 := by simp [fidxG, hf]
    have HR := Lib.hid h
    have HF : Hid ((l.filter fun x => !p x) = l) := Lib.hid (by
      rw [List.filter_eq_self]
      intro x hx
      cases hpx : p x
      · rfl
      · exact absurd (List.findIdx_lt_length_of_exists ⟨x, hx, hpx⟩) hf)
    rw [hi] at hcl
    clear hi hf hp hp0 h hl
    go_enter Tryz.func97, Tryz.ntmps97
    go_wp2_with fail
    refine hcl.mono ?_
    rintro e w1 ⟨rfl, hk⟩
    have HK := Lib.hid hk
    clear hk hcl
    go_wp2
    go_ret
    exact ⟨v, rfl, rfl, by rw [HF.out]; exact HR.out.keep0 HK.out, HK.out.mono fun _ h _ => h.elim⟩
end Go.Proofs.YtofonfohaocclaaGreatDoor

namespace Go.Proofs.YtofonfohaocclaaGreatDoor
open Go.RowKit Sh
open Go.ChangeMaps (setBlock)
set_option linter.unusedVariables false

structure Er where
  n : Int
  s : Int
  a : Int
  f : Int
  t : Int
def erC (x : Er) : List Value := [.int .i64 x.n, .int .u64 x.s, .int .u64 x.a, .int .i64 x.f, .int .u64 x.t]
theorem er_one (x : Er) : ∀ v ∈ erC x, v.oneCell' = true := by
  intro v hv
  simp [erC] at hv
  rcases hv with rfl | rfl | rfl | rfl | rfl <;> rfl
theorem Row.er_at {w : World} {g o cc : Nat} {l : List Er} (h : Row w 105 5 (.slice (some ⟨g, o, none⟩) l.length cc) l.length (flat erC l)) (i : Nat) (hi : i < l.length) : w.cell? ⟨g, o + i * 5, none⟩ = some (.int .i64 l[i].n) ∧ w.cell? ⟨g, o + i * 5 + 1, none⟩ = some (.int .u64 l[i].s) ∧ w.cell? ⟨g, o + i * 5 + 2, none⟩ = some (.int .u64 l[i].a) ∧ w.cell? ⟨g, o + i * 5 + 3, none⟩ = some (.int .i64 l[i].f) ∧ w.cell? ⟨g, o + i * 5 + 4, none⟩ = some (.int .u64 l[i].t) := by
  have h1 := fun t u (hu : (erC l[i])[t]? = some u) => h.cell (flat_at (k := 5) erC (fun _ => rfl) hi hu)
  exact ⟨by simpa [Nat.add_assoc] using h1 0 _ rfl, by simpa [Nat.add_assoc] using h1 1 _ rfl, by simpa [Nat.add_assoc] using h1 2 _ rfl, by simpa [Nat.add_assoc] using h1 3 _ rfl, by simpa [Nat.add_assoc] using h1 4 _ rfl⟩

set_option maxRecDepth 100000 in
set_option maxHeartbeats 2000000 in
theorem idxfunc_er {w : World} {v : Value} {l : List Er} (p : Er → Bool) (kf : Nat) (hkf : kf = 96 ∨ kf = 37) (cp : Value) (hp : SaysS (fun _ => False) erC w kf #[cp] p) (h : Row w 105 5 v l.length (flat erC l)) (hl : l.length < 4611686018427387904) :
    Calls Tryz.prog 84 #[v, .func (.func kf) #[] #[cp]] w fun e w' => e = .returned (.int .i64 (fidxG p l)) ∧ Keep (fun _ => False) w w' := by
  by_cases h0 : l.length = 0
  · obtain ⟨A, c, rfl⟩ := h.shape
    have e0 : l = [] := List.eq_nil_of_length_eq_zero h0
    have E0 := Lib.hid e0
    rw [h0]
    clear h e0 h0 hl hp
    go_enter Tryz.func84, Tryz.ntmps84
    go_wp2
    go_loopg [8] 0 (fun q v8 wr => v8 = .int .i64 0 ∧ wr = w)
    case atStart => exact ⟨rfl, rfl⟩
    case round =>
      obtain ⟨rfl, rfl⟩ := hrel
      go_wp2
      go_ret
      exact ⟨by rw [E0.out]; rfl, Keep.refl _ _⟩
  · obtain ⟨g, o, c, cs, rfl, _⟩ := h.pos (by omega)
    have hcell := Lib.hid (fun i hi => h.er_at i hi)
    have HP := Lib.hid hp
    have h63 := Lib.hid hl
    clear h hp
    rcases hkf with rfl | rfl
    all_goals
      go_enter Tryz.func84, Tryz.ntmps84
      go_wp2
      go_loopg [8] l.length (fun q v8 wr => ∃ i : Nat, i + q = l.length ∧ v8 = .int .i64 (i : Int) ∧ (∀ (j : Nat) (hj : j < l.length), j < i → p l[j] = false) ∧ Keep (fun _ => False) w wr)
      case atStart => exact ⟨0, by omega, rfl, fun j hj h => absurd h (by omega), Keep.refl _ _⟩
      case round =>
        obtain ⟨i, hq, rfl, hno, hk⟩ := hrel
        have HQ := Lib.hid hq
        have HNO := Lib.hid hno
        have HK := Lib.hid hk
        by_cases hi : i < l.length
        · obtain ⟨b0, b1, b2, b3, b4⟩ := hcell.out i hi
          have c0 := hk.cell b0
          have c1 := hk.cell b1
          have c2 := hk.cell b2
          have c3 := hk.cell b3
          have c4 := hk.cell b4
          have d1 : decide ((i : Int) < (l.length : Int)) = true := decide_eq_true (by omega)
          have di : decide (i < l.length) = true := decide_eq_true hi
          have HI := Lib.hid hi
          have HCL := HP.out l[i] wr hk
          have HX : Hid (p l[i] = false ∨ (p l[i] = true ∧ fidxG p l = (i : Int))) := Lib.hid (by
            cases hx : p l[i]
            · exact .inl rfl
            · refine .inr ⟨rfl, ?_⟩
              have : l.findIdx p = i := (List.findIdx_eq hi).2 ⟨hx, fun j hj => HNO.out j (by omega) hj⟩
              simp [fidxG, this, hi])
          obtain ⟨bx, hbx⟩ : ∃ bx, bx = p l[i] := ⟨_, rfl⟩
          have HBX := Lib.hid hbx
          rw [← hbx] at HCL
          unfold erC at HCL
          clear hq hno hk hbx b0 b1 b2 b3 b4
          generalize l[i] = y at HCL c0 c1 c2 c3 c4
          obtain ⟨yn, ys, ya, yf, yt⟩ := y
          simp only at HCL c0 c1 c2 c3 c4
          cases bx
          · go_wp2_with fail
            refine HCL.mono ?_
            rintro e w1 ⟨rfl, hk1⟩
            have HK1 := Lib.hid hk1
            clear hk1
            go_wp2
            go_roundg (l.length - (i + 1))
            case measure => have := HQ.out; have := HI.out; omega
            case rel =>
              refine ⟨i + 1, by have := HQ.out; have := HI.out; omega, by go_num, fun j hj hji => ?_, HK.out.step HK1.out⟩
              rcases Nat.lt_succ_iff_lt_or_eq.1 hji with h | rfl
              · exact HNO.out j hj h
              · exact HBX.out.symm
          · go_wp2_with fail
            refine HCL.mono ?_
            rintro e w1 ⟨rfl, hk1⟩
            have HK1 := Lib.hid hk1
            clear hk1
            go_wp2
            go_ret
            refine ⟨?_, HK.out.step HK1.out⟩
            rcases HX.out with h | h
            · rw [← HBX.out] at h; cases h
            · rw [h.2]; rfl
        · have d1 : decide ((i : Int) < (l.length : Int)) = false := decide_eq_false (by omega)
          have HX : Hid (fidxG p l = -1) := Lib.hid (by
            have : ¬ l.findIdx p < l.length := by
              intro hlt
              have h1 := List.findIdx_getElem (w := hlt)
              rw [HNO.out _ hlt (by omega)] at h1
              cases h1
            simp only [fidxG, if_neg this])
          clear hq hno hk
          go_wp2
          go_ret
          exact ⟨by rw [HX.out]; rfl, HK.out⟩
end Go.Proofs.YtofonfohaocclaaGreatDoor

namespace Go.Proofs.YtofonfohaocclaaGreatDoor
open Go.RowKit Sh
open Go.ChangeMaps (setBlock)
set_option linter.unusedVariables false

theorem zero_er (w : World) : (zeroValue 105).run Tryz.prog w = .ok (.agg #[.int .i64 0, .int .u64 0, .int .u64 0, .int .i64 0, .int .u64 0]) w := by kernel_rfl
theorem zsize_er : (.agg #[.int .i64 0, .int .u64 0, .int .u64 0, .int .i64 0, .int .u64 0] : Value).cells.size = 5 := by simp [Value.cells]
theorem zone_er : ∀ v ∈ (.agg #[.int .i64 0, .int .u64 0, .int .u64 0, .int .i64 0, .int .u64 0] : Value).cells, v.oneCell' = true := by simp [Value.cells, Value.oneCell']
set_option maxRecDepth 100000 in
set_option maxHeartbeats 400000 in
theorem delfunc_er {w : World} {v : Value} {l : List Er} (p : Er → Bool) (cp : Value) (hp : ∀ g, v.ownBlock = some g → SaysS (fun b => b = g) erC w 37 #[cp] p) (hp0 : SaysS (fun _ => False) erC w 37 #[cp] p) (h : Row w 105 5 v l.length (flat erC l)) (hl : l.length < 4611686018427387904) :
    Calls Tryz.prog 36 #[v, .func (.func 37) #[] #[cp]] w fun e w' => ∃ v', e = .returned v' ∧ v'.ownBlock = v.ownBlock ∧ Row w' 105 5 v' (l.filter fun x => !p x).length (flat erC (l.filter fun x => !p x)) ∧ Keep (fun b => v.ownBlock = some b) w w' := by
  have hcl := idxfunc_er p 37 (by decide) cp hp0 h hl
  by_cases hf : l.findIdx p < l.length
  · have hi : fidxG p l = ((l.findIdx p : Nat) : Int) := by simp [fidxG, hf]
    rw [hi] at hcl
    obtain ⟨g, o, cc, cs, rfl, hrow⟩ := h.pos (by omega)
    have hlc : l.length ≤ cc := hrow.2.1
    have hmx : cc ≤ maxLen := hrow.2.2.1
    have HROW := Lib.hid h
    have HP := Lib.hid (hp g rfl)
    have HL := Lib.hid hl
    clear hp hp0 h hrow hi
    have d1 : decide (((l.findIdx p : Nat) : Int) = -1) = false := decide_eq_false (by omega)
    have d2 : (((l.findIdx p : Nat) : Int) == -1) = false := by rw [beq_eq_false_iff_ne]; omega
    have w1i := wrap_succ (l.findIdx p) (by omega)
    have hfd : ∀ wr, Keep (fun _ => False) w wr → ∃ sz, o + l.length * 5 ≤ sz ∧ o + cc * 5 ≤ sz ∧ DelI erC 5 p l w g o 105 sz wr (l.findIdx p) (l.findIdx p + 1) := fun wr hk => DelI.start (enc := erC) (k := 5) (fun _ => rfl) (cc := cc) HROW.out hf hk
    generalize l.findIdx p = i0 at hcl hf d1 d2 w1i hfd
    have HFD := Lib.hid hfd
    have HF := Lib.hid hf
    clear hf hfd
    go_enter Tryz.func36, Tryz.ntmps36
    go_wp2_with fail
    refine hcl.mono ?_
    rintro e wc ⟨rfl, hk1⟩
    obtain ⟨sz, hsz1, hsz2, hDI⟩ := HFD.out wc hk1
    have HDI := Lib.hid hDI
    have HF2 : i0 < l.length := HF.out
    have HK1 := Lib.hid hk1
    clear hk1 hDI HFD hcl
    go_upto_region 5 with fail
    go_loopg [5, 6] (l.length - (i0 + 1)) (fun q v5 v6 wr => ∃ i j : Nat, j + q = l.length ∧ i < j ∧ v5 = .int .i64 (i : Int) ∧ v6 = .int .i64 (j : Int) ∧ DelI erC 5 p l w g o 105 sz wr i j)
    case atStart => exact ⟨i0, i0 + 1, by omega, by omega, by go_num, by go_num, HDI.out⟩
    case round =>
      obtain ⟨i, j, hq, hij, rfl, rfl, hD⟩ := hrel
      have HD := Lib.hid hD
      have HQ := Lib.hid hq
      have HIJ := Lib.hid hij
      clear HDI
      by_cases hj : j < l.length
      · have e1 : decide ((j : Int) < (l.length : Int)) = true := decide_eq_true (by omega)
        have ej : decide (j < l.length) = true := decide_eq_true hj
        have ei : decide (i < l.length) = true := decide_eq_true (by omega)
        have hil : i < l.length := by omega
        have hcells := fun t u (hu : (erC l[j])[t]? = some u) => hD.cell hj hu
        have HP1 := HP.out l[j]
        have c0 := hcells 0 _ rfl
        have c1 := hcells 1 _ rfl
        have c2 := hcells 2 _ rfl
        have c3 := hcells 3 _ rfl
        have c4 := hcells 4 _ rfl
        simp only [Nat.add_zero] at c0
        obtain ⟨bx, hbx⟩ : ∃ bx, bx = p l[j] := ⟨_, rfl⟩
        have HYN : Hid (bx = true → ∀ W, DelI erC 5 p l w g o 105 sz W i j → DelI erC 5 p l w g o 105 sz W i (j + 1)) := Lib.hid (fun hb W h => h.skip hj (hbx.symm.trans hb))
        have HYJ : Hid (bx = false → ∀ W, DelI erC 5 p l w g o 105 sz W i j → DelI erC 5 p l w g o 105 sz (W.setCells g (o + i * 5) (erC l[j])) (i + 1) (j + 1)) := Lib.hid (fun hb W h => DelI.put (enc := erC) (p := p) (fun _ => rfl) h hj hsz1 hij (hbx.symm.trans hb))
        rw [← hbx] at HP1
        clear hcells hq hij hD hbx
        generalize l[j] = y at HP1 HYJ c0 c1 c2 c3 c4
        unfold erC at HP1
        obtain ⟨yn, ys, ya, yf, yt⟩ := y
        simp only at HP1 HYJ c0 c1 c2 c3 c4
        go_wp2_with fail
        have HT2 := Lib.hid (HD.out.there hsz1 hil)
        cases bx
        · refine (HP1 _ (HD.out.keep.alloc _)).mono ?_
          rintro e w1 ⟨rfl, hk2⟩
          have hb1 := hk2.old (heap_alloc_new wr _) (fun h => h)
          have HW := Lib.hid ((HD.out.keep0 ((Keep.refl _ wr).alloc _)).keep0 hk2)
          have HT3 : Hid (w1.there g (o + i * 5) 5) := Lib.hid (HW.out.there hsz1 hil)
          have b0 : w1.cell? ⟨wr.heap.size, 0, none⟩ = some (.int .i64 yn) := by simp [World.cell?, hb1]
          have b1 : w1.cell? ⟨wr.heap.size, 1, none⟩ = some (.int .u64 ys) := by simp [World.cell?, hb1]
          have b2 : w1.cell? ⟨wr.heap.size, 2, none⟩ = some (.int .u64 ya) := by simp [World.cell?, hb1]
          have b3 : w1.cell? ⟨wr.heap.size, 3, none⟩ = some (.int .i64 yf) := by simp [World.cell?, hb1]
          have b4 : w1.cell? ⟨wr.heap.size, 4, none⟩ = some (.int .u64 yt) := by simp [World.cell?, hb1]
          clear hb1 hk2 c0 c1 c2 c3 c4 HP1
          have HY2 := Lib.hid (HYJ.out rfl w1 HW.out)
          simp only [erC] at HY2
          obtain ⟨W2, hW2⟩ : ∃ W2, W2 = w1.setCells g (o + i * 5) [.int .i64 yn, .int .u64 ys, .int .u64 ya, .int .i64 yf, .int .u64 yt] := ⟨_, rfl⟩
          rw [← hW2] at HY2
          go_upto_region 9 with fail
          refine wp_region_lit ?_
          iterate 4 (refine wpList_plain rfl fun K hK => ?_; go_simp; refine hK _ _ ?_; clear hK K)
          refine wpList_store_mid rfl 105 _ _ rfl g (o + i * 5) #[.int .i64 yn, .int .u64 ys, .int .u64 ya, .int .i64 yf, .int .u64 yt] rfl rfl HT3.out (by kernel_rfl) (by simp [Value.oneCell']) ?_
          show wpList _ _ _ _ _ (w1.setCells g (o + i * 5) [.int .i64 yn, .int .u64 ys, .int .u64 ya, .int .i64 yf, .int .u64 yt])
          rw [← hW2]
          clear hW2
          go_wp2
          go_roundg (l.length - (j + 1))
          case measure => have := HQ.out; omega
          case rel => exact ⟨i + 1, j + 1, by have := HQ.out; omega, by have := HIJ.out; omega, by go_num, by go_num, HY2.out⟩
        · refine (HP1 _ (HD.out.keep.alloc _)).mono ?_
          rintro e w1 ⟨rfl, hk2⟩
          have HW := Lib.hid (HYN.out rfl _ ((HD.out.keep0 ((Keep.refl _ wr).alloc _)).keep0 hk2))
          clear hk2 c0 c1 c2 c3 c4 HP1
          go_wp2
          go_roundg (l.length - (j + 1))
          case measure => have := HQ.out; omega
          case rel => exact ⟨i, j + 1, by have := HQ.out; omega, by have := HIJ.out; omega, rfl, by go_num, HW.out⟩
      · have hjl : j = l.length := by omega
        have e1 : decide ((j : Int) < (l.length : Int)) = false := decide_eq_false (by omega)
        have ej : decide (j < l.length) = false := decide_eq_false hj
        have hil : i ≤ l.length := by omega
        have hfin : Hid (∀ wf, (∃ cs cs', wr.heap[g]? = some (.cells cs 105 (0, 0)) ∧ wf.heap[g]? = some (.cells cs' 105 (0, 0)) ∧ cs'.size = cs.size ∧ ∀ t, t < o + i * 5 → cs'[t]? = cs[t]?) → Row wf 105 5 (.slice (some ⟨g, o, none⟩) i cc) (l.filter fun x => !p x).length (flat erC (l.filter fun x => !p x))) := Lib.hid (fun wf h => DelI.fin (enc := erC) (fun _ => rfl) (hjl ▸ hD) hsz2 (by omega) hmx h)
        obtain ⟨cs1, hh1, hs1, _⟩ := hD.ex
        have hcs1 : o + cc * 5 ≤ cs1.size := by omega
        obtain ⟨wf, hclr, ⟨cs2, hh2, hsz3, hag⟩, hkf⟩ := clear_tail (W := wr) 46 105 0 _ Tryz.underlying46 zero_er (k := 5) zsize_er zone_er hh1 hil hlc hcs1
        have HF2 : Hid (Row wf 105 5 (.slice (some ⟨g, o, none⟩) i cc) (l.filter fun x => !p x).length (flat erC (l.filter fun x => !p x))) := Lib.hid (hfin.out wf ⟨cs1, cs2, hh1, hh2, hsz3, hag⟩)
        have HKF : Hid (Keep (fun b => b = g) w wf) := Lib.hid (hD.keep.step hkf)
        have hsl := slice_from 46 105 Tryz.underlying46 5 Tryz.sizeOf105 (some ⟨g, o, none⟩) l.length cc (i : Int) (by omega) (by omega) wr
        rw [Int.toNat_natCast] at hsl
        generalize sliced (some ⟨g, o, none⟩) i l.length cc 5 = sv at hsl hclr
        clear hjl hq hij hD hfin hh1 hs1 hcs1 hh2 hsz3 hag hkf hsz1 hsz2
        go_wp2
        go_ret
        exact ⟨_, rfl, rfl, HF2.out, HKF.out.mono fun b h _ => by rw [h]; rfl⟩
  · have hi : fidxG p l = -1 := by simp [fidxG, hf]
    have HR := Lib.hid h
    have HF : Hid ((l.filter fun x => !p x) = l) := Lib.hid (by
      rw [List.filter_eq_self]
      intro x hx
      cases hpx : p x
      · rfl
      · exact absurd (List.findIdx_lt_length_of_exists ⟨x, hx, hpx⟩) hf)
    rw [hi] at hcl
    clear hi hf hp hp0 h hl
    go_enter Tryz.func36, Tryz.ntmps36
    go_wp2_with fail
    refine hcl.mono ?_
    rintro e w1 ⟨rfl, hk⟩
    have HK := Lib.hid hk
    clear hk hcl
    go_wp2
    go_ret
    exact ⟨v, rfl, rfl, by rw [HF.out]; exact HR.out.keep0 HK.out, HK.out.mono fun _ h _ => h.elim⟩
end Go.Proofs.YtofonfohaocclaaGreatDoor

namespace Go.Proofs.YtofonfohaocclaaGreatDoor
open Go.RowKit Sh
set_option linter.unusedVariables false

structure Up where
  n : Int
  i : Int
  s : Int
deriving instance DecidableEq for Up
deriving instance Inhabited for Up
def zUp : Up := ⟨0, 0, 0⟩
def uC (u : Up) : List Value := [.int .i64 u.n, .int .u64 u.i, .int .i64 u.s]
def uV (u : Up) : Value := .agg #[.int .i64 u.n, .int .u64 u.i, .int .i64 u.s]
theorem uC_one (u : Up) : ∀ v ∈ uC u, v.oneCell' = true := by
  intro v hv
  simp [uC] at hv
  rcases hv with rfl | rfl | rfl <;> rfl

-- bands
def bitN (n : Int) : Nat := if 0 ≤ n ∧ n < 64 then 2 ^ n.toNat else 0
def bHas (b : Nat) (n : Int) : Bool := decide (0 ≤ n ∧ n < 64) && b.testBit n.toNat
def bWith (b : Nat) (n : Int) : Nat := b ||| bitN n
def bLess (b : Nat) (n : Int) : Nat := b &&& (18446744073709551615 - bitN n)
def bNat (b : Nat) : List Nat := (List.range 64).filter fun n => b.testBit n
def bList (b : Nat) : List Int := (bNat b).map fun (n : Nat) => (n : Int)
def bMany (b : Nat) : Nat := (bNat b).length

-- the roll
structure Rol where
  me : Int
  kn : Nat → Up
  has : Nat
def Rol.at (r : Rol) (n : Int) : Up := r.kn n.toNat
def Rol.get (r : Rol) (n : Int) : Up × Bool := if bHas r.has n then (r.at n, true) else (zUp, false)
def Rol.mine (r : Rol) : Up := r.at r.me
def Rol.put (r : Rol) (u : Up) : Rol := { r with kn := fun m => if m = u.n.toNat then u else r.kn m, has := bWith r.has u.n }
def Rol.new (me : Int) : Rol := (Rol.mk me (fun _ => zUp) 0).put ⟨me, 0, 0⟩
def Rol.all (r : Rol) : List Up := (bList r.has).map r.at
def liveS (s : Int) : Bool := decide (0 ≤ s ∧ s ≤ 1)
def liveF (b : Nat) (u : Up) : Nat := if liveS u.s then bWith b u.n else b
def Rol.live (r : Rol) : Nat := r.all.foldl liveF 0
def Rol.others (r : Rol) : List Int := bList (bLess r.live r.me)
def Rol.hear (r : Rol) (u : Up) : Rol × Bool × Int :=
  if Q.mayU u.n u.s = false then (r, false, 1)
  else if u.n = r.me then
    if Q.newI u.i u.s r.mine.i 0 = false then (r, false, 70)
    else if u.i = 18446744073709551615 then (r, false, 60)
    else (r.put ⟨r.me, u.i + 1, 0⟩, false, 0)
  else if bHas r.has u.n && !Q.newI u.i u.s (r.at u.n).i (r.at u.n).s then (r, false, 70)
  else (r.put u, true, 0)

end Go.Proofs.YtofonfohaocclaaGreatDoor
