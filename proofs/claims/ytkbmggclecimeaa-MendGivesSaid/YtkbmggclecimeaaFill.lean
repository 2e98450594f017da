/- Two shelves that are filled alike. -/
import Derived.Test.YtkbmggclecimeaaRefU
namespace Go.Proofs.Ytkbmggclecimeaa
open Go.RowKit Sh
set_option linter.unusedVariables false

theorem keep_cellS {S : Nat → Prop} {w w' : World} (k : Keep S w w') {a : Addr} {v : Value} (h : w.cell? a = some v) (hS : ¬ S a.block) : w'.cell? a = some v :=
  (World.cell?_of_block (k.block a.block (World.block_lt_of_cell? w a h) hS)).trans h

/-- both shelves hold the same. -/
structure Two (w : World) (b : Nat) (st : St) (E : List Ent) : Prop where
  shelf : IsShelf w b st
  ref : IsRef w (b + 1) E
  kps : Kps st E
  low : st.low = 0
theorem Two.keep {w w' : World} {b : Nat} {st : St} {E : List Ent} (h : Two w b st E) (k : Keep (fun _ => False) w w') : Two w' b st E :=
  ⟨h.shelf.keep k id, h.ref.keep k (fun _ _ h => h), h.kps, h.low⟩
theorem Two.keys {w : World} {b : Nat} {st : St} {E : List Ent} (h : Two w b st E) : ∀ e ∈ E, 1 ≤ e.k ∧ e.k ≤ 64 := fun e he => by
  obtain ⟨a, c⟩ := h.kps.ent e he
  have hl := h.low
  rcases c with c | ⟨c, _⟩
  · omega
  · have := (hasB_iff.1 c).2.1; omega

set_option maxRecDepth 100000 in
set_option maxHeartbeats 4000000 in
theorem filled_any {w : World} {va : Value} {a : List Int} (ha : IsB w va a) (hla : a.length ≤ 150) :
    Calls Try.prog 44 #[va, .int .u8 0] w fun e w' => (∃ st E, e = .returned (.tuple #[.pointer (some ⟨w.heap.size, 0, none⟩), .pointer (some ⟨w.heap.size + 1, 0, none⟩)]) ∧ Two w' w.heap.size st E ∧ E.length ≤ a.length) ∧ Keep (fun _ => False) w w' := by
  have HA := Lib.hid ha
  have RA := Lib.hid ha.rng
  obtain ⟨Aa, ca, rfl, _, _, hA⟩ := ha.ex
  have EA := Lib.hid hA
  clear ha hA
  have T0 : Hid (Two ((w.alloc (.cells Try.zeroCells32 32)).alloc (.cells #[.slice none 0 0, .int .u64 0] 84)) w.heap.size Sh.fresh []) := by
    refine ⟨(fresh_alloc w).keep ((Keep.refl (fun _ => False) _).alloc _) id, ⟨.slice none 0 0, ?_, World.ownsRow_nil _ _ _ _⟩, Kps.fresh, rfl⟩
    have := heap_alloc_new (w.alloc (.cells Try.zeroCells32 32)) (.cells #[.slice none 0 0, .int .u64 0] 84)
    rwa [show (w.alloc (.cells Try.zeroCells32 32)).heap.size = w.heap.size + 1 by simp] at this
  have K0 : Hid (Keep (fun _ => False) w ((w.alloc (.cells Try.zeroCells32 32)).alloc (.cells #[.slice none 0 0, .int .u64 0] 84))) := ((Keep.refl _ w).alloc _).alloc _
  go_enter Try.func44, Try.ntmps44
  go_wp2_with fail
  go_loopg [8] a.length (fun q v8 wr => ∃ (i : Nat) (st : St) (E : List Ent), i + q = a.length ∧ v8 = .int .i64 i ∧ Two wr w.heap.size st E ∧ E.length ≤ i ∧ Keep (fun _ => False) w wr)
  case atStart => exact ⟨0, Sh.fresh, [], by omega, rfl, T0.out, by simp, K0.out⟩
  case round =>
    clear T0 K0
    obtain ⟨i, st, E, hq, rfl, hT, hEl, hK⟩ := hrel
    have HQ := Lib.hid hq
    have HT := Lib.hid hT
    have HK := Lib.hid hK
    clear hq hT hK
    by_cases hlt : i < a.length
    · obtain ⟨g, o, rfl, hc⟩ := EA.out (by omega)
      have c0 := HK.out.cell (hc i hlt)
      have hgl : g < w.heap.size := World.block_lt_of_cell? w _ (hc i hlt)
      have hr := RA.out i hlt
      obtain ⟨y, hy⟩ : ∃ y, y = a.getD i 0 := ⟨_, rfl⟩
      rw [← hy] at c0 hr
      obtain ⟨y0, y1⟩ := hr
      have c0d : wr.drew.cell? ⟨g, o + i, none⟩ = some (.int .u8 y) := c0
      have CY := Lib.hid c0
      have ew1 : IntKind.i64.wrap y = y := IntWalk.i64_in _ (by omega)
      have ew2 : IntKind.u64.wrap y = y := by rw [IntKind.wrap_u64]; omega
      clear hc hy
      go_upto_region 6 with fail
      go_region_held3 (fun W => W.cell? ⟨g, o + i, none⟩ = some (.int .u8 y)) (go_keep) (fail)
      obtain ⟨wo, rfl⟩ : ∃ wo : World, wo = wr := ⟨_, rfl⟩
      obtain ⟨wa, hwa⟩ : ∃ wa, wa = (wo.alloc (.cells #[.int .i64 (y.tmod 7), .int .u64 y, .string ⟨#[]⟩] 27)).drew := ⟨_, rfl⟩
      rw [← hwa]
      have ka : Keep (fun _ => False) wo wa := by rw [hwa]; exact ((Keep.refl _ wo).alloc _).drew
      have bx : wa.heap[wo.heap.size]? = some (.cells #[.int .i64 (y.tmod 7), .int .u64 y, .string ⟨#[]⟩] 27 (0, 0)) := by rw [hwa]; exact heap_alloc_new wo _
      have hBo : w.heap.size + 1 < wo.heap.size := by
        obtain ⟨v, hb, _⟩ := HT.out.ref.ex
        exact (Array.getElem?_eq_some_iff.1 hb).1
      have b0 : wa.cell? ⟨wo.heap.size, 0, none⟩ = some (.int .i64 (y.tmod 7)) := by simp [World.cell?, bx]
      have b1 : wa.cell? ⟨wo.heap.size, 1, none⟩ = some (.int .u64 y) := by simp [World.cell?, bx]
      have b2 : wa.cell? ⟨wo.heap.size, 2, none⟩ = some (.string ⟨#[]⟩) := by simp [World.cell?, bx]
      have cy := ka.cell c0
      have TA := Lib.hid (HT.out.keep ka)
      have TAd : Hid (Two wa.drew w.heap.size st E) := TA.out.keep ((Keep.refl (fun _ => False) wa).drew)
      have KAd := Lib.hid ((HK.out.step ka).drew)
      have b0d : wa.drew.cell? ⟨wo.heap.size, 0, none⟩ = some (.int .i64 (y.tmod 7)) := b0
      have b1d : wa.drew.cell? ⟨wo.heap.size, 1, none⟩ = some (.int .u64 y) := b1
      have b2d : wa.drew.cell? ⟨wo.heap.size, 2, none⟩ = some (.string ⟨#[]⟩) := b2
      have cyd : wa.drew.cell? ⟨g, o + i, none⟩ = some (.int .u8 y) := cy
      clear hwa ka bx c0 c0d CY HT HK
      go_upto_region 7 with fail
      go_region_held3 (fun W => W.cell? ⟨g, o + i, none⟩ = some (.int .u8 y) ∧ W.cell? ⟨wo.heap.size, 0, none⟩ = some (.int .i64 (y.tmod 7)) ∧ W.cell? ⟨wo.heap.size, 1, none⟩ = some (.int .u64 y) ∧ W.cell? ⟨wo.heap.size, 2, none⟩ = some (.string ⟨#[]⟩)) (go_keep)
        (first | (go_at_call 17; refine (sput_any TAd.out.shelf TAd.out.kps TAd.out.low y (y.tmod 7) y y0 (by omega)).mono ?_; rintro e w5 ⟨⟨r, st', rfl, hs5, hl5, hp5⟩, hk5⟩; have f0 := keep_cellS hk5 cyd (by simp only; omega); have f1 := keep_cellS hk5 b0d (by simp only; omega); have f2 := keep_cellS hk5 b1d (by simp only; omega); have f3 := keep_cellS hk5 b2d (by simp only; omega)))
      have S5 : Hid (IsShelf w5.drew w.heap.size st') := hs5.keep ((Keep.refl (fun _ => False) w5).drew) id
      have P5 := Lib.hid hp5
      have L5 := Lib.hid hl5
      have R5 : Hid (IsRef w5.drew (w.heap.size + 1) E) := (TAd.out.ref.keep hk5 (fun j hj h => by omega)).keep ((Keep.refl (fun _ => False) w5).drew) (fun _ _ h => h)
      have K5 := Lib.hid ((KAd.out.trans hk5 (by rintro i rfl hi; omega)).drew)
      have f0d : w5.drew.cell? ⟨g, o + i, none⟩ = some (.int .u8 y) := f0
      have f1d : w5.drew.cell? ⟨wo.heap.size, 0, none⟩ = some (.int .i64 (y.tmod 7)) := f1
      have f2d : w5.drew.cell? ⟨wo.heap.size, 1, none⟩ = some (.int .u64 y) := f2
      have f3d : w5.drew.cell? ⟨wo.heap.size, 2, none⟩ = some (.string ⟨#[]⟩) := f3
      clear hs5 hl5 hp5 hk5 b0 b1 b2 cy b0d b1d b2d cyd TA TAd KAd
      go_upto_region 8 with fail
      go_region_with (first | (go_at_call 59; refine (rput_any R5.out y (y.tmod 7) y y0 y1 (by omega)).mono ?_; rintro e w6 ⟨⟨r6, E', rfl, hr6, hp6⟩, hk6⟩))
      all_goals
        have T6 : Hid (Two w6 w.heap.size st' E') := ⟨S5.out.keep hk6 (fun h => by omega), hr6, P5.out E' hp6, L5.out⟩
        have hl6 : E'.length ≤ i + 1 := by
          rcases hp6 with ⟨_, rfl⟩ | ⟨_, _, _, rfl⟩
          · omega
          · simp; omega
        have K6 := Lib.hid (K5.out.trans hk6 (by intro i hi hl; omega))
        clear hr6 hp6 hk6 f0 f1 f2 f3 f0d f1d f2d f3d
        go_wp2_with fail
        go_roundg (a.length - (i + 1))
        case measure => have := HQ.out; omega
        case rel => exact ⟨i + 1, st', E', by have := HQ.out; omega, by go_num, T6.out, hl6, K6.out⟩
    · obtain rfl : a.length = i := by have := HQ.out; omega
      have O : Hid (St.ok st) := ⟨by rw [HT.out.low]; omega, by rw [HT.out.low]; omega⟩
      obtain ⟨r, hr⟩ := rch_ex st
      have hl := HT.out.low
      have HR := Lib.hid hr
      have hrl := hr.le
      have HL := Lib.hid hl
      clear hr hl
      go_wp2_with fail
      refine (trim_ok _ st r 0 0 _ HT.out.shelf O.out (by rw [HL.out]; omega) HR.out.yes HR.out.no (by omega) (by rw [HL.out]; omega) (by rw [HL.out]; rfl)).mono ?_
      rintro e w2 ⟨rfl, hs2, hk2⟩
      have T2 : Hid (Two w2 w.heap.size st E) := ⟨hs2, HT.out.ref.keep hk2 (fun j hj h => by omega), HT.out.kps, HT.out.low⟩
      have K2 := Lib.hid (HK.out.trans hk2 (by rintro i rfl hi; omega))
      clear hs2 hk2
      go_wp2_with fail
      refine (rtrim0 T2.out.ref T2.out.keys (by omega)).mono ?_
      rintro e w3 ⟨rfl, hk3⟩
      have T3 := Lib.hid (T2.out.keep hk3)
      have K3 := Lib.hid (K2.out.step hk3)
      clear hk3
      go_wp2_with fail
      go_ret2
      exact ⟨⟨st, E, rfl, T3.out, hEl⟩, K3.out⟩

end Go.Proofs.Ytkbmggclecimeaa
