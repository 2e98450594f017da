/- Walk of Detector.Tick. -/
import Derived.Test.YtofonfohaocclaaGreatDoorG30
import Derived.Test.YtofonfohaocclaaGreatDoorG31
import Derived.Test.YtofonfohaocclaaGreatDoorG32
import Derived.Test.YtofonfohaocclaaGreatDoorG33
namespace Go.Proofs.YtofonfohaocclaaGreatDoor
open Go.RowKit Sh
open Go.ChangeMaps (setBlock)
set_option linter.unusedVariables false
set_option linter.unusedSimpArgs false

theorem bp_panic {P : Program} {fn : Func} {R : Ending → World → Prop} : ∀ c (a : Act) o v w', bodyPost P fn R (.panic c) (a.put o v) w' → bodyPost P fn R (.panic c) a w' := fun c a o v w' hh => by
  cases o <;> exact hh
theorem tk_bd {N n : Nat} (h : N ≤ 2 * n) (hn : n < 137438953472) : N < 2199023255552 := by omega
theorem clear_has {p : Parts} {b k : Nat} (h : ({ p with vw := .slice none 0 0 } : Parts).has b k) : p.has b k := by
  rcases h.or with h | h | h | h | h | h | h
  · exact ⟨.inl h⟩
  · exact ⟨.inr (.inl h)⟩
  · exact ⟨.inr (.inr (.inl h))⟩
  · cases h
  · exact ⟨.inr (.inr (.inr (.inr (.inl h))))⟩
  · exact ⟨.inr (.inr (.inr (.inr (.inr (.inl h)))))⟩
  · exact ⟨.inr (.inr (.inr (.inr (.inr (.inr h)))))⟩
/-- What holds where the watches are taken out. -/
structure TBase (W2 : World) (b g : Nat) (p0 : Parts) (xl : Nat) (d0 : Det) (L : List Int) : Prop where
  det : IsDet W2 b d0 p0
  ok : KO 0 d0
  tab : TabAt 0 B.tabS W2
  lots : IsLots W2 xl L
  box : W2.cell? ⟨g, 0, none⟩ = some (.pointer (some ⟨b, 0, none⟩))
  ng : ¬ p0.has b g
  gl : g < W2.heap.size
  no96 : ∀ {A5 : Option Addr} {c5 : Nat} {old : List Wt}, Row W2 96 4 (.slice A5 old.length c5) old.length (flat wtC old) → ∀ k, (Value.slice A5 old.length c5).ownBlock = some k → ¬ p0.has b k
theorem tbase {w W2 : World} {b xl n : Nat} {d : Det} {p : Parts} {L : List Int} (hc : Cleared w W2 b d p w.heap.size) (h : IsDet w b d p) (ho : KO n d) (hT : TabAt 0 B.tabS w) (hL : IsLots w xl L) :
    TBase W2 b w.heap.size { p with vw := .slice none 0 0 } xl { { d with now := inc64 d.now } with ws := [] } L where
  det := hc.det
  ok := set_ws_ko (set_now_ko ho) (by simp)
  tab := B.tab_keep hT hc.keep fun hh => absurd (h.pos _ hh) (by omega)
  lots := h.lots hL hc.keep
  box := hc.box
  ng := fun hh => absurd (h.lt (clear_has hh)) (by omega)
  gl := World.block_lt_of_cell? W2 _ hc.box
  no96 := fun hr k hk hh => by
    have hk96 : Kind W2 k (some 96) := ⟨hr.typed hk⟩
    rcases hh.or with hh | hh | hh | hh | hh | hh | hh
    · exact hk96.ne hc.det.kb (by decide) hh
    · exact hk96.ne hc.det.krb (by decide) hh
    · exact hk96.ne (hc.det.kl hh) (by decide) rfl
    · cases hh
    · exact hk96.ne (hc.det.ke hh) (by decide) rfl
    · exact hk96.ne (hc.det.kq hh) (by decide) rfl
    · exact hk96.ne (hc.det.kd hh) (by decide) rfl
/-- Where Tick stands. -/
structure TSt (W2 w' : World) (b : Nat) (p0 : Parts) (xl : Nat) (d' : Det) (L' : List Int) (N : List Nt) (v : Value) : Prop where
  set : DLSet W2 w' b p0 xl d' L'
  own : OwnNts w' W2.heap.size v N
structure TUse (W2 w' : World) (b g : Nat) (p0 p' : Parts) (xl : Nat) (d' : Det) (L' : List Int) : Prop where
  det : IsDet w' b d' p'
  sub : ∀ k, p'.has b k → p0.has b k ∨ W2.heap.size ≤ k
  box : w'.cell? ⟨g, 0, none⟩ = some (.pointer (some ⟨b, 0, none⟩))
  ng : ¬ p'.has b g
  tab : TabAt 0 B.tabS w'
  lots : IsLots w' xl L'
  size : W2.heap.size ≤ w'.heap.size
theorem TSt.use {W2 w' : World} {b g xl : Nat} {p0 : Parts} {d0 d' : Det} {L L' : List Int} {N : List Nt} {v : Value} (h : TSt W2 w' b p0 xl d' L' N v) (hb : TBase W2 b g p0 xl d0 L) (hxp : 0 < xl) (hgx : g ≠ xl) : ∃ p', TUse W2 w' b g p0 p' xl d' L' := by
  obtain ⟨p', hd, hs⟩ := h.set.ex
  refine ⟨p', hd, hs, h.set.keep.cellS hb.box (fun hh => ?_), fun hh => ?_, B.tab_keep hb.tab h.set.keep (fun hh => ?_), h.set.lots, h.set.keep.size⟩
  · rcases hh with hh | hh
    · exact hb.ng hh
    · exact hgx hh
  · rcases hs g hh with h1 | h1
    · exact hb.ng h1
    · exact absurd hb.gl (Nat.not_lt.2 h1)
  · rcases hh with hh | hh
    · exact absurd (hb.det.pos _ hh) (by omega)
    · omega
theorem TSt.d {W2 w' w'' : World} {b g xl : Nat} {p0 p' : Parts} {d' d'' : Det} {L' : List Int} {N : List Nt} {v : Value} (h : TSt W2 w' b p0 xl d' L' N v) (hu : TUse W2 w' b g p0 p' xl d' L') (hs : DSet w' w'' b p' d'') : TSt W2 w'' b p0 xl d'' L' N v :=
  ⟨DLSet.next hu.sub h.set.keep (hs.dl hu.det hu.lots), h.own.keepD hu.det hs.keep⟩
theorem TSt.dl {W2 w' w'' : World} {b g xl : Nat} {p0 p' : Parts} {d' d'' : Det} {L' L'' : List Int} {N : List Nt} {v : Value} (h : TSt W2 w' b p0 xl d' L' N v) (hu : TUse W2 w' b g p0 p' xl d' L') (hs : DLSet w' w'' b p' xl d'' L'') : TSt W2 w'' b p0 xl d'' L'' N v :=
  ⟨DLSet.next hu.sub h.set.keep hs, h.own.keepDL hu.det hu.lots hs.keep⟩
theorem TSt.post {W2 w' w'' : World} {b g xl : Nat} {p0 p' : Parts} {d' d'' : Det} {L' : List Int} {N X : List Nt} {v v' : Value} (h : TSt W2 w' b p0 xl d' L' N v) (hu : TUse W2 w' b g p0 p' xl d' L') (hs : HPost w' w'' W2.heap.size b p' xl v' X d'' L') : TSt W2 w'' b p0 xl d'' L' X v' :=
  ⟨(NLSet.next hu.sub (h.set.nl W2.heap.size).keep hs.set).dl (Nat.le_refl _), hs.own⟩
theorem TSt.fin {w W2 w' : World} {b g xl : Nat} {p : Parts} {d d' : Det} {L' : List Int} {N : List Nt} {v : Value} (h : TSt W2 w' b { p with vw := .slice none 0 0 } xl d' L' N v) (hc : Cleared w W2 b d p g) : TSet w w' b p xl v d' L' N :=
  ⟨h.own.mono hc.keep.size, DLSet.next hc.sub (hc.keep.mono fun _ h _ => .inl h) h.set⟩
set_option maxRecDepth 100000 in
set_option maxHeartbeats 4000000 in
theorem tick_det {w : World} {b xl : Nat} {d : Det} {p : Parts} {L : List Int} (h : IsDet w b d p) {n : Nat} (ho : KO n d) (hn : n < 137438953472) (hT : TabAt 0 B.tabS w) (hL : IsLots w xl L) (hxp : 0 < xl) :
    Calls Tryz.prog 12 #[.pointer (some ⟨b, 0, none⟩), .pointer (some ⟨xl, 0, none⟩)] w fun e w' => ∃ v, e = .returned v ∧ TSet w w' b p xl v (d.tick L).1 (d.tick L).2.1 (d.tick L).2.2 := by
  have c9 := h.c9
  have c8 := h.c8
  have c5 := h.c5
  have hb := h.lt (hb p b)
  have hxl := hL.lt
  obtain ⟨w0, hw0⟩ : ∃ w0, w0 = w.alloc (.cells #[.pointer (some ⟨b, 0, none⟩)] 31) := ⟨_, rfl⟩
  have k0 : Keep (fun _ => False) w w0 := by rw [hw0]; exact (Keep.refl _ w).alloc _
  have x0 : w0.cell? ⟨w.heap.size, 0, none⟩ = some (.pointer (some ⟨b, 0, none⟩)) := by rw [hw0]; exact alc _ _ _ _ _ rfl
  have u0 : w0.heap.size = w.heap.size + 1 := by rw [hw0]; simp
  have d9 := k0.cell c9
  have d8 := k0.cell c8
  have d5 := k0.cell c5
  have f8 : w0.frozen? ⟨b, 8, none⟩ = false := by simp [World.frozen?, (h.keep0 k0).blk]
  have HCL := Lib.hid (cleared h k0 x0)
  have HB := Lib.hid (tbase (cleared h k0 x0) h ho hT hL)
  have HK0 := Lib.hid k0
  have HS := Lib.hid h
  have HL := Lib.hid hL
  have HKO := Lib.hid ho
  have HN := Lib.hid hn
  have HT := Lib.hid hT
  have HXP := Lib.hid hxp
  have HLT : Hid (∀ j, w.heap.size ≤ j → ¬ p.has b j) := Lib.hid (fun j hj hp => absurd (h.lt hp) (by omega))
  have gb : ¬ w.heap.size = b := by omega
  clear h hL ho hn hT hxp k0 c9 c8 c5
  go_enter Tryz.func12, Tryz.ntmps12
  go_upto_region 1 with fail
  rw [← hw0]
  clear hw0
  cases hg : d.gone
  · rw [hg] at d9
    have HDE : Hid (d.tick L = tickF ((d.tickA L).1.tickC (d.tickA L).2.1) (d.tickA L).2.2 (nextP ((d.tickA L).1.tickC (d.tickA L).2.1).1.r.others ((d.tickA L).1.tickC (d.tickA L).2.1).1.left ((d.tickA L).1.tickC (d.tickA L).2.1).2)) := Lib.hid (tick_eq2 d L hg)
    clear hg
    have h8 := (HS.out.keep0 HK0.out).set8 (inc64 d.now)
    have y5 := h8.c5
    have f5 : (w0.setCell ⟨b, 8, none⟩ (.int .u64 (inc64 d.now))).frozen? ⟨b, 5, none⟩ = false := by simp [World.frozen?, h8.blk]
    have y0 := set_ne (W := w0) (n := b) (o' := 8) (x := .int .u64 (inc64 d.now)) gb x0
    clear h8
    obtain ⟨W1, hW1⟩ : ∃ W1, W1 = w0.setCell ⟨b, 8, none⟩ (.int .u64 (inc64 d.now)) := ⟨_, rfl⟩
    rw [← hW1] at y5 f5 y0 HCL HB
    change W1 = w0.setCell ⟨b, 8, none⟩ (.int .u64 (IntKind.u64.wrap (d.now + 1))) at hW1
    go_upto_region 4 with fail
    rw [← hW1]
    clear hW1 d8 d5 f8 d9 x0 HK0
    obtain ⟨W2, hW2⟩ : ∃ W2, W2 = W1.setCell ⟨b, 5, none⟩ (.slice none 0 0) := ⟨_, rfl⟩
    rw [← hW2] at HCL HB
    obtain ⟨A5, c5, hv5⟩ := HCL.out.old.shape
    rw [hv5] at y5
    have HOR : Hid (Row W2 96 4 (.slice A5 d.ws.length c5) d.ws.length (flat wtC d.ws)) := Lib.hid (by rw [← hv5]; exact HCL.out.old)
    go_upto_region 5 with fail
    refine wp_region_lit ?_
    iterate 4 (refine wpList_plain rfl fun K hK => ?_; go_simp; refine hK _ _ ?_; clear hK K)
    refine wpList_nil ?_
    rename_i hKK
    refine hKK _ _ ?_
    rw [← hW2]
    clear hW2 y5 f5 y0 hKK hv5
    -- the watches
    refine wp_seq_k fun K2 hK2 => ?_
    refine wp_cut _ ?rL (fun J K' hJ hK => tick_watches HB.out.det HB.out.ok HB.out.tab HB.out.lots HXP.out HB.out.box HB.out.ng (Nat.ne_of_gt hxl) HOR.out (HB.out.no96 HOR.out) (Nat.lt_of_le_of_lt HKO.out.ws (Nat.lt_trans HN.out (by decide))) _ _ _ _ _ _ _ _ _ _ _ _ _ _ _ _ _ _ _ _ _ _ _ _ _ _ _ _ _ _ _ _ _ _ _ _ _ _ _ _ _ _ _ _ _ _ _ _ _ _ _ _ _ _ _ _ _ _ _ _ _ _ _ _ _ _ _ _ _ _ _ _ _ _ _ _ _ _ _ _ _ _ _ _ _ _ _ _ _ _ _ _ _ _ _ _ _ _ _ _ _ _ _ _ _ _ _ _ _ _ _ _ _ _ _ _ _ _ _ _ _ _ _ _ _ _ _ _ _ _ _ _ _ _ _ _ _ _ _ _ _ _ _ _ _ _ _ _ _ _ _ _ _ _ _ _ _ _ _ _ _ _ _ _ _ _ _ _ _ _ _ _ _ _ _ _ _ _ _ _ _ _ _ _ _ _ _ _ _ _ _ _ _ _ _ J K' _ bp_panic hJ hK)
    case rL =>
      intro a' w3 hR
      refine Exists.elim hR fun u4 hR => ?_
      refine Exists.elim hR fun u7 hR => ?_
      refine Exists.elim hR fun u8 hR => ?_
      refine Exists.elim hR fun u9 hR => ?_
      refine Exists.elim hR fun u10 hR => ?_
      refine Exists.elim hR fun u12 hR => ?_
      refine Exists.elim hR fun u36 hR => ?_
      refine Exists.elim hR fun u37 hR => ?_
      refine Exists.elim hR fun u38 hR => ?_
      refine Exists.elim hR fun u39 hR => ?_
      refine Exists.elim hR fun u40 hR => ?_
      refine Exists.elim hR fun u41 hR => ?_
      refine Exists.elim hR fun u42 hR => ?_
      refine Exists.elim hR fun u43 hR => ?_
      refine Exists.elim hR fun u44 hR => ?_
      refine Exists.elim hR fun u45 hR => ?_
      refine Exists.elim hR fun u46 hR => ?_
      refine Exists.elim hR fun u47 hR => ?_
      refine Exists.elim hR fun u48 hR => ?_
      refine Exists.elim hR fun u49 hR => ?_
      refine Exists.elim hR fun u50 hR => ?_
      refine Exists.elim hR fun u51 hR => ?_
      refine Exists.elim hR fun u52 hR => ?_
      refine Exists.elim hR fun u53 hR => ?_
      refine Exists.elim hR fun u54 hR => ?_
      refine Exists.elim hR fun u55 hR => ?_
      refine Exists.elim hR fun u56 hR => ?_
      refine Exists.elim hR fun u57 hR => ?_
      refine Exists.elim hR fun u58 hR => ?_
      refine Exists.elim hR fun u59 hR => ?_
      refine Exists.elim hR fun u60 hR => ?_
      refine Exists.elim hR fun u61 hR => ?_
      refine Exists.elim hR fun u62 hR => ?_
      refine Exists.elim hR fun u63 hR => ?_
      refine Exists.elim hR fun u64 hR => ?_
      refine Exists.elim hR fun u65 hR => ?_
      refine Exists.elim hR fun u66 hR => ?_
      refine Exists.elim hR fun u67 hR => ?_
      refine Exists.elim hR fun u68 hR => ?_
      refine Exists.elim hR fun u69 hR => ?_
      refine Exists.elim hR fun u70 hR => ?_
      refine Exists.elim hR fun u71 hR => ?_
      refine Exists.elim hR fun u72 hR => ?_
      refine Exists.elim hR fun u73 hR => ?_
      refine Exists.elim hR fun u74 hR => ?_
      refine Exists.elim hR fun u75 hR => ?_
      refine Exists.elim hR fun u76 hR => ?_
      refine Exists.elim hR fun u77 hR => ?_
      refine Exists.elim hR fun u78 hR => ?_
      refine Exists.elim hR fun u79 hR => ?_
      refine Exists.elim hR fun u80 hR => ?_
      refine Exists.elim hR fun u81 hR => ?_
      refine Exists.elim hR fun u82 hR => ?_
      refine Exists.elim hR fun u83 hR => ?_
      refine Exists.elim hR fun u84 hR => ?_
      refine Exists.elim hR fun u85 hR => ?_
      refine Exists.elim hR fun u86 hR => ?_
      refine Exists.elim hR fun u87 hR => ?_
      refine Exists.elim hR fun u88 hR => ?_
      refine Exists.elim hR fun u89 hR => ?_
      refine Exists.elim hR fun u90 hR => ?_
      refine Exists.elim hR fun u91 hR => ?_
      refine Exists.elim hR fun u92 hR => ?_
      refine Exists.elim hR fun u93 hR => ?_
      refine Exists.elim hR fun u94 hR => ?_
      refine Exists.elim hR fun u95 hR => ?_
      refine Exists.elim hR fun u96 hR => ?_
      refine Exists.elim hR fun u97 hR => ?_
      refine Exists.elim hR fun u98 hR => ?_
      refine Exists.elim hR fun u99 hR => ?_
      refine Exists.elim hR fun u100 hR => ?_
      refine Exists.elim hR fun u101 hR => ?_
      refine Exists.elim hR fun u102 hR => ?_
      refine Exists.elim hR fun u103 hR => ?_
      refine Exists.elim hR fun u104 hR => ?_
      refine Exists.elim hR fun u105 hR => ?_
      refine Exists.elim hR fun u106 hR => ?_
      refine Exists.elim hR fun u107 hR => ?_
      refine Exists.elim hR fun u108 hR => ?_
      refine Exists.elim hR fun u109 hR => ?_
      refine Exists.elim hR fun u110 hR => ?_
      refine Exists.elim hR fun u111 hR => ?_
      refine Exists.elim hR fun u112 hR => ?_
      refine Exists.elim hR fun u113 hR => ?_
      refine Exists.elim hR fun u114 hR => ?_
      refine Exists.elim hR fun u115 hR => ?_
      refine Exists.elim hR fun u116 hR => ?_
      refine Exists.elim hR fun u117 hR => ?_
      refine Exists.elim hR fun u118 hR => ?_
      refine Exists.elim hR fun u119 hR => ?_
      refine Exists.elim hR fun u120 hR => ?_
      refine Exists.elim hR fun u121 hR => ?_
      refine Exists.elim hR fun u122 hR => ?_
      refine Exists.elim hR fun u123 hR => ?_
      refine Exists.elim hR fun u124 hR => ?_
      refine Exists.elim hR fun u125 hR => ?_
      obtain ⟨hrel, ha⟩ := hR
      subst ha
      have hA : TSt W2 w3 b { p with vw := .slice none 0 0 } xl (d.tickA L).1 (d.tickA L).2.1 (d.tickA L).2.2 u4 := ⟨hrel.set, hrel.own⟩
      have hkA : KO n (d.tickA L).1 := tickA_ko HKO.out L
      have hlA : (d.tickA L).2.2.length ≤ 2 * n := Nat.le_trans hrel.len (Nat.mul_le_mul_left 2 HKO.out.ws)
      refine hK2 _ _ ?_
      clear hrel hK2 K2
      generalize d.tickA L = tA at *
      obtain ⟨dA, LA, NA⟩ := tA
      simp only at hA hkA hlA HDE
      have HKA := Lib.hid hkA
      have HLA := Lib.hid hlA
      obtain ⟨p3, hu3⟩ := hA.use HB.out HXP.out (Nat.ne_of_gt hxl)
      have HU3 := Lib.hid hu3
      have HA := Lib.hid hA
      clear hA hkA hlA hu3
      -- the errands
      refine wp_seq_k fun K3 hK3 => ?_
      refine wp_cut _ ?rE (fun J K' hJ hK => tick_errands HU3.out.det (Nat.lt_of_le_of_lt HKA.out.es (by decide)) HU3.out.box HU3.out.ng _ _ _ _ _ _ _ _ _ _ _ _ _ _ _ _ _ _ _ _ _ _ _ _ _ _ _ _ _ _ _ _ _ _ _ _ _ _ _ _ _ _ _ _ _ _ _ _ _ _ _ _ _ _ _ _ _ _ _ _ _ _ _ _ _ _ _ _ _ _ _ _ _ _ _ _ _ _ _ _ _ _ _ _ _ _ _ _ _ _ _ _ _ _ _ _ _ _ _ _ _ _ _ _ _ _ _ _ _ _ _ _ _ _ _ _ _ _ _ _ _ _ _ _ _ _ _ _ _ _ _ _ _ _ _ _ _ _ _ _ _ _ _ _ _ _ _ _ _ _ _ _ _ _ _ _ _ _ _ _ _ _ _ _ _ _ _ _ _ _ _ _ _ _ _ _ _ _ _ _ _ _ _ _ _ _ _ _ _ _ _ _ _ _ _ _ _ _ J K' _ bp_panic hJ hK)
      case rE =>
        intro a' w4 hR
        refine Exists.elim hR fun u126 hR => ?_
        refine Exists.elim hR fun u127 hR => ?_
        refine Exists.elim hR fun u128 hR => ?_
        refine Exists.elim hR fun u129 hR => ?_
        refine Exists.elim hR fun u130 hR => ?_
        refine Exists.elim hR fun u131 hR => ?_
        refine Exists.elim hR fun u132 hR => ?_
        refine Exists.elim hR fun u133 hR => ?_
        refine Exists.elim hR fun u134 hR => ?_
        obtain ⟨hrel, ha⟩ := hR
        subst ha
        have hB := HA.out.d HU3.out hrel
        have hkB : KO n { dA with es := dA.es.filter fun x => !decide (4 ≤ sub64 dA.now x.a) } := set_es_ko HKA.out (Nat.le_trans (List.length_filter_le _ _) HKA.out.es)
        obtain ⟨p4, hu4⟩ := hB.use HB.out HXP.out (Nat.ne_of_gt hxl)
        have HB4 := Lib.hid hB
        have HKB := Lib.hid hkB
        have HU4 := Lib.hid hu4
        refine hK3 _ _ ?_
        clear hrel hK3 K3 hB hkB hu4 HA HU3
        -- the doubts that are over
        refine wp_seq_k fun K4 hK4 => ?_
        refine wp_cut _ ?rO (fun J K' hJ hK => tick_overs HU4.out.det HKB.out HU4.out.tab HU4.out.lots HXP.out HU4.out.box HU4.out.ng (Nat.ne_of_gt hxl) _ _ _ _ _ _ _ _ _ _ _ _ _ _ _ _ _ _ _ _ _ _ _ _ _ _ _ _ _ _ _ _ _ _ _ _ _ _ _ _ _ _ _ _ _ _ _ _ _ _ _ _ _ _ _ _ _ _ _ _ _ _ _ _ _ _ _ _ _ _ _ _ _ _ _ _ _ _ _ _ _ _ _ _ _ _ _ _ _ _ _ _ _ _ _ _ _ _ _ _ _ _ _ _ _ _ _ _ _ _ _ _ _ _ _ _ _ _ _ _ _ _ _ _ _ _ _ _ _ _ _ _ _ _ _ _ _ _ _ _ _ _ _ _ _ _ _ _ _ _ _ _ _ _ _ _ _ _ _ _ _ _ _ _ _ _ _ _ _ _ _ _ _ _ _ _ _ _ _ _ _ _ _ _ _ _ _ _ _ _ _ _ _ _ _ _ _ J K' _ bp_panic hJ hK)
        case rO =>
          intro a' w5 hR
          refine Exists.elim hR fun u14 hR => ?_
          refine Exists.elim hR fun u135 hR => ?_
          refine Exists.elim hR fun u136 hR => ?_
          refine Exists.elim hR fun u137 hR => ?_
          refine Exists.elim hR fun u138 hR => ?_
          refine Exists.elim hR fun u139 hR => ?_
          refine Exists.elim hR fun u140 hR => ?_
          refine Exists.elim hR fun u141 hR => ?_
          refine Exists.elim hR fun u142 hR => ?_
          refine Exists.elim hR fun u143 hR => ?_
          refine Exists.elim hR fun u144 hR => ?_
          refine Exists.elim hR fun u145 hR => ?_
          refine Exists.elim hR fun u146 hR => ?_
          refine Exists.elim hR fun u147 hR => ?_
          refine Exists.elim hR fun u148 hR => ?_
          refine Exists.elim hR fun u149 hR => ?_
          refine Exists.elim hR fun u150 hR => ?_
          refine Exists.elim hR fun u151 hR => ?_
          refine Exists.elim hR fun u152 hR => ?_
          refine Exists.elim hR fun u153 hR => ?_
          refine Exists.elim hR fun u154 hR => ?_
          refine Exists.elim hR fun u155 hR => ?_
          refine Exists.elim hR fun u156 hR => ?_
          obtain ⟨hrel, ha⟩ := hR
          subst ha
          have hC : TSt W2 w5 b { p with vw := .slice none 0 0 } xl (dA.tickC LA).1 (dA.tickC LA).2 NA u4 := HB4.out.dl HU4.out hrel
          have hkC : KO n (dA.tickC LA).1 := tickC_ko HKA.out LA
          refine hK4 _ _ ?_
          clear hrel hK4 K4 HB4 HKB HU4 HKA
          generalize dA.tickC LA = tC at *
          obtain ⟨dC, LC⟩ := tC
          simp only at hC hkC HDE
          obtain ⟨p5, hu5⟩ := hC.use HB.out HXP.out (Nat.ne_of_gt hxl)
          have HC := Lib.hid hC
          have HKC := Lib.hid hkC
          have HU5 := Lib.hid hu5
          clear hC hkC hu5
          -- who is next
          refine wp_seq_k fun K5 hK5 => ?_
          refine wp_cut _ ?rX (fun J K' hJ hK => tick_next HU5.out.det HKC.out HU5.out.tab HU5.out.lots HU5.out.box HU5.out.ng (Nat.ne_of_gt hxl) _ _ _ _ _ _ _ _ _ _ _ _ _ _ _ _ _ _ _ _ _ _ _ _ _ _ _ _ _ _ _ _ _ _ _ _ _ _ _ _ _ _ _ _ _ _ _ _ _ _ _ _ _ _ _ _ _ _ _ _ _ _ _ _ _ _ _ _ _ _ _ _ _ _ _ _ _ _ _ _ _ _ _ _ _ _ _ _ _ _ _ _ _ _ _ _ _ _ _ _ _ _ _ _ _ _ _ _ _ _ _ _ _ _ _ _ _ _ _ _ _ _ _ _ _ _ _ _ _ _ _ _ _ _ _ _ _ _ _ _ _ _ _ _ _ _ _ _ _ _ _ _ _ _ _ _ _ _ _ _ _ _ _ _ _ _ _ _ _ _ _ _ _ _ _ _ _ _ _ _ _ _ _ _ _ _ _ _ _ _ _ _ _ _ _ _ _ J K' _ bp_panic hJ hK)
          case rX =>
            intro a' w6 hR
            refine Exists.elim hR fun u15 hR => ?_
            refine Exists.elim hR fun u16 hR => ?_
            refine Exists.elim hR fun u157 hR => ?_
            refine Exists.elim hR fun u158 hR => ?_
            refine Exists.elim hR fun u159 hR => ?_
            refine Exists.elim hR fun u160 hR => ?_
            refine Exists.elim hR fun u161 hR => ?_
            refine Exists.elim hR fun u162 hR => ?_
            refine Exists.elim hR fun u163 hR => ?_
            refine Exists.elim hR fun u164 hR => ?_
            refine Exists.elim hR fun u165 hR => ?_
            refine Exists.elim hR fun u166 hR => ?_
            refine Exists.elim hR fun u167 hR => ?_
            refine Exists.elim hR fun u168 hR => ?_
            refine Exists.elim hR fun u169 hR => ?_
            obtain ⟨hrel, ha⟩ := hR
            subst ha
            refine hK5 _ _ ?_
            clear hK5 K5
            rcases hrel.or with ⟨hnx, rfl, hds⟩ | ⟨m, left', L', hnx, rfl, rfl, hds⟩
            · have hF := HC.out.dl HU5.out hds
              have HF : Hid (TSet w w6 b p xl u4 (d.tick L).1 (d.tick L).2.1 (d.tick L).2.2) := Lib.hid (by
                rw [HDE.out, hnx]
                exact hF.fin HCL.out)
              clear hrel hnx hds hF
              go_wp2_with fail
              go_ret
              exact ⟨_, rfl, HF.out⟩
            · have hN := HC.out.dl HU5.out hds
              have hkN : LOk left' := (nextP_ok HKC.out.ok.left (bList_ok _) hnx).1
              obtain ⟨p6, hu6⟩ := hN.use HB.out HXP.out (Nat.ne_of_gt hxl)
              have hpg := ping_det hu6.det
              have HPG := Lib.hid hpg
              have hNs := hN.d hu6 ⟨⟨p6, hu6.det.set7 (inc64 dC.seq), fun _ h => .inl h⟩, hu6.det.keep_set 7 (.int .u64 (inc64 dC.seq))⟩
              have HDE2 : Hid (d.tick L = ((dC.tickD m left').1, L', NA ++ [(dC.tickD m left').2])) := Lib.hid (by rw [HDE.out, hnx]; rfl)
              have HKN : Hid (KO n ({ { dC with left := left' } with seq := inc64 dC.seq } : Det)) := Lib.hid ⟨⟨hkN, HKC.out.ok.r, HKC.out.ok.q, HKC.out.ok.d, HKC.out.ok.now, inc64_in _⟩, ⟨HKC.out.io.kn, HKC.out.io.dd⟩, HKC.out.ws, HKC.out.es⟩
              obtain ⟨p7, hu7⟩ := hNs.use HB.out HXP.out (Nat.ne_of_gt hxl)
              have HN7 := Lib.hid hNs
              have HU7 := Lib.hid hu7
              have zx := hu6.box
              clear hrel hnx hds hN hkN hu6 hpg hNs hu7 HDE HC HU5
              go_wp2_with fail
              refine HPG.out.mono ?_
              rintro e w7 ⟨rfl, rfl⟩
              obtain ⟨w7, hw7⟩ : ∃ w7, w7 = w6.setCell ⟨b, 7, none⟩ (.int .u64 (inc64 dC.seq)) := ⟨_, rfl⟩
              rw [← hw7] at HN7 HU7
              go_upto_region 33 with fail
              rw [← hw7]
              clear hw7 HPG zx
              refine wp_cut _ ?r1 (fun J K' hJ hK => tick_pinged HU7.out.det (Nat.lt_of_le_of_lt HKN.out.ws (Nat.lt_trans HN.out (by decide))) HU7.out.box HU7.out.ng m (inc64 dC.seq) _ _ _ _ _ _ _ _ _ _ _ _ _ _ _ _ _ _ _ _ _ _ _ _ _ _ _ _ _ _ _ _ _ _ _ _ _ _ _ _ _ _ _ _ _ _ _ _ _ _ _ _ _ _ _ _ _ _ _ _ _ _ _ _ _ _ _ _ _ _ _ _ _ _ _ _ _ _ _ _ _ _ _ _ _ _ _ _ _ _ _ _ _ _ _ _ _ _ _ _ _ _ _ _ _ _ _ _ _ _ _ _ _ _ _ _ _ _ _ _ _ _ _ _ _ _ _ _ _ _ _ _ _ _ _ _ _ _ _ _ _ _ _ _ _ _ _ _ _ _ _ _ _ _ _ _ _ _ _ _ _ _ _ _ _ _ _ _ _ _ _ _ _ _ _ _ _ _ _ _ _ _ _ _ _ _ _ _ _ _ _ _ _ _ _ _ J K' _ bp_panic hJ hK)
              case r1 =>
                intro a' w8 hR
                refine Exists.elim hR fun u175 hR => ?_
                refine Exists.elim hR fun u176 hR => ?_
                refine Exists.elim hR fun u177 hR => ?_
                refine Exists.elim hR fun u178 hR => ?_
                refine Exists.elim hR fun u179 hR => ?_
                refine Exists.elim hR fun u180 hR => ?_
                refine Exists.elim hR fun u181 hR => ?_
                refine Exists.elim hR fun u182 hR => ?_
                refine Exists.elim hR fun u183 hR => ?_
                refine Exists.elim hR fun u184 hR => ?_
                refine Exists.elim hR fun u185 hR => ?_
                refine Exists.elim hR fun u186 hR => ?_
                refine Exists.elim hR fun u187 hR => ?_
                refine Exists.elim hR fun u188 hR => ?_
                refine Exists.elim hR fun u189 hR => ?_
                refine Exists.elim hR fun u190 hR => ?_
                obtain ⟨hrel, ha⟩ := hR
                subst ha
                have hM := HN7.out.d HU7.out hrel
                obtain ⟨p8, hu8⟩ := hM.use HB.out HXP.out (Nat.ne_of_gt hxl)
                have HM := Lib.hid hM
                have HU8 := Lib.hid hu8
                have HKM : Hid (KO (n + 1) ({ ({ { dC with left := left' } with seq := inc64 dC.seq } : Det) with ws := dC.ws ++ [⟨m, inc64 dC.seq, dC.now, false⟩] } : Det)) := Lib.hid (set_ws_ko HKN.out (by rw [List.length_append]; have := HKC.out.ws; simpa using this))
                clear hrel hM hu8 HN7 HU7
                go_upto_region 34 with fail
                refine wp_cut _ ?r2 (fun J K' hJ hK => tick_said HU8.out.det HKM.out HU8.out.tab HU8.out.lots HU8.out.box HU8.out.ng (Nat.not_le.2 HB.out.gl) HM.out.own HU8.out.size (tk_bd HLA.out HN.out) m (inc64 dC.seq) _ _ _ _ _ _ _ _ _ _ _ _ _ _ _ _ _ _ _ _ _ _ _ _ _ _ _ _ _ _ _ _ _ _ _ _ _ _ _ _ _ _ _ _ _ _ _ _ _ _ _ _ _ _ _ _ _ _ _ _ _ _ _ _ _ _ _ _ _ _ _ _ _ _ _ _ _ _ _ _ _ _ _ _ _ _ _ _ _ _ _ _ _ _ _ _ _ _ _ _ _ _ _ _ _ _ _ _ _ _ _ _ _ _ _ _ _ _ _ _ _ _ _ _ _ _ _ _ _ _ _ _ _ _ _ _ _ _ _ _ _ _ _ _ _ _ _ _ _ _ _ _ _ _ _ _ _ _ _ _ _ _ _ _ _ _ _ _ _ _ _ _ _ _ _ _ _ _ _ _ _ _ _ _ _ _ _ _ _ _ _ _ _ _ _ J K' _ bp_panic hJ hK)
                case r2 =>
                  intro a' w9 hR
                  refine Exists.elim hR fun u4 hR => ?_
                  refine Exists.elim hR fun u191 hR => ?_
                  refine Exists.elim hR fun u192 hR => ?_
                  refine Exists.elim hR fun u193 hR => ?_
                  refine Exists.elim hR fun u194 hR => ?_
                  refine Exists.elim hR fun u195 hR => ?_
                  refine Exists.elim hR fun u196 hR => ?_
                  refine Exists.elim hR fun u197 hR => ?_
                  refine Exists.elim hR fun u198 hR => ?_
                  obtain ⟨hrel, ha⟩ := hR
                  subst ha
                  have HF : Hid (TSet w w9 b p xl u4 (d.tick L).1 (d.tick L).2.1 (d.tick L).2.2) := Lib.hid (by
                    rw [HDE2.out]
                    exact (HM.out.post HU8.out hrel).fin HCL.out)
                  clear hrel HM HU8 HKM HDE2
                  go_wp2_with fail
                  go_ret
                  exact ⟨_, rfl, HF.out⟩
  · rw [hg] at d9
    have HDE : Hid (d.tick L = (d, L, [])) := Lib.hid (by rw [tick_eq, if_pos hg])
    clear hg
    go_wp2_with fail
    go_ret
    refine ⟨_, rfl, ?_, ?_⟩
    · rw [HDE.out]
      exact OwnNts.nil _ _
    · rw [HDE.out]
      exact (DSet.same HS.out HK0.out).dl HS.out HL.out
end Go.Proofs.YtofonfohaocclaaGreatDoor
