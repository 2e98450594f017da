/- Walk of Detector.Tick: a watch that is too old. -/
import Derived.Test.YtofonfohaocclaaGreatDoorG26
namespace Go.Proofs.YtofonfohaocclaaGreatDoor
open Go.RowKit Sh
open Go.ChangeMaps (setBlock)
set_option linter.unusedVariables false

theorem watch_aged (d : Det) (L : List Int) (w : Wt) (h : 4 ≤ sub64 d.now w.a) : d.watch L w = if (d.r.get w.n).2 && decide ((d.r.get w.n).1.s = 0) then ((d.take L ⟨w.n, (d.r.get w.n).1.i, 1⟩ d.r.me).1, (d.take L ⟨w.n, (d.r.get w.n).1.i, 1⟩ d.r.me).2.1, []) else (d, L, []) := by
  unfold Det.watch
  simp only
  rw [if_pos h]
set_option maxRecDepth 100000 in
set_option maxHeartbeats 4000000 in
theorem tick_aged {W : World} {b g g7 xl : Nat} {d : Det} {p : Parts} {n : Nat} {L : List Int} (h : IsDet W b d p) (ho : KO n d) (hT : TabAt 0 B.tabS W) (hL : IsLots W xl L) (hxp : 0 < xl) (hx : W.cell? ⟨g, 0, none⟩ = some (.pointer (some ⟨b, 0, none⟩))) (wt : Wt) (h7 : W.heap[g7]? = some (.cells (wtC wt).toArray 96 (0, 0))) (hage : 4 ≤ sub64 d.now wt.a) (x0 x3 x4 x5 x6 x8 x9 x10 x11 x12 x13 x14 x15 x16 x17 x18 x19 x20 x21 x22 x23 x24 x25 x26 x27 x28 x29 x30 x31 x32 x33 x34 x35 x36 x37 x38 x39 x40 x41 x42 x43 x44 x45 x46 x47 x48 x49 x50 x51 x52 x53 x54 x55 x56 x57 x58 x59 x60 x61 x62 x63 x64 x65 x66 x67 x68 x69 x70 x71 x72 x73 x74 x75 x76 x77 x78 x79 x80 x81 x82 x83 x84 x85 x86 x87 x88 x89 x90 x91 x92 x93 x94 x95 x96 x97 x98 x99 x100 x101 x102 x103 x104 x105 x106 x107 x108 x109 x110 x111 x112 x113 x114 x115 x116 x117 x118 x119 x120 x121 x122 x123 x124 x125 x126 x127 x128 x129 x130 x131 x132 x133 x134 x135 x136 x137 x138 x139 x140 x141 x142 x143 x144 x145 x146 x147 x148 x149 x150 x151 x152 x153 x154 x155 x156 x157 x158 x159 x160 x161 x162 x163 x164 x165 x166 x167 x168 x169 x170 x171 x172 x173 x174 x175 x176 x177 x178 x179 x180 x181 x182 x183 x184 x185 x186 x187 x188 x189 x190 x191 x192 x193 x194 x195 x196 x197 x198 : Value) (J K : Act → World → Prop) (Q : Exit → Act → World → Prop)
    (hJ : ∀ a' w', (fun a' w' => ∃ u9, ∃ u10, ∃ u52, ∃ u53, ∃ u54, ∃ u55, ∃ u56, ∃ u57, ∃ u58, ∃ u59, ∃ u60, ∃ u61, ∃ u62, ∃ u63, ∃ u64, ∃ u65, ∃ u66, ∃ u67, ∃ u68, ∃ u69, ∃ u70, ∃ u71, ∃ u72, ∃ u73, ∃ u74, ∃ u75, ∃ u76, ∃ u77, ∃ u78, ∃ u79, (DLSet W w' b p xl (d.watch L wt).1 (d.watch L wt).2.1) ∧ a' = ⟨List.toArray (x0 :: .pointer (some ⟨xl, 0, none⟩) :: .pointer (some ⟨g, 0, none⟩) :: x3 :: x4 :: x5 :: x6 :: .pointer (some ⟨g7, 0, none⟩) :: x8 :: u9 :: u10 :: x11 :: x12 :: x13 :: x14 :: x15 :: x16 :: x17 :: x18 :: x19 :: x20 :: x21 :: x22 :: x23 :: x24 :: x25 :: x26 :: x27 :: x28 :: x29 :: x30 :: x31 :: x32 :: x33 :: x34 :: x35 :: x36 :: x37 :: x38 :: x39 :: x40 :: x41 :: x42 :: x43 :: x44 :: x45 :: x46 :: x47 :: x48 :: x49 :: x50 :: x51 :: u52 :: u53 :: u54 :: u55 :: u56 :: u57 :: u58 :: u59 :: u60 :: u61 :: u62 :: u63 :: u64 :: u65 :: u66 :: u67 :: u68 :: u69 :: u70 :: u71 :: u72 :: u73 :: u74 :: u75 :: u76 :: u77 :: u78 :: u79 :: x80 :: x81 :: x82 :: x83 :: x84 :: x85 :: x86 :: x87 :: x88 :: x89 :: x90 :: x91 :: x92 :: x93 :: x94 :: x95 :: x96 :: x97 :: x98 :: x99 :: x100 :: x101 :: x102 :: x103 :: x104 :: x105 :: x106 :: x107 :: x108 :: x109 :: x110 :: x111 :: x112 :: x113 :: x114 :: x115 :: x116 :: x117 :: x118 :: x119 :: x120 :: x121 :: x122 :: x123 :: x124 :: x125 :: x126 :: x127 :: x128 :: x129 :: x130 :: x131 :: x132 :: x133 :: x134 :: x135 :: x136 :: x137 :: x138 :: x139 :: x140 :: x141 :: x142 :: x143 :: x144 :: x145 :: x146 :: x147 :: x148 :: x149 :: x150 :: x151 :: x152 :: x153 :: x154 :: x155 :: x156 :: x157 :: x158 :: x159 :: x160 :: x161 :: x162 :: x163 :: x164 :: x165 :: x166 :: x167 :: x168 :: x169 :: x170 :: x171 :: x172 :: x173 :: x174 :: x175 :: x176 :: x177 :: x178 :: x179 :: x180 :: x181 :: x182 :: x183 :: x184 :: x185 :: x186 :: x187 :: x188 :: x189 :: x190 :: x191 :: x192 :: x193 :: x194 :: x195 :: x196 :: x197 :: x198 :: []), []⟩) a' w' → J a' w') (hK : ∀ a' w', Met J a' w' → K a' w') :
    Code.wp Tryz.prog (fSub Tryz.f12 [1, 1, 1, 1, 1, 0, 1, 0, 0, 1, 1, 0, 0, 1, 0, 1, 0, 1, 0, 0]) (Exit.then K Q) ⟨List.toArray (x0 :: .pointer (some ⟨xl, 0, none⟩) :: .pointer (some ⟨g, 0, none⟩) :: x3 :: x4 :: x5 :: x6 :: .pointer (some ⟨g7, 0, none⟩) :: x8 :: x9 :: x10 :: x11 :: x12 :: x13 :: x14 :: x15 :: x16 :: x17 :: x18 :: x19 :: x20 :: x21 :: x22 :: x23 :: x24 :: x25 :: x26 :: x27 :: x28 :: x29 :: x30 :: x31 :: x32 :: x33 :: x34 :: x35 :: x36 :: x37 :: x38 :: x39 :: x40 :: x41 :: x42 :: x43 :: x44 :: x45 :: x46 :: x47 :: x48 :: x49 :: x50 :: x51 :: x52 :: x53 :: x54 :: x55 :: x56 :: x57 :: x58 :: x59 :: x60 :: x61 :: x62 :: x63 :: x64 :: x65 :: x66 :: x67 :: x68 :: x69 :: x70 :: x71 :: x72 :: x73 :: x74 :: x75 :: x76 :: x77 :: x78 :: x79 :: x80 :: x81 :: x82 :: x83 :: x84 :: x85 :: x86 :: x87 :: x88 :: x89 :: x90 :: x91 :: x92 :: x93 :: x94 :: x95 :: x96 :: x97 :: x98 :: x99 :: x100 :: x101 :: x102 :: x103 :: x104 :: x105 :: x106 :: x107 :: x108 :: x109 :: x110 :: x111 :: x112 :: x113 :: x114 :: x115 :: x116 :: x117 :: x118 :: x119 :: x120 :: x121 :: x122 :: x123 :: x124 :: x125 :: x126 :: x127 :: x128 :: x129 :: x130 :: x131 :: x132 :: x133 :: x134 :: x135 :: x136 :: x137 :: x138 :: x139 :: x140 :: x141 :: x142 :: x143 :: x144 :: x145 :: x146 :: x147 :: x148 :: x149 :: x150 :: x151 :: x152 :: x153 :: x154 :: x155 :: x156 :: x157 :: x158 :: x159 :: x160 :: x161 :: x162 :: x163 :: x164 :: x165 :: x166 :: x167 :: x168 :: x169 :: x170 :: x171 :: x172 :: x173 :: x174 :: x175 :: x176 :: x177 :: x178 :: x179 :: x180 :: x181 :: x182 :: x183 :: x184 :: x185 :: x186 :: x187 :: x188 :: x189 :: x190 :: x191 :: x192 :: x193 :: x194 :: x195 :: x196 :: x197 :: x198 :: []), []⟩ W := by
  conv => arg 2; whnf
  have e0 := h.c0
  have e2 := h.c2
  have y1 : W.cell? ⟨g7, 0, none⟩ = some (.int .i64 wt.n) := by simp [World.cell?, h7, wtC]
  have hgt := fun W' (k : Keep (fun _ => False) W W') => get_any (h.keep0 k).rol ho.ok.r wt.n
  have ub := h.lt (hb p b)
  have ug : g < W.heap.size := World.block_lt_of_cell? W _ hx
  have u7 : g7 < W.heap.size := World.block_lt_of_cell? W _ y1
  have hwt := watch_aged d L wt hage
  have hin := get_in ho.io.kn wt.n
  have HJ := Lib.hid hJ
  have HK := Lib.hid hK
  have HS := Lib.hid h
  have HKO := Lib.hid ho
  have HT := Lib.hid hT
  have HL := Lib.hid hL
  have HXP := Lib.hid hxp
  obtain ⟨tn, ts, ta, th⟩ := wt
  simp only at y1 hgt hin hwt hJ
  unfold uV at hgt
  generalize hgtd : d.r.get tn = gt at *
  obtain ⟨⟨gn, gi, gs⟩, gb⟩ := gt
  simp only at hgt hin hwt
  have HGT := Lib.hid hgt
  have HWT := Lib.hid hwt
  have HIN := Lib.hid hin
  clear h ho hT hL hxp h7 hage hgt hwt hin hgtd
  go_upto_region 11 with fail
  go_cut [9, 10] from 52 to 61 (fun v9 v10 wx => CutS2 W wx gn gi gs gb v9 v10)
  case first =>
    have S0 := And.intro e0 (And.intro y1 hx)
    go_region_held3 (fun W' => W'.cell? ⟨b, 0, none⟩ = some (.pointer (some ⟨p.rb, 0, none⟩)) ∧ W'.cell? ⟨g7, 0, none⟩ = some (.int .i64 tn) ∧ W'.cell? ⟨g, 0, none⟩ = some (.pointer (some ⟨b, 0, none⟩))) (first | assumption | go_keep | ((refine And.intro ?_ (And.intro ?_ ?_)) <;> ((repeat (first | assumption | refine set_ne (by omega) ?_)); done))) (first | (go_at_call 31; refine (HGT.out _ (by repeat (first | assumption | exact Sh.Keep.refl _ _ | refine Sh.Keep.drew ?_ | refine Sh.Keep.alloc ?_ _ | refine Sh.Keep.step ?_ (by assumption)))).mono ?_; rintro e w3 ⟨rfl, hk3⟩; have kv3 : Keep (fun _ => False) W w3 := (by repeat (first | assumption | exact Sh.Keep.refl _ _ | refine Sh.Keep.drew ?_ | refine Sh.Keep.alloc ?_ _ | refine Sh.Keep.step ?_ (by assumption))); have uv3 := kv3.size; have sw3 := And.intro (kv3.cell e0) (And.intro (kv3.cell y1) (kv3.cell hx)); have sx3 := sw3.1; have sy3 := sw3.2.1; have sz3 := sw3.2.2; (first | (have z0 := hk3.cell (azd0 _); have f0 := hk3.fro (azd0 _) (alfd _ _ _ 0)) | (have z0 := hk3.cell (az0 _); have f0 := hk3.fro (az0 _) (alf _ _ _ 0)) | skip); (first | (have z1 := hk3.cell (azd1 _); have f1 := hk3.fro (azd1 _) (alfd _ _ _ 1)) | (have z1 := hk3.cell (az1 _); have f1 := hk3.fro (az1 _) (alf _ _ _ 1)) | skip); (first | (have z2 := hk3.cell (azd2 _); have f2 := hk3.fro (azd2 _) (alfd _ _ _ 2)) | (have z2 := hk3.cell (az2 _); have f2 := hk3.fro (az2 _) (alf _ _ _ 2)) | skip)))
    all_goals
      go_wp2_with fail
      go_meet
      first
        | exact ⟨rfl, ⟨_, rfl, alc3 _ _ _ _ _, by omega⟩, Sh.Keep.alloc (by assumption) _⟩
        | exact ⟨rfl, ⟨_, rfl, set3 (by assumption) (by assumption) (by assumption), by omega⟩, (((by assumption : Keep (fun _ => False) W _).setNew _ (by omega)).setNew _ (by omega)).setNew _ (by omega)⟩
  case rest =>
    obtain ⟨rfl, ⟨g2, rfl, ⟨n0, n1, n2⟩, hg2⟩, kc2⟩ := hcut
    obtain ⟨w3, hw3⟩ : ∃ w3, w3 = wc := ⟨_, rfl⟩
    rw [← hw3] at n0 n1 n2 kc2 ⊢
    clear hw3
    have z1 := kc2.cell y1
    have zx := kc2.cell hx
    have z2 := kc2.cell e2
    have KC := Lib.hid kc2
    clear y1 hx e0 e2 kc2 HGT
    cases gb
    · have HD : Hid (DLSet W w3 b p xl (d.watch L ⟨tn, ts, ta, th⟩).1 (d.watch L ⟨tn, ts, ta, th⟩).2.1) := Lib.hid (by rw [HWT.out]; exact (DSet.same HS.out KC.out).dl HS.out HL.out)
      clear HWT HS HKO HT HL HXP HIN KC
      go_wp2_with fail
      go_meet
      exact HD.out
    · by_cases h0 : gs = 0
      · have HW2 : Hid (d.watch L ⟨tn, ts, ta, th⟩ = ((d.take L ⟨tn, gi, 1⟩ d.r.me).1, (d.take L ⟨tn, gi, 1⟩ d.r.me).2.1, [])) := Lib.hid (by rw [HWT.out, if_pos (by rw [h0]; rfl)])
        have HTK := Lib.hid (fun W' (k : Keep (fun _ => False) w3 W') => take_det ((HS.out.keep0 KC.out).keep0 k) HKO.out.ok (B.tab_keep (B.tab_keep HT.out KC.out id) k id) ((HL.out.keep0 KC.out).keep0 k) ⟨tn, gi, 1⟩ HIN.out d.r.me)
        have t0 : (gs == 0) = true := by rw [beq_iff_eq]; exact h0
        have t1 : decide (gs = 0) = true := decide_eq_true h0
        have HD : Hid (∀ w', DLSet w3 w' b p xl (d.take L ⟨tn, gi, 1⟩ d.r.me).1 (d.take L ⟨tn, gi, 1⟩ d.r.me).2.1 → DLSet W w' b p xl (d.watch L ⟨tn, ts, ta, th⟩).1 (d.watch L ⟨tn, ts, ta, th⟩).2.1) := Lib.hid (fun w' hs => by rw [HW2.out]; exact DLSet.next (fun k hk => .inl hk) (KC.out.mono fun _ h _ => h.elim) hs)
        clear HWT HW2 HS HKO HT HL HXP HIN KC h0
        generalize d.take L ⟨tn, gi, 1⟩ d.r.me = r at *
        go_upto_region 13 with fail
        go_still_tail 11, (by kernel_rfl)
        go_wp2_with fail
        refine (HTK.out _ ((Keep.refl _ w3).drew)).mono ?_
        rintro e w4 ⟨rfl, hs4⟩
        have HF := Lib.hid (HD.out w4 (DLSet.next (fun k hk => .inl hk) (((Keep.refl (fun _ => False) w3).drew).mono fun _ h _ => h.elim) hs4))
        clear HD HTK hs4
        go_wp2_with fail
        go_meet
        exact HF.out
      · have HD : Hid (DLSet W w3 b p xl (d.watch L ⟨tn, ts, ta, th⟩).1 (d.watch L ⟨tn, ts, ta, th⟩).2.1) := Lib.hid (by rw [HWT.out, if_neg (by rw [decide_eq_false h0]; simp)]; exact (DSet.same HS.out KC.out).dl HS.out HL.out)
        have t0 : (gs == 0) = false := by rw [beq_eq_false_iff_ne]; exact h0
        have t1 : decide (gs = 0) = false := decide_eq_false h0
        clear HWT HS HKO HT HL HXP HIN KC h0
        go_wp2_with fail
        go_meet
        exact HD.out
end Go.Proofs.YtofonfohaocclaaGreatDoor
