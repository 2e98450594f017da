/- Walk of Detector.Tick: a watch asks others for help. -/
import Derived.Test.YtofonfohaocclaaGreatDoorG27
import Derived.Test.YtofonfohaocclaaGreatDoorG26
namespace Go.Proofs.YtofonfohaocclaaGreatDoor
open Go.RowKit Sh
open Go.ChangeMaps (setBlock)
set_option linter.unusedVariables false
set_option linter.unusedSimpArgs false

theorem watch_young (d : Det) (L : List Int) (w : Wt) (h : ¬ 4 ≤ sub64 d.now w.a) : d.watch L w = if 2 ≤ sub64 d.now w.a ∧ w.h = false then
    ({ (d.sayAll { w with h := true } (helpersP d.r.others w.n L).1).1 with ws := (d.sayAll { w with h := true } (helpersP d.r.others w.n L).1).1.ws ++ [{ w with h := true }] }, (helpersP d.r.others w.n L).2, (d.sayAll { w with h := true } (helpersP d.r.others w.n L).1).2)
    else ({ d with ws := d.ws ++ [w] }, L, []) := by
  unfold Det.watch
  simp only
  rw [if_neg h]
theorem hp_bd {N0 Nj : List Nt} {i h : Nat} (h0 : N0.length < 1099511627776) (h1 : Nj.length ≤ i) (h2 : i < h) (h3 : h ≤ 2) : (N0 ++ Nj).length < 2199023255552 := by rw [List.length_append]; omega
theorem hp_nj {Nj : List Nt} {i : Nat} (n1 : Nt) (h1 : Nj.length ≤ i) : (Nj ++ [n1]).length ≤ i + 1 := by rw [List.length_append]; simp; omega
theorem int_next {i : Nat} (h : wrap64 ((i : Int) + 1) = (i : Int) + 1) : Value.int .i64 (wrap64 ((i : Int) + 1)) = Value.int .i64 ((i + 1 : Nat) : Int) := by rw [h]; rfl
theorem hlp_meas {i z n : Nat} (h : i + z = n) (hi : i < n) : n - (i + 1) < z := by omega
theorem hlp_rel {i n : Nat} (hi : i < n) : i + 1 + (n - (i + 1)) = n := by omega
/-- What the helpers' branch comes to. -/
structure BRel (wb w' : World) (b : Nat) (p : Parts) (xl n : Nat) (d : Det) (L : List Int) (wt : Wt) (g7 base : Nat) (N0 : List Nt) (v4 : Value) : Prop where
  ex : ∃ dm Lm wt' N', d.watch L wt = ({ dm with ws := dm.ws ++ [wt'] }, Lm, N') ∧ KO n dm ∧ NLSet wb w' base b p xl dm Lm ∧ OwnNts w' base v4 (N0 ++ N') ∧ w'.heap[g7]? = some (.cells (wtC wt').toArray 96 (0, 0)) ∧ N'.length ≤ 2 ∧ (∃ pm, IsDet w' b dm pm ∧ (∀ k, pm.has b k → p.has b k ∨ wb.heap.size ≤ k) ∧ ¬ pm.has b g7)
structure BLoop (w3 wr : World) (b : Nat) (p : Parts) (xl n : Nat) (d : Det) (L' : List Int) (H : List Int) (base : Nat) (N0 : List Nt) (wt : Wt) (g7 i : Nat) (v4 : Value) : Prop where
  ex : ∃ dj Nj, NLSet w3 wr base b p xl dj L' ∧ KO n dj ∧ OwnNts wr base v4 (N0 ++ Nj) ∧ d.sayAll wt H = ((dj.sayAll wt (H.drop i)).1, Nj ++ (dj.sayAll wt (H.drop i)).2) ∧ Nj.length ≤ i
theorem BLoop.next {w3 w6 : World} {b xl n base g7 i : Nat} {p : Parts} {d d1 : Det} {L' H : List Int} {N0 Nj : List Nt} {wt : Wt} {v6 : Value} {n1 : Nt} (hp : HPost w3 w6 base b p xl v6 ((N0 ++ Nj) ++ [n1]) d1 L') (hko : KO n d1)
    (hsa : d.sayAll wt H = ((d1.sayAll wt (H.drop (i + 1))).1, Nj ++ n1 :: (d1.sayAll wt (H.drop (i + 1))).2)) (hnj : Nj.length ≤ i) : BLoop w3 w6 b p xl n d L' H base N0 wt g7 (i + 1) v6 :=
  ⟨d1, Nj ++ [n1], hp.set, hko, by rw [← List.append_assoc]; exact hp.own, by rw [hsa, List.append_assoc]; rfl, hp_nj n1 hnj⟩
set_option maxRecDepth 100000 in
set_option maxHeartbeats 4000000 in
theorem tick_helpers {wb W : World} {b g g7 xl : Nat} {d : Det} {p : Parts} {n base : Nat} {L : List Int} {v4 : Value} {N0 : List Nt} (h : IsDet wb b d p) (ho : KO n d) (hT : TabAt 0 B.tabS wb) (hL : IsLots wb xl L) (hxp : 0 < xl) (kW : Keep (fun _ => False) wb W) (hx : W.cell? ⟨g, 0, none⟩ = some (.pointer (some ⟨b, 0, none⟩))) (hg : ¬ p.has b g) (hgx : g ≠ xl) (hgl : g < wb.heap.size) (wt : Wt) (h7 : W.heap[g7]? = some (.cells (wtC wt).toArray 96 (0, 0))) (hg7 : wb.heap.size ≤ g7) (hN : OwnNts W base v4 N0) (hb0 : base ≤ wb.heap.size) (hgb0 : ¬ base ≤ g) (hnl : N0.length < 1099511627776) (hage : ¬ 4 ≤ sub64 d.now wt.a) (x0 x3 x5 x6 x9 x10 x11 x12 x13 x14 x15 x16 x17 x18 x19 x20 x21 x22 x23 x24 x25 x26 x27 x28 x29 x30 x31 x32 x33 x34 x35 x36 x37 x38 x39 x40 x41 x42 x43 x44 x45 x46 x47 x48 x49 x50 x51 x52 x53 x54 x55 x56 x57 x58 x59 x60 x61 x62 x63 x64 x65 x66 x67 x68 x69 x70 x71 x72 x73 x74 x75 x76 x77 x78 x79 x80 x81 x82 x83 x84 x85 x86 x87 x88 x89 x90 x91 x92 x93 x94 x95 x96 x97 x98 x99 x100 x101 x102 x103 x104 x105 x106 x107 x108 x109 x110 x111 x112 x113 x114 x115 x116 x117 x118 x119 x120 x121 x122 x123 x124 x125 x126 x127 x128 x129 x130 x131 x132 x133 x134 x135 x136 x137 x138 x139 x140 x141 x142 x143 x144 x145 x146 x147 x148 x149 x150 x151 x152 x153 x154 x155 x156 x157 x158 x159 x160 x161 x162 x163 x164 x165 x166 x167 x168 x169 x170 x171 x172 x173 x174 x175 x176 x177 x178 x179 x180 x181 x182 x183 x184 x185 x186 x187 x188 x189 x190 x191 x192 x193 x194 x195 x196 x197 x198 : Value) (J K : Act → World → Prop) (Q : Exit → Act → World → Prop) (hQ : ∀ c (a : Act) o v w', Q (.panic c) (a.put o v) w' → Q (.panic c) a w')
    (hJ : ∀ a' w', (fun a' w' => ∃ u4, ∃ u12, ∃ u80, ∃ u81, ∃ u82, ∃ u83, ∃ u84, ∃ u85, ∃ u86, ∃ u87, ∃ u88, ∃ u89, ∃ u90, ∃ u91, ∃ u92, ∃ u93, ∃ u94, ∃ u95, ∃ u96, ∃ u97, ∃ u98, ∃ u99, ∃ u100, ∃ u101, ∃ u102, ∃ u103, ∃ u104, ∃ u105, ∃ u106, ∃ u107, ∃ u108, ∃ u109, ∃ u110, ∃ u111, ∃ u112, ∃ u113, ∃ u114, (BRel wb w' b p xl n d L wt g7 base N0 u4) ∧ a' = ⟨List.toArray (x0 :: .pointer (some ⟨xl, 0, none⟩) :: .pointer (some ⟨g, 0, none⟩) :: x3 :: u4 :: x5 :: x6 :: .pointer (some ⟨g7, 0, none⟩) :: .int .u64 (sub64 d.now wt.a) :: x9 :: x10 :: x11 :: u12 :: x13 :: x14 :: x15 :: x16 :: x17 :: x18 :: x19 :: x20 :: x21 :: x22 :: x23 :: x24 :: x25 :: x26 :: x27 :: x28 :: x29 :: x30 :: x31 :: x32 :: x33 :: x34 :: x35 :: x36 :: x37 :: x38 :: x39 :: x40 :: x41 :: x42 :: x43 :: x44 :: x45 :: x46 :: x47 :: x48 :: x49 :: x50 :: x51 :: x52 :: x53 :: x54 :: x55 :: x56 :: x57 :: x58 :: x59 :: x60 :: x61 :: x62 :: x63 :: x64 :: x65 :: x66 :: x67 :: x68 :: x69 :: x70 :: x71 :: x72 :: x73 :: x74 :: x75 :: x76 :: x77 :: x78 :: x79 :: u80 :: u81 :: u82 :: u83 :: u84 :: u85 :: u86 :: u87 :: u88 :: u89 :: u90 :: u91 :: u92 :: u93 :: u94 :: u95 :: u96 :: u97 :: u98 :: u99 :: u100 :: u101 :: u102 :: u103 :: u104 :: u105 :: u106 :: u107 :: u108 :: u109 :: u110 :: u111 :: u112 :: u113 :: u114 :: x115 :: x116 :: x117 :: x118 :: x119 :: x120 :: x121 :: x122 :: x123 :: x124 :: x125 :: x126 :: x127 :: x128 :: x129 :: x130 :: x131 :: x132 :: x133 :: x134 :: x135 :: x136 :: x137 :: x138 :: x139 :: x140 :: x141 :: x142 :: x143 :: x144 :: x145 :: x146 :: x147 :: x148 :: x149 :: x150 :: x151 :: x152 :: x153 :: x154 :: x155 :: x156 :: x157 :: x158 :: x159 :: x160 :: x161 :: x162 :: x163 :: x164 :: x165 :: x166 :: x167 :: x168 :: x169 :: x170 :: x171 :: x172 :: x173 :: x174 :: x175 :: x176 :: x177 :: x178 :: x179 :: x180 :: x181 :: x182 :: x183 :: x184 :: x185 :: x186 :: x187 :: x188 :: x189 :: x190 :: x191 :: x192 :: x193 :: x194 :: x195 :: x196 :: x197 :: x198 :: []), []⟩) a' w' → J a' w') (hK : ∀ a' w', Met J a' w' → K a' w') :
    Code.wp Tryz.prog (fSub Tryz.f12 [1, 1, 1, 1, 1, 0, 1, 0, 0, 1, 1, 0, 0, 1, 0, 1, 0, 1, 1]) (Exit.then K Q) ⟨List.toArray (x0 :: .pointer (some ⟨xl, 0, none⟩) :: .pointer (some ⟨g, 0, none⟩) :: x3 :: v4 :: x5 :: x6 :: .pointer (some ⟨g7, 0, none⟩) :: .int .u64 (sub64 d.now wt.a) :: x9 :: x10 :: x11 :: x12 :: x13 :: x14 :: x15 :: x16 :: x17 :: x18 :: x19 :: x20 :: x21 :: x22 :: x23 :: x24 :: x25 :: x26 :: x27 :: x28 :: x29 :: x30 :: x31 :: x32 :: x33 :: x34 :: x35 :: x36 :: x37 :: x38 :: x39 :: x40 :: x41 :: x42 :: x43 :: x44 :: x45 :: x46 :: x47 :: x48 :: x49 :: x50 :: x51 :: x52 :: x53 :: x54 :: x55 :: x56 :: x57 :: x58 :: x59 :: x60 :: x61 :: x62 :: x63 :: x64 :: x65 :: x66 :: x67 :: x68 :: x69 :: x70 :: x71 :: x72 :: x73 :: x74 :: x75 :: x76 :: x77 :: x78 :: x79 :: x80 :: x81 :: x82 :: x83 :: x84 :: x85 :: x86 :: x87 :: x88 :: x89 :: x90 :: x91 :: x92 :: x93 :: x94 :: x95 :: x96 :: x97 :: x98 :: x99 :: x100 :: x101 :: x102 :: x103 :: x104 :: x105 :: x106 :: x107 :: x108 :: x109 :: x110 :: x111 :: x112 :: x113 :: x114 :: x115 :: x116 :: x117 :: x118 :: x119 :: x120 :: x121 :: x122 :: x123 :: x124 :: x125 :: x126 :: x127 :: x128 :: x129 :: x130 :: x131 :: x132 :: x133 :: x134 :: x135 :: x136 :: x137 :: x138 :: x139 :: x140 :: x141 :: x142 :: x143 :: x144 :: x145 :: x146 :: x147 :: x148 :: x149 :: x150 :: x151 :: x152 :: x153 :: x154 :: x155 :: x156 :: x157 :: x158 :: x159 :: x160 :: x161 :: x162 :: x163 :: x164 :: x165 :: x166 :: x167 :: x168 :: x169 :: x170 :: x171 :: x172 :: x173 :: x174 :: x175 :: x176 :: x177 :: x178 :: x179 :: x180 :: x181 :: x182 :: x183 :: x184 :: x185 :: x186 :: x187 :: x188 :: x189 :: x190 :: x191 :: x192 :: x193 :: x194 :: x195 :: x196 :: x197 :: x198 :: []), []⟩ W := by
  conv => arg 2; whnf
  obtain ⟨tn, ts, ta, th⟩ := wt
  simp only at hage hJ
  have y0 : W.cell? ⟨g7, 0, none⟩ = some (.int .i64 tn) := by simp [World.cell?, h7, wtC]
  have y1 : W.cell? ⟨g7, 1, none⟩ = some (.int .u64 ts) := by simp [World.cell?, h7, wtC]
  have y3 : W.cell? ⟨g7, 3, none⟩ = some (.bool th) := by simp [World.cell?, h7, wtC]
  have f3 : W.frozen? ⟨g7, 3, none⟩ = false := by simp [World.frozen?, h7]
  have HLT : Hid (∀ j, wb.heap.size ≤ j → ¬ p.has b j) := Lib.hid (fun j hj hp => absurd (h.lt hp) (by omega))
  have ub := h.lt (hb p b)
  have ux := hL.lt
  have hwt := watch_young d L ⟨tn, ts, ta, th⟩ hage
  simp only at hwt
  have HJ := Lib.hid hJ
  have HK := Lib.hid hK
  have HS := Lib.hid h
  have HKO := Lib.hid ho
  have HT := Lib.hid hT
  have HL := Lib.hid hL
  have HXP := Lib.hid hxp
  have HG := Lib.hid hg
  have HGX := Lib.hid hgx
  have HN := Lib.hid hN
  have HB0 := Lib.hid hb0
  have HGB := Lib.hid hgb0
  have HNL := Lib.hid hnl
  have HKW := Lib.hid kW
  have H7 := Lib.hid h7
  have HG7 := Lib.hid hg7
  have uw := kW.size
  have hgb : g ≠ b := fun e => hg (e ▸ hb p b)
  have HWT := Lib.hid hwt
  generalize sub64 d.now ta = age at *
  clear hwt h ho hT hL hxp hg hgx hN hb0 hgb0 hnl kW h7 hage
  by_cases h2 : 2 ≤ age ∧ th = false
  · have HW2 : Hid (d.watch L ⟨tn, ts, ta, th⟩ = ({ (d.sayAll ⟨tn, ts, ta, true⟩ (helpersP d.r.others tn L).1).1 with ws := (d.sayAll ⟨tn, ts, ta, true⟩ (helpersP d.r.others tn L).1).1.ws ++ [⟨tn, ts, ta, true⟩] }, (helpersP d.r.others tn L).2, (d.sayAll ⟨tn, ts, ta, true⟩ (helpersP d.r.others tn L).1).2)) := Lib.hid (by rw [HWT.out, if_pos h2])
    obtain ⟨h2a, h2b⟩ := h2
    have t2 : decide (2 ≤ age) = true := decide_eq_true h2a
    subst h2b
    obtain ⟨W1, hW1⟩ : ∃ W1, W1 = W.setCell ⟨g7, 3, none⟩ (.bool true) := ⟨_, rfl⟩
    have k1 : Keep (fun j => j = g7) W W1 := by rw [hW1]; exact (Keep.refl (fun j => j = g7) W).setAt 3 (.bool true)
    have hkw1 : Keep (fun _ => False) wb W1 := (HKW.out.trans k1 fun i hi hlt => by have := HG7.out; omega)
    have h71 : W1.heap[g7]? = some (.cells (wtC ⟨tn, ts, ta, true⟩).toArray 96 (0, 0)) := by
      rw [hW1]
      exact heap_setCell_at H7.out 3 (.bool true)
    have z0 : W1.cell? ⟨g7, 0, none⟩ = some (.int .i64 tn) := by simp [World.cell?, h71, wtC]
    have z1 : W1.cell? ⟨g7, 1, none⟩ = some (.int .u64 ts) := by simp [World.cell?, h71, wtC]
    have hgg : g ≠ g7 := by have := HG7.out; omega
    have zx := k1.cellS hx hgg
    have e0 := (HS.out.keep0 hkw1).c0
    have HN1 : Hid (OwnNts W1 base v4 N0) := Lib.hid (HN.out.keep k1 fun j t hj hk ht e => by
      have hk7 : Kind W g7 (some 96) := ⟨_, H7.out⟩
      rw [e] at hk
      rcases ht with rfl | rfl
      · exact hk.ne hk7 (by decide) rfl
      · exact hk.ne hk7 (by decide) rfl)
    have H71 := Lib.hid h71
    have HKW1 := Lib.hid hkw1
    have k0 : Keep (fun _ => False) W1 W1.drew := (Keep.refl _ W1).drew
    have HOT := Lib.hid (rothers_any ((HS.out.keep0 hkw1).keep0 k0).rol HKO.out.ok.r (B.tab_keep (B.tab_keep HT.out hkw1 id) k0 id))
    clear k1 h71 hkw1
    go_upto_region 16 with fail
    rw [← hW1]
    clear hW1 y0 y1 y3 f3 hx HKW H7 HN
    have S0 : (fun W' : World => W'.cell? ⟨g, 0, none⟩ = some (.pointer (some ⟨b, 0, none⟩)) ∧ W'.cell? ⟨b, 0, none⟩ = some (.pointer (some ⟨p.rb, 0, none⟩)) ∧ W'.cell? ⟨g7, 0, none⟩ = some (.int .i64 tn)) W1.drew := ⟨zx, e0, z0⟩
    refine Upto.start (fun W' : World => W'.cell? ⟨g, 0, none⟩ = some (.pointer (some ⟨b, 0, none⟩)) ∧ W'.cell? ⟨b, 0, none⟩ = some (.pointer (some ⟨p.rb, 0, none⟩)) ∧ W'.cell? ⟨g7, 0, none⟩ = some (.int .i64 tn)) 1000 (by kernel_rfl) ?_
    change Upto _ _ _ _ _ _ 11 _ _ _
    refine Upto.takeS (i := 0) (v := ?v0) rfl (by kernel_rfl) (by kernel_rfl) (by kernel_rfl) (by kernel_rfl) (fun _ _ _ hh => hQ _ _ _ _ _ hh) S0 (Or.inl ⟨by rfl, ?hy0⟩) ?rest0
    case hy0 =>
      intro W' hW
      obtain ⟨lx, l0, l7⟩ := hW
      go_simp
      try with_reducible rfl
    try simp only [Act.put, List.setIfInBounds_toArray, List.set_cons_zero, List.set_cons_succ]
    refine Upto.takeS (i := 1) (v := ?v1) rfl (by kernel_rfl) (by kernel_rfl) (by kernel_rfl) (by kernel_rfl) (fun _ _ _ hh => hQ _ _ _ _ _ hh) S0 (Or.inl ⟨by rfl, ?hy1⟩) ?rest1
    case hy1 =>
      intro W' hW
      obtain ⟨lx, l0, l7⟩ := hW
      go_simp
      try with_reducible rfl
    try simp only [Act.put, List.setIfInBounds_toArray, List.set_cons_zero, List.set_cons_succ]
    refine Upto.takeS (i := 2) (v := ?v2) rfl (by kernel_rfl) (by kernel_rfl) (by kernel_rfl) (by kernel_rfl) (fun _ _ _ hh => hQ _ _ _ _ _ hh) S0 (Or.inl ⟨by rfl, ?hy2⟩) ?rest2
    case hy2 =>
      intro W' hW
      obtain ⟨lx, l0, l7⟩ := hW
      go_simp
      try with_reducible rfl
    try simp only [Act.put, List.setIfInBounds_toArray, List.set_cons_zero, List.set_cons_succ]
    refine Upto.takeS (i := 3) (v := ?v3) rfl (by kernel_rfl) (by kernel_rfl) (by kernel_rfl) (by kernel_rfl) (fun _ _ _ hh => hQ _ _ _ _ _ hh) S0 (Or.inl ⟨by rfl, ?hy3⟩) ?rest3
    case hy3 =>
      intro W' hW
      obtain ⟨lx, l0, l7⟩ := hW
      go_simp
      try with_reducible rfl
    try simp only [Act.put, List.setIfInBounds_toArray, List.set_cons_zero, List.set_cons_succ]
    refine Upto.takeS (i := 5) (v := ?v5) rfl (by kernel_rfl) (by kernel_rfl) (by kernel_rfl) (by kernel_rfl) (fun _ _ _ hh => hQ _ _ _ _ _ hh) S0 (Or.inl ⟨by rfl, ?hy5⟩) ?rest5
    case hy5 =>
      intro W' hW
      obtain ⟨lx, l0, l7⟩ := hW
      go_simp
      try with_reducible rfl
    try simp only [Act.put, List.setIfInBounds_toArray, List.set_cons_zero, List.set_cons_succ]
    refine Upto.takeS (i := 6) (v := ?v6) rfl (by kernel_rfl) (by kernel_rfl) (by kernel_rfl) (by kernel_rfl) (fun _ _ _ hh => hQ _ _ _ _ _ hh) S0 (Or.inl ⟨by rfl, ?hy6⟩) ?rest6
    case hy6 =>
      intro W' hW
      obtain ⟨lx, l0, l7⟩ := hW
      go_simp
      try with_reducible rfl
    try simp only [Act.put, List.setIfInBounds_toArray, List.set_cons_zero, List.set_cons_succ]
    refine Upto.takeS (i := 7) (v := ?v7) rfl (by kernel_rfl) (by kernel_rfl) (by kernel_rfl) (by kernel_rfl) (fun _ _ _ hh => hQ _ _ _ _ _ hh) S0 (Or.inl ⟨by rfl, ?hy7⟩) ?rest7
    case hy7 =>
      intro W' hW
      obtain ⟨lx, l0, l7⟩ := hW
      go_simp
      try with_reducible rfl
    try simp only [Act.put, List.setIfInBounds_toArray, List.set_cons_zero, List.set_cons_succ]
    refine Upto.takeS (i := 10) (v := ?v10) rfl (by kernel_rfl) (by kernel_rfl) (by kernel_rfl) (by kernel_rfl) (fun _ _ _ hh => hQ _ _ _ _ _ hh) S0 (Or.inl ⟨by rfl, ?hy10⟩) ?rest10
    case hy10 =>
      intro W' hW
      obtain ⟨lx, l0, l7⟩ := hW
      go_simp
      try with_reducible rfl
    try simp only [Act.put, List.setIfInBounds_toArray, List.set_cons_zero, List.set_cons_succ]
    refine Upto.one (i := 4) (by kernel_rfl) rfl (fun K hK => ?_)
    go_simp
    refine HOT.out.mono ?_
    rintro e w2 ⟨v2, rfl, ho2, hk2⟩
    have S02 : (fun W' : World => W'.cell? ⟨g, 0, none⟩ = some (.pointer (some ⟨b, 0, none⟩)) ∧ W'.cell? ⟨b, 0, none⟩ = some (.pointer (some ⟨p.rb, 0, none⟩)) ∧ W'.cell? ⟨g7, 0, none⟩ = some (.int .i64 tn)) w2 := ⟨hk2.cell S0.1, hk2.cell S0.2.1, hk2.cell S0.2.2⟩
    have HL2 := Lib.hid (((HL.out.keep0 HKW1.out).keep0 k0).keep0 hk2)
    have hlen : d.r.others.length ≤ 8796093022208 := Nat.le_trans (bList_ok _).len (by omega)
    have HHP := Lib.hid (helpers_any tn HL2.out (Row.of_own ho2) hlen)
    have HK2 := Lib.hid (k0.step hk2)
    refine hK.out _ _ (.inr S02) ?_
    clear hK K HOT ho2 hk2 hlen
    try simp only [Act.put, List.setIfInBounds_toArray, List.set_cons_zero, List.set_cons_succ]
    refine Upto.one (i := 8) (by kernel_rfl) rfl (fun K hK => ?_)
    go_simp
    refine HHP.out.mono ?_
    rintro e w3 ⟨v3, rfl, hr3, hn3, hl3, hk3⟩
    have hS3 : ∀ a, a < wb.heap.size → a ≠ xl → True := fun _ _ _ => trivial
    have u2 := HK2.out.size
    have S03 : (fun W' : World => W'.cell? ⟨g, 0, none⟩ = some (.pointer (some ⟨b, 0, none⟩)) ∧ W'.cell? ⟨b, 0, none⟩ = some (.pointer (some ⟨p.rb, 0, none⟩)) ∧ W'.cell? ⟨g7, 0, none⟩ = some (.int .i64 tn)) w3 := ⟨hk3.cellS S02.1 HGX.out, hk3.cellS S02.2.1 (fun e => (HS.out.kb.ne HL.out.kind (by decide)) e), hk3.cellS S02.2.2 (fun e => by have := HG7.out; have e' : g7 = xl := e; omega)⟩
    have s13 := hk3.cellS (HK2.out.cell z1) (fun e => by have := HG7.out; have e' : g7 = xl := e; omega)
    obtain ⟨A3, c3, hsh⟩ := hr3.shape
    subst hsh
    have u1 := HKW1.out.size
    have HD3 : Hid (IsDet w3 b d p) := Lib.hid (((HS.out.keep0 HKW1.out).keep0 HK2.out).keep hk3 fun j hj e => by
      obtain ⟨t, ht, q1, q2, q3, q4⟩ := HS.out.khas hj
      have e' : j = xl := e
      subst e'
      exact ht.ne HL.out.kind q2 rfl)
    have HKW3 : Hid (Keep (fun k => k = xl) wb w3) := Lib.hid (((HKW1.out.step HK2.out).mono fun _ h _ => h.elim).step hk3)
    have H73 : Hid (w3.heap[g7]? = some (.cells (wtC ⟨tn, ts, ta, true⟩).toArray 96 (0, 0))) := Lib.hid (hk3.old (HK2.out.old H71.out id) (fun e => by have := HG7.out; have e' : g7 = xl := e; omega))
    have HN3 : Hid (OwnNts w3 base v4 N0) := Lib.hid ((HN1.out.keep0 HK2.out).keep hk3 fun j t hj hk ht e => by
      have e' : j = xl := e
      subst e'
      have hkx : Kind w2 j (some 95) := ((HL2.out).kind)
      rcases ht with rfl | rfl
      · exact hk.ne hkx (by decide) rfl
      · exact hk.ne hkx (by decide) rfl)
    have HT3 : Hid (TabAt 0 B.tabS w3) := Lib.hid (B.tab_keep (B.tab_keep (B.tab_keep HT.out HKW1.out id) HK2.out id) hk3 (fun e => by have := HXP.out; have e' : 0 = xl := e; omega))
    have HR3 := Lib.hid hr3
    have HNEW : Hid (∀ g', (Value.slice A3 (helpersP d.r.others tn L).1.length c3).ownBlock = some g' → wb.heap.size ≤ g') := Lib.hid (fun g' hg' => by have := hn3 g' hg'; omega)
    have HL3 := Lib.hid hl3
    refine hK.out _ _ (.inr S03) ?_
    clear hK K hr3 hn3 hl3 hk3 HHP HL2 HK2 HN1 H71 HKW1 k0 S02 S0 hS3 zx z0 z1 e0
    have hH2 : (helpersP d.r.others tn L).1.length ≤ 2 := by
      unfold helpersP
      simp only
      rw [List.length_take]
      omega
    have HH2 := Lib.hid hH2
    clear hH2
    generalize helpersP d.r.others tn L = hp at *
    obtain ⟨H, L'⟩ := hp
    simp only at HR3 HNEW HL3 HW2 HH2 ⊢
    try simp only [Act.put, List.setIfInBounds_toArray, List.set_cons_zero, List.set_cons_succ]
    refine Upto.one (i := 9) (by kernel_rfl) rfl (fun K hK => ?_)
    go_simp
    refine hK.out _ _ (.inr S03) ?_
    clear hK K
    try simp only [Act.put, List.setIfInBounds_toArray, List.set_cons_zero, List.set_cons_succ]
    refine Upto.done (by kernel_rfl) ?_
    have HST : Hid (BLoop w3 w3 b p xl n d L' H base N0 ⟨tn, ts, ta, true⟩ g7 0 v4) := Lib.hid ⟨d, [], (HD3.out.dset.dl HD3.out HL3.out).nl base, HKO.out, by rw [List.append_nil]; exact HN3.out, by rw [List.drop_zero]; rfl, by show 0 ≤ 0; omega⟩
    go_wp2_with fail
    go_loopg [99, 4] H.length (fun z v99 v4' wr => ∃ i : Nat, i + z = H.length ∧ v99 = .int .i64 (i : Int) ∧ BLoop w3 wr b p xl n d L' H base N0 ⟨tn, ts, ta, true⟩ g7 i v4')
    case atStart => exact ⟨0, by omega, rfl, HST.out⟩
    case round =>
      obtain ⟨i, hz, rfl, hlp⟩ := hrel
      have HZ := Lib.hid hz
      obtain ⟨dj, Nj, hds, hko, hnt, hsa, hnj⟩ := hlp.ex
      have hil : i ≤ H.length := by omega
      have u3 := HKW3.out.size
      have ux3 := hds.keep.size
      have hg7l : g7 < w3.heap.size := (Array.getElem?_eq_some_iff.1 H73.out).1
      have h7x := hds.keep.old H73.out (fun hh => by
        rcases hh with hh | hh | hh
        · exact HLT.out g7 HG7.out hh
        · have := HG7.out; omega
        · exact hh.2.ne (⟨_, H73.out⟩ : Kind w3 g7 (some 96)) (by decide) rfl)
      have qx := hds.keep.cellS S03.1 (fun hh => by
        rcases hh with hh | hh | hh
        · exact HG.out hh
        · exact HGX.out hh
        · exact HGB.out hh.1)
      have q0 : wr.cell? ⟨g7, 0, none⟩ = some (.int .i64 tn) := by simp [World.cell?, h7x, wtC]
      have q1 : wr.cell? ⟨g7, 1, none⟩ = some (.int .u64 ts) := by simp [World.cell?, h7x, wtC]
      clear hlp hz
      by_cases hi : i < H.length
      · have HI := Lib.hid hi
        have s1 : decide ((i : Int) < (H.length : Int)) = true := decide_eq_true (by omega)
        have s2 : (i : Int) < (H.length : Int) := by omega
        obtain ⟨pi, hdi, hsi⟩ := hds.ex
        have hrow : Row wr 3 1 (.slice A3 H.length c3) H.length (intsC H) := HR3.out.keep hds.keep (fun g' hg' hh => by
          have hn := HNEW.out g' hg'
          rcases hh with hh | hh | hh
          · exact HLT.out g' hn hh
          · omega
          · exact hh.2.ne (⟨HR3.out.typed hg'⟩ : Kind w3 g' (some 3)) (by decide) rfl)
        obtain ⟨g5, o5, cc5, cs5, hA5, _⟩ := hrow.pos (by omega)
        cases hA5
        have hc := hrow.int_at i hi
        have hdrop : H.drop i = H[i] :: H.drop (i + 1) := List.drop_eq_getElem_cons hi
        rw [hdrop] at hsa
        clear hdrop hrow
        generalize H[i] = hh at hc hsa
        have hnx : dj.sayAll ⟨tn, ts, ta, true⟩ (hh :: H.drop (i + 1)) = (((dj.say ⟨3, 0, hh, ts, tn, []⟩).1.sayAll ⟨tn, ts, ta, true⟩ (H.drop (i + 1))).1, (dj.say ⟨3, 0, hh, ts, tn, []⟩).2 :: ((dj.say ⟨3, 0, hh, ts, tn, []⟩).1.sayAll ⟨tn, ts, ta, true⟩ (H.drop (i + 1))).2) := rfl
        rw [hnx] at hsa
        have w1i := wrap_succ i (by have := HH2.out; omega)
        have hTr := B.tab_keep HT3.out hds.keep (fun hh => by
          rcases hh with hh | hh | hh
          · exact absurd (HD3.out.pos _ hh) (by omega)
          · exact absurd hh (by have := HXP.out; omega)
          · exact HGB.out (by omega))
        have HSY := Lib.hid (say_det hdi hko.ok hTr 3 0 hh ts tn (.slice none 0 0))
        have hee : (dj.say ⟨3, 0, hh, ts, tn, []⟩).2 = ⟨3, dj.r.me, hh, ts, tn, (dj.say ⟨3, 0, hh, ts, tn, []⟩).2.news⟩ := rfl
        have hko2 := say_ko hko ⟨3, 0, hh, ts, tn, []⟩
        clear hnx hTr
        generalize dj.say ⟨3, 0, hh, ts, tn, []⟩ = r at *
        obtain ⟨d1, n1⟩ := r
        simp only at hsa hee hko2 HSY
        have HPRE : Hid (∀ w5 v5, SayIs wr w5 b pi v5 (d1, n1) → ∃ ps, HPre w3 w5 base b p xl u4 v5 #[.int .i64 3, .int .i64 dj.r.me, .int .i64 hh, .int .u64 ts, .int .i64 tn, v5] ps n1 (N0 ++ Nj) d1 L') := Lib.hid (fun w5 v5 hs => help_pre hds hdi hsi hnt hs hee (hp_bd HNL.out hnj HI.out HH2.out) (Nat.le_trans HB0.out (Nat.le_trans u3 ux3)))
        have HNX : Hid (∀ w6 v6, HPost w3 w6 base b p xl v6 ((N0 ++ Nj) ++ [n1]) d1 L' → BLoop w3 w6 b p xl n d L' H base N0 ⟨tn, ts, ta, true⟩ g7 (i + 1) v6) := Lib.hid (fun w6 v6 hp => BLoop.next hp hko2 hsa hnj)
        have ubr : b < wr.heap.size := Nat.lt_of_lt_of_le ub (Nat.le_trans u3 ux3)
        have ug7 : g7 < wr.heap.size := Nat.lt_of_lt_of_le hg7l ux3
        clear hds hdi hsi hko hnt h7x hsa hee hko2 hnj
        obtain ⟨j0, hj0⟩ := info62
        have HI0 := Lib.hid hj0
        clear hj0
        go_upto_region 19 with fail
        refine wp_region_lit ?_
        iterate 8 (refine wpList_plain rfl fun K hK => ?_; go_simp; refine hK _ _ ?_; clear hK K)
        refine wpList_plain rfl fun K hK => ?_
        go_simp
        refine HSY.out.mono ?_
        rintro e w5 ⟨v5, rfl, hs5⟩
        refine hK _ _ ?_
        clear hK K
        obtain ⟨ps, hpre⟩ := HPRE.out w5 v5 hs5
        have HPR := Lib.hid hpre
        obtain ⟨A5, c5, hsh⟩ := own_shape hs5.own
        simp only at hsh
        have hone : v5.oneCell' = true := by rw [hsh]; rfl
        clear hsh hs5 hpre HPRE HSY
        refine wpList_plain rfl fun K hK => ?_
        go_simp
        refine hK _ _ ?_
        clear hK K
        refine wpList_append_own_at _ rfl _ _ 30 rfl base 62 j0 (.agg #[.int .i64 0, .int .i64 0, .int .i64 0, .int .u64 0, .int .i64 0, .slice none 0 0]) 6 64 Tryz.underlying30 HI0.out.has HI0.out.zero HI0.out.size HI0.out.bytes rfl (by decide) u4 ps.length (flat ntC ps) (by rfl) HPR.out.own ⟨w5.heap.size, 0, none⟩ 1 1 (ntC (n1, v5)) (by rfl) HPR.out.len HPR.out.at_ HPR.out.one HPR.out.bd1 HPR.out.bd2 HPR.out.bs ?_
        intro v6 w6 ho6 hg6 _ _
        have HST6 := Lib.hid (HNX.out w6 v6 (help_post HPR.out ho6 hg6))
        clear ho6 hg6 HPR HNX
        refine wpList_plain rfl fun K hK => ?_
        go_simp
        refine hK _ _ ?_
        clear hK K
        go_wp2_with fail
        go_roundg (H.length - (i + 1))
        case measure => exact hlp_meas HZ.out HI.out
        case rel => exact ⟨i + 1, hlp_rel HI.out, int_next w1i, HST6.out⟩
      · have s1 : decide ((i : Int) < (H.length : Int)) = false := decide_eq_false (by omega)
        have hin : i = H.length := by omega
        rw [hin, List.drop_length] at hsa
        have hsa2 : d.sayAll ⟨tn, ts, ta, true⟩ H = (dj, Nj) := by rw [hsa]; show (dj, Nj ++ []) = _; rw [List.append_nil]
        have hexm : ∃ pm, IsDet wr b dj pm ∧ (∀ k, pm.has b k → p.has b k ∨ wb.heap.size ≤ k) ∧ ¬ pm.has b g7 := by
          obtain ⟨pi, hdi, hsi⟩ := hds.ex
          refine ⟨pi, hdi, fun k hk => ?_, fun hh => ?_⟩
          · rcases hsi k hk with h | h
            · exact .inl h
            · exact .inr (Nat.le_trans u3 h)
          · rcases hsi g7 hh with h | h
            · exact HLT.out g7 HG7.out h
            · exact absurd hg7l (Nat.not_lt.2 h)
        have HF : Hid (BRel wb wr b p xl n d L ⟨tn, ts, ta, false⟩ g7 base N0 u4) := Lib.hid ⟨dj, L', ⟨tn, ts, ta, true⟩, Nj, by rw [HW2.out, hsa2], hko, NLSet.next (fun k hk => .inl hk) (HKW3.out.mono fun k hk _ => .inr (.inl hk)) hds, hnt, h7x, Nat.le_trans hnj (hin ▸ HH2.out), hexm⟩
        clear hsa hsa2 hds hko hnt h7x hin hnj
        go_wp2_with fail
        go_meet
        exact HF.out
  · have HF : Hid (BRel wb W b p xl n d L ⟨tn, ts, ta, th⟩ g7 base N0 v4) := Lib.hid ⟨d, L, ⟨tn, ts, ta, th⟩, [], by rw [HWT.out, if_neg h2], HKO.out, ((DSet.same HS.out HKW.out).dl HS.out HL.out).nl base, by rw [List.append_nil]; exact HN.out, H7.out, by simp, ⟨p, HS.out.keep0 HKW.out, fun _ h => .inl h, HLT.out g7 HG7.out⟩⟩
    by_cases h2a : 2 ≤ age
    · have t2 : decide (2 ≤ age) = true := decide_eq_true h2a
      have hth : th = true := by
        cases th
        · exact absurd ⟨h2a, rfl⟩ h2
        · rfl
      subst hth
      clear HWT h2 h2a
      go_wp2_with fail
      go_meet
      exact HF.out
    · have t2 : decide (2 ≤ age) = false := decide_eq_false h2a
      clear HWT h2 h2a
      go_wp2_with fail
      go_meet
      exact HF.out
end Go.Proofs.YtofonfohaocclaaGreatDoor
