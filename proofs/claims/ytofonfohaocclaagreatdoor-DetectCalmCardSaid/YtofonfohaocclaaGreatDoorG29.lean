/- Walk of Detector.Tick: a watch is kept. -/
import Derived.Test.YtofonfohaocclaaGreatDoorG26
namespace Go.Proofs.YtofonfohaocclaaGreatDoor
open Go.RowKit Sh
open Go.ChangeMaps (setBlock)
set_option linter.unusedVariables false
set_option linter.unusedSimpArgs false

theorem info96 : ∃ i, Info 96 (.agg #[.int .i64 0, .int .u64 0, .int .u64 0, .bool false]) 4 32 i := Info.of (by kernel_rfl)
set_option maxRecDepth 100000 in
set_option maxHeartbeats 4000000 in
theorem tick_kept {W : World} {b g g7 : Nat} {d : Det} {p : Parts} (h : IsDet W b d p) (hw : d.ws.length < 1099511627776) (hx : W.cell? ⟨g, 0, none⟩ = some (.pointer (some ⟨b, 0, none⟩))) (hg : ¬ p.has b g) (wt : Wt) (h7 : W.heap[g7]? = some (.cells (wtC wt).toArray 96 (0, 0))) (hg7 : ¬ p.has b g7) (x0 x1 x3 x4 x5 x6 x8 x9 x10 x11 x12 x13 x14 x15 x16 x17 x18 x19 x20 x21 x22 x23 x24 x25 x26 x27 x28 x29 x30 x31 x32 x33 x34 x35 x36 x37 x38 x39 x40 x41 x42 x43 x44 x45 x46 x47 x48 x49 x50 x51 x52 x53 x54 x55 x56 x57 x58 x59 x60 x61 x62 x63 x64 x65 x66 x67 x68 x69 x70 x71 x72 x73 x74 x75 x76 x77 x78 x79 x80 x81 x82 x83 x84 x85 x86 x87 x88 x89 x90 x91 x92 x93 x94 x95 x96 x97 x98 x99 x100 x101 x102 x103 x104 x105 x106 x107 x108 x109 x110 x111 x112 x113 x114 x115 x116 x117 x118 x119 x120 x121 x122 x123 x124 x125 x126 x127 x128 x129 x130 x131 x132 x133 x134 x135 x136 x137 x138 x139 x140 x141 x142 x143 x144 x145 x146 x147 x148 x149 x150 x151 x152 x153 x154 x155 x156 x157 x158 x159 x160 x161 x162 x163 x164 x165 x166 x167 x168 x169 x170 x171 x172 x173 x174 x175 x176 x177 x178 x179 x180 x181 x182 x183 x184 x185 x186 x187 x188 x189 x190 x191 x192 x193 x194 x195 x196 x197 x198 : Value) (J K : Act → World → Prop) (Q : Exit → Act → World → Prop) (hQ : ∀ c (a : Act) o v w', Q (.panic c) (a.put o v) w' → Q (.panic c) a w')
    (hJ : ∀ a' w', (fun a' w' => ∃ u115, ∃ u116, ∃ u117, ∃ u118, ∃ u119, ∃ u120, ∃ u121, ∃ u122, ∃ u123, ∃ u124, (DSet W w' b p { d with ws := d.ws ++ [wt] }) ∧ a' = ⟨List.toArray (x0 :: x1 :: .pointer (some ⟨g, 0, none⟩) :: x3 :: x4 :: x5 :: x6 :: .pointer (some ⟨g7, 0, none⟩) :: x8 :: x9 :: x10 :: x11 :: x12 :: x13 :: x14 :: x15 :: x16 :: x17 :: x18 :: x19 :: x20 :: x21 :: x22 :: x23 :: x24 :: x25 :: x26 :: x27 :: x28 :: x29 :: x30 :: x31 :: x32 :: x33 :: x34 :: x35 :: x36 :: x37 :: x38 :: x39 :: x40 :: x41 :: x42 :: x43 :: x44 :: x45 :: x46 :: x47 :: x48 :: x49 :: x50 :: x51 :: x52 :: x53 :: x54 :: x55 :: x56 :: x57 :: x58 :: x59 :: x60 :: x61 :: x62 :: x63 :: x64 :: x65 :: x66 :: x67 :: x68 :: x69 :: x70 :: x71 :: x72 :: x73 :: x74 :: x75 :: x76 :: x77 :: x78 :: x79 :: x80 :: x81 :: x82 :: x83 :: x84 :: x85 :: x86 :: x87 :: x88 :: x89 :: x90 :: x91 :: x92 :: x93 :: x94 :: x95 :: x96 :: x97 :: x98 :: x99 :: x100 :: x101 :: x102 :: x103 :: x104 :: x105 :: x106 :: x107 :: x108 :: x109 :: x110 :: x111 :: x112 :: x113 :: x114 :: u115 :: u116 :: u117 :: u118 :: u119 :: u120 :: u121 :: u122 :: u123 :: u124 :: x125 :: x126 :: x127 :: x128 :: x129 :: x130 :: x131 :: x132 :: x133 :: x134 :: x135 :: x136 :: x137 :: x138 :: x139 :: x140 :: x141 :: x142 :: x143 :: x144 :: x145 :: x146 :: x147 :: x148 :: x149 :: x150 :: x151 :: x152 :: x153 :: x154 :: x155 :: x156 :: x157 :: x158 :: x159 :: x160 :: x161 :: x162 :: x163 :: x164 :: x165 :: x166 :: x167 :: x168 :: x169 :: x170 :: x171 :: x172 :: x173 :: x174 :: x175 :: x176 :: x177 :: x178 :: x179 :: x180 :: x181 :: x182 :: x183 :: x184 :: x185 :: x186 :: x187 :: x188 :: x189 :: x190 :: x191 :: x192 :: x193 :: x194 :: x195 :: x196 :: x197 :: x198 :: []), []⟩) a' w' → J a' w') (hK : ∀ a' w', Met J a' w' → K a' w') :
    Code.wp Tryz.prog (fSub Tryz.f12 [1, 1, 1, 1, 1, 0, 1, 0, 0, 1, 1, 0, 0, 1, 1]) (Exit.then K Q) ⟨List.toArray (x0 :: x1 :: .pointer (some ⟨g, 0, none⟩) :: x3 :: x4 :: x5 :: x6 :: .pointer (some ⟨g7, 0, none⟩) :: x8 :: x9 :: x10 :: x11 :: x12 :: x13 :: x14 :: x15 :: x16 :: x17 :: x18 :: x19 :: x20 :: x21 :: x22 :: x23 :: x24 :: x25 :: x26 :: x27 :: x28 :: x29 :: x30 :: x31 :: x32 :: x33 :: x34 :: x35 :: x36 :: x37 :: x38 :: x39 :: x40 :: x41 :: x42 :: x43 :: x44 :: x45 :: x46 :: x47 :: x48 :: x49 :: x50 :: x51 :: x52 :: x53 :: x54 :: x55 :: x56 :: x57 :: x58 :: x59 :: x60 :: x61 :: x62 :: x63 :: x64 :: x65 :: x66 :: x67 :: x68 :: x69 :: x70 :: x71 :: x72 :: x73 :: x74 :: x75 :: x76 :: x77 :: x78 :: x79 :: x80 :: x81 :: x82 :: x83 :: x84 :: x85 :: x86 :: x87 :: x88 :: x89 :: x90 :: x91 :: x92 :: x93 :: x94 :: x95 :: x96 :: x97 :: x98 :: x99 :: x100 :: x101 :: x102 :: x103 :: x104 :: x105 :: x106 :: x107 :: x108 :: x109 :: x110 :: x111 :: x112 :: x113 :: x114 :: x115 :: x116 :: x117 :: x118 :: x119 :: x120 :: x121 :: x122 :: x123 :: x124 :: x125 :: x126 :: x127 :: x128 :: x129 :: x130 :: x131 :: x132 :: x133 :: x134 :: x135 :: x136 :: x137 :: x138 :: x139 :: x140 :: x141 :: x142 :: x143 :: x144 :: x145 :: x146 :: x147 :: x148 :: x149 :: x150 :: x151 :: x152 :: x153 :: x154 :: x155 :: x156 :: x157 :: x158 :: x159 :: x160 :: x161 :: x162 :: x163 :: x164 :: x165 :: x166 :: x167 :: x168 :: x169 :: x170 :: x171 :: x172 :: x173 :: x174 :: x175 :: x176 :: x177 :: x178 :: x179 :: x180 :: x181 :: x182 :: x183 :: x184 :: x185 :: x186 :: x187 :: x188 :: x189 :: x190 :: x191 :: x192 :: x193 :: x194 :: x195 :: x196 :: x197 :: x198 :: []), []⟩ W := by
  conv => arg 2; whnf
  obtain ⟨A, cc, hv⟩ := h.ws.shape
  have c5 := h.c5
  rw [hv] at c5
  have HS := Lib.hid h
  have HW := Lib.hid hw
  have HV := Lib.hid hv
  have HG := Lib.hid hg
  have HG7 := Lib.hid hg7
  obtain ⟨tn, ts, ta, th⟩ := wt
  have y0 : W.cell? ⟨g7, 0, none⟩ = some (.int .i64 tn) := by simp [World.cell?, h7, wtC]
  have y1 : W.cell? ⟨g7, 1, none⟩ = some (.int .u64 ts) := by simp [World.cell?, h7, wtC]
  have y2 : W.cell? ⟨g7, 2, none⟩ = some (.int .u64 ta) := by simp [World.cell?, h7, wtC]
  have y3 : W.cell? ⟨g7, 3, none⟩ = some (.bool th) := by simp [World.cell?, h7, wtC]
  have ub := h.lt (hb p b)
  have hrw := h.ws
  rw [hv] at hrw
  have HR := Lib.hid hrw
  have hgb : g ≠ b := fun e => hg (e ▸ hb p b)
  have HJ := Lib.hid hJ
  have HK := Lib.hid hK
  obtain ⟨j0, hj0⟩ := info96
  have HI := Lib.hid hj0
  clear h hw hv hg hg7 h7 hrw hj0
  go_upto_region 21 with fail
  have S0 : (fun W' : World => W'.cell? ⟨g, 0, none⟩ = some (.pointer (some ⟨b, 0, none⟩)) ∧ W'.cell? ⟨b, 5, none⟩ = some (.slice A d.ws.length cc) ∧ W'.cell? ⟨g7, 0, none⟩ = some (.int .i64 tn) ∧ W'.cell? ⟨g7, 1, none⟩ = some (.int .u64 ts) ∧ W'.cell? ⟨g7, 2, none⟩ = some (.int .u64 ta) ∧ W'.cell? ⟨g7, 3, none⟩ = some (.bool th)) W.drew := ⟨hx, c5, y0, y1, y2, y3⟩
  refine Upto.start (fun W' : World => W'.cell? ⟨g, 0, none⟩ = some (.pointer (some ⟨b, 0, none⟩)) ∧ W'.cell? ⟨b, 5, none⟩ = some (.slice A d.ws.length cc) ∧ W'.cell? ⟨g7, 0, none⟩ = some (.int .i64 tn) ∧ W'.cell? ⟨g7, 1, none⟩ = some (.int .u64 ts) ∧ W'.cell? ⟨g7, 2, none⟩ = some (.int .u64 ta) ∧ W'.cell? ⟨g7, 3, none⟩ = some (.bool th)) 10 (by kernel_rfl) ?_
  change Upto _ _ _ _ _ _ 11 _ _ _
  refine Upto.take (i := 0) (v := ?v0) rfl (by kernel_rfl) (by kernel_rfl) (by kernel_rfl) (by kernel_rfl) (fun _ _ _ hh => hQ _ _ _ _ _ hh) S0 (Or.inl ⟨by rfl, ?hy0⟩) ?rest0
  case hy0 =>
    intro W' hW
    obtain ⟨lx, l5, l0, l1, l2, l3⟩ := hW
    go_simp
    try with_reducible rfl
  try simp only [Act.put, List.setIfInBounds_toArray, List.set_cons_zero, List.set_cons_succ]
  refine Upto.take (i := 1) (v := ?v1) rfl (by kernel_rfl) (by kernel_rfl) (by kernel_rfl) (by kernel_rfl) (fun _ _ _ hh => hQ _ _ _ _ _ hh) S0 (Or.inl ⟨by rfl, ?hy1⟩) ?rest1
  case hy1 =>
    intro W' hW
    obtain ⟨lx, l5, l0, l1, l2, l3⟩ := hW
    go_simp
    try with_reducible rfl
  try simp only [Act.put, List.setIfInBounds_toArray, List.set_cons_zero, List.set_cons_succ]
  refine Upto.take (i := 2) (v := ?v2) rfl (by kernel_rfl) (by kernel_rfl) (by kernel_rfl) (by kernel_rfl) (fun _ _ _ hh => hQ _ _ _ _ _ hh) S0 (Or.inl ⟨by rfl, ?hy2⟩) ?rest2
  case hy2 =>
    intro W' hW
    obtain ⟨lx, l5, l0, l1, l2, l3⟩ := hW
    go_simp
    try with_reducible rfl
  try simp only [Act.put, List.setIfInBounds_toArray, List.set_cons_zero, List.set_cons_succ]
  refine Upto.take (i := 3) (v := ?v3) rfl (by kernel_rfl) (by kernel_rfl) (by kernel_rfl) (by kernel_rfl) (fun _ _ _ hh => hQ _ _ _ _ _ hh) S0 (Or.inl ⟨by rfl, ?hy3⟩) ?rest3
  case hy3 =>
    intro W' hW
    obtain ⟨lx, l5, l0, l1, l2, l3⟩ := hW
    go_simp
    try with_reducible rfl
  try simp only [Act.put, List.setIfInBounds_toArray, List.set_cons_zero, List.set_cons_succ]
  refine Upto.take (i := 4) (v := ?v4) rfl (by kernel_rfl) (by kernel_rfl) (by kernel_rfl) (by kernel_rfl) (fun _ _ _ hh => hQ _ _ _ _ _ hh) S0 (Or.inl ⟨by rfl, ?hy4⟩) ?rest4
  case hy4 =>
    intro W' hW
    obtain ⟨lx, l5, l0, l1, l2, l3⟩ := hW
    go_simp
    try with_reducible rfl
  try simp only [Act.put, List.setIfInBounds_toArray, List.set_cons_zero, List.set_cons_succ]
  refine Upto.take (i := 5) (v := ?v5) rfl (by kernel_rfl) (by kernel_rfl) (by kernel_rfl) (by kernel_rfl) (fun _ _ _ hh => hQ _ _ _ _ _ hh) S0 (Or.inl ⟨by rfl, ?hy5⟩) ?rest5
  case hy5 =>
    intro W' hW
    obtain ⟨lx, l5, l0, l1, l2, l3⟩ := hW
    go_simp
    try with_reducible rfl
  try simp only [Act.put, List.setIfInBounds_toArray, List.set_cons_zero, List.set_cons_succ]
  refine Upto.one (i := 6) (by kernel_rfl) rfl (fun K hK => ?_)
  go_simp
  obtain ⟨wa, hwa⟩ : ∃ wa, wa = (W.alloc (.cells #[.int .i64 tn, .int .u64 ts, .int .u64 ta, .bool th] 96)).drew := ⟨_, rfl⟩
  have ka : Keep (fun _ => False) W wa := by rw [hwa]; exact ((Keep.refl _ W).alloc _).drew
  have hba : wa.heap[W.heap.size]? = some (.cells #[.int .i64 tn, .int .u64 ts, .int .u64 ta, .bool th] 96 (0, 0)) := by rw [hwa]; exact heap_alloc_new W _
  rw [← hwa]
  refine hK.out _ _ (.inr ⟨ka.cell hx, ka.cell c5, ka.cell y0, ka.cell y1, ka.cell y2, ka.cell y3⟩) ?_
  clear hK K
  try simp only [Act.put, List.setIfInBounds_toArray, List.set_cons_zero, List.set_cons_succ]
  refine Upto.one (i := 7) (by kernel_rfl) rfl (fun K hK => ?_)
  refine step_append_row (by rfl) _ _ _ (by rfl) 96 j0 (.agg #[.int .i64 0, .int .u64 0, .int .u64 0, .bool false]) 4 32 Tryz.underlying45 HI.out.has HI.out.zero HI.out.size HI.out.bytes rfl (by decide) (.slice A d.ws.length cc) d.ws.length (flat wtC d.ws) (by rfl) (HR.out.keep0 ka) ⟨W.heap.size, 0, none⟩ 1 1 (wtC ⟨tn, ts, ta, th⟩) (by rfl) (by rfl) (World.news_of_block (cs := (wtC ⟨tn, ts, ta, th⟩).toArray) (t := 96) (fr := (0, 0)) hba) (wt_one _) (by decide) (by have := HW.out; simp only [maxLen]; omega) (by have := HW.out; omega) ?_
  intro v3 w3 hA3
  have hSb : ∀ j, (Value.slice A d.ws.length cc).ownBlock = some j → p.has b j := fun j hj => ⟨.inr (.inr (.inr (.inl (HV.out ▸ hj))))⟩
  have hnb : ¬ (Value.slice A d.ws.length cc).ownBlock = some b := fun hj => (HS.out.kb.ne (HS.out.kw (HV.out ▸ hj)) (by decide)) rfl
  have qx := hA3.keep.cellS (ka.cell hx) (fun hj => HG.out (hSb g hj))
  have q5 := hA3.keep.cellS (ka.cell c5) hnb
  have q0 := hA3.keep.cellS (ka.cell y0) (fun hj => HG7.out (hSb g7 hj))
  have q1 := hA3.keep.cellS (ka.cell y1) (fun hj => HG7.out (hSb g7 hj))
  have q2 := hA3.keep.cellS (ka.cell y2) (fun hj => HG7.out (hSb g7 hj))
  have q3 := hA3.keep.cellS (ka.cell y3) (fun hj => HG7.out (hSb g7 hj))
  have f5 : w3.frozen? ⟨b, 5, none⟩ = false := by
    have := hA3.keep.old (ka.old HS.out.blk id) hnb
    simp [World.frozen?, this]
  have HSET := Lib.hid (HS.out.set_ws (w1 := w3) (v' := v3) (l' := d.ws ++ [⟨tn, ts, ta, th⟩]) ((ka.mono fun _ h _ => h.elim).step (hA3.keep.mono fun j hj _ => HV.out ▸ hj)) (by rw [List.length_append, flat_append, flat_one]; exact hA3.row) (fun g hg => by
    rcases hA3.blk with h1 | ⟨g', h1, h2⟩
    · exact .inl (HV.out ▸ h1 ▸ hg)
    · have e : some g = some g' := hg.symm.trans h1
      injection e with e
      have := ka.size
      exact .inr (by omega)))
  obtain ⟨A3, c3, hsh⟩ := hA3.row.shape
  refine hK.out _ _ (.inr ⟨qx, q5, q0, q1, q2, q3⟩) ?_
  clear hK K hA3 hba hwa hSb hnb ka
  try simp only [Act.put, List.setIfInBounds_toArray, List.set_cons_zero, List.set_cons_succ]
  refine Upto.one (i := 8) (by kernel_rfl) rfl (fun K hK => ?_)
  go_simp
  refine hK.out _ _ (.inr ⟨qx, q5, q0, q1, q2, q3⟩) ?_
  clear hK K
  try simp only [Act.put, List.setIfInBounds_toArray, List.set_cons_zero, List.set_cons_succ]
  refine Upto.one (i := 9) (by kernel_rfl) rfl (fun K hK => ?_)
  go_simp
  refine hK.out _ _ (.inr ⟨qx, q5, q0, q1, q2, q3⟩) ?_
  clear hK K
  try simp only [Act.put, List.setIfInBounds_toArray, List.set_cons_zero, List.set_cons_succ]
  refine Upto.one (i := 10) (by kernel_rfl) rfl (fun K hK => ?_)
  subst hsh
  go_simp
  refine hK.out _ _ (.inl rfl) ?_
  clear hK K
  try simp only [Act.put, List.setIfInBounds_toArray, List.set_cons_zero, List.set_cons_succ]
  refine Upto.done (by kernel_rfl) ?_
  go_wp2_with fail
  go_meet
  exact ⟨⟨_, HSET.out.1, HSET.out.2.1⟩, HSET.out.2.2⟩
end Go.Proofs.YtofonfohaocclaaGreatDoor
