/- Walk of Detector.Tick: who is pinged. -/
import Derived.Test.YtofonfohaocclaaGreatDoorG26
namespace Go.Proofs.YtofonfohaocclaaGreatDoor
open Go.RowKit Sh
open Go.ChangeMaps (setBlock)
set_option linter.unusedVariables false
set_option linter.unusedSimpArgs false

/-- How Next ends. -/
structure NxRel (W w' : World) (b : Nat) (p : Parts) (xl : Nat) (d : Det) (L : List Int) (v15 v16 : Value) : Prop where
  or : (nextP d.r.others d.left L = none ∧ v16 = .bool false ∧ DLSet W w' b p xl d L) ∨
    (∃ m left' L', nextP d.r.others d.left L = some (m, left', L') ∧ v15 = .int .i64 m ∧ v16 = .bool true ∧ DLSet W w' b p xl { d with left := left' } L')
set_option maxRecDepth 100000 in
set_option maxHeartbeats 4000000 in
theorem tick_next {W : World} {b g xl : Nat} {d : Det} {p : Parts} {n : Nat} {L : List Int} (h : IsDet W b d p) (ho : KO n d) (hT : TabAt 0 B.tabS W) (hL : IsLots W xl L) (hx : W.cell? ⟨g, 0, none⟩ = some (.pointer (some ⟨b, 0, none⟩))) (hg : ¬ p.has b g) (hgx : g ≠ xl) (x0 x3 x4 x5 x6 x7 x8 x9 x10 x11 x12 x13 x14 x15 x16 x17 x18 x19 x20 x21 x22 x23 x24 x25 x26 x27 x28 x29 x30 x31 x32 x33 x34 x35 x36 x37 x38 x39 x40 x41 x42 x43 x44 x45 x46 x47 x48 x49 x50 x51 x52 x53 x54 x55 x56 x57 x58 x59 x60 x61 x62 x63 x64 x65 x66 x67 x68 x69 x70 x71 x72 x73 x74 x75 x76 x77 x78 x79 x80 x81 x82 x83 x84 x85 x86 x87 x88 x89 x90 x91 x92 x93 x94 x95 x96 x97 x98 x99 x100 x101 x102 x103 x104 x105 x106 x107 x108 x109 x110 x111 x112 x113 x114 x115 x116 x117 x118 x119 x120 x121 x122 x123 x124 x125 x126 x127 x128 x129 x130 x131 x132 x133 x134 x135 x136 x137 x138 x139 x140 x141 x142 x143 x144 x145 x146 x147 x148 x149 x150 x151 x152 x153 x154 x155 x156 x157 x158 x159 x160 x161 x162 x163 x164 x165 x166 x167 x168 x169 x170 x171 x172 x173 x174 x175 x176 x177 x178 x179 x180 x181 x182 x183 x184 x185 x186 x187 x188 x189 x190 x191 x192 x193 x194 x195 x196 x197 x198 : Value) (J K : Act → World → Prop) (Q : Exit → Act → World → Prop) (hQ : ∀ c (a : Act) o v w', Q (.panic c) (a.put o v) w' → Q (.panic c) a w')
    (hJ : ∀ a' w', (fun a' w' => ∃ u15, ∃ u16, ∃ u157, ∃ u158, ∃ u159, ∃ u160, ∃ u161, ∃ u162, ∃ u163, ∃ u164, ∃ u165, ∃ u166, ∃ u167, ∃ u168, ∃ u169, (NxRel W w' b p xl d L u15 u16) ∧ a' = ⟨List.toArray (x0 :: .pointer (some ⟨xl, 0, none⟩) :: .pointer (some ⟨g, 0, none⟩) :: x3 :: x4 :: x5 :: x6 :: x7 :: x8 :: x9 :: x10 :: x11 :: x12 :: x13 :: x14 :: u15 :: u16 :: x17 :: x18 :: x19 :: x20 :: x21 :: x22 :: x23 :: x24 :: x25 :: x26 :: x27 :: x28 :: x29 :: x30 :: x31 :: x32 :: x33 :: x34 :: x35 :: x36 :: x37 :: x38 :: x39 :: x40 :: x41 :: x42 :: x43 :: x44 :: x45 :: x46 :: x47 :: x48 :: x49 :: x50 :: x51 :: x52 :: x53 :: x54 :: x55 :: x56 :: x57 :: x58 :: x59 :: x60 :: x61 :: x62 :: x63 :: x64 :: x65 :: x66 :: x67 :: x68 :: x69 :: x70 :: x71 :: x72 :: x73 :: x74 :: x75 :: x76 :: x77 :: x78 :: x79 :: x80 :: x81 :: x82 :: x83 :: x84 :: x85 :: x86 :: x87 :: x88 :: x89 :: x90 :: x91 :: x92 :: x93 :: x94 :: x95 :: x96 :: x97 :: x98 :: x99 :: x100 :: x101 :: x102 :: x103 :: x104 :: x105 :: x106 :: x107 :: x108 :: x109 :: x110 :: x111 :: x112 :: x113 :: x114 :: x115 :: x116 :: x117 :: x118 :: x119 :: x120 :: x121 :: x122 :: x123 :: x124 :: x125 :: x126 :: x127 :: x128 :: x129 :: x130 :: x131 :: x132 :: x133 :: x134 :: x135 :: x136 :: x137 :: x138 :: x139 :: x140 :: x141 :: x142 :: x143 :: x144 :: x145 :: x146 :: x147 :: x148 :: x149 :: x150 :: x151 :: x152 :: x153 :: x154 :: x155 :: x156 :: u157 :: u158 :: u159 :: u160 :: u161 :: u162 :: u163 :: u164 :: u165 :: u166 :: u167 :: u168 :: u169 :: x170 :: x171 :: x172 :: x173 :: x174 :: x175 :: x176 :: x177 :: x178 :: x179 :: x180 :: x181 :: x182 :: x183 :: x184 :: x185 :: x186 :: x187 :: x188 :: x189 :: x190 :: x191 :: x192 :: x193 :: x194 :: x195 :: x196 :: x197 :: x198 :: []), []⟩) a' w' → J a' w') (hK : ∀ a' w', Met J a' w' → K a' w') :
    Code.wp Tryz.prog (fSub Tryz.f12 [1, 1, 1, 1, 1, 1, 1, 1, 0]) (Exit.then K Q) ⟨List.toArray (x0 :: .pointer (some ⟨xl, 0, none⟩) :: .pointer (some ⟨g, 0, none⟩) :: x3 :: x4 :: x5 :: x6 :: x7 :: x8 :: x9 :: x10 :: x11 :: x12 :: x13 :: x14 :: x15 :: x16 :: x17 :: x18 :: x19 :: x20 :: x21 :: x22 :: x23 :: x24 :: x25 :: x26 :: x27 :: x28 :: x29 :: x30 :: x31 :: x32 :: x33 :: x34 :: x35 :: x36 :: x37 :: x38 :: x39 :: x40 :: x41 :: x42 :: x43 :: x44 :: x45 :: x46 :: x47 :: x48 :: x49 :: x50 :: x51 :: x52 :: x53 :: x54 :: x55 :: x56 :: x57 :: x58 :: x59 :: x60 :: x61 :: x62 :: x63 :: x64 :: x65 :: x66 :: x67 :: x68 :: x69 :: x70 :: x71 :: x72 :: x73 :: x74 :: x75 :: x76 :: x77 :: x78 :: x79 :: x80 :: x81 :: x82 :: x83 :: x84 :: x85 :: x86 :: x87 :: x88 :: x89 :: x90 :: x91 :: x92 :: x93 :: x94 :: x95 :: x96 :: x97 :: x98 :: x99 :: x100 :: x101 :: x102 :: x103 :: x104 :: x105 :: x106 :: x107 :: x108 :: x109 :: x110 :: x111 :: x112 :: x113 :: x114 :: x115 :: x116 :: x117 :: x118 :: x119 :: x120 :: x121 :: x122 :: x123 :: x124 :: x125 :: x126 :: x127 :: x128 :: x129 :: x130 :: x131 :: x132 :: x133 :: x134 :: x135 :: x136 :: x137 :: x138 :: x139 :: x140 :: x141 :: x142 :: x143 :: x144 :: x145 :: x146 :: x147 :: x148 :: x149 :: x150 :: x151 :: x152 :: x153 :: x154 :: x155 :: x156 :: x157 :: x158 :: x159 :: x160 :: x161 :: x162 :: x163 :: x164 :: x165 :: x166 :: x167 :: x168 :: x169 :: x170 :: x171 :: x172 :: x173 :: x174 :: x175 :: x176 :: x177 :: x178 :: x179 :: x180 :: x181 :: x182 :: x183 :: x184 :: x185 :: x186 :: x187 :: x188 :: x189 :: x190 :: x191 :: x192 :: x193 :: x194 :: x195 :: x196 :: x197 :: x198 :: []), []⟩ W := by
  conv => arg 2; whnf
  have c0 := h.c0
  have k0 : Keep (fun _ => False) W W.drew := (Keep.refl _ W).drew
  have HOT := Lib.hid (rothers_any (h.keep0 k0).rol ho.ok.r (B.tab_keep hT k0 id))
  have hgb : g ≠ b := fun e => hg (e ▸ hb p b)
  have ub := h.lt (hb p b)
  have ux := hL.lt
  have hbx : b ≠ xl := h.kb.ne hL.kind (by decide)
  have HS := Lib.hid h
  have HKO := Lib.hid ho
  have HL := Lib.hid hL
  have HJ := Lib.hid hJ
  have HK := Lib.hid hK
  clear h ho hT hL hg
  go_upto_region 29 with fail
  have S0 : (fun W' : World => W'.cell? ⟨g, 0, none⟩ = some (.pointer (some ⟨b, 0, none⟩)) ∧ W'.cell? ⟨b, 0, none⟩ = some (.pointer (some ⟨p.rb, 0, none⟩))) W.drew := ⟨hx, c0⟩
  refine Upto.start (fun W' : World => W'.cell? ⟨g, 0, none⟩ = some (.pointer (some ⟨b, 0, none⟩)) ∧ W'.cell? ⟨b, 0, none⟩ = some (.pointer (some ⟨p.rb, 0, none⟩))) 1000 (by kernel_rfl) ?_
  change Upto _ _ _ _ _ _ 15 _ _ _
  refine Upto.takeS (i := 0) (v := ?v0) rfl (by kernel_rfl) (by kernel_rfl) (by kernel_rfl) (by kernel_rfl) (fun _ _ _ hh => hQ _ _ _ _ _ hh) S0 (Or.inl ⟨by rfl, ?hy0⟩) ?rest0
  case hy0 =>
    intro W' hW
    obtain ⟨lx, l0⟩ := hW
    go_simp
    try with_reducible rfl
  try simp only [Act.put, List.setIfInBounds_toArray, List.set_cons_zero, List.set_cons_succ]
  refine Upto.takeS (i := 1) (v := ?v1) rfl (by kernel_rfl) (by kernel_rfl) (by kernel_rfl) (by kernel_rfl) (fun _ _ _ hh => hQ _ _ _ _ _ hh) S0 (Or.inl ⟨by rfl, ?hy1⟩) ?rest1
  case hy1 =>
    intro W' hW
    obtain ⟨lx, l0⟩ := hW
    go_simp
    try with_reducible rfl
  try simp only [Act.put, List.setIfInBounds_toArray, List.set_cons_zero, List.set_cons_succ]
  refine Upto.takeS (i := 2) (v := ?v2) rfl (by kernel_rfl) (by kernel_rfl) (by kernel_rfl) (by kernel_rfl) (fun _ _ _ hh => hQ _ _ _ _ _ hh) S0 (Or.inl ⟨by rfl, ?hy2⟩) ?rest2
  case hy2 =>
    intro W' hW
    obtain ⟨lx, l0⟩ := hW
    go_simp
    try with_reducible rfl
  try simp only [Act.put, List.setIfInBounds_toArray, List.set_cons_zero, List.set_cons_succ]
  refine Upto.takeS (i := 3) (v := ?v3) rfl (by kernel_rfl) (by kernel_rfl) (by kernel_rfl) (by kernel_rfl) (fun _ _ _ hh => hQ _ _ _ _ _ hh) S0 (Or.inl ⟨by rfl, ?hy3⟩) ?rest3
  case hy3 =>
    intro W' hW
    obtain ⟨lx, l0⟩ := hW
    go_simp
    try with_reducible rfl
  try simp only [Act.put, List.setIfInBounds_toArray, List.set_cons_zero, List.set_cons_succ]
  refine Upto.takeS (i := 4) (v := ?v4) rfl (by kernel_rfl) (by kernel_rfl) (by kernel_rfl) (by kernel_rfl) (fun _ _ _ hh => hQ _ _ _ _ _ hh) S0 (Or.inl ⟨by rfl, ?hy4⟩) ?rest4
  case hy4 =>
    intro W' hW
    obtain ⟨lx, l0⟩ := hW
    go_simp
    try with_reducible rfl
  try simp only [Act.put, List.setIfInBounds_toArray, List.set_cons_zero, List.set_cons_succ]
  refine Upto.takeS (i := 5) (v := ?v5) rfl (by kernel_rfl) (by kernel_rfl) (by kernel_rfl) (by kernel_rfl) (fun _ _ _ hh => hQ _ _ _ _ _ hh) S0 (Or.inl ⟨by rfl, ?hy5⟩) ?rest5
  case hy5 =>
    intro W' hW
    obtain ⟨lx, l0⟩ := hW
    go_simp
    try with_reducible rfl
  try simp only [Act.put, List.setIfInBounds_toArray, List.set_cons_zero, List.set_cons_succ]
  refine Upto.takeS (i := 6) (v := ?v6) rfl (by kernel_rfl) (by kernel_rfl) (by kernel_rfl) (by kernel_rfl) (fun _ _ _ hh => hQ _ _ _ _ _ hh) S0 (Or.inl ⟨by rfl, ?hy6⟩) ?rest6
  case hy6 =>
    intro W' hW
    obtain ⟨lx, l0⟩ := hW
    go_simp
    try with_reducible rfl
  try simp only [Act.put, List.setIfInBounds_toArray, List.set_cons_zero, List.set_cons_succ]
  refine Upto.takeS (i := 8) (v := ?v8) rfl (by kernel_rfl) (by kernel_rfl) (by kernel_rfl) (by kernel_rfl) (fun _ _ _ hh => hQ _ _ _ _ _ hh) S0 (Or.inl ⟨by rfl, ?hy8⟩) ?rest8
  case hy8 =>
    intro W' hW
    obtain ⟨lx, l0⟩ := hW
    go_simp
    try with_reducible rfl
  try simp only [Act.put, List.setIfInBounds_toArray, List.set_cons_zero, List.set_cons_succ]
  refine Upto.one (i := 7) (by kernel_rfl) rfl (fun K hK => ?_)
  go_simp
  refine HOT.out.mono ?_
  rintro e w2 ⟨v2, rfl, ho2, hk2⟩
  have S2 : (fun W' : World => W'.cell? ⟨g, 0, none⟩ = some (.pointer (some ⟨b, 0, none⟩)) ∧ W'.cell? ⟨b, 0, none⟩ = some (.pointer (some ⟨p.rb, 0, none⟩))) w2 := ⟨hk2.cell S0.1, hk2.cell S0.2⟩
  have HD2 := Lib.hid ((HS.out.keep0 k0).keep0 hk2)
  have HL2 := Lib.hid ((HL.out.keep0 k0).keep0 hk2)
  have HK2 := Lib.hid (k0.step hk2)
  have hnx : Calls Tryz.prog 39 #[.pointer (some ⟨b, 1, none⟩), v2, .pointer (some ⟨xl, 0, none⟩)] w2 _ := next_round (q := lL b p d) ⟨HD2.out.blk, rfl⟩ HD2.out.left (Row.of_own ho2) HL2.out hbx ⟨by show (48 : Nat) ≠ 3; decide, by show (48 : Nat) ≠ 29; decide⟩ (Nat.le_trans HKO.out.ok.left.len (by decide)) (Nat.le_trans (bList_ok _).len (by decide))
  have HNX := Lib.hid hnx
  refine hK.out _ _ (.inr S2) ?_
  clear hK K HOT ho2 hk2 hnx S0
  try simp only [Act.put, List.setIfInBounds_toArray, List.set_cons_zero, List.set_cons_succ]
  refine Upto.one (i := 9) (by kernel_rfl) rfl (fun K hK => ?_)
  go_simp
  refine HNX.out.mono ?_
  rintro e w3 (⟨hn, rfl, hk3⟩ | ⟨m, left', L', hn, rfl, hni⟩)
  · have S3 : (fun W' : World => W'.cell? ⟨g, 0, none⟩ = some (.pointer (some ⟨b, 0, none⟩)) ∧ W'.cell? ⟨b, 0, none⟩ = some (.pointer (some ⟨p.rb, 0, none⟩))) w3 := ⟨hk3.cell S2.1, hk3.cell S2.2⟩
    have HF : Hid (NxRel W w3 b p xl d L (.int .i64 0) (.bool false)) := Lib.hid ⟨.inl ⟨hn, rfl, (DSet.same HS.out (HK2.out.step hk3)).dl HS.out HL.out⟩⟩
    refine hK.out _ _ (.inr S3) ?_
    clear hK K hn hk3 HNX S2
    try simp only [Act.put, List.setIfInBounds_toArray, List.set_cons_zero, List.set_cons_succ]
    refine Upto.one (i := 10) (by kernel_rfl) rfl (fun K hK => ?_)
    go_simp
    refine hK.out _ _ (.inr S3) ?_
    clear hK K
    try simp only [Act.put, List.setIfInBounds_toArray, List.set_cons_zero, List.set_cons_succ]
    refine Upto.takeS (i := 11) (v := ?v11) rfl (by kernel_rfl) (by kernel_rfl) (by kernel_rfl) (by kernel_rfl) (fun _ _ _ hh => hQ _ _ _ _ _ hh) S3 (Or.inl ⟨by rfl, ?hy11⟩) ?rest11
    case hy11 =>
      intro W' hW
      obtain ⟨lx, l0⟩ := hW
      go_simp
      try with_reducible rfl
    try simp only [Act.put, List.setIfInBounds_toArray, List.set_cons_zero, List.set_cons_succ]
    refine Upto.takeS (i := 12) (v := ?v12) rfl (by kernel_rfl) (by kernel_rfl) (by kernel_rfl) (by kernel_rfl) (fun _ _ _ hh => hQ _ _ _ _ _ hh) S3 (Or.inl ⟨by rfl, ?hy12⟩) ?rest12
    case hy12 =>
      intro W' hW
      obtain ⟨lx, l0⟩ := hW
      go_simp
      try with_reducible rfl
    try simp only [Act.put, List.setIfInBounds_toArray, List.set_cons_zero, List.set_cons_succ]
    try simp only [Act.put, List.setIfInBounds_toArray, List.set_cons_zero, List.set_cons_succ]
    refine Upto.one (i := 13) (by kernel_rfl) rfl (fun K hK => ?_)
    go_simp
    refine hK.out _ _ (.inr S3) ?_
    clear hK K
    try simp only [Act.put, List.setIfInBounds_toArray, List.set_cons_zero, List.set_cons_succ]
    refine Upto.one (i := 14) (by kernel_rfl) rfl (fun K hK => ?_)
    go_simp
    refine hK.out _ _ (.inr S3) ?_
    clear hK K
    try simp only [Act.put, List.setIfInBounds_toArray, List.set_cons_zero, List.set_cons_succ]
    refine Upto.done (by kernel_rfl) ?_
    go_wp2_with fail
    go_meet
    exact HF.out
  · obtain ⟨v', hat, hrw, hob⟩ := hni.ex
    have hkk : Keep (fun k => k = b ∨ k = xl) w2 w3 := hni.keep
    have hb3 : w3.heap[b]? = some (.cells ((lL b p d).to v').cs 48 (0, 0)) := hat.cell
    have e0 : w3.cell? ⟨b, 0, none⟩ = some (.pointer (some ⟨p.rb, 0, none⟩)) := by simp [World.cell?, hb3, lL, Loc.to, detC]
    have S3 : (fun W' : World => W'.cell? ⟨g, 0, none⟩ = some (.pointer (some ⟨b, 0, none⟩)) ∧ W'.cell? ⟨b, 0, none⟩ = some (.pointer (some ⟨p.rb, 0, none⟩))) w3 := ⟨hkk.cellS S2.1 (fun hh => by
      rcases hh with hh | hh
      · exact hgb hh
      · exact hgx hh), e0⟩
    have hjs := join_set HD2.out HL2.out (l' := left') (L' := L') hat hrw hob hni.lots hkk
    have HF : Hid (NxRel W w3 b p xl d L (.int .i64 m) (.bool true)) := Lib.hid ⟨.inr ⟨m, left', L', hn, rfl, rfl, DLSet.next (fun k hk => .inl hk) (HK2.out.mono fun _ h _ => h.elim) hjs⟩⟩
    refine hK.out _ _ (.inr S3) ?_
    clear hK K hn hni HNX S2 hat hrw hob hkk hb3 hjs
    try simp only [Act.put, List.setIfInBounds_toArray, List.set_cons_zero, List.set_cons_succ]
    refine Upto.one (i := 10) (by kernel_rfl) rfl (fun K hK => ?_)
    go_simp
    refine hK.out _ _ (.inr S3) ?_
    clear hK K
    try simp only [Act.put, List.setIfInBounds_toArray, List.set_cons_zero, List.set_cons_succ]
    refine Upto.takeS (i := 11) (v := ?w11) rfl (by kernel_rfl) (by kernel_rfl) (by kernel_rfl) (by kernel_rfl) (fun _ _ _ hh => hQ _ _ _ _ _ hh) S3 (Or.inl ⟨by rfl, ?hz11⟩) ?rst11
    case hz11 =>
      intro W' hW
      obtain ⟨lx, l0⟩ := hW
      go_simp
      try with_reducible rfl
    try simp only [Act.put, List.setIfInBounds_toArray, List.set_cons_zero, List.set_cons_succ]
    refine Upto.takeS (i := 12) (v := ?w12) rfl (by kernel_rfl) (by kernel_rfl) (by kernel_rfl) (by kernel_rfl) (fun _ _ _ hh => hQ _ _ _ _ _ hh) S3 (Or.inl ⟨by rfl, ?hz12⟩) ?rst12
    case hz12 =>
      intro W' hW
      obtain ⟨lx, l0⟩ := hW
      go_simp
      try with_reducible rfl
    try simp only [Act.put, List.setIfInBounds_toArray, List.set_cons_zero, List.set_cons_succ]
    try simp only [Act.put, List.setIfInBounds_toArray, List.set_cons_zero, List.set_cons_succ]
    refine Upto.one (i := 13) (by kernel_rfl) rfl (fun K hK => ?_)
    go_simp
    refine hK.out _ _ (.inr S3) ?_
    clear hK K
    try simp only [Act.put, List.setIfInBounds_toArray, List.set_cons_zero, List.set_cons_succ]
    refine Upto.one (i := 14) (by kernel_rfl) rfl (fun K hK => ?_)
    go_simp
    refine hK.out _ _ (.inr S3) ?_
    clear hK K
    try simp only [Act.put, List.setIfInBounds_toArray, List.set_cons_zero, List.set_cons_succ]
    refine Upto.done (by kernel_rfl) ?_
    go_wp2_with fail
    go_meet
    exact HF.out
end Go.Proofs.YtofonfohaocclaaGreatDoor
