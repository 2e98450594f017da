/- Walk of Detector.Tick: the doubts that are over. -/
import Derived.Test.YtofonfohaocclaaGreatDoorG26
namespace Go.Proofs.YtofonfohaocclaaGreatDoor
open Go.RowKit Sh
open Go.ChangeMaps (setBlock)
set_option linter.unusedVariables false
set_option linter.unusedSimpArgs false

theorem tk_meas {i z n : Nat} (h : i + z = n) (hi : i < n) : n - (i + 1) < z := by omega
theorem tk_rel {i n : Nat} (hi : i < n) : i + 1 + (n - (i + 1)) = n := by omega
structure OLoop (w1 wr : World) (b : Nat) (p : Parts) (xl n : Nat) (me : Int) (D1 : Det) (L : List Int) (U : List Up) (i : Nat) : Prop where
  ex : ∃ di Li, DLSet w1 wr b p xl di Li ∧ KO n di ∧ di.r.me = me ∧ D1.takes L me U = di.takes Li me (U.drop i)
set_option maxRecDepth 100000 in
set_option maxHeartbeats 4000000 in
theorem tick_overs {W : World} {b g xl : Nat} {d : Det} {p : Parts} {n : Nat} {L : List Int} (h : IsDet W b d p) (ho : KO n d) (hT : TabAt 0 B.tabS W) (hL : IsLots W xl L) (hxp : 0 < xl) (hx : W.cell? ⟨g, 0, none⟩ = some (.pointer (some ⟨b, 0, none⟩))) (hg : ¬ p.has b g) (hgx : g ≠ xl) (x0 x3 x4 x5 x6 x7 x8 x9 x10 x11 x12 x13 x14 x15 x16 x17 x18 x19 x20 x21 x22 x23 x24 x25 x26 x27 x28 x29 x30 x31 x32 x33 x34 x35 x36 x37 x38 x39 x40 x41 x42 x43 x44 x45 x46 x47 x48 x49 x50 x51 x52 x53 x54 x55 x56 x57 x58 x59 x60 x61 x62 x63 x64 x65 x66 x67 x68 x69 x70 x71 x72 x73 x74 x75 x76 x77 x78 x79 x80 x81 x82 x83 x84 x85 x86 x87 x88 x89 x90 x91 x92 x93 x94 x95 x96 x97 x98 x99 x100 x101 x102 x103 x104 x105 x106 x107 x108 x109 x110 x111 x112 x113 x114 x115 x116 x117 x118 x119 x120 x121 x122 x123 x124 x125 x126 x127 x128 x129 x130 x131 x132 x133 x134 x135 x136 x137 x138 x139 x140 x141 x142 x143 x144 x145 x146 x147 x148 x149 x150 x151 x152 x153 x154 x155 x156 x157 x158 x159 x160 x161 x162 x163 x164 x165 x166 x167 x168 x169 x170 x171 x172 x173 x174 x175 x176 x177 x178 x179 x180 x181 x182 x183 x184 x185 x186 x187 x188 x189 x190 x191 x192 x193 x194 x195 x196 x197 x198 : Value) (J K : Act → World → Prop) (Q : Exit → Act → World → Prop) (hQ : ∀ c (a : Act) o v w', Q (.panic c) (a.put o v) w' → Q (.panic c) a w')
    (hJ : ∀ a' w', (fun a' w' => ∃ u14, ∃ u135, ∃ u136, ∃ u137, ∃ u138, ∃ u139, ∃ u140, ∃ u141, ∃ u142, ∃ u143, ∃ u144, ∃ u145, ∃ u146, ∃ u147, ∃ u148, ∃ u149, ∃ u150, ∃ u151, ∃ u152, ∃ u153, ∃ u154, ∃ u155, ∃ u156, (DLSet W w' b p xl (({ d with d := doverM d.d d.now } : Det).takes L d.r.me (doverU d.d d.now)).1 (({ d with d := doverM d.d d.now } : Det).takes L d.r.me (doverU d.d d.now)).2) ∧ a' = ⟨List.toArray (x0 :: .pointer (some ⟨xl, 0, none⟩) :: .pointer (some ⟨g, 0, none⟩) :: x3 :: x4 :: x5 :: x6 :: x7 :: x8 :: x9 :: x10 :: x11 :: x12 :: x13 :: u14 :: x15 :: x16 :: x17 :: x18 :: x19 :: x20 :: x21 :: x22 :: x23 :: x24 :: x25 :: x26 :: x27 :: x28 :: x29 :: x30 :: x31 :: x32 :: x33 :: x34 :: x35 :: x36 :: x37 :: x38 :: x39 :: x40 :: x41 :: x42 :: x43 :: x44 :: x45 :: x46 :: x47 :: x48 :: x49 :: x50 :: x51 :: x52 :: x53 :: x54 :: x55 :: x56 :: x57 :: x58 :: x59 :: x60 :: x61 :: x62 :: x63 :: x64 :: x65 :: x66 :: x67 :: x68 :: x69 :: x70 :: x71 :: x72 :: x73 :: x74 :: x75 :: x76 :: x77 :: x78 :: x79 :: x80 :: x81 :: x82 :: x83 :: x84 :: x85 :: x86 :: x87 :: x88 :: x89 :: x90 :: x91 :: x92 :: x93 :: x94 :: x95 :: x96 :: x97 :: x98 :: x99 :: x100 :: x101 :: x102 :: x103 :: x104 :: x105 :: x106 :: x107 :: x108 :: x109 :: x110 :: x111 :: x112 :: x113 :: x114 :: x115 :: x116 :: x117 :: x118 :: x119 :: x120 :: x121 :: x122 :: x123 :: x124 :: x125 :: x126 :: x127 :: x128 :: x129 :: x130 :: x131 :: x132 :: x133 :: x134 :: u135 :: u136 :: u137 :: u138 :: u139 :: u140 :: u141 :: u142 :: u143 :: u144 :: u145 :: u146 :: u147 :: u148 :: u149 :: u150 :: u151 :: u152 :: u153 :: u154 :: u155 :: u156 :: x157 :: x158 :: x159 :: x160 :: x161 :: x162 :: x163 :: x164 :: x165 :: x166 :: x167 :: x168 :: x169 :: x170 :: x171 :: x172 :: x173 :: x174 :: x175 :: x176 :: x177 :: x178 :: x179 :: x180 :: x181 :: x182 :: x183 :: x184 :: x185 :: x186 :: x187 :: x188 :: x189 :: x190 :: x191 :: x192 :: x193 :: x194 :: x195 :: x196 :: x197 :: x198 :: []), []⟩) a' w' → J a' w') (hK : ∀ a' w', Met J a' w' → K a' w') :
    Code.wp Tryz.prog (fSub Tryz.f12 [1, 1, 1, 1, 1, 1, 1, 0]) (Exit.then K Q) ⟨List.toArray (x0 :: .pointer (some ⟨xl, 0, none⟩) :: .pointer (some ⟨g, 0, none⟩) :: x3 :: x4 :: x5 :: x6 :: x7 :: x8 :: x9 :: x10 :: x11 :: x12 :: x13 :: x14 :: x15 :: x16 :: x17 :: x18 :: x19 :: x20 :: x21 :: x22 :: x23 :: x24 :: x25 :: x26 :: x27 :: x28 :: x29 :: x30 :: x31 :: x32 :: x33 :: x34 :: x35 :: x36 :: x37 :: x38 :: x39 :: x40 :: x41 :: x42 :: x43 :: x44 :: x45 :: x46 :: x47 :: x48 :: x49 :: x50 :: x51 :: x52 :: x53 :: x54 :: x55 :: x56 :: x57 :: x58 :: x59 :: x60 :: x61 :: x62 :: x63 :: x64 :: x65 :: x66 :: x67 :: x68 :: x69 :: x70 :: x71 :: x72 :: x73 :: x74 :: x75 :: x76 :: x77 :: x78 :: x79 :: x80 :: x81 :: x82 :: x83 :: x84 :: x85 :: x86 :: x87 :: x88 :: x89 :: x90 :: x91 :: x92 :: x93 :: x94 :: x95 :: x96 :: x97 :: x98 :: x99 :: x100 :: x101 :: x102 :: x103 :: x104 :: x105 :: x106 :: x107 :: x108 :: x109 :: x110 :: x111 :: x112 :: x113 :: x114 :: x115 :: x116 :: x117 :: x118 :: x119 :: x120 :: x121 :: x122 :: x123 :: x124 :: x125 :: x126 :: x127 :: x128 :: x129 :: x130 :: x131 :: x132 :: x133 :: x134 :: x135 :: x136 :: x137 :: x138 :: x139 :: x140 :: x141 :: x142 :: x143 :: x144 :: x145 :: x146 :: x147 :: x148 :: x149 :: x150 :: x151 :: x152 :: x153 :: x154 :: x155 :: x156 :: x157 :: x158 :: x159 :: x160 :: x161 :: x162 :: x163 :: x164 :: x165 :: x166 :: x167 :: x168 :: x169 :: x170 :: x171 :: x172 :: x173 :: x174 :: x175 :: x176 :: x177 :: x178 :: x179 :: x180 :: x181 :: x182 :: x183 :: x184 :: x185 :: x186 :: x187 :: x188 :: x189 :: x190 :: x191 :: x192 :: x193 :: x194 :: x195 :: x196 :: x197 :: x198 :: []), []⟩ W := by
  conv => arg 2; whnf
  have c8 := h.c8
  have k0 : Keep (fun _ => False) W W.drew := (Keep.refl _ W).drew
  have hdo : Calls Tryz.prog 38 #[.pointer (some ⟨b, 4, none⟩), .int .u64 d.now] W.drew fun e w' => ∃ v, e = .returned v ∧ Overed W.drew w' (dL b p d) p.dm v d.d d.now := dover_any (h.keep0 k0).d ho.ok.d d.now
  have ub := h.lt (hb p b)
  have ug : g < W.heap.size := World.block_lt_of_cell? W _ hx
  have ux := hL.lt
  have hgb : g ≠ b := fun e => hg (e ▸ hb p b)
  have hnm : ∀ k, k = b ∨ k = g → ¬ p.dm = some k := fun k hk e => by
    rcases hk with rfl | rfl
    · exact (h.kd e).ne h.kb (by decide) rfl
    · exact hg ⟨.inr (.inr (.inr (.inr (.inr (.inr e)))))⟩
  have HNM := Lib.hid hnm
  have HLT : Hid (∀ j, W.heap.size ≤ j → ¬ p.has b j) := Lib.hid (fun j hj hp => absurd (h.lt hp) (by omega))
  have HS := Lib.hid h
  have HKO := Lib.hid ho
  have HT := Lib.hid hT
  have HL := Lib.hid hL
  have HXP := Lib.hid hxp
  have HG := Lib.hid hg
  have HGX := Lib.hid hgx
  have HDO := Lib.hid hdo
  have HJ := Lib.hid hJ
  have HK := Lib.hid hK
  obtain ⟨U, hU⟩ : ∃ U, U = doverU d.d d.now := ⟨_, rfl⟩
  have hUi : ∀ u ∈ U, inU u.i := by rw [hU]; exact dover_in ho.io.dd _
  have hUl : U.length ≤ 64 := by
    rw [hU]
    unfold doverU
    rw [List.length_map]
    exact Nat.le_trans (List.length_filter_le _ _) (by show (sortB leDb d.d).length ≤ 64; rw [(sortB_perm leDb d.d).length_eq]; exact ho.ok.d.len)
  have HUI := Lib.hid hUi
  have HUL := Lib.hid hUl
  have HU := Lib.hid hU
  rw [← hU] at hJ HJ
  clear h ho hT hL hxp hg hgx hdo hUi hUl hU hnm
  go_upto_region 24 with fail
  have S0 : (fun W' : World => W'.cell? ⟨g, 0, none⟩ = some (.pointer (some ⟨b, 0, none⟩)) ∧ W'.cell? ⟨b, 8, none⟩ = some (.int .u64 d.now)) W.drew := ⟨hx, c8⟩
  refine Upto.start (fun W' : World => W'.cell? ⟨g, 0, none⟩ = some (.pointer (some ⟨b, 0, none⟩)) ∧ W'.cell? ⟨b, 8, none⟩ = some (.int .u64 d.now)) 1000 (by kernel_rfl) ?_
  change Upto _ _ _ _ _ _ 10 _ _ _
  refine Upto.takeS (i := 0) (v := ?v0) rfl (by kernel_rfl) (by kernel_rfl) (by kernel_rfl) (by kernel_rfl) (fun _ _ _ hh => hQ _ _ _ _ _ hh) S0 (Or.inl ⟨by rfl, ?hy0⟩) ?rest0
  case hy0 =>
    intro W' hW
    obtain ⟨lx, l8⟩ := hW
    go_simp
    try with_reducible rfl
  try simp only [Act.put, List.setIfInBounds_toArray, List.set_cons_zero, List.set_cons_succ]
  refine Upto.takeS (i := 1) (v := ?v1) rfl (by kernel_rfl) (by kernel_rfl) (by kernel_rfl) (by kernel_rfl) (fun _ _ _ hh => hQ _ _ _ _ _ hh) S0 (Or.inl ⟨by rfl, ?hy1⟩) ?rest1
  case hy1 =>
    intro W' hW
    obtain ⟨lx, l8⟩ := hW
    go_simp
    try with_reducible rfl
  try simp only [Act.put, List.setIfInBounds_toArray, List.set_cons_zero, List.set_cons_succ]
  refine Upto.takeS (i := 2) (v := ?v2) rfl (by kernel_rfl) (by kernel_rfl) (by kernel_rfl) (by kernel_rfl) (fun _ _ _ hh => hQ _ _ _ _ _ hh) S0 (Or.inl ⟨by rfl, ?hy2⟩) ?rest2
  case hy2 =>
    intro W' hW
    obtain ⟨lx, l8⟩ := hW
    go_simp
    try with_reducible rfl
  try simp only [Act.put, List.setIfInBounds_toArray, List.set_cons_zero, List.set_cons_succ]
  refine Upto.takeS (i := 3) (v := ?v3) rfl (by kernel_rfl) (by kernel_rfl) (by kernel_rfl) (by kernel_rfl) (fun _ _ _ hh => hQ _ _ _ _ _ hh) S0 (Or.inl ⟨by rfl, ?hy3⟩) ?rest3
  case hy3 =>
    intro W' hW
    obtain ⟨lx, l8⟩ := hW
    go_simp
    try with_reducible rfl
  try simp only [Act.put, List.setIfInBounds_toArray, List.set_cons_zero, List.set_cons_succ]
  refine Upto.takeS (i := 4) (v := ?v4) rfl (by kernel_rfl) (by kernel_rfl) (by kernel_rfl) (by kernel_rfl) (fun _ _ _ hh => hQ _ _ _ _ _ hh) S0 (Or.inl ⟨by rfl, ?hy4⟩) ?rest4
  case hy4 =>
    intro W' hW
    obtain ⟨lx, l8⟩ := hW
    go_simp
    try with_reducible rfl
  try simp only [Act.put, List.setIfInBounds_toArray, List.set_cons_zero, List.set_cons_succ]
  refine Upto.takeS (i := 5) (v := ?v5) rfl (by kernel_rfl) (by kernel_rfl) (by kernel_rfl) (by kernel_rfl) (fun _ _ _ hh => hQ _ _ _ _ _ hh) S0 (Or.inl ⟨by rfl, ?hy5⟩) ?rest5
  case hy5 =>
    intro W' hW
    obtain ⟨lx, l8⟩ := hW
    go_simp
    try with_reducible rfl
  try simp only [Act.put, List.setIfInBounds_toArray, List.set_cons_zero, List.set_cons_succ]
  refine Upto.takeS (i := 6) (v := ?v6) rfl (by kernel_rfl) (by kernel_rfl) (by kernel_rfl) (by kernel_rfl) (fun _ _ _ hh => hQ _ _ _ _ _ hh) S0 (Or.inl ⟨by rfl, ?hy6⟩) ?rest6
  case hy6 =>
    intro W' hW
    obtain ⟨lx, l8⟩ := hW
    go_simp
    try with_reducible rfl
  try simp only [Act.put, List.setIfInBounds_toArray, List.set_cons_zero, List.set_cons_succ]
  refine Upto.takeS (i := 9) (v := ?v9) rfl (by kernel_rfl) (by kernel_rfl) (by kernel_rfl) (by kernel_rfl) (fun _ _ _ hh => hQ _ _ _ _ _ hh) S0 (Or.inl ⟨by rfl, ?hy9⟩) ?rest9
  case hy9 =>
    intro W' hW
    obtain ⟨lx, l8⟩ := hW
    go_simp
    try with_reducible rfl
  try simp only [Act.put, List.setIfInBounds_toArray, List.set_cons_zero, List.set_cons_succ]
  refine Upto.one (i := 7) (by kernel_rfl) rfl (fun K hK => ?_)
  go_simp
  refine HDO.out.mono ?_
  rintro e w1 ⟨v1, rfl, hov⟩
  obtain ⟨A1, cc1, hv1, hrow⟩ := hov.row
  rw [← HU.out] at hv1 hrow
  subst hv1
  have qx := hov.keep.cellS (k0.cell hx) (HNM.out g (.inr rfl))
  have q8 := hov.keep.cellS (k0.cell c8) (HNM.out b (.inl rfl))
  have HD1 : Hid (IsDet w1 b { d with d := doverM d.d d.now } p) := Lib.hid (by
    have e : (dL b p d).to (Value.map p.dm) = dL b p d := Loc.to_self (q := dL b p d) (v := .map p.dm) rfl
    exact (HS.out.keep0 k0).set_d (mb' := p.dm) (hov.keep.mono fun _ h _ => .inr h) (by rw [e]; exact hov.que) ⟨.inl rfl⟩)
  have HK1 : Hid (Keep (fun k => p.dm = some k) W w1) := Lib.hid ((k0.mono fun _ h _ => h.elim).step hov.keep)
  have HR1 := Lib.hid hrow
  refine hK.out _ _ (.inr ⟨qx, q8⟩) ?_
  clear hK K hov hrow HDO
  try simp only [Act.put, List.setIfInBounds_toArray, List.set_cons_zero, List.set_cons_succ]
  refine Upto.one (i := 8) (by kernel_rfl) rfl (fun K hK => ?_)
  go_simp
  refine hK.out _ _ (.inr ⟨qx, q8⟩) ?_
  clear hK K S0
  try simp only [Act.put, List.setIfInBounds_toArray, List.set_cons_zero, List.set_cons_succ]
  refine Upto.done (by kernel_rfl) ?_
  have HL1 : Hid (IsLots w1 xl L) := Lib.hid (HL.out.keep HK1.out (fun e => by
    have := (HS.out.kd e).is
    obtain ⟨a, c, hh⟩ := this
    obtain ⟨v, hv, _⟩ := HL.out.out
    rw [hh] at hv
    cases hv) (fun g' cs hg' e => by
    obtain ⟨a, c, hh⟩ := (HS.out.kd e).is
    rw [hh] at hg'
    cases hg'))
  have HT1 : Hid (TabAt 0 B.tabS w1) := Lib.hid (B.tab_keep HT.out HK1.out (fun e => absurd (HS.out.pos _ ⟨.inr (.inr (.inr (.inr (.inr (.inr e)))))⟩) (by omega)))
  have HKO1 : Hid (KO n { d with d := doverM d.d d.now }) := Lib.hid ⟨⟨HKO.out.ok.left, HKO.out.ok.r, HKO.out.ok.q, doverM_ok HKO.out.ok.d _, HKO.out.ok.now, HKO.out.ok.seq⟩, ⟨HKO.out.io.kn, doverM_in HKO.out.io.dd _⟩, HKO.out.ws, HKO.out.es⟩
  have HFIN : Hid (∀ w' d' L', DLSet w1 w' b p xl d' L' → DLSet W w' b p xl d' L') := Lib.hid (fun w' d' L' hs => DLSet.next (fun k hk => .inl hk) (HK1.out.mono fun k hk _ => .inl ⟨.inr (.inr (.inr (.inr (.inr (.inr hk)))))⟩) hs)
  obtain ⟨me, hme⟩ : ∃ me, me = d.r.me := ⟨_, rfl⟩
  rw [← hme] at hJ HJ
  generalize hD1 : ({ d with d := doverM d.d d.now } : Det) = D1 at *
  have HME : Hid (D1.r.me = me) := Lib.hid (by rw [← hD1]; exact hme.symm)
  clear hD1
  have u1 := HK1.out.size
  have HST : Hid (OLoop w1 w1 b p xl n me D1 L U 0) := Lib.hid ⟨D1, L, HD1.out.dset.dl HD1.out HL1.out, HKO1.out, HME.out, by rw [List.drop_zero]⟩
  clear c8 hme q8 HKO HT HU HS HKO1 HME HNM k0
  go_wp2_with fail
  go_loopg [144] U.length (fun z v144 wr => ∃ i : Nat, i + z = U.length ∧ v144 = .int .i64 (i : Int) ∧ OLoop w1 wr b p xl n me D1 L U i)
  case atStart => exact ⟨0, by omega, rfl, HST.out⟩
  case round =>
    obtain ⟨i, hz, rfl, hlp⟩ := hrel
    have HLP := Lib.hid hlp
    have HZ := Lib.hid hz
    have hil : i ≤ U.length := by omega
    obtain ⟨di, Li, hds, hko, hme, htk⟩ := hlp.ex
    have zx := hds.keep.cellS qx (fun hh => by
      rcases hh with hh | hh
      · exact HG.out hh
      · exact HGX.out hh)
    clear hlp hz
    by_cases hi : i < U.length
    · have HI := Lib.hid hi
      have s1 : decide ((i : Int) < (U.length : Int)) = true := decide_eq_true (by omega)
      have s2 : (i : Int) < (U.length : Int) := by omega
      obtain ⟨pi, hdi, hsi⟩ := hds.ex
      obtain ⟨g5, hA5, hg5, hcell⟩ := HR1.out (by omega)
      have hg5' : W.heap.size ≤ g5 := hg5
      subst hA5
      obtain ⟨b0, b1, b2⟩ := hcell i hi
      have hn5 : ¬ (p.has b g5 ∨ g5 = xl) := fun hh => by
        rcases hh with hh | hh
        · exact HLT.out g5 hg5' hh
        · omega
      have d0 := hds.keep.cellS b0 hn5
      have d1 := hds.keep.cellS b1 hn5
      have d2 := hds.keep.cellS b2 hn5
      have e2 := hdi.c2
      rw [hme] at e2
      have hui := HUI.out U[i] (List.getElem_mem hi)
      have hdrop : U.drop i = U[i] :: U.drop (i + 1) := List.drop_eq_getElem_cons hi
      rw [hdrop] at htk
      clear hdrop b0 b1 b2 hcell hn5
      generalize U[i] = u at d0 d1 d2 hui htk
      have w1i := wrap_succ i (by have := HUL.out; omega)
      have kw : Keep (fun _ => False) wr ((wr.alloc (.cells #[.int .i64 u.n, .int .u64 u.i, .int .i64 u.s] 52)).drew) := ((Keep.refl _ wr).alloc _).drew
      have hTr := B.tab_keep (B.tab_keep HT1.out hds.keep (fun hh => by
        rcases hh with hh | hh
        · exact absurd (HD1.out.pos _ hh) (by omega)
        · exact absurd hh (by have := HXP.out; omega))) kw id
      have HTK := Lib.hid (take_det (hdi.keep0 kw) hko.ok hTr (hds.lots.keep0 kw) u hui me)
      have hnx : di.takes Li me (u :: U.drop (i + 1)) = (di.take Li u me).1.takes (di.take Li u me).2.1 me (U.drop (i + 1)) := rfl
      rw [hnx] at htk
      have hko2 := take_ko hko Li hui me
      have hme2 : (di.take Li u me).1.r.me = me := by rw [(take_same di Li u me).me, hme]
      clear hnx hTr
      generalize di.take Li u me = r at *
      obtain ⟨d', L', code⟩ := r
      simp only at htk hko2 hme2 HTK
      have HNX : Hid (∀ w', DLSet ((wr.alloc (.cells #[.int .i64 u.n, .int .u64 u.i, .int .i64 u.s] 52)).drew) w' b pi xl d' L' → OLoop w1 w' b p xl n me D1 L U (i + 1)) := Lib.hid (fun w' hs => ⟨d', L', DLSet.next (fun k hk => by
          rcases hsi k hk with h | h
          · exact .inl h
          · exact .inr h) (hds.keep.step (kw.mono fun _ h _ => h.elim)) hs, hko2, hme2, htk⟩)
      have ulr : w1.heap.size ≤ wr.heap.size := hds.keep.size
      have ubr : b < wr.heap.size := by omega
      have ugr : g < wr.heap.size := by omega
      obtain ⟨un, ui, us⟩ := u
      simp only at d0 d1 d2 HTK HNX
      obtain ⟨wn, hwn⟩ : ∃ wn, wn = wr.alloc (.cells #[.int .i64 un, .int .u64 ui, .int .i64 us] 52) := ⟨_, rfl⟩
      have kn : Keep (fun _ => False) wr wn := by rw [hwn]; exact (Keep.refl _ wr).alloc _
      have n0 : wn.cell? ⟨wr.heap.size, 0, none⟩ = some (.int .i64 un) := by rw [hwn]; exact alc _ _ _ _ _ rfl
      have n1 : wn.cell? ⟨wr.heap.size, 1, none⟩ = some (.int .u64 ui) := by rw [hwn]; exact alc _ _ _ _ _ rfl
      have n2 : wn.cell? ⟨wr.heap.size, 2, none⟩ = some (.int .i64 us) := by rw [hwn]; exact alc _ _ _ _ _ rfl
      have nx := kn.cell zx
      have ne2 := kn.cell e2
      rw [← hwn] at HTK HNX
      clear hds hdi hsi hko hme htk hko2 hme2 hui kw
      go_upto_region 27 with fail
      rw [← hwn]
      clear hwn kn d0 d1 d2 zx e2
      go_still_tail 7, (by kernel_rfl)
      go_wp2_with fail
      refine HTK.out.mono ?_
      rintro e w6 ⟨rfl, hs6⟩
      have HL6 := Lib.hid (HNX.out w6 hs6)
      clear hs6
      go_wp2_with fail
      go_roundg (U.length - (i + 1))
      case measure => exact tk_meas HZ.out HI.out
      case rel => exact ⟨i + 1, tk_rel HI.out, by go_num, HL6.out⟩
    · have s1 : decide ((i : Int) < (U.length : Int)) = false := decide_eq_false (by omega)
      have hin : i = U.length := by omega
      rw [hin, List.drop_length] at htk
      have htk2 : D1.takes L me U = (di, Li) := htk
      have HF : Hid (DLSet W wr b p xl (D1.takes L me U).1 (D1.takes L me U).2) := Lib.hid (by rw [htk2]; exact HFIN.out wr di Li hds)
      clear htk htk2 hds hko hme hin
      go_wp2_with fail
      go_meet
      exact HF.out
end Go.Proofs.YtofonfohaocclaaGreatDoor
