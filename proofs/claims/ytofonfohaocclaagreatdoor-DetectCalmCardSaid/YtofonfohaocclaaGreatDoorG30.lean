/- Walk of Detector.Tick: the watches. Walk of Detector.Tick: the errands that are too old go. -/
import Derived.Test.YtofonfohaocclaaGreatDoorTickP
import Derived.Test.YtofonfohaocclaaGreatDoorG28
import Derived.Test.YtofonfohaocclaaGreatDoorG29
import Derived.Test.YtofonfohaocclaaGreatDoorG26
namespace Go.Proofs.YtofonfohaocclaaGreatDoor
open Go.RowKit Sh
open Go.ChangeMaps (setBlock)
set_option linter.unusedVariables false
set_option linter.unusedSimpArgs false

/-- Ahead of a round of the watches. -/
structure TLp (w1 wr : World) (b : Nat) (p1 : Parts) (xl : Nat) (d0 : Det) (L : List Int) (old : List Wt) (i : Nat) (v4 : Value) : Prop where
  ex : ∃ di Li Ni, NLSet w1 wr w1.heap.size b p1 xl di Li ∧ OwnNts wr w1.heap.size v4 Ni ∧ KO i di ∧ d0.watches L old = ((di.watches Li (old.drop i)).1, (di.watches Li (old.drop i)).2.1, Ni ++ (di.watches Li (old.drop i)).2.2) ∧ Ni.length ≤ 2 * i
structure LRel (w1 w' : World) (b : Nat) (p1 : Parts) (xl : Nat) (d0 : Det) (L : List Int) (old : List Wt) (v4 : Value) : Prop where
  set : DLSet w1 w' b p1 xl (d0.watches L old).1 (d0.watches L old).2.1
  own : OwnNts w' w1.heap.size v4 (d0.watches L old).2.2
  ok : KO old.length (d0.watches L old).1
  len : (d0.watches L old).2.2.length ≤ 2 * old.length
/-- What a round has. -/
structure LRnd (w1 wr : World) (b g g5 o5 : Nat) (p1 pi : Parts) (xl : Nat) (d0 di : Det) (L Li : List Int) (old : List Wt) (i : Nat) (wt : Wt) (Ni : List Nt) (v4 : Value) : Prop where
  set : NLSet w1 wr w1.heap.size b p1 xl di Li
  det : IsDet wr b di pi
  sub : ∀ k, pi.has b k → p1.has b k ∨ w1.heap.size ≤ k
  own : OwnNts wr w1.heap.size v4 Ni
  ok : KO i di
  eq : d0.watches L old = (((di.watch Li wt).1.watches (di.watch Li wt).2.1 (old.drop (i + 1))).1, ((di.watch Li wt).1.watches (di.watch Li wt).2.1 (old.drop (i + 1))).2.1, Ni ++ ((di.watch Li wt).2.2 ++ ((di.watch Li wt).1.watches (di.watch Li wt).2.1 (old.drop (i + 1))).2.2))
  len : Ni.length ≤ 2 * i
  cells : wr.cell? ⟨g5, o5 + i * 4, none⟩ = some (.int .i64 wt.n) ∧ wr.cell? ⟨g5, o5 + i * 4 + 1, none⟩ = some (.int .u64 wt.s) ∧ wr.cell? ⟨g5, o5 + i * 4 + 2, none⟩ = some (.int .u64 wt.a) ∧ wr.cell? ⟨g5, o5 + i * 4 + 3, none⟩ = some (.bool wt.h)
  box : wr.cell? ⟨g, 0, none⟩ = some (.pointer (some ⟨b, 0, none⟩))
  tab : TabAt 0 B.tabS wr
  size : w1.heap.size ≤ wr.heap.size
theorem lround {w1 wr : World} {b g g5 o5 c5 xl : Nat} {p1 : Parts} {d0 : Det} {L : List Int} {old : List Wt} {v4 : Value} {i0 : Nat} (h : TLp w1 wr b p1 xl d0 L old i0 v4) (hO : Row w1 96 4 (.slice (some ⟨g5, o5, none⟩) old.length c5) old.length (flat wtC old))
    (hno : ∀ k, (Value.slice (some ⟨g5, o5, none⟩) old.length c5).ownBlock = some k → ¬ p1.has b k) (hT : TabAt 0 B.tabS w1) (hxp : 0 < xl) (hg : ¬ p1.has b g) (hgx : g ≠ xl) (hx : w1.cell? ⟨g, 0, none⟩ = some (.pointer (some ⟨b, 0, none⟩))) (i : Nat) (hi : i < old.length) (hii : i0 = i) (hp0 : ¬ p1.has b 0) (hxl : ∃ L', IsLots w1 xl L') :
    ∃ pi di Li Ni, LRnd w1 wr b g g5 o5 p1 pi xl d0 di L Li old i old[i] Ni v4 := by
  subst hii
  obtain ⟨di, Li, Ni, hs, hn, hk, he, hl⟩ := h.ex
  obtain ⟨pi, hd, hsub⟩ := hs.ex
  have ug : g < w1.heap.size := World.block_lt_of_cell? w1 _ hx
  obtain ⟨L', hL'⟩ := hxl
  have u1 := hd.lt (hb pi b)
  have hr := hO.keep hs.keep (fun k hk hh => by
    rcases hh with hh | hh | hh
    · exact hno k hk hh
    · exact (⟨hO.typed hk⟩ : Kind w1 k (some 96)).ne hL'.kind (by decide) hh
    · exact hh.2.ne (⟨hO.typed hk⟩ : Kind w1 k (some 96)) (by decide) rfl)
  have hdrop : old.drop i0 = old[i0] :: old.drop (i0 + 1) := List.drop_eq_getElem_cons hi
  rw [hdrop] at he
  have hpos : 0 < w1.heap.size := by omega
  refine ⟨pi, di, Li, Ni, hs, hd, hsub, hn, hk, he, hl, hr.wt_at i0 hi, hs.keep.cellS hx (fun hh => ?_), B.tab_keep hT hs.keep (fun hh => ?_), hs.keep.size⟩
  · rcases hh with hh | hh | hh
    · exact hg hh
    · exact hgx hh
    · exact absurd ug (Nat.not_lt.2 hh.1)
  · rcases hh with hh | hh | hh
    · exact hp0 hh
    · omega
    · omega
theorem wp_cutQ {P : Program} {s : Code} {Q : Exit → Act → World → Prop} {a : Act} {w : World} (R : Act → World → Prop)
    (rest : ∀ a' w', R a' w' → Q .normal a' w')
    (first : ∀ (J K' : Act → World → Prop), (∀ a' w', R a' w' → J a' w') → (∀ a' w', Met J a' w' → K' a' w') → s.wp P (Exit.then K' Q) a w) : s.wp P Q a w := by
  refine wp_mono (first R R (fun _ _ q => q) (fun _ _ q => q)) ?_
  intro e a' w' hq
  cases e with
  | normal => exact rest _ _ hq
  | exit id => exact hq
  | goto l => exact hq
  | ret => exact hq
  | panic c => exact hq
  | outgrown => exact hq
theorem OwnNts.keepDL {w w' : World} {base b xl : Nat} {d : Det} {p : Parts} {v : Value} {L : List Nt} {X : List Int} (h : OwnNts w base v L) (hd : IsDet w b d p) (hl : IsLots w xl X) (k : Keep (fun k => p.has b k ∨ k = xl) w w') : OwnNts w' base v L :=
  h.keep k fun j t hj hk ht hp => by
    rcases hp with hp | hp
    · obtain ⟨t', h1, h2, h3, h4, h5⟩ := hd.khas hp
      rcases ht with rfl | rfl
      · exact h1.ne hk h4 rfl
      · exact h1.ne hk h5 rfl
    · subst hp
      rcases ht with rfl | rfl
      · exact hk.ne hl.kind (by decide) rfl
      · exact hk.ne hl.kind (by decide) rfl
theorem LRnd.ng {w1 wr : World} {b g g5 o5 : Nat} {p1 pi : Parts} {xl : Nat} {d0 di : Det} {L Li : List Int} {old : List Wt} {i : Nat} {wt : Wt} {Ni : List Nt} {v4 : Value} (h : LRnd w1 wr b g g5 o5 p1 pi xl d0 di L Li old i wt Ni v4) {k : Nat} (hk : ¬ p1.has b k) (hl : k < w1.heap.size) : ¬ pi.has b k := fun hh => by
  rcases h.sub k hh with h1 | h1
  · exact hk h1
  · omega
theorem lnext {w1 wr w' : World} {b g g5 o5 : Nat} {p1 pi : Parts} {xl : Nat} {d0 di : Det} {L Li : List Int} {old : List Wt} {i : Nat} {wt : Wt} {Ni : List Nt} {v4 v' : Value} (h : LRnd w1 wr b g g5 o5 p1 pi xl d0 di L Li old i wt Ni v4)
    (hs : NLSet wr w' w1.heap.size b pi xl (di.watch Li wt).1 (di.watch Li wt).2.1) (hn : OwnNts w' w1.heap.size v' (Ni ++ (di.watch Li wt).2.2)) (hl : (di.watch Li wt).2.2.length ≤ 2) : TLp w1 w' b p1 xl d0 L old (i + 1) v' :=
  ⟨(di.watch Li wt).1, (di.watch Li wt).2.1, Ni ++ (di.watch Li wt).2.2, NLSet.next h.sub h.set.keep hs, hn, watch_ko h.ok Li wt, by rw [h.eq, List.append_assoc], by rw [List.length_append]; have := h.len; omega⟩
theorem lnext_aged {w1 wr wd w' : World} {b g g5 o5 : Nat} {p1 pi : Parts} {xl : Nat} {d0 di : Det} {L Li : List Int} {old : List Wt} {i : Nat} {wt : Wt} {Ni : List Nt} {v4 : Value} (h : LRnd w1 wr b g g5 o5 p1 pi xl d0 di L Li old i wt Ni v4)
    (kd : Keep (fun _ => False) wr wd) (hs : DLSet wd w' b pi xl (di.watch Li wt).1 (di.watch Li wt).2.1) (hage : 4 ≤ sub64 di.now wt.a) : TLp w1 w' b p1 xl d0 L old (i + 1) v4 := by
  have e : (di.watch Li wt).2.2 = [] := by
    rw [watch_aged di Li wt hage]
    split <;> rfl
  refine lnext h ((DLSet.next (fun k hk => .inl hk) (kd.mono fun _ h _ => h.elim) hs).nl _) ?_ (by rw [e]; simp)
  rw [e, List.append_nil]
  exact (h.own.keep0 kd).keepDL (h.det.keep0 kd) (h.set.lots.keep0 kd) hs.keep
theorem lnext_kept {w1 wr wm w' : World} {b g g5 o5 : Nat} {p1 pi pm : Parts} {xl : Nat} {d0 di dm : Det} {L Li Lm : List Int} {old : List Wt} {i : Nat} {wt wt' : Wt} {Ni N' : List Nt} {v4 v' : Value} (h : LRnd w1 wr b g g5 o5 p1 pi xl d0 di L Li old i wt Ni v4)
    (hw : di.watch Li wt = ({ dm with ws := dm.ws ++ [wt'] }, Lm, N')) (hs : NLSet wr wm w1.heap.size b pi xl dm Lm) (hd : IsDet wm b dm pm) (hsm : ∀ k, pm.has b k → pi.has b k ∨ wr.heap.size ≤ k) (hn : OwnNts wm w1.heap.size v' (Ni ++ N')) (hl : N'.length ≤ 2) (hk : DSet wm w' b pm { dm with ws := dm.ws ++ [wt'] }) : TLp w1 w' b p1 xl d0 L old (i + 1) v' := by
  refine lnext h ?_ ?_ (by rw [hw]; exact hl)
  · rw [hw]
    exact NLSet.next hsm hs.keep ((hk.dl hd hs.lots).nl _)
  · rw [hw]
    exact hn.keepD hd hk.keep
theorem lround_len {N i l : Nat} (h : N ≤ 2 * i) (hi : i < l) (hl : l < 274877906944) : N < 1099511627776 := by omega
theorem lround_i {i l : Nat} (hi : i < l) (hl : l < 274877906944) : i < 1099511627776 := by omega
theorem lround_end {w1 wr : World} {b xl : Nat} {p1 : Parts} {d0 : Det} {L : List Int} {old : List Wt} {v4 : Value} {i : Nat} (h : TLp w1 wr b p1 xl d0 L old i v4) (hi : i = old.length) : LRel w1 wr b p1 xl d0 L old v4 := by
  obtain ⟨di, Li, Ni, hs, hn, hk, he, hl⟩ := h.ex
  rw [hi, List.drop_length] at he
  have he2 : d0.watches L old = (di, Li, Ni) := by rw [he]; show (di, Li, Ni ++ []) = _; rw [List.append_nil]
  exact ⟨by rw [he2]; exact hs.dl (Nat.le_refl _), by rw [he2]; exact hn, by rw [he2]; exact hk.le (by omega), by rw [he2]; show Ni.length ≤ _; omega⟩
set_option maxRecDepth 100000 in
set_option maxHeartbeats 4000000 in
theorem tick_watches {W : World} {b g xl : Nat} {d : Det} {p : Parts} {L : List Int} {A5 : Option Addr} {c5 : Nat} {old : List Wt} (h : IsDet W b d p) (ho : KO 0 d) (hT : TabAt 0 B.tabS W) (hL : IsLots W xl L) (hxp : 0 < xl) (hx : W.cell? ⟨g, 0, none⟩ = some (.pointer (some ⟨b, 0, none⟩))) (hg : ¬ p.has b g) (hgx : g ≠ xl) (hO : Row W 96 4 (.slice A5 old.length c5) old.length (flat wtC old)) (hno : ∀ k, (Value.slice A5 old.length c5).ownBlock = some k → ¬ p.has b k) (hol : old.length < 274877906944) (x0 x3 x6 x7 x8 x9 x10 x11 x12 x13 x14 x15 x16 x17 x18 x19 x20 x21 x22 x23 x24 x25 x26 x27 x28 x29 x30 x31 x32 x33 x34 x35 x36 x37 x38 x39 x40 x41 x42 x43 x44 x45 x46 x47 x48 x49 x50 x51 x52 x53 x54 x55 x56 x57 x58 x59 x60 x61 x62 x63 x64 x65 x66 x67 x68 x69 x70 x71 x72 x73 x74 x75 x76 x77 x78 x79 x80 x81 x82 x83 x84 x85 x86 x87 x88 x89 x90 x91 x92 x93 x94 x95 x96 x97 x98 x99 x100 x101 x102 x103 x104 x105 x106 x107 x108 x109 x110 x111 x112 x113 x114 x115 x116 x117 x118 x119 x120 x121 x122 x123 x124 x125 x126 x127 x128 x129 x130 x131 x132 x133 x134 x135 x136 x137 x138 x139 x140 x141 x142 x143 x144 x145 x146 x147 x148 x149 x150 x151 x152 x153 x154 x155 x156 x157 x158 x159 x160 x161 x162 x163 x164 x165 x166 x167 x168 x169 x170 x171 x172 x173 x174 x175 x176 x177 x178 x179 x180 x181 x182 x183 x184 x185 x186 x187 x188 x189 x190 x191 x192 x193 x194 x195 x196 x197 x198 : Value) (J K : Act → World → Prop) (Q : Exit → Act → World → Prop) (hQ : ∀ c (a : Act) o v w', Q (.panic c) (a.put o v) w' → Q (.panic c) a w')
    (hJ : ∀ a' w', (fun a' w' => ∃ u4, ∃ u7, ∃ u8, ∃ u9, ∃ u10, ∃ u12, ∃ u36, ∃ u37, ∃ u38, ∃ u39, ∃ u40, ∃ u41, ∃ u42, ∃ u43, ∃ u44, ∃ u45, ∃ u46, ∃ u47, ∃ u48, ∃ u49, ∃ u50, ∃ u51, ∃ u52, ∃ u53, ∃ u54, ∃ u55, ∃ u56, ∃ u57, ∃ u58, ∃ u59, ∃ u60, ∃ u61, ∃ u62, ∃ u63, ∃ u64, ∃ u65, ∃ u66, ∃ u67, ∃ u68, ∃ u69, ∃ u70, ∃ u71, ∃ u72, ∃ u73, ∃ u74, ∃ u75, ∃ u76, ∃ u77, ∃ u78, ∃ u79, ∃ u80, ∃ u81, ∃ u82, ∃ u83, ∃ u84, ∃ u85, ∃ u86, ∃ u87, ∃ u88, ∃ u89, ∃ u90, ∃ u91, ∃ u92, ∃ u93, ∃ u94, ∃ u95, ∃ u96, ∃ u97, ∃ u98, ∃ u99, ∃ u100, ∃ u101, ∃ u102, ∃ u103, ∃ u104, ∃ u105, ∃ u106, ∃ u107, ∃ u108, ∃ u109, ∃ u110, ∃ u111, ∃ u112, ∃ u113, ∃ u114, ∃ u115, ∃ u116, ∃ u117, ∃ u118, ∃ u119, ∃ u120, ∃ u121, ∃ u122, ∃ u123, ∃ u124, ∃ u125, (LRel W w' b p xl d L old u4) ∧ a' = ⟨List.toArray (x0 :: .pointer (some ⟨xl, 0, none⟩) :: .pointer (some ⟨g, 0, none⟩) :: x3 :: u4 :: .slice A5 old.length c5 :: x6 :: u7 :: u8 :: u9 :: u10 :: x11 :: u12 :: x13 :: x14 :: x15 :: x16 :: x17 :: x18 :: x19 :: x20 :: x21 :: x22 :: x23 :: x24 :: x25 :: x26 :: x27 :: x28 :: x29 :: x30 :: x31 :: x32 :: x33 :: x34 :: x35 :: u36 :: u37 :: u38 :: u39 :: u40 :: u41 :: u42 :: u43 :: u44 :: u45 :: u46 :: u47 :: u48 :: u49 :: u50 :: u51 :: u52 :: u53 :: u54 :: u55 :: u56 :: u57 :: u58 :: u59 :: u60 :: u61 :: u62 :: u63 :: u64 :: u65 :: u66 :: u67 :: u68 :: u69 :: u70 :: u71 :: u72 :: u73 :: u74 :: u75 :: u76 :: u77 :: u78 :: u79 :: u80 :: u81 :: u82 :: u83 :: u84 :: u85 :: u86 :: u87 :: u88 :: u89 :: u90 :: u91 :: u92 :: u93 :: u94 :: u95 :: u96 :: u97 :: u98 :: u99 :: u100 :: u101 :: u102 :: u103 :: u104 :: u105 :: u106 :: u107 :: u108 :: u109 :: u110 :: u111 :: u112 :: u113 :: u114 :: u115 :: u116 :: u117 :: u118 :: u119 :: u120 :: u121 :: u122 :: u123 :: u124 :: u125 :: x126 :: x127 :: x128 :: x129 :: x130 :: x131 :: x132 :: x133 :: x134 :: x135 :: x136 :: x137 :: x138 :: x139 :: x140 :: x141 :: x142 :: x143 :: x144 :: x145 :: x146 :: x147 :: x148 :: x149 :: x150 :: x151 :: x152 :: x153 :: x154 :: x155 :: x156 :: x157 :: x158 :: x159 :: x160 :: x161 :: x162 :: x163 :: x164 :: x165 :: x166 :: x167 :: x168 :: x169 :: x170 :: x171 :: x172 :: x173 :: x174 :: x175 :: x176 :: x177 :: x178 :: x179 :: x180 :: x181 :: x182 :: x183 :: x184 :: x185 :: x186 :: x187 :: x188 :: x189 :: x190 :: x191 :: x192 :: x193 :: x194 :: x195 :: x196 :: x197 :: x198 :: []), []⟩) a' w' → J a' w') (hK : ∀ a' w', Met J a' w' → K a' w') :
    Code.wp Tryz.prog (fSub Tryz.f12 [1, 1, 1, 1, 1, 0]) (Exit.then K Q) ⟨List.toArray (x0 :: .pointer (some ⟨xl, 0, none⟩) :: .pointer (some ⟨g, 0, none⟩) :: x3 :: .slice none 0 0 :: .slice A5 old.length c5 :: x6 :: x7 :: x8 :: x9 :: x10 :: x11 :: x12 :: x13 :: x14 :: x15 :: x16 :: x17 :: x18 :: x19 :: x20 :: x21 :: x22 :: x23 :: x24 :: x25 :: x26 :: x27 :: x28 :: x29 :: x30 :: x31 :: x32 :: x33 :: x34 :: x35 :: x36 :: x37 :: x38 :: x39 :: x40 :: x41 :: x42 :: x43 :: x44 :: x45 :: x46 :: x47 :: x48 :: x49 :: x50 :: x51 :: x52 :: x53 :: x54 :: x55 :: x56 :: x57 :: x58 :: x59 :: x60 :: x61 :: x62 :: x63 :: x64 :: x65 :: x66 :: x67 :: x68 :: x69 :: x70 :: x71 :: x72 :: x73 :: x74 :: x75 :: x76 :: x77 :: x78 :: x79 :: x80 :: x81 :: x82 :: x83 :: x84 :: x85 :: x86 :: x87 :: x88 :: x89 :: x90 :: x91 :: x92 :: x93 :: x94 :: x95 :: x96 :: x97 :: x98 :: x99 :: x100 :: x101 :: x102 :: x103 :: x104 :: x105 :: x106 :: x107 :: x108 :: x109 :: x110 :: x111 :: x112 :: x113 :: x114 :: x115 :: x116 :: x117 :: x118 :: x119 :: x120 :: x121 :: x122 :: x123 :: x124 :: x125 :: x126 :: x127 :: x128 :: x129 :: x130 :: x131 :: x132 :: x133 :: x134 :: x135 :: x136 :: x137 :: x138 :: x139 :: x140 :: x141 :: x142 :: x143 :: x144 :: x145 :: x146 :: x147 :: x148 :: x149 :: x150 :: x151 :: x152 :: x153 :: x154 :: x155 :: x156 :: x157 :: x158 :: x159 :: x160 :: x161 :: x162 :: x163 :: x164 :: x165 :: x166 :: x167 :: x168 :: x169 :: x170 :: x171 :: x172 :: x173 :: x174 :: x175 :: x176 :: x177 :: x178 :: x179 :: x180 :: x181 :: x182 :: x183 :: x184 :: x185 :: x186 :: x187 :: x188 :: x189 :: x190 :: x191 :: x192 :: x193 :: x194 :: x195 :: x196 :: x197 :: x198 :: []), []⟩ W := by
  conv => arg 2; whnf
  have HS := Lib.hid h
  have HT := Lib.hid hT
  have HL := Lib.hid hL
  have HXP := Lib.hid hxp
  have HG := Lib.hid hg
  have HGX := Lib.hid hgx
  have HO := Lib.hid hO
  have HNO := Lib.hid hno
  have HOL := Lib.hid hol
  have HJ := Lib.hid hJ
  have HK := Lib.hid hK
  have HX := Lib.hid hx
  have ub := h.lt (hb p b)
  have ug : g < W.heap.size := World.block_lt_of_cell? W _ hx
  have HST : Hid (TLp W W b p xl d L old 0 (.slice none 0 0)) := Lib.hid ⟨d, L, [], (h.dset.dl h hL).nl _, OwnNts.nil _ _, ho, by rw [List.drop_zero]; rfl, by simp⟩
  clear h ho hT hL hxp hg hgx hO hno hol hx
  go_wp2_with fail
  go_loopg [4, 38] old.length (fun z v4 v38 wr => ∃ i : Nat, i + z = old.length ∧ v38 = .int .i64 (i : Int) ∧ TLp W wr b p xl d L old i v4)
  case atStart => exact ⟨0, by omega, rfl, HST.out⟩
  case round =>
    obtain ⟨i, hz, rfl, hlp⟩ := hrel
    have HZ := Lib.hid hz
    have HLP := Lib.hid hlp
    have hil : i ≤ old.length := by omega
    clear hlp hz
    by_cases hi : i < old.length
    · have HI := Lib.hid hi
      have s1 : decide ((i : Int) < (old.length : Int)) = true := decide_eq_true (by omega)
      have s2 : (i : Int) < (old.length : Int) := by omega
      have w1i := wrap_succ i (by have := HOL.out; omega)
      obtain ⟨g5, o5, cc5, cs5, hA5, _⟩ := HO.out.pos (by omega)
      cases hA5
      obtain ⟨pi, di, Li, Ni, hst⟩ := lround HLP.out HO.out HNO.out HT.out HXP.out HG.out HGX.out HX.out i hi rfl (fun hh => absurd (HS.out.pos _ hh) (Nat.lt_irrefl 0)) ⟨_, HL.out⟩
      have HR := Lib.hid hst
      obtain ⟨b0, b1, b2, b3⟩ := hst.cells
      have zx := hst.box
      have c8 := hst.det.c8
      clear hst
      generalize hwt : old[i] = wt at b0 b1 b2 b3 HR
      clear hwt
      obtain ⟨tn, ts, ta, th⟩ := wt
      simp only at b0 b1 b2 b3
      obtain ⟨wn, hwn⟩ : ∃ wn, wn = wr.alloc (.cells (wtC ⟨tn, ts, ta, th⟩).toArray 96) := ⟨_, rfl⟩
      have kn : Keep (fun _ => False) wr wn := by rw [hwn]; exact (Keep.refl _ wr).alloc _
      have h7 : wn.heap[wr.heap.size]? = some (.cells (wtC ⟨tn, ts, ta, th⟩).toArray 96 (0, 0)) := by rw [hwn]; exact heap_alloc_new wr _
      have n2 : wn.cell? ⟨wr.heap.size, 2, none⟩ = some (.int .u64 ta) := by simp [World.cell?, h7, wtC]
      have nx := kn.cell zx
      have n8 := kn.cell c8
      have HKN := Lib.hid kn
      have H7 := Lib.hid h7
      change wn = wr.alloc (.cells #[.int .i64 tn, .int .u64 ts, .int .u64 ta, .bool th] 96) at hwn
      go_upto_region 9 with fail
      rw [← hwn]
      clear hwn kn h7 b0 b1 b2 b3 zx c8
      refine still_lit (by kernel_rfl) (by kernel_rfl) ?_
      repeat still_step
      refine wpStill_nil ?_
      obtain ⟨wd, hwd⟩ : ∃ wd, wd = wn.drew := ⟨_, rfl⟩
      have kd : Keep (fun _ => False) wr wd := by rw [hwd]; exact HKN.out.step ((Keep.refl (fun _ => False) wn).drew)
      have d7 : wd.heap[wr.heap.size]? = some (.cells (wtC ⟨tn, ts, ta, th⟩).toArray 96 (0, 0)) := by rw [hwd]; exact H7.out
      have dx : wd.cell? ⟨g, 0, none⟩ = some (.pointer (some ⟨b, 0, none⟩)) := by rw [hwd]; exact nx
      have HKD := Lib.hid kd
      have HD7 := Lib.hid d7
      have HDX := Lib.hid dx
      try rw [← hwd]
      clear hwd nx n2 n8 kd d7 dx HKN H7
      by_cases hage : 4 ≤ sub64 di.now ta
      · have t4 : decide (4 ≤ IntKind.u64.wrap (di.now - ta)) = true := decide_eq_true hage
        go_upto_if 49 with fail
        refine wp_cond_true (by rfl) ?_
        refine wp_seq_k fun K2 hK2 => ?_
        refine wp_cut _ ?restA (fun J K' hJ hK => tick_aged (HR.out.det.keep0 HKD.out) HR.out.ok (B.tab_keep HR.out.tab HKD.out id) (HR.out.set.lots.keep0 HKD.out) HXP.out HDX.out ⟨tn, ts, ta, th⟩ HD7.out hage _ _ _ _ _ _ _ _ _ _ _ _ _ _ _ _ _ _ _ _ _ _ _ _ _ _ _ _ _ _ _ _ _ _ _ _ _ _ _ _ _ _ _ _ _ _ _ _ _ _ _ _ _ _ _ _ _ _ _ _ _ _ _ _ _ _ _ _ _ _ _ _ _ _ _ _ _ _ _ _ _ _ _ _ _ _ _ _ _ _ _ _ _ _ _ _ _ _ _ _ _ _ _ _ _ _ _ _ _ _ _ _ _ _ _ _ _ _ _ _ _ _ _ _ _ _ _ _ _ _ _ _ _ _ _ _ _ _ _ _ _ _ _ _ _ _ _ _ _ _ _ _ _ _ _ _ _ _ _ _ _ _ _ _ _ _ _ _ _ _ _ _ _ _ _ _ _ _ _ _ _ _ _ _ _ _ _ _ _ _ _ _ _ _ _ _ J K' _ hJ hK)
        case restA =>
          intro a' w' hR
          obtain ⟨u9, u10, u52, u53, u54, u55, u56, u57, u58, u59, u60, u61, u62, u63, u64, u65, u66, u67, u68, u69, u70, u71, u72, u73, u74, u75, u76, u77, u78, u79, hrel, rfl⟩ := hR
          have HNX := Lib.hid (lnext_aged HR.out HKD.out hrel hage)
          clear hrel hage t4
          refine hK2 _ _ ?_
          clear hK2 K2
          go_wp2_with fail
          go_roundg (old.length - (i + 1))
          case measure => exact hlp_meas HZ.out HI.out
          case rel => exact ⟨i + 1, hlp_rel HI.out, int_next w1i, HNX.out⟩
      · have t4 : decide (4 ≤ IntKind.u64.wrap (di.now - ta)) = false := decide_eq_false hage
        go_upto_if 49 with fail
        refine wp_cond_false (by rfl) ?_
        refine wp_cutQ _ ?restB (fun J K' hJ hK => tick_helpers HR.out.det HR.out.ok HR.out.tab HR.out.set.lots HXP.out HKD.out HDX.out (HR.out.ng HG.out ug) HGX.out (Nat.lt_of_lt_of_le ug HR.out.size) ⟨tn, ts, ta, th⟩ HD7.out (Nat.le_refl _) (HR.out.own.keep0 HKD.out) HR.out.size (Nat.not_le.2 ug) (lround_len HR.out.len HI.out HOL.out) hage _ _ _ _ _ _ _ _ _ _ _ _ _ _ _ _ _ _ _ _ _ _ _ _ _ _ _ _ _ _ _ _ _ _ _ _ _ _ _ _ _ _ _ _ _ _ _ _ _ _ _ _ _ _ _ _ _ _ _ _ _ _ _ _ _ _ _ _ _ _ _ _ _ _ _ _ _ _ _ _ _ _ _ _ _ _ _ _ _ _ _ _ _ _ _ _ _ _ _ _ _ _ _ _ _ _ _ _ _ _ _ _ _ _ _ _ _ _ _ _ _ _ _ _ _ _ _ _ _ _ _ _ _ _ _ _ _ _ _ _ _ _ _ _ _ _ _ _ _ _ _ _ _ _ _ _ _ _ _ _ _ _ _ _ _ _ _ _ _ _ _ _ _ _ _ _ _ _ _ _ _ _ _ _ _ _ _ _ _ _ _ _ _ _ J K' _ (fun c a o v w' hh => hQ c a o v w' hh) hJ hK)
        case restB =>
          intro a' w' hR
          obtain ⟨u4, u12, u80, u81, u82, u83, u84, u85, u86, u87, u88, u89, u90, u91, u92, u93, u94, u95, u96, u97, u98, u99, u100, u101, u102, u103, u104, u105, u106, u107, u108, u109, u110, u111, u112, u113, u114, hrel, rfl⟩ := hR
          obtain ⟨dm, Lm, wt', N', hwe, hkm, hnm, hom, h7m, hlm, pm, hdm, hsm, hn7⟩ := hrel.ex
          have HWE := Lib.hid hwe
          have HKM := Lib.hid hkm
          have HNM := Lib.hid hnm
          have HOM := Lib.hid hom
          have H7M := Lib.hid h7m
          have HLM := Lib.hid hlm
          have HDM := Lib.hid hdm
          have HSM := Lib.hid hsm
          have HN7 := Lib.hid hn7
          have HNG : Hid (¬ pm.has b g) := Lib.hid (fun hh => by
            rcases hsm g hh with h1 | h1
            · exact HR.out.ng HG.out ug h1
            · exact absurd (Nat.lt_of_lt_of_le ug HR.out.size) (Nat.not_lt.2 h1))
          have HBX : Hid (w'.cell? ⟨g, 0, none⟩ = some (.pointer (some ⟨b, 0, none⟩))) := Lib.hid (hnm.keep.cellS HR.out.box (fun hh => by
            rcases hh with hh | hh | hh
            · exact HR.out.ng HG.out ug hh
            · exact HGX.out hh
            · exact absurd ug (Nat.not_lt.2 hh.1)))
          clear hrel hage t4 hwe hkm hnm hom h7m hlm hdm hsm hn7
          go_upto_region 21 with fail
          refine wp_cutQ _ ?restC (fun J K' hJ hK => tick_kept HDM.out (Nat.lt_of_le_of_lt HKM.out.ws (lround_i HI.out HOL.out)) HBX.out HNG.out wt' H7M.out HN7.out _ _ _ _ _ _ _ _ _ _ _ _ _ _ _ _ _ _ _ _ _ _ _ _ _ _ _ _ _ _ _ _ _ _ _ _ _ _ _ _ _ _ _ _ _ _ _ _ _ _ _ _ _ _ _ _ _ _ _ _ _ _ _ _ _ _ _ _ _ _ _ _ _ _ _ _ _ _ _ _ _ _ _ _ _ _ _ _ _ _ _ _ _ _ _ _ _ _ _ _ _ _ _ _ _ _ _ _ _ _ _ _ _ _ _ _ _ _ _ _ _ _ _ _ _ _ _ _ _ _ _ _ _ _ _ _ _ _ _ _ _ _ _ _ _ _ _ _ _ _ _ _ _ _ _ _ _ _ _ _ _ _ _ _ _ _ _ _ _ _ _ _ _ _ _ _ _ _ _ _ _ _ _ _ _ _ _ _ _ _ _ _ _ _ _ _ _ J K' _ (fun c a o v w' hh => hQ c a o v w' hh) hJ hK)
          case restC =>
            intro a' w2 hR
            obtain ⟨u115, u116, u117, u118, u119, u120, u121, u122, u123, u124, hrel, rfl⟩ := hR
            have HNX := Lib.hid (lnext_kept HR.out HWE.out HNM.out HDM.out HSM.out HOM.out HLM.out hrel)
            clear hrel HWE HKM HNM HOM H7M HLM HDM HSM HN7 HNG HBX
            go_wp2_with fail
            go_roundg (old.length - (i + 1))
            case measure => exact hlp_meas HZ.out HI.out
            case rel => exact ⟨i + 1, hlp_rel HI.out, int_next w1i, HNX.out⟩
    · have s1 : decide ((i : Int) < (old.length : Int)) = false := decide_eq_false (by omega)
      have HF : Hid (LRel W wr b p xl d L old u4) := Lib.hid (lround_end HLP.out (by omega))
      go_wp2_with fail
      go_meet
      exact HF.out
end Go.Proofs.YtofonfohaocclaaGreatDoor

namespace Go.Proofs.YtofonfohaocclaaGreatDoor
open Go.RowKit Sh
open Go.ChangeMaps (setBlock)
set_option linter.unusedVariables false
set_option linter.unusedSimpArgs false

set_option maxRecDepth 100000 in
set_option maxHeartbeats 4000000 in
theorem tick_errands {W : World} {b g : Nat} {d : Det} {p : Parts} (h : IsDet W b d p) (hw : d.es.length < 1099511627776) (hx : W.cell? ⟨g, 0, none⟩ = some (.pointer (some ⟨b, 0, none⟩))) (hg : ¬ p.has b g) (x0 x1 x3 x4 x5 x6 x7 x8 x9 x10 x11 x12 x13 x14 x15 x16 x17 x18 x19 x20 x21 x22 x23 x24 x25 x26 x27 x28 x29 x30 x31 x32 x33 x34 x35 x36 x37 x38 x39 x40 x41 x42 x43 x44 x45 x46 x47 x48 x49 x50 x51 x52 x53 x54 x55 x56 x57 x58 x59 x60 x61 x62 x63 x64 x65 x66 x67 x68 x69 x70 x71 x72 x73 x74 x75 x76 x77 x78 x79 x80 x81 x82 x83 x84 x85 x86 x87 x88 x89 x90 x91 x92 x93 x94 x95 x96 x97 x98 x99 x100 x101 x102 x103 x104 x105 x106 x107 x108 x109 x110 x111 x112 x113 x114 x115 x116 x117 x118 x119 x120 x121 x122 x123 x124 x125 x126 x127 x128 x129 x130 x131 x132 x133 x134 x135 x136 x137 x138 x139 x140 x141 x142 x143 x144 x145 x146 x147 x148 x149 x150 x151 x152 x153 x154 x155 x156 x157 x158 x159 x160 x161 x162 x163 x164 x165 x166 x167 x168 x169 x170 x171 x172 x173 x174 x175 x176 x177 x178 x179 x180 x181 x182 x183 x184 x185 x186 x187 x188 x189 x190 x191 x192 x193 x194 x195 x196 x197 x198 : Value) (J K : Act → World → Prop) (Q : Exit → Act → World → Prop) (hQ : ∀ c (a : Act) o v w', Q (.panic c) (a.put o v) w' → Q (.panic c) a w')
    (hJ : ∀ a' w', (fun a' w' => ∃ u126, ∃ u127, ∃ u128, ∃ u129, ∃ u130, ∃ u131, ∃ u132, ∃ u133, ∃ u134, (DSet W w' b p { d with es := d.es.filter fun x => !decide (4 ≤ sub64 d.now x.a) }) ∧ a' = ⟨List.toArray (x0 :: x1 :: .pointer (some ⟨g, 0, none⟩) :: x3 :: x4 :: x5 :: x6 :: x7 :: x8 :: x9 :: x10 :: x11 :: x12 :: x13 :: x14 :: x15 :: x16 :: x17 :: x18 :: x19 :: x20 :: x21 :: x22 :: x23 :: x24 :: x25 :: x26 :: x27 :: x28 :: x29 :: x30 :: x31 :: x32 :: x33 :: x34 :: x35 :: x36 :: x37 :: x38 :: x39 :: x40 :: x41 :: x42 :: x43 :: x44 :: x45 :: x46 :: x47 :: x48 :: x49 :: x50 :: x51 :: x52 :: x53 :: x54 :: x55 :: x56 :: x57 :: x58 :: x59 :: x60 :: x61 :: x62 :: x63 :: x64 :: x65 :: x66 :: x67 :: x68 :: x69 :: x70 :: x71 :: x72 :: x73 :: x74 :: x75 :: x76 :: x77 :: x78 :: x79 :: x80 :: x81 :: x82 :: x83 :: x84 :: x85 :: x86 :: x87 :: x88 :: x89 :: x90 :: x91 :: x92 :: x93 :: x94 :: x95 :: x96 :: x97 :: x98 :: x99 :: x100 :: x101 :: x102 :: x103 :: x104 :: x105 :: x106 :: x107 :: x108 :: x109 :: x110 :: x111 :: x112 :: x113 :: x114 :: x115 :: x116 :: x117 :: x118 :: x119 :: x120 :: x121 :: x122 :: x123 :: x124 :: x125 :: u126 :: u127 :: u128 :: u129 :: u130 :: u131 :: u132 :: u133 :: u134 :: x135 :: x136 :: x137 :: x138 :: x139 :: x140 :: x141 :: x142 :: x143 :: x144 :: x145 :: x146 :: x147 :: x148 :: x149 :: x150 :: x151 :: x152 :: x153 :: x154 :: x155 :: x156 :: x157 :: x158 :: x159 :: x160 :: x161 :: x162 :: x163 :: x164 :: x165 :: x166 :: x167 :: x168 :: x169 :: x170 :: x171 :: x172 :: x173 :: x174 :: x175 :: x176 :: x177 :: x178 :: x179 :: x180 :: x181 :: x182 :: x183 :: x184 :: x185 :: x186 :: x187 :: x188 :: x189 :: x190 :: x191 :: x192 :: x193 :: x194 :: x195 :: x196 :: x197 :: x198 :: []), []⟩) a' w' → J a' w') (hK : ∀ a' w', Met J a' w' → K a' w') :
    Code.wp Tryz.prog (fSub Tryz.f12 [1, 1, 1, 1, 1, 1, 0]) (Exit.then K Q) ⟨List.toArray (x0 :: x1 :: .pointer (some ⟨g, 0, none⟩) :: x3 :: x4 :: x5 :: x6 :: x7 :: x8 :: x9 :: x10 :: x11 :: x12 :: x13 :: x14 :: x15 :: x16 :: x17 :: x18 :: x19 :: x20 :: x21 :: x22 :: x23 :: x24 :: x25 :: x26 :: x27 :: x28 :: x29 :: x30 :: x31 :: x32 :: x33 :: x34 :: x35 :: x36 :: x37 :: x38 :: x39 :: x40 :: x41 :: x42 :: x43 :: x44 :: x45 :: x46 :: x47 :: x48 :: x49 :: x50 :: x51 :: x52 :: x53 :: x54 :: x55 :: x56 :: x57 :: x58 :: x59 :: x60 :: x61 :: x62 :: x63 :: x64 :: x65 :: x66 :: x67 :: x68 :: x69 :: x70 :: x71 :: x72 :: x73 :: x74 :: x75 :: x76 :: x77 :: x78 :: x79 :: x80 :: x81 :: x82 :: x83 :: x84 :: x85 :: x86 :: x87 :: x88 :: x89 :: x90 :: x91 :: x92 :: x93 :: x94 :: x95 :: x96 :: x97 :: x98 :: x99 :: x100 :: x101 :: x102 :: x103 :: x104 :: x105 :: x106 :: x107 :: x108 :: x109 :: x110 :: x111 :: x112 :: x113 :: x114 :: x115 :: x116 :: x117 :: x118 :: x119 :: x120 :: x121 :: x122 :: x123 :: x124 :: x125 :: x126 :: x127 :: x128 :: x129 :: x130 :: x131 :: x132 :: x133 :: x134 :: x135 :: x136 :: x137 :: x138 :: x139 :: x140 :: x141 :: x142 :: x143 :: x144 :: x145 :: x146 :: x147 :: x148 :: x149 :: x150 :: x151 :: x152 :: x153 :: x154 :: x155 :: x156 :: x157 :: x158 :: x159 :: x160 :: x161 :: x162 :: x163 :: x164 :: x165 :: x166 :: x167 :: x168 :: x169 :: x170 :: x171 :: x172 :: x173 :: x174 :: x175 :: x176 :: x177 :: x178 :: x179 :: x180 :: x181 :: x182 :: x183 :: x184 :: x185 :: x186 :: x187 :: x188 :: x189 :: x190 :: x191 :: x192 :: x193 :: x194 :: x195 :: x196 :: x197 :: x198 :: []), []⟩ W := by
  conv => arg 2; whnf
  have c6 := h.c6
  have c8 := h.c8
  have k0 : Keep (fun _ => False) W W.drew := (Keep.refl _ W).drew
  have hnb : ¬ p.ve.ownBlock = some b := fun hj => (h.kb.ne (h.ke hj) (by decide)) rfl
  have hng : ¬ p.ve.ownBlock = some g := fun hj => hg ⟨.inr (.inr (.inr (.inr (.inl hj))))⟩
  have hdl := delfunc_er (w := W.drew) (v := p.ve) (fun x => decide (4 ≤ sub64 d.now x.a)) (.pointer (some ⟨g, 0, none⟩)) (fun j hj => cl37 (k0.cell hx) (k0.cell c8) (fun e => hng (by rw [e]; exact hj)) (fun e => hnb (by rw [e]; exact hj))) (cl37 (k0.cell hx) (k0.cell c8) id id) ((h.keep0 k0).es) (by omega)
  have HS := Lib.hid h
  have HNB := Lib.hid hnb
  have HNG := Lib.hid hng
  have HDL := Lib.hid hdl
  have ub := h.lt (hb p b)
  have ug : g < W.heap.size := World.block_lt_of_cell? W _ hx
  have hgb : g ≠ b := fun e => hg (e ▸ hb p b)
  have HJ := Lib.hid hJ
  have HK := Lib.hid hK
  clear h hw hg hdl hnb hng
  generalize (d.es.filter fun x => !decide (4 ≤ sub64 d.now x.a)) = l' at *
  go_upto_region 23 with fail
  have S0 : (fun W' : World => W'.cell? ⟨g, 0, none⟩ = some (.pointer (some ⟨b, 0, none⟩)) ∧ W'.cell? ⟨b, 6, none⟩ = some p.ve) W.drew := ⟨hx, c6⟩
  refine Upto.start (fun W' : World => W'.cell? ⟨g, 0, none⟩ = some (.pointer (some ⟨b, 0, none⟩)) ∧ W'.cell? ⟨b, 6, none⟩ = some p.ve) 9 (by kernel_rfl) ?_
  change Upto _ _ _ _ _ _ 10 _ _ _
  refine Upto.take (i := 0) (v := ?v0) rfl (by kernel_rfl) (by kernel_rfl) (by kernel_rfl) (by kernel_rfl) (fun _ _ _ hh => hQ _ _ _ _ _ hh) S0 (Or.inl ⟨by rfl, ?hy0⟩) ?rest0
  case hy0 =>
    intro W' hW
    obtain ⟨lx, l6⟩ := hW
    go_simp
    try with_reducible rfl
  try simp only [Act.put, List.setIfInBounds_toArray, List.set_cons_zero, List.set_cons_succ]
  refine Upto.take (i := 1) (v := ?v1) rfl (by kernel_rfl) (by kernel_rfl) (by kernel_rfl) (by kernel_rfl) (fun _ _ _ hh => hQ _ _ _ _ _ hh) S0 (Or.inl ⟨by rfl, ?hy1⟩) ?rest1
  case hy1 =>
    intro W' hW
    obtain ⟨lx, l6⟩ := hW
    go_simp
    try with_reducible rfl
  try simp only [Act.put, List.setIfInBounds_toArray, List.set_cons_zero, List.set_cons_succ]
  refine Upto.take (i := 2) (v := ?v2) rfl (by kernel_rfl) (by kernel_rfl) (by kernel_rfl) (by kernel_rfl) (fun _ _ _ hh => hQ _ _ _ _ _ hh) S0 (Or.inl ⟨by rfl, ?hy2⟩) ?rest2
  case hy2 =>
    intro W' hW
    obtain ⟨lx, l6⟩ := hW
    go_simp
    try with_reducible rfl
  try simp only [Act.put, List.setIfInBounds_toArray, List.set_cons_zero, List.set_cons_succ]
  refine Upto.take (i := 3) (v := ?v3) rfl (by kernel_rfl) (by kernel_rfl) (by kernel_rfl) (by kernel_rfl) (fun _ _ _ hh => hQ _ _ _ _ _ hh) S0 (Or.inl ⟨by rfl, ?hy3⟩) ?rest3
  case hy3 =>
    intro W' hW
    obtain ⟨lx, l6⟩ := hW
    go_simp
    try with_reducible rfl
  try simp only [Act.put, List.setIfInBounds_toArray, List.set_cons_zero, List.set_cons_succ]
  refine Upto.take (i := 4) (v := ?v4) rfl (by kernel_rfl) (by kernel_rfl) (by kernel_rfl) (by kernel_rfl) (fun _ _ _ hh => hQ _ _ _ _ _ hh) S0 (Or.inl ⟨by rfl, ?hy4⟩) ?rest4
  case hy4 =>
    intro W' hW
    obtain ⟨lx, l6⟩ := hW
    go_simp
    try with_reducible rfl
  try simp only [Act.put, List.setIfInBounds_toArray, List.set_cons_zero, List.set_cons_succ]
  refine Upto.take (i := 5) (v := ?v5) rfl (by kernel_rfl) (by kernel_rfl) (by kernel_rfl) (by kernel_rfl) (fun _ _ _ hh => hQ _ _ _ _ _ hh) S0 (Or.inl ⟨by rfl, ?hy5⟩) ?rest5
  case hy5 =>
    intro W' hW
    obtain ⟨lx, l6⟩ := hW
    go_simp
    try with_reducible rfl
  try simp only [Act.put, List.setIfInBounds_toArray, List.set_cons_zero, List.set_cons_succ]
  refine Upto.one (i := 6) (by kernel_rfl) rfl (fun K hK => ?_)
  go_simp
  refine HDL.out.mono ?_
  rintro e w2 ⟨v2, rfl, hvb, hrow, hk2⟩
  have qx := hk2.cellS (k0.cell hx) HNG.out
  have q6 := hk2.cellS (k0.cell c6) HNB.out
  have f6 : w2.frozen? ⟨b, 6, none⟩ = false := by
    have := hk2.old ((HS.out.keep0 k0).blk) HNB.out
    simp [World.frozen?, this]
  have HSET := Lib.hid ((HS.out.keep0 k0).set_es (w1 := w2) hk2 hrow (fun j hj => .inl (hvb ▸ hj)))
  obtain ⟨A2, c2, hsh⟩ := hrow.shape
  refine hK.out _ _ (.inr ⟨qx, q6⟩) ?_
  clear hK K hrow hk2 hvb HDL
  try simp only [Act.put, List.setIfInBounds_toArray, List.set_cons_zero, List.set_cons_succ]
  refine Upto.one (i := 7) (by kernel_rfl) rfl (fun K hK => ?_)
  go_simp
  refine hK.out _ _ (.inr ⟨qx, q6⟩) ?_
  clear hK K
  try simp only [Act.put, List.setIfInBounds_toArray, List.set_cons_zero, List.set_cons_succ]
  refine Upto.one (i := 8) (by kernel_rfl) rfl (fun K hK => ?_)
  go_simp
  refine hK.out _ _ (.inr ⟨qx, q6⟩) ?_
  clear hK K
  try simp only [Act.put, List.setIfInBounds_toArray, List.set_cons_zero, List.set_cons_succ]
  refine Upto.one (i := 9) (by kernel_rfl) rfl (fun K hK => ?_)
  subst hsh
  go_simp
  refine hK.out _ _ (.inl rfl) ?_
  clear hK K
  try simp only [Act.put, List.setIfInBounds_toArray, List.set_cons_zero, List.set_cons_succ]
  refine Upto.done (by kernel_rfl) ?_
  go_wp2_with fail
  go_meet
  exact DSet.after ⟨⟨_, HSET.out.1, HSET.out.2.1⟩, HSET.out.2.2⟩ k0
end Go.Proofs.YtofonfohaocclaaGreatDoor
