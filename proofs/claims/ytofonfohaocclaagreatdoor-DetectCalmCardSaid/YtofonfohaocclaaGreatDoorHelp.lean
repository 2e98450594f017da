/- Walk of Detector.helped. -/
import Derived.Test.YtofonfohaocclaaGreatDoorG24
import Derived.IntWalk
namespace Go.Proofs.YtofonfohaocclaaGreatDoor
open Go.RowKit Sh
open Go.ChangeMaps (setBlock)
set_option linter.unusedVariables false
set_option linter.unusedSimpArgs false

theorem flat_drop {α : Type} {k : Nat} (enc : α → List Value) (he : ∀ x, (enc x).length = k) (l : List α) (i : Nat) (hi : i ≤ l.length) : (flat enc l).drop (i * k) = flat enc (l.drop i) := by
  have e : flat enc l = flat enc (l.take i) ++ flat enc (l.drop i) := by rw [← flat_append, List.take_append_drop]
  have h1 : (flat enc (l.take i)).length = i * k := by rw [flat_len enc he, List.length_take]; congr 1; omega
  rw [e, ← h1, List.drop_left]
theorem es_from {w : World} {v : Value} {l : List Er} (h : Row w 105 5 v l.length (flat erC l)) (M : Nat) (hM : M ≤ l.length) :
    ∃ A c, (∀ W, (Instr.slice 46 v (some (.int .i64 (M : Int))) none none).run Tryz.prog W = .ok (.slice A (l.drop M).length c) W) ∧ Row w 105 5 (.slice A (l.drop M).length c) (l.drop M).length (flat erC (l.drop M)) ∧ ∀ k, (Value.slice A (l.drop M).length c).ownBlock = some k → v.ownBlock = some k := by
  obtain ⟨A, c, rfl⟩ := h.shape
  have hs := slice_from 46 105 Tryz.underlying46 5 Tryz.sizeOf105 A l.length c (M : Int) (by omega) (by omega)
  rw [Int.toNat_natCast] at hs
  have hd : (l.drop M).length = l.length - M := List.length_drop
  rcases h.2 with ⟨h1, h2⟩ | ⟨g, o, c', cs, hv, _⟩
  · injection h1 with hA hn hc
    subst hA hc
    have e0 : l = [] := List.eq_nil_of_length_eq_zero h2
    subst e0
    have : M = 0 := by simpa using hM
    subst this
    exact ⟨none, 0, hs, by simpa using h, fun k hk => by cases hk⟩
  · cases hv
    have ht := h.tail hM
    rw [flat_drop erC (fun _ => rfl) l M hM] at ht
    rw [hd]
    refine ⟨_, _, hs, ht, fun k hk => ?_⟩
    by_cases hc : c = M
    · rw [if_pos hc] at hk
      exact hk
    · rw [if_neg hc] at hk
      simpa [Value.ownBlock, Addr.add_mid] using hk
theorem max0_wrap (N : Nat) (h : N < 1099511627776) : max (0 : Int) (IntKind.i64.wrap (IntKind.i64.wrap ((N : Int) - 32) + 1)) = ((N - 31 : Nat) : Int) := by
  rw [IntWalk.i64_in ((N : Int) - 32) (by omega), IntWalk.i64_in _ (by omega)]
  omega
theorem helped_same {d : Det} {n : Nt} (h : n.fo = d.r.me) : d.helped n = d.answer n := by
  dsimp only [Det.helped]
  rw [if_pos h]
theorem helped_else {d : Det} {n : Nt} (h : ¬ n.fo = d.r.me) : d.helped n = ((({ d with seq := inc64 d.seq, es := d.es.drop (d.es.length - 31) ++ [Er.mk n.fo (inc64 d.seq) d.now n.fr n.seq] } : Det).say ⟨1, 0, n.fo, inc64 d.seq, 0, []⟩).1, [(({ d with seq := inc64 d.seq, es := d.es.drop (d.es.length - 31) ++ [Er.mk n.fo (inc64 d.seq) d.now n.fr n.seq] } : Det).say ⟨1, 0, n.fo, inc64 d.seq, 0, []⟩).2]) := by
  dsimp only [Det.helped]
  rw [if_neg h]
structure CutH (w wx : World) (v : Value) : Prop where
  e : v = .bool false
  keep : Keep (fun _ => False) w wx
set_option maxRecDepth 100000 in
set_option maxHeartbeats 4000000 in
theorem helped_det {w : World} {b : Nat} {d : Det} {p : Parts} (h : IsDet w b d p) (ho : DetOk d) (hO : WOk d) (hT : TabAt 0 B.tabS w) (n : Nt) (v0 : Value) (hv0 : v0.oneCell' = true) :
    Calls Tryz.prog 51 #[.pointer (some ⟨b, 0, none⟩), .agg #[.int .i64 n.k, .int .i64 n.fr, .int .i64 n.dst, .int .u64 n.seq, .int .i64 n.fo, v0]] w fun e w' => ∃ v, e = .returned v ∧ NSet w w' b p v (d.helped n) := by
  have HLT : Hid (∀ j, w.heap.size ≤ j → ¬ p.has b j) := Lib.hid (fun j hj hp => absurd (h.lt hp) (by omega))
  obtain ⟨w0, hw0⟩ : ∃ w0, w0 = w.alloc (.cells #[.int .i64 n.k, .int .i64 n.fr, .int .i64 n.dst, .int .u64 n.seq, .int .i64 n.fo, v0] 62) := ⟨_, rfl⟩
  have k0 : Keep (fun _ => False) w w0 := by rw [hw0]; exact (Keep.refl _ w).alloc _
  have x0 : w0.cell? ⟨w.heap.size, 0, none⟩ = some (.int .i64 n.k) := by rw [hw0]; exact alc _ _ _ _ _ rfl
  have x1 : w0.cell? ⟨w.heap.size, 1, none⟩ = some (.int .i64 n.fr) := by rw [hw0]; exact alc _ _ _ _ _ rfl
  have x2 : w0.cell? ⟨w.heap.size, 2, none⟩ = some (.int .i64 n.dst) := by rw [hw0]; exact alc _ _ _ _ _ rfl
  have x3 : w0.cell? ⟨w.heap.size, 3, none⟩ = some (.int .u64 n.seq) := by rw [hw0]; exact alc _ _ _ _ _ rfl
  have x4 : w0.cell? ⟨w.heap.size, 4, none⟩ = some (.int .i64 n.fo) := by rw [hw0]; exact alc _ _ _ _ _ rfl
  have x5 : w0.cell? ⟨w.heap.size, 5, none⟩ = some v0 := by rw [hw0]; exact alc _ _ _ _ _ rfl
  have h0 := h.keep0 k0
  have c2 := h0.c2
  have hb := h.lt (hb p b)
  have hu0 : w0.heap.size = w.heap.size + 1 := by rw [hw0]; simp
  have ul : w.heap.size < w0.heap.size := by omega
  have hT0 := B.tab_keep hT k0 id
  have HK0 := Lib.hid k0
  by_cases hf : n.fo = d.r.me
  · have HDE := Lib.hid (helped_same hf)
    have e1 : (n.fo == d.r.me) = true := by rw [beq_iff_eq]; exact hf
    have HAN := Lib.hid (fun W (k : Keep (fun _ => False) w0 W) => answer_det (h0.keep0 k) ho (B.tab_keep hT0 k id) n v0 hv0)
    clear h0 k0 h ho hT hO hf hT0
    obtain ⟨nk, nfr, ndst, nseq, nfo, nnews⟩ := n
    simp only at HAN hw0 HDE x0 x1 x2 x3 x4 x5 e1 ⊢
    go_enter Tryz.func51, Tryz.ntmps51
    go_upto_region 1 with fail
    rw [← hw0]
    clear hw0
    go_region_law fail
    all_goals
      go_wp2_with fail
      refine (HAN.out _ ((Keep.refl _ w0).drew)).mono ?_
      rintro e w1 ⟨v1, rfl, hs1⟩
      have HS := Lib.hid hs1
      clear hs1
      go_wp2_with fail
      go_ret
      refine ⟨_, rfl, ?_, ?_⟩
      · rw [HDE.out]
        exact HS.out.own.mono (by have := ul; simp; omega)
      · rw [HDE.out]
        exact HS.out.set.after HK0.out.drew
  · have HDE := Lib.hid (helped_else hf)
    have e1 : (n.fo == d.r.me) = false := by rw [beq_eq_false_iff_ne]; exact hf
    have HPI := Lib.hid (fun W (k : Keep (fun _ => False) w0 W) => ping_det (h0.keep0 k))
    have H0 := Lib.hid h0
    have HO := Lib.hid hO
    have HHO := Lib.hid ho
    have HT0 := Lib.hid hT0
    clear h0 k0 h ho hT hO hf hT0
    obtain ⟨nk, nfr, ndst, nseq, nfo, nnews⟩ := n
    simp only at hw0 HDE x0 x1 x2 x3 x4 x5 e1 ⊢
    go_enter Tryz.func51, Tryz.ntmps51
    go_upto_region 1 with fail
    rw [← hw0]
    clear hw0
    go_cut [12] (fun v12 wx => CutH w0 wx v12)
    case first =>
      go_region_law fail
      all_goals
        go_wp2_with fail
        go_meet
        exact ⟨rfl, (Keep.refl _ w0).drew⟩
    case rest =>
      obtain ⟨rfl, kwc⟩ := hcut
      go_wp2_with fail
      refine (HPI.out _ kwc).mono ?_
      rintro e w1 ⟨rfl, hw1⟩
      have hd1 := (H0.out.keep0 kwc).set7 (inc64 d.seq)
      have hks := (H0.out.keep0 kwc).keep_set 7 (.int .u64 (inc64 d.seq))
      rw [← hw1] at hd1 hks
      have HT1 := Lib.hid (B.tab_keep (B.tab_keep HT0.out kwc id) hks (fun hj => absurd (H0.out.pos _ hj) (by omega)))
      have hq1 : w0.heap.size ≤ w1.heap.size := by have := kwc.size; rw [hw1]; simp [World.setCell]; omega
      have y1 : w1.cell? ⟨w.heap.size, 1, none⟩ = some (.int .i64 nfr) := by rw [hw1]; exact set_ne (by omega) (kwc.cell x1)
      have y3 : w1.cell? ⟨w.heap.size, 3, none⟩ = some (.int .u64 nseq) := by rw [hw1]; exact set_ne (by omega) (kwc.cell x3)
      have y4 : w1.cell? ⟨w.heap.size, 4, none⟩ = some (.int .i64 nfo) := by rw [hw1]; exact set_ne (by omega) (kwc.cell x4)
      have HK1 : Hid (Keep (p.has b) w w1) := Lib.hid (((HK0.out.step kwc).mono fun _ h _ => h.elim).step hks)
      have HD1 := Lib.hid hd1
      have c6 := hd1.c6
      have c8 := hd1.c8
      simp only at c8
      have HDR : Hid (d.now = d.now) := Lib.hid rfl
      clear hw1 hd1 hks HPI x0 x1 x2 x3 x4 x5 c2 HK0 HT0
      obtain ⟨A2, cc2, hsl, hr2, hob⟩ := es_from HD1.out.es (d.es.length - 31) (Nat.sub_le _ _)
      have hmx := max0_wrap d.es.length HO.out.es
      obtain ⟨j0, hj0⟩ : ∃ i5, Info 105 (.agg #[.int .i64 0, .int .u64 0, .int .u64 0, .int .i64 0, .int .u64 0]) 5 40 i5 := Info.of (by kernel_rfl)
      have HJ := Lib.hid hj0
      clear hj0
      have hls : (d.es.drop (d.es.length - 31)).length ≤ 31 := by rw [List.length_drop]; omega
      obtain ⟨A1, cc1, hve⟩ := HD1.out.es.shape
      generalize hes2 : d.es.drop (d.es.length - 31) = es2 at *
      have HR2 := Lib.hid hr2
      have HOB := Lib.hid hob
      have HVE := Lib.hid hve
      rw [hve] at c6 hsl
      simp only at c6 hsl
      clear hr2 hob hve
      go_upto_region 4 with fail
      have S0 : (fun W : World => W.cell? ⟨b, 6, none⟩ = some (.slice A1 d.es.length cc1) ∧ W.cell? ⟨b, 8, none⟩ = some (.int .u64 d.now) ∧ W.cell? ⟨w.heap.size, 1, none⟩ = some (.int .i64 nfr) ∧ W.cell? ⟨w.heap.size, 3, none⟩ = some (.int .u64 nseq) ∧ W.cell? ⟨w.heap.size, 4, none⟩ = some (.int .i64 nfo)) w1.drew := ⟨c6, c8, y1, y3, y4⟩
      refine Upto.start (fun W : World => W.cell? ⟨b, 6, none⟩ = some (.slice A1 d.es.length cc1) ∧ W.cell? ⟨b, 8, none⟩ = some (.int .u64 d.now) ∧ W.cell? ⟨w.heap.size, 1, none⟩ = some (.int .i64 nfr) ∧ W.cell? ⟨w.heap.size, 3, none⟩ = some (.int .u64 nseq) ∧ W.cell? ⟨w.heap.size, 4, none⟩ = some (.int .i64 nfo)) 30 (by kernel_rfl) ?_
      change Upto _ _ _ _ _ _ 31 _ _ _
      refine Upto.take (i := 0) (v := ?v0) rfl (by kernel_rfl) (by kernel_rfl) (by kernel_rfl) (by kernel_rfl) (fun _ _ _ h => h) S0 (Or.inl ⟨by rfl, ?hy0⟩) ?rest0
      case hy0 =>
        intro W hW
        obtain ⟨l6, l8, l1, l3, l4⟩ := hW
        go_simp
        try with_reducible rfl
      try simp only [Act.put, List.setIfInBounds_toArray, List.set_cons_zero, List.set_cons_succ]
      refine Upto.take (i := 1) (v := ?v1) rfl (by kernel_rfl) (by kernel_rfl) (by kernel_rfl) (by kernel_rfl) (fun _ _ _ h => h) S0 (Or.inl ⟨by rfl, ?hy1⟩) ?rest1
      case hy1 =>
        intro W hW
        obtain ⟨l6, l8, l1, l3, l4⟩ := hW
        go_simp
        try with_reducible rfl
      try simp only [Act.put, List.setIfInBounds_toArray, List.set_cons_zero, List.set_cons_succ]
      refine Upto.take (i := 2) (v := ?v2) rfl (by kernel_rfl) (by kernel_rfl) (by kernel_rfl) (by kernel_rfl) (fun _ _ _ h => h) S0 (Or.inl ⟨by rfl, ?hy2⟩) ?rest2
      case hy2 =>
        intro W hW
        obtain ⟨l6, l8, l1, l3, l4⟩ := hW
        go_simp
        try with_reducible rfl
      try simp only [Act.put, List.setIfInBounds_toArray, List.set_cons_zero, List.set_cons_succ]
      refine Upto.take (i := 3) (v := ?v3) rfl (by kernel_rfl) (by kernel_rfl) (by kernel_rfl) (by kernel_rfl) (fun _ _ _ h => h) S0 (Or.inl ⟨by rfl, ?hy3⟩) ?rest3
      case hy3 =>
        intro W hW
        obtain ⟨l6, l8, l1, l3, l4⟩ := hW
        go_simp
        try with_reducible rfl
      try simp only [Act.put, List.setIfInBounds_toArray, List.set_cons_zero, List.set_cons_succ]
      refine Upto.take (i := 4) (v := ?v4) rfl (by kernel_rfl) (by kernel_rfl) (by kernel_rfl) (by kernel_rfl) (fun _ _ _ h => h) S0 (Or.inl ⟨by rfl, ?hy4⟩) ?rest4
      case hy4 =>
        intro W hW
        obtain ⟨l6, l8, l1, l3, l4⟩ := hW
        go_simp
        try with_reducible rfl
      try simp only [Act.put, List.setIfInBounds_toArray, List.set_cons_zero, List.set_cons_succ]
      refine Upto.take (i := 5) (v := ?v5) rfl (by kernel_rfl) (by kernel_rfl) (by kernel_rfl) (by kernel_rfl) (fun _ _ _ h => h) S0 (Or.inl ⟨by rfl, ?hy5⟩) ?rest5
      case hy5 =>
        intro W hW
        obtain ⟨l6, l8, l1, l3, l4⟩ := hW
        go_simp
        try with_reducible rfl
      try simp only [Act.put, List.setIfInBounds_toArray, List.set_cons_zero, List.set_cons_succ]
      refine Upto.take (i := 6) (v := ?v6) rfl (by kernel_rfl) (by kernel_rfl) (by kernel_rfl) (by kernel_rfl) (fun _ _ _ h => h) S0 (Or.inl ⟨by rfl, ?hy6⟩) ?rest6
      case hy6 =>
        intro W hW
        obtain ⟨l6, l8, l1, l3, l4⟩ := hW
        go_simp
        try with_reducible rfl
      try simp only [Act.put, List.setIfInBounds_toArray, List.set_cons_zero, List.set_cons_succ]
      refine Upto.take (i := 7) (v := ?v7) rfl (by kernel_rfl) (by kernel_rfl) (by kernel_rfl) (by kernel_rfl) (fun _ _ _ h => h) S0 (Or.inl ⟨by rfl, ?hy7⟩) ?rest7
      case hy7 =>
        intro W hW
        obtain ⟨l6, l8, l1, l3, l4⟩ := hW
        go_simp
        try with_reducible rfl
      try simp only [Act.put, List.setIfInBounds_toArray, List.set_cons_zero, List.set_cons_succ]
      refine Upto.take (i := 8) (v := ?v8) rfl (by kernel_rfl) (by kernel_rfl) (by kernel_rfl) (by kernel_rfl) (fun _ _ _ h => h) S0 (Or.inl ⟨by rfl, ?hy8⟩) ?rest8
      case hy8 =>
        intro W hW
        obtain ⟨l6, l8, l1, l3, l4⟩ := hW
        go_simp
        try with_reducible rfl
      try simp only [Act.put, List.setIfInBounds_toArray, List.set_cons_zero, List.set_cons_succ]
      refine Upto.take (i := 9) (v := ?v9) rfl (by kernel_rfl) (by kernel_rfl) (by kernel_rfl) (by kernel_rfl) (fun _ _ _ h => h) S0 (Or.inl ⟨by rfl, ?hy9⟩) ?rest9
      case hy9 =>
        intro W hW
        obtain ⟨l6, l8, l1, l3, l4⟩ := hW
        go_simp
        try with_reducible rfl
      try simp only [Act.put, List.setIfInBounds_toArray, List.set_cons_zero, List.set_cons_succ]
      refine Upto.take (i := 10) (v := ?v10) rfl (by kernel_rfl) (by kernel_rfl) (by kernel_rfl) (by kernel_rfl) (fun _ _ _ h => h) S0 (Or.inl ⟨by rfl, ?hy10⟩) ?rest10
      case hy10 =>
        intro W hW
        obtain ⟨l6, l8, l1, l3, l4⟩ := hW
        go_simp
        try with_reducible rfl
      try simp only [Act.put, List.setIfInBounds_toArray, List.set_cons_zero, List.set_cons_succ]
      refine Upto.take (i := 11) (v := ?v11) rfl (by kernel_rfl) (by kernel_rfl) (by kernel_rfl) (by kernel_rfl) (fun _ _ _ h => h) S0 (Or.inl ⟨by rfl, ?hy11⟩) ?rest11
      case hy11 =>
        intro W hW
        obtain ⟨l6, l8, l1, l3, l4⟩ := hW
        go_simp
        try with_reducible rfl
      try simp only [Act.put, List.setIfInBounds_toArray, List.set_cons_zero, List.set_cons_succ]
      refine Upto.take (i := 12) (v := ?v12) rfl (by kernel_rfl) (by kernel_rfl) (by kernel_rfl) (by kernel_rfl) (fun _ _ _ h => h) S0 (Or.inl ⟨by rfl, ?hy12⟩) ?rest12
      case hy12 =>
        intro W hW
        obtain ⟨l6, l8, l1, l3, l4⟩ := hW
        go_simp
        try with_reducible rfl
      try simp only [Act.put, List.setIfInBounds_toArray, List.set_cons_zero, List.set_cons_succ]
      refine Upto.take (i := 13) (v := ?v13) rfl (by kernel_rfl) (by kernel_rfl) (by kernel_rfl) (by kernel_rfl) (fun _ _ _ h => h) S0 (Or.inl ⟨by rfl, ?hy13⟩) ?rest13
      case hy13 =>
        intro W hW
        obtain ⟨l6, l8, l1, l3, l4⟩ := hW
        go_simp
        try with_reducible rfl
      try simp only [Act.put, List.setIfInBounds_toArray, List.set_cons_zero, List.set_cons_succ]
      refine Upto.take (i := 14) (v := ?v14) rfl (by kernel_rfl) (by kernel_rfl) (by kernel_rfl) (by kernel_rfl) (fun _ _ _ h => h) S0 (Or.inl ⟨by rfl, ?hy14⟩) ?rest14
      case hy14 =>
        intro W hW
        obtain ⟨l6, l8, l1, l3, l4⟩ := hW
        go_simp
        try with_reducible rfl
      try simp only [Act.put, List.setIfInBounds_toArray, List.set_cons_zero, List.set_cons_succ]
      refine Upto.take (i := 15) (v := ?v15) rfl (by kernel_rfl) (by kernel_rfl) (by kernel_rfl) (by kernel_rfl) (fun _ _ _ h => h) S0 (Or.inl ⟨by rfl, ?hy15⟩) ?rest15
      case hy15 =>
        intro W hW
        obtain ⟨l6, l8, l1, l3, l4⟩ := hW
        go_simp
        try with_reducible rfl
      try simp only [Act.put, List.setIfInBounds_toArray, List.set_cons_zero, List.set_cons_succ]
      refine Upto.take (i := 16) (v := ?v16) rfl (by kernel_rfl) (by kernel_rfl) (by kernel_rfl) (by kernel_rfl) (fun _ _ _ h => h) S0 (Or.inl ⟨by rfl, ?hy16⟩) ?rest16
      case hy16 =>
        intro W hW
        obtain ⟨l6, l8, l1, l3, l4⟩ := hW
        go_simp
        try with_reducible rfl
      try simp only [Act.put, List.setIfInBounds_toArray, List.set_cons_zero, List.set_cons_succ]
      refine Upto.take (i := 17) (v := ?v17) rfl (by kernel_rfl) (by kernel_rfl) (by kernel_rfl) (by kernel_rfl) (fun _ _ _ h => h) S0 (Or.inl ⟨by rfl, ?hy17⟩) ?rest17
      case hy17 =>
        intro W hW
        obtain ⟨l6, l8, l1, l3, l4⟩ := hW
        go_simp
        try with_reducible rfl
      try simp only [Act.put, List.setIfInBounds_toArray, List.set_cons_zero, List.set_cons_succ]
      refine Upto.take (i := 18) (v := ?v18) rfl (by kernel_rfl) (by kernel_rfl) (by kernel_rfl) (by kernel_rfl) (fun _ _ _ h => h) S0 (Or.inl ⟨by rfl, ?hy18⟩) ?rest18
      case hy18 =>
        intro W hW
        obtain ⟨l6, l8, l1, l3, l4⟩ := hW
        go_simp
        try with_reducible rfl
      try simp only [Act.put, List.setIfInBounds_toArray, List.set_cons_zero, List.set_cons_succ]
      refine Upto.take (i := 19) (v := ?v19) rfl (by kernel_rfl) (by kernel_rfl) (by kernel_rfl) (by kernel_rfl) (fun _ _ _ h => h) S0 (Or.inl ⟨by rfl, ?hy19⟩) ?rest19
      case hy19 =>
        intro W hW
        obtain ⟨l6, l8, l1, l3, l4⟩ := hW
        go_simp
        try with_reducible rfl
      try simp only [Act.put, List.setIfInBounds_toArray, List.set_cons_zero, List.set_cons_succ]
      refine Upto.take (i := 20) (v := ?v20) rfl (by kernel_rfl) (by kernel_rfl) (by kernel_rfl) (by kernel_rfl) (fun _ _ _ h => h) S0 (Or.inl ⟨by rfl, ?hy20⟩) ?rest20
      case hy20 =>
        intro W hW
        obtain ⟨l6, l8, l1, l3, l4⟩ := hW
        go_simp
        try with_reducible rfl
      try simp only [Act.put, List.setIfInBounds_toArray, List.set_cons_zero, List.set_cons_succ]
      refine Upto.take (i := 21) (v := ?v21) rfl (by kernel_rfl) (by kernel_rfl) (by kernel_rfl) (by kernel_rfl) (fun _ _ _ h => h) S0 (Or.inl ⟨by rfl, ?hy21⟩) ?rest21
      case hy21 =>
        intro W hW
        obtain ⟨l6, l8, l1, l3, l4⟩ := hW
        go_simp
        try with_reducible rfl
      try simp only [Act.put, List.setIfInBounds_toArray, List.set_cons_zero, List.set_cons_succ]
      refine Upto.take (i := 22) (v := ?v22) rfl (by kernel_rfl) (by kernel_rfl) (by kernel_rfl) (by kernel_rfl) (fun _ _ _ h => h) S0 (Or.inl ⟨by rfl, ?hy22⟩) ?rest22
      case hy22 =>
        intro W hW
        obtain ⟨l6, l8, l1, l3, l4⟩ := hW
        go_simp
        try with_reducible rfl
      try simp only [Act.put, List.setIfInBounds_toArray, List.set_cons_zero, List.set_cons_succ]
      refine Upto.take (i := 23) (v := ?v23) rfl (by kernel_rfl) (by kernel_rfl) (by kernel_rfl) (by kernel_rfl) (fun _ _ _ h => h) S0 (Or.inl ⟨by rfl, ?hy23⟩) ?rest23
      case hy23 =>
        intro W hW
        obtain ⟨l6, l8, l1, l3, l4⟩ := hW
        go_simp
        try with_reducible rfl
      try simp only [Act.put, List.setIfInBounds_toArray, List.set_cons_zero, List.set_cons_succ]
      refine Upto.take (i := 24) (v := ?v24) rfl (by kernel_rfl) (by kernel_rfl) (by kernel_rfl) (by kernel_rfl) (fun _ _ _ h => h) S0 (Or.inl ⟨by rfl, ?hy24⟩) ?rest24
      case hy24 =>
        intro W hW
        obtain ⟨l6, l8, l1, l3, l4⟩ := hW
        go_simp
        try with_reducible rfl
      try simp only [Act.put, List.setIfInBounds_toArray, List.set_cons_zero, List.set_cons_succ]
      refine Upto.take (i := 25) (v := ?v25) rfl (by kernel_rfl) (by kernel_rfl) (by kernel_rfl) (by kernel_rfl) (fun _ _ _ h => h) S0 (Or.inl ⟨by rfl, ?hy25⟩) ?rest25
      case hy25 =>
        intro W hW
        obtain ⟨l6, l8, l1, l3, l4⟩ := hW
        go_simp
        try with_reducible rfl
      try simp only [Act.put, List.setIfInBounds_toArray, List.set_cons_zero, List.set_cons_succ]
      refine Upto.one (i := 26) (by kernel_rfl) rfl (fun K hK => ?_)
      go_simp
      obtain ⟨wa, hwa⟩ : ∃ wa, wa = (w1.alloc (.cells #[.int .i64 nfo, .int .u64 (inc64 d.seq), .int .u64 d.now, .int .i64 nfr, .int .u64 nseq] 105)).drew := ⟨_, rfl⟩
      have ka : Keep (fun _ => False) w1 wa := by rw [hwa]; exact ((Keep.refl _ w1).alloc _).drew
      have hba : wa.heap[w1.heap.size]? = some (.cells #[.int .i64 nfo, .int .u64 (inc64 d.seq), .int .u64 d.now, .int .i64 nfr, .int .u64 nseq] 105 (0, 0)) := by rw [hwa]; exact heap_alloc_new w1 _
      rw [← hwa]
      have hda := HD1.out.keep0 ka
      have hra := HR2.out.keep0 ka
      refine hK.out _ _ (.inr ⟨ka.cell c6, ka.cell c8, ka.cell y1, ka.cell y3, ka.cell y4⟩) ?_
      clear hK K
      try simp only [Act.put, List.setIfInBounds_toArray, List.set_cons_zero, List.set_cons_succ]
      refine Upto.one (i := 27) (by kernel_rfl) rfl (fun K hK => ?_)
      refine step_append_row (by rfl) _ _ _ (by rfl) 105 j0 (.agg #[.int .i64 0, .int .u64 0, .int .u64 0, .int .i64 0, .int .u64 0]) 5 40 Tryz.underlying46 HJ.out.has HJ.out.zero HJ.out.size HJ.out.bytes rfl (by decide) (.slice A2 es2.length cc2) es2.length (flat erC es2) (by rfl) hra ⟨w1.heap.size, 0, none⟩ 1 1 (erC ⟨nfo, inc64 d.seq, d.now, nfr, nseq⟩) (by rfl) (by rfl) (World.news_of_block (cs := (erC ⟨nfo, inc64 d.seq, d.now, nfr, nseq⟩).toArray) (t := 105) (fr := (0, 0)) hba) (er_one _) (by decide) (by simp only [maxLen]; omega) (by omega) ?_
      intro v3 w3 hA3
      have hS : ∀ j, (Value.slice A2 es2.length cc2).ownBlock = some j → p.has b j := fun j hj => ⟨.inr (.inr (.inr (.inr (.inl (HOB.out j hj)))))⟩
      have q1 := (hA3.keep.cellS (ka.cell y1) (fun hj => HLT.out w.heap.size (Nat.le_refl _) (hS w.heap.size hj)))
      have q3 := (hA3.keep.cellS (ka.cell y3) (fun hj => HLT.out w.heap.size (Nat.le_refl _) (hS w.heap.size hj)))
      have q4 := (hA3.keep.cellS (ka.cell y4) (fun hj => HLT.out w.heap.size (Nat.le_refl _) (hS w.heap.size hj)))
      have hnb : ¬ (Value.slice A2 es2.length cc2).ownBlock = some b := fun hj => (HD1.out.kb.ne (HD1.out.ke (HOB.out b hj)) (by decide)) rfl
      have q6 := hA3.keep.cellS (ka.cell c6) hnb
      have q8 := hA3.keep.cellS (ka.cell c8) hnb
      have f6 : w3.frozen? ⟨b, 6, none⟩ = false := by
        have := hA3.keep.old (ka.old HD1.out.blk id) hnb
        simp [World.frozen?, this]
      have HSET := Lib.hid (HD1.out.set_es (w1 := w3) (v' := v3) (l' := es2 ++ [⟨nfo, inc64 d.seq, d.now, nfr, nseq⟩]) ((ka.mono fun _ h _ => h.elim).step (hA3.keep.mono fun j hj _ => HOB.out j hj)) (by rw [List.length_append, flat_append, flat_one]; exact hA3.row) (fun g hg => by
        rcases hA3.blk with h1 | ⟨g', h1, h2⟩
        · exact .inl (HOB.out g (h1 ▸ hg))
        · have e : some g = some g' := hg.symm.trans h1
          injection e with e
          have := ka.size
          exact .inr (by omega)))
      obtain ⟨A3, c3, hsh⟩ := hA3.row.shape
      have u3 := hA3.keep.size
      have ua := ka.size
      refine hK.out _ _ (.inr ⟨q6, q8, q1, q3, q4⟩) ?_
      clear hK K hA3 hda hra hba hwa hS hnb ka
      try simp only [Act.put, List.setIfInBounds_toArray, List.set_cons_zero, List.set_cons_succ]
      refine Upto.one (i := 28) (by kernel_rfl) rfl (fun K hK => ?_)
      go_simp
      refine hK.out _ _ (.inr ⟨q6, q8, q1, q3, q4⟩) ?_
      clear hK K
      try simp only [Act.put, List.setIfInBounds_toArray, List.set_cons_zero, List.set_cons_succ]
      refine Upto.one (i := 29) (by kernel_rfl) rfl (fun K hK => ?_)
      go_simp
      refine hK.out _ _ (.inr ⟨q6, q8, q1, q3, q4⟩) ?_
      clear hK K
      try simp only [Act.put, List.setIfInBounds_toArray, List.set_cons_zero, List.set_cons_succ]
      refine Upto.one (i := 30) (by kernel_rfl) rfl (fun K hK => ?_)
      subst hsh
      go_simp
      refine hK.out _ _ (.inl rfl) ?_
      clear hK K
      try simp only [Act.put, List.setIfInBounds_toArray, List.set_cons_zero, List.set_cons_succ]
      refine Upto.done (by kernel_rfl) ?_
      focus
        generalize hes3 : es2 ++ [(⟨nfo, inc64 d.seq, d.now, nfr, nseq⟩ : Er)] = es3 at HSET HDE
        obtain ⟨w4, hw4⟩ : ∃ w4, w4 = w3.setCell ⟨b, 6, none⟩ (.slice A3 (es2.length + 1) c3) := ⟨_, rfl⟩
        have z4 : w4.cell? ⟨w.heap.size, 4, none⟩ = some (.int .i64 nfo) := by rw [hw4]; exact set_ne (by omega) q4
        have hu4 : w3.heap.size ≤ w4.heap.size := by rw [hw4]; simp [World.setCell]
        rw [← hw4] at HSET
        have HT4 := Lib.hid (B.tab_keep HT1.out HSET.out.2.2 (fun hj => absurd (HD1.out.pos _ hj) (by omega)))
        go_upto_region 5 with fail
        rw [← hw4]
        clear hw4 q1 q3 q4 q6 q8 f6 hsl hmx hls y1 y3 y4 c6 c8
        have hsy := say_det (w := w4) HSET.out.1 ⟨HHO.out.left, HHO.out.r, HHO.out.q, HHO.out.d, HHO.out.now, by have := HHO.out.seq; show 0 ≤ inc64 d.seq ∧ inc64 d.seq < 18446744073709551616; unfold inc64; omega⟩ HT4.out 1 0 nfo (inc64 d.seq) 0 (.slice none 0 0)
        have hee : (({ d with seq := inc64 d.seq, es := es3 } : Det).say ⟨1, 0, nfo, inc64 d.seq, 0, []⟩).2 = ⟨1, d.r.me, nfo, inc64 d.seq, 0, (({ d with seq := inc64 d.seq, es := es3 } : Det).say ⟨1, 0, nfo, inc64 d.seq, 0, []⟩).2.news⟩ := rfl
        generalize (({ d with seq := inc64 d.seq, es := es3 } : Det).say ⟨1, 0, nfo, inc64 d.seq, 0, []⟩) = r at *
        obtain ⟨d1, n1⟩ := r
        simp only at HDE hee
        have HEE := Lib.hid hee
        clear hee HHO HT4
        simp only at hsy
        go_wp2_with fail
        refine hsy.mono ?_
        rintro e w5 ⟨v5, rfl, hs5⟩
        have HS5 := Lib.hid hs5
        obtain ⟨A5, c5, hsh⟩ := own_shape hs5.own
        clear hs5 hsy z4
        simp only at hsh
        have hone : v5.oneCell' = true := by rw [hsh]; rfl
        clear hsh
        go_wp2_with fail
        go_ret
        refine ⟨_, rfl, ?_, ?_⟩
        · rw [HDE.out]
          have ho := HS5.out.own
          simp only at ho
          have hu3 := HSET.out.2.2.size
          have := own_note (W := w5) (base := w.heap.size) (x := (n1, v5)) ⟨own_mono ho (by omega)⟩ (by have := HS5.out.set.keep.size; omega)
          simp only at this
          rw [HEE.out] at this
          rw [HEE.out]
          exact this
        · rw [HDE.out]
          refine DSet.next (fun k hk => .inl hk) HK1.out (DSet.next HSET.out.2.1 HSET.out.2.2 ?_)
          exact HS5.out.set.before ((Keep.refl _ _).alloc _)
end Go.Proofs.YtofonfohaocclaaGreatDoor
