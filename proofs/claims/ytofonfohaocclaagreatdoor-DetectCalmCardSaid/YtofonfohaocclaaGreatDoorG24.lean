/- Walks of Detector.ping, answer; node. The closures of Detector.acked and Tick. Walk of Detector.acked. -/
import Derived.Test.YtofonfohaocclaaGreatDoorG23
namespace Go.Proofs.YtofonfohaocclaaGreatDoor
open Go.RowKit Sh
open Go.ChangeMaps (setBlock)
set_option linter.unusedVariables false

set_option maxRecDepth 100000 in
set_option maxHeartbeats 2000000 in
theorem ping_det {w : World} {b : Nat} {d : Det} {p : Parts} (h : IsDet w b d p) :
    Calls Tryz.prog 40 #[.pointer (some ⟨b, 0, none⟩)] w fun e w' => e = .returned (.int .u64 (inc64 d.seq)) ∧ w' = w.setCell ⟨b, 7, none⟩ (.int .u64 (inc64 d.seq)) := by
  have c7 := h.c7
  have f7 : w.frozen? ⟨b, 7, none⟩ = false := by simp [World.frozen?, h.blk]
  have hb : w.heap[b]? = some (.cells (detC p d) 48 (0, 0)) := h.blk
  have n7 : (w.setCell ⟨b, 7, none⟩ (.int .u64 (inc64 d.seq))).cell? ⟨b, 7, none⟩ = some (.int .u64 (inc64 d.seq)) := (h.set7 (inc64 d.seq)).c7
  clear h hb
  unfold inc64 at *
  go_enter Tryz.func40, Tryz.ntmps40
  go_wp2
  go_ret
  exact ⟨rfl, rfl⟩
set_option maxRecDepth 100000 in
theorem node_any (n : Int) (w : World) : Calls Tryz.prog 52 #[.int .i64 n] w fun e w' => e = .returned (.bool (nodeB n)) ∧ w' = w := by
  unfold nodeB
  by_cases h0 : 0 ≤ n
  · by_cases h1 : n < 64
    · have e0 : decide (0 ≤ n) = true := decide_eq_true h0
      have e1 : decide (n < 64) = true := decide_eq_true h1
      have HE : Hid (decide (0 ≤ n ∧ n < 64) = true) := Lib.hid (decide_eq_true ⟨h0, h1⟩)
      clear h0 h1
      go_enter Tryz.func52, Tryz.ntmps52
      go_wp2
      go_ret
      exact ⟨by rw [HE.out]; rfl, rfl⟩
    · have e0 : decide (0 ≤ n) = true := decide_eq_true h0
      have e1 : decide (n < 64) = false := decide_eq_false h1
      have HE : Hid (decide (0 ≤ n ∧ n < 64) = false) := Lib.hid (decide_eq_false fun h => h1 h.2)
      clear h0 h1
      go_enter Tryz.func52, Tryz.ntmps52
      go_wp2
      go_ret
      exact ⟨by rw [HE.out]; rfl, rfl⟩
  · have e0 : decide (0 ≤ n) = false := decide_eq_false h0
    have HE : Hid (decide (0 ≤ n ∧ n < 64) = false) := Lib.hid (decide_eq_false fun h => h0 h.1)
    clear h0
    go_enter Tryz.func52, Tryz.ntmps52
    go_wp2
    go_ret
    exact ⟨by rw [HE.out]; rfl, rfl⟩
set_option maxRecDepth 100000 in
set_option maxHeartbeats 4000000 in
theorem answer_det {w : World} {b : Nat} {d : Det} {p : Parts} (h : IsDet w b d p) (ho : DetOk d) (hT : TabAt 0 B.tabS w) (n : Nt) (v0 : Value) (hv0 : v0.oneCell' = true) :
    Calls Tryz.prog 49 #[.pointer (some ⟨b, 0, none⟩), .agg #[.int .i64 n.k, .int .i64 n.fr, .int .i64 n.dst, .int .u64 n.seq, .int .i64 n.fo, v0]] w fun e w' => ∃ v, e = .returned v ∧ NSet w w' b p v (d.answer n) := by
  have HSY := Lib.hid (fun W (k : Keep (fun _ => False) w W) => say_det (h.keep0 k) ho (B.tab_keep hT k id) 2 0 n.fr n.seq d.r.me (.slice none 0 0))
  have HS := Lib.hid (fun W (k : Keep (fun _ => False) w W) => h.keep0 k)
  have c2 := h.c2
  have HLT : Hid (∀ j, w.heap.size ≤ j → ¬ p.has b j) := Lib.hid (fun j hj hp => absurd (h.lt hp) (by omega))
  have HDE : Hid (d.answer n = ((d.say ⟨2, 0, n.fr, n.seq, d.r.me, []⟩).1, [(d.say ⟨2, 0, n.fr, n.seq, d.r.me, []⟩).2])) := Lib.hid rfl
  have hee : (d.say ⟨2, 0, n.fr, n.seq, d.r.me, []⟩).2 = ⟨2, d.r.me, n.fr, n.seq, d.r.me, (d.say ⟨2, 0, n.fr, n.seq, d.r.me, []⟩).2.news⟩ := rfl
  have hme : (d.say ⟨2, 0, n.fr, n.seq, d.r.me, []⟩).1.r.me = d.r.me := rfl
  have hb := h.lt (hb p b)
  clear h ho hT
  obtain ⟨nk, nfr, ndst, nseq, nfo, nnews⟩ := n
  simp only at HSY HDE hee hme ⊢
  generalize d.say ⟨2, 0, nfr, nseq, d.r.me, []⟩ = r at *
  obtain ⟨d1, n1⟩ := r
  simp only at HDE hee hme
  have HEE := Lib.hid hee
  have HME := Lib.hid hme
  clear hee hme
  go_enter Tryz.func49, Tryz.ntmps49
  go_upto_region 1 with fail
  obtain ⟨w0, hw0⟩ : ∃ w0, w0 = w.alloc (.cells #[.int .i64 nk, .int .i64 nfr, .int .i64 ndst, .int .u64 nseq, .int .i64 nfo, v0] 62) := ⟨_, rfl⟩
  have k0 : Keep (fun _ => False) w w0 := by rw [hw0]; exact (Keep.refl _ w).alloc _
  have x1 : w0.cell? ⟨w.heap.size, 1, none⟩ = some (.int .i64 nfr) := by rw [hw0]; exact alc _ _ _ _ _ rfl
  have x3 : w0.cell? ⟨w.heap.size, 3, none⟩ = some (.int .u64 nseq) := by rw [hw0]; exact alc _ _ _ _ _ rfl
  have u0 : w.heap.size < w0.heap.size := by rw [hw0]; simp
  have d2 := k0.cell c2
  have S0 := And.intro x1 (And.intro x3 d2)
  rw [← hw0]
  clear hw0 c2
  go_region_held3 (fun W => W.cell? ⟨w.heap.size, 1, none⟩ = some (.int .i64 nfr) ∧ W.cell? ⟨w.heap.size, 3, none⟩ = some (.int .u64 nseq) ∧ W.cell? ⟨b, 2, none⟩ = some (.int .i64 d.r.me)) (first | assumption | go_keep) (first | (go_at_call 35; refine (HSY.out _ (by repeat (first | assumption | refine Sh.Keep.drew ?_ | refine Sh.Keep.alloc ?_ _))).mono ?_; rintro e w1 ⟨v1, rfl, hs1⟩; have q1 := hs1.set.keep.cellS (show w0.drew.cell? _ = _ from x1) (HLT.out _ (Nat.le_refl _)); have q3 := hs1.set.keep.cellS (show w0.drew.cell? _ = _ from x3) (HLT.out _ (Nat.le_refl _)); have q2 : w1.cell? ⟨b, 2, none⟩ = some (.int .i64 d.r.me) := (by obtain ⟨p', hd', _⟩ := hs1.set.ex; have := hd'.c2; rw [HME.out] at this; exact this); have s1 := And.intro q1 (And.intro q3 q2); clear q1 q3 q2; have HS1 := Lib.hid hs1; clear hs1))
  all_goals
    go_wp2_with fail
    go_ret
    refine ⟨_, rfl, ?_, ?_⟩
    · rw [HDE.out]
      have ho := HS1.out.own
      simp only at ho
      have hu := k0.size
      have := own_note (W := w1) (base := w.heap.size) (x := (n1, v1)) ⟨own_mono ho (by simpa using hu)⟩ (by have := HS1.out.set.keep.size; simp at this; omega)
      simp only at this
      rw [HEE.out] at this
      rw [HEE.out]
      exact this
    · rw [HDE.out]
      exact (HS1.out.set.after (k0.drew)).before ((Keep.refl _ _).alloc _)
end Go.Proofs.YtofonfohaocclaaGreatDoor

namespace Go.Proofs.YtofonfohaocclaaGreatDoor
open Go.RowKit Sh
open Go.ChangeMaps (setBlock)
set_option linter.unusedVariables false

set_option maxRecDepth 100000 in
set_option maxHeartbeats 2000000 in
theorem cl96 {w : World} {g0 : Nat} {sq fr : Int} (x1 : w.cell? ⟨g0, 1, none⟩ = some (.int .i64 fr)) (x3 : w.cell? ⟨g0, 3, none⟩ = some (.int .u64 sq)) {S : Nat → Prop} (hS : ¬ S g0) :
    SaysS S erC w 96 #[.pointer (some ⟨g0, 0, none⟩)] fun x => decide (x.s = sq) && decide (x.n = fr) := by
  intro x W hk
  have y1 := hk.cellS x1 hS
  have y3 := hk.cellS x3 hS
  have hl : g0 < W.heap.size := World.block_lt_of_cell? W _ y1
  clear x1 x3 hk hS
  obtain ⟨xn, xs, xa, xf, xt⟩ := x
  by_cases h1 : xs = sq
  · have e1 : (xs == sq) = true := by rw [beq_iff_eq]; exact h1
    by_cases h2 : xn = fr
    · have e2 : (xn == fr) = true := by rw [beq_iff_eq]; exact h2
      have HE : Hid ((decide (xs = sq) && decide (xn = fr)) = true) := Lib.hid (by rw [decide_eq_true h1, decide_eq_true h2]; rfl)
      clear h1 h2
      show Calls Tryz.prog 96 #[.agg #[.int .i64 xn, .int .u64 xs, .int .u64 xa, .int .i64 xf, .int .u64 xt], .pointer (some ⟨g0, 0, none⟩)] W _
      go_enter Tryz.func96, Tryz.ntmps96
      go_wp2
      go_ret
      exact ⟨by rw [HE.out]; rfl, (Keep.refl _ _).alloc _⟩
    · have e2 : (xn == fr) = false := by rw [beq_eq_false_iff_ne]; exact h2
      have HE : Hid ((decide (xs = sq) && decide (xn = fr)) = false) := Lib.hid (by rw [decide_eq_false h2, Bool.and_false])
      clear h1 h2
      show Calls Tryz.prog 96 #[.agg #[.int .i64 xn, .int .u64 xs, .int .u64 xa, .int .i64 xf, .int .u64 xt], .pointer (some ⟨g0, 0, none⟩)] W _
      go_enter Tryz.func96, Tryz.ntmps96
      go_wp2
      go_ret
      exact ⟨by rw [HE.out]; rfl, (Keep.refl _ _).alloc _⟩
  · have e1 : (xs == sq) = false := by rw [beq_eq_false_iff_ne]; exact h1
    have HE : Hid ((decide (xs = sq) && decide (xn = fr)) = false) := Lib.hid (by rw [decide_eq_false h1, Bool.false_and])
    clear h1
    show Calls Tryz.prog 96 #[.agg #[.int .i64 xn, .int .u64 xs, .int .u64 xa, .int .i64 xf, .int .u64 xt], .pointer (some ⟨g0, 0, none⟩)] W _
    go_enter Tryz.func96, Tryz.ntmps96
    go_wp2
    go_ret
    exact ⟨by rw [HE.out]; rfl, (Keep.refl _ _).alloc _⟩
set_option maxRecDepth 100000 in
set_option maxHeartbeats 2000000 in
theorem cl98 {w : World} {g0 : Nat} {sq fo : Int} (x1 : w.cell? ⟨g0, 4, none⟩ = some (.int .i64 fo)) (x3 : w.cell? ⟨g0, 3, none⟩ = some (.int .u64 sq)) {S : Nat → Prop} (hS : ¬ S g0) :
    SaysS S wtC w 98 #[.pointer (some ⟨g0, 0, none⟩)] fun x => decide (x.s = sq) && decide (x.n = fo) := by
  intro x W hk
  have y1 := hk.cellS x1 hS
  have y3 := hk.cellS x3 hS
  have hl : g0 < W.heap.size := World.block_lt_of_cell? W _ y1
  clear x1 x3 hk hS
  obtain ⟨xn, xs, xa, xh⟩ := x
  by_cases h1 : xs = sq
  · have e1 : (xs == sq) = true := by rw [beq_iff_eq]; exact h1
    by_cases h2 : xn = fo
    · have e2 : (xn == fo) = true := by rw [beq_iff_eq]; exact h2
      have HE : Hid ((decide (xs = sq) && decide (xn = fo)) = true) := Lib.hid (by rw [decide_eq_true h1, decide_eq_true h2]; rfl)
      clear h1 h2
      show Calls Tryz.prog 98 #[.agg #[.int .i64 xn, .int .u64 xs, .int .u64 xa, .bool xh], .pointer (some ⟨g0, 0, none⟩)] W _
      go_enter Tryz.func98, Tryz.ntmps98
      go_wp2
      go_ret
      exact ⟨by rw [HE.out]; rfl, (Keep.refl _ _).alloc _⟩
    · have e2 : (xn == fo) = false := by rw [beq_eq_false_iff_ne]; exact h2
      have HE : Hid ((decide (xs = sq) && decide (xn = fo)) = false) := Lib.hid (by rw [decide_eq_false h2, Bool.and_false])
      clear h1 h2
      show Calls Tryz.prog 98 #[.agg #[.int .i64 xn, .int .u64 xs, .int .u64 xa, .bool xh], .pointer (some ⟨g0, 0, none⟩)] W _
      go_enter Tryz.func98, Tryz.ntmps98
      go_wp2
      go_ret
      exact ⟨by rw [HE.out]; rfl, (Keep.refl _ _).alloc _⟩
  · have e1 : (xs == sq) = false := by rw [beq_eq_false_iff_ne]; exact h1
    have HE : Hid ((decide (xs = sq) && decide (xn = fo)) = false) := Lib.hid (by rw [decide_eq_false h1, Bool.false_and])
    clear h1
    show Calls Tryz.prog 98 #[.agg #[.int .i64 xn, .int .u64 xs, .int .u64 xa, .bool xh], .pointer (some ⟨g0, 0, none⟩)] W _
    go_enter Tryz.func98, Tryz.ntmps98
    go_wp2
    go_ret
    exact ⟨by rw [HE.out]; rfl, (Keep.refl _ _).alloc _⟩
set_option maxRecDepth 100000 in
set_option maxHeartbeats 2000000 in
/-- Tick's: its captured box holds the detector's pointer. -/
theorem cl37 {w : World} {g0 b : Nat} {now : Int} (x1 : w.cell? ⟨g0, 0, none⟩ = some (.pointer (some ⟨b, 0, none⟩))) (x3 : w.cell? ⟨b, 8, none⟩ = some (.int .u64 now)) {S : Nat → Prop} (hS : ¬ S g0) (hSb : ¬ S b) :
    SaysS S erC w 37 #[.pointer (some ⟨g0, 0, none⟩)] fun x => decide (4 ≤ sub64 now x.a) := by
  intro x W hk
  have y1 := hk.cellS x1 hS
  have y3 := hk.cellS x3 hSb
  have hl : g0 < W.heap.size := World.block_lt_of_cell? W _ y1
  have hlb : b < W.heap.size := World.block_lt_of_cell? W _ y3
  clear x1 x3 hk hS hSb
  obtain ⟨xn, xs, xa, xf, xt⟩ := x
  unfold sub64
  show Calls Tryz.prog 37 #[.agg #[.int .i64 xn, .int .u64 xs, .int .u64 xa, .int .i64 xf, .int .u64 xt], .pointer (some ⟨g0, 0, none⟩)] W _
  go_enter Tryz.func37, Tryz.ntmps37
  go_wp2_with fail
  go_region_law fail
  all_goals
    go_wp2_with fail
    go_ret
    exact ⟨rfl, (((Keep.refl _ _).alloc _)).drew⟩
end Go.Proofs.YtofonfohaocclaaGreatDoor

namespace Go.Proofs.YtofonfohaocclaaGreatDoor
open Go.RowKit Sh
open Go.ChangeMaps (setBlock)
set_option linter.unusedVariables false

structure WOk (d : Det) : Prop where
  ws : d.ws.length < 1099511627776
  es : d.es.length < 1099511627776
theorem fidxG_some {α : Type} {p : α → Bool} {l : List α} (h : l.findIdx p < l.length) : fidxG p l = ((l.findIdx p : Nat) : Int) := by simp [fidxG, h]
theorem fidxG_none {α : Type} {p : α → Bool} {l : List α} (h : ¬ l.findIdx p < l.length) : fidxG p l = -1 := by simp [fidxG, h]
theorem acked_none {d : Det} {n : Nt} (h : ¬ (d.es.findIdx fun x => decide (x.s = n.seq) && decide (x.n = n.fr)) < d.es.length) : d.acked n = ({ d with ws := d.ws.filter fun w => !(decide (w.s = n.seq) && decide (w.n = n.fo)) }, []) := by
  dsimp only [Det.acked]
  rw [List.getElem?_eq_none (by omega)]
theorem acked_some {d : Det} {n : Nt} {i : Nat} {x : Er} (h : (d.es.findIdx fun x => decide (x.s = n.seq) && decide (x.n = n.fr)) = i) (hx : d.es[i]? = some x) :
    d.acked n = ((({ d with es := d.es.eraseIdx i } : Det).say ⟨2, 0, x.f, x.t, n.fr, []⟩).1, [(({ d with es := d.es.eraseIdx i } : Det).say ⟨2, 0, x.f, x.t, n.fr, []⟩).2]) := by
  dsimp only [Det.acked]
  rw [h, hx]
set_option maxRecDepth 100000 in
set_option maxHeartbeats 4000000 in
theorem acked_det {w : World} {b : Nat} {d : Det} {p : Parts} (h : IsDet w b d p) (ho : DetOk d) (hO : WOk d) (hT : TabAt 0 B.tabS w) (n : Nt) (v0 : Value) (hv0 : v0.oneCell' = true) :
    Calls Tryz.prog 50 #[.pointer (some ⟨b, 0, none⟩), .agg #[.int .i64 n.k, .int .i64 n.fr, .int .i64 n.dst, .int .u64 n.seq, .int .i64 n.fo, v0]] w fun e w' => ∃ v, e = .returned v ∧ NSet w w' b p v (d.acked n) := by
  have HLT : Hid (∀ j, w.heap.size ≤ j → ¬ p.has b j) := Lib.hid (fun j hj hp => absurd (h.lt hp) (by omega))
  obtain ⟨w0, hw0⟩ : ∃ w0, w0 = w.alloc (.cells #[.int .i64 n.k, .int .i64 n.fr, .int .i64 n.dst, .int .u64 n.seq, .int .i64 n.fo, v0] 62) := ⟨_, rfl⟩
  have k0 : Keep (fun _ => False) w w0 := by rw [hw0]; exact (Keep.refl _ w).alloc _
  have x1 : w0.cell? ⟨w.heap.size, 1, none⟩ = some (.int .i64 n.fr) := by rw [hw0]; exact alc _ _ _ _ _ rfl
  have x3 : w0.cell? ⟨w.heap.size, 3, none⟩ = some (.int .u64 n.seq) := by rw [hw0]; exact alc _ _ _ _ _ rfl
  have x4 : w0.cell? ⟨w.heap.size, 4, none⟩ = some (.int .i64 n.fo) := by rw [hw0]; exact alc _ _ _ _ _ rfl
  have hcl := idxfunc_er (w := w0) (fun x => decide (x.s = n.seq) && decide (x.n = n.fr)) 96 (.inl rfl) (.pointer (some ⟨w.heap.size, 0, none⟩)) (cl96 x1 x3 id) (h.keep0 k0).es (by have := hO.es; omega)
  have h0 := h.keep0 k0
  have c6 := h0.c6
  have hb := h.lt (hb p b)
  have hu0 : w0.heap.size = w.heap.size + 1 := by rw [hw0]; simp
  by_cases hf : (d.es.findIdx fun x => decide (x.s = n.seq) && decide (x.n = n.fr)) < d.es.length
  · rw [fidxG_some hf] at hcl
    obtain ⟨i, hi⟩ : ∃ i, (d.es.findIdx fun x => decide (x.s = n.seq) && decide (x.n = n.fr)) = i := ⟨_, rfl⟩
    rw [hi] at hcl hf
    obtain ⟨x, hx⟩ : ∃ x, d.es[i]? = some x := ⟨_, List.getElem?_eq_getElem hf⟩
    have hxe : d.es[i] = x := by rw [List.getElem?_eq_getElem hf] at hx; injection hx
    have HDE := Lib.hid (acked_some hi hx)
    have HX := Lib.hid x1
    have H0 := Lib.hid h0
    have HK0 := Lib.hid k0
    have HO := Lib.hid hO
    have HHO := Lib.hid ho
    have HTT := Lib.hid (B.tab_keep hT k0 id)
    clear x1 x3 x4 k0 h ho hT hO hi hx
    obtain ⟨nk, nfr, ndst, nseq, nfo, nnews⟩ := n
    simp only at hcl hw0 HX HDE ⊢
    obtain ⟨g, o, cc, cs, hpe, _⟩ := h0.es.pos (by omega)
    have hrow0 := h0.es
    rw [hpe] at hrow0 c6
    obtain ⟨y0, y1, y2, y3, y4⟩ := hrow0.er_at i hf
    rw [hxe] at y0 y1 y2 y3 y4
    have HY := Lib.hid (And.intro y0 (And.intro y1 (And.intro y2 (And.intro y3 y4))))
    have HPE := Lib.hid hpe
    have t1 : (i : Int) < (d.es.length : Int) := by omega
    have t2 : decide ((i : Int) < 0) = false := decide_eq_false (by omega)
    have w1i := wrap_succ i (by have := HO.out.es; omega)
    have HIL := Lib.hid hf
    clear hxe
    obtain ⟨xn, xs, xa, xf, xt⟩ := x
    simp only at HDE HY
    clear hrow0 y0 y1 y2 y3 y4 h0 hpe
    go_enter Tryz.func50, Tryz.ntmps50
    go_upto_region 1 with fail
    rw [← hw0]
    clear hw0
    rw [HPE.out] at hcl
    go_wp2_with fail
    refine hcl.mono ?_
    rintro e w1 ⟨rfl, hk1⟩
    have h1 := H0.out.keep0 hk1
    have c6' := h1.c6
    rw [HPE.out] at c6'
    have z1 := hk1.cell HX.out
    obtain ⟨y0, y1, y2, y3, y4⟩ := HY.out
    replace y0 := hk1.cell y0
    replace y1 := hk1.cell y1
    replace y2 := hk1.cell y2
    replace y3 := hk1.cell y3
    replace y4 := hk1.cell y4
    have ul : w.heap.size < w1.heap.size := by have := hk1.size; omega
    have ub : b < w1.heap.size := by omega
    have HH1 := Lib.hid h1
    have HK1 := Lib.hid (HK0.out.step hk1)
    have HT1 := Lib.hid (B.tab_keep HTT.out hk1 id)
    clear h1 hk1 hcl HX H0 HK0 HTT c6 HY hu0
    go_wp2_with fail
    have hdl := delete_er (w := w1.alloc (.cells #[.int .i64 xn, .int .u64 xs, .int .u64 xa, .int .i64 xf, .int .u64 xt] 105)) (v := .slice (some ⟨g, o, none⟩) d.es.length cc) (l := d.es) i HIL.out (by have := HH1.out.es.keep0 ((Keep.refl _ w1).alloc (.cells #[.int .i64 xn, .int .u64 xs, .int .u64 xa, .int .i64 xf, .int .u64 xt] 105)); rw [HPE.out] at this; exact this) (by have := HO.out.es; omega)
    have a3 := alc w1 #[.int .i64 xn, .int .u64 xs, .int .u64 xa, .int .i64 xf, .int .u64 xt] 105 3 _ rfl
    have a4 := alc w1 #[.int .i64 xn, .int .u64 xs, .int .u64 xa, .int .i64 xf, .int .u64 xt] 105 4 _ rfl
    have HH2 := Lib.hid (HH1.out.keep0 ((Keep.refl _ w1).alloc (.cells #[.int .i64 xn, .int .u64 xs, .int .u64 xa, .int .i64 xf, .int .u64 xt] 105)))
    have HK2 := Lib.hid (HK1.out.step ((Keep.refl _ w1).alloc (.cells #[.int .i64 xn, .int .u64 xs, .int .u64 xa, .int .i64 xf, .int .u64 xt] 105)))
    have HT2 := Lib.hid (B.tab_keep HT1.out ((Keep.refl (fun _ => False) w1).alloc (.cells #[.int .i64 xn, .int .u64 xs, .int .u64 xa, .int .i64 xf, .int .u64 xt] 105)) id)
    have z1' := al_some (.cells #[.int .i64 xn, .int .u64 xs, .int .u64 xa, .int .i64 xf, .int .u64 xt] 105) z1
    obtain ⟨w1a, hw1a⟩ : ∃ w1a, w1a = w1.alloc (.cells #[.int .i64 xn, .int .u64 xs, .int .u64 xa, .int .i64 xf, .int .u64 xt] 105) := ⟨_, rfl⟩
    have ua : w1a.heap.size = w1.heap.size + 1 := by rw [hw1a]; simp
    rw [← hw1a] at hdl a3 a4 HH2 HK2 HT2 z1' ⊢
    clear hw1a z1 y0 y1 y2 y3 y4 c6' HH1 HK1 HT1
    refine hdl.mono ?_
    rintro e w2 ⟨v', rfl, hvb, hrow, hk2⟩
    have hgn : ∀ j, (Value.slice (some ⟨g, o, none⟩) d.es.length cc).ownBlock = some j → p.has b j := fun j hj => ⟨.inr (.inr (.inr (.inr (.inl (HPE.out ▸ hj)))))⟩
    have f6 : w2.frozen? ⟨b, 6, none⟩ = false := by
      have := hk2.old HH2.out.blk (fun hj => (HH2.out.kb.ne (HH2.out.ke (HPE.out ▸ hj)) (by decide)) rfl)
      simp [World.frozen?, this]
    have c6 : w2.cell? ⟨b, 6, none⟩ = some p.ve := hk2.cellS HH2.out.c6 (fun hj => (HH2.out.kb.ne (HH2.out.ke (HPE.out ▸ hj)) (by decide)) rfl)
    rw [HPE.out] at c6
    have b3 := hk2.cellS a3 (fun hj => HLT.out w1.heap.size (by omega) (hgn w1.heap.size hj))
    have b4 := hk2.cellS a4 (fun hj => HLT.out w1.heap.size (by omega) (hgn w1.heap.size hj))
    have b1 := hk2.cellS z1' (fun hj => HLT.out w.heap.size (by omega) (hgn w.heap.size hj))
    have hset := HH2.out.set_es (w1 := w2) (HPE.out ▸ hk2) hrow (fun j hj => .inl (by rw [HPE.out, ← hvb]; exact hj))
    obtain ⟨A', cc', hsh⟩ := hrow.shape
    have HT3 := Lib.hid (B.tab_keep HT2.out hset.2.2 (fun hj => absurd (HH2.out.pos _ hj) (by omega)))
    have HSET := Lib.hid hset
    clear hvb hrow hdl HT2 a3 a4 z1' hset hgn
    generalize (d.es.eraseIdx i) = es' at *
    subst hsh
    obtain ⟨w3, hw3⟩ : ∃ w3, w3 = w2.setCell ⟨b, 6, none⟩ (.slice A' es'.length cc') := ⟨_, rfl⟩
    have e3 : w3.cell? ⟨w1.heap.size, 3, none⟩ = some (.int .i64 xf) := by rw [hw3]; exact set_ne (by omega) b3
    have e4 : w3.cell? ⟨w1.heap.size, 4, none⟩ = some (.int .u64 xt) := by rw [hw3]; exact set_ne (by omega) b4
    have e1 : w3.cell? ⟨w.heap.size, 1, none⟩ = some (.int .i64 nfr) := by rw [hw3]; exact set_ne (by omega) b1
    rw [← hw3] at HSET HT3
    go_upto_region 7 with fail
    rw [← hw3]
    clear hw3 b1 b3 b4 c6 f6 hk2
    have hsy := say_det (w := w3) HSET.out.1 (d := { d with es := es' }) ⟨HHO.out.left, HHO.out.r, HHO.out.q, HHO.out.d, HHO.out.now, HHO.out.seq⟩ HT3.out 2 0 xf xt nfr (.slice none 0 0)
    have hee : (({ d with es := es' } : Det).say ⟨2, 0, xf, xt, nfr, []⟩).2 = ⟨2, d.r.me, xf, xt, nfr, (({ d with es := es' } : Det).say ⟨2, 0, xf, xt, nfr, []⟩).2.news⟩ := rfl
    generalize (({ d with es := es' } : Det).say ⟨2, 0, xf, xt, nfr, []⟩) = r at *
    obtain ⟨d1, n1⟩ := r
    simp only at HDE hee
    have HEE := Lib.hid hee
    clear hee HHO HT3
    simp only at hsy
    go_wp2_with fail
    refine hsy.mono ?_
    rintro e w4 ⟨v4, rfl, hs4⟩
    have HS4 := Lib.hid hs4
    obtain ⟨A4, c4, hsh⟩ := own_shape hs4.own
    clear hs4 hsy e1 e3 e4
    simp only at hsh
    have hone : v4.oneCell' = true := by rw [hsh]; rfl
    clear hsh
    go_wp2_with fail
    go_ret
    refine ⟨_, rfl, ?_, ?_⟩
    · rw [HDE.out]
      have ho := HS4.out.own
      simp only at ho
      have hu3 := HSET.out.2.2.size
      have := own_note (W := w4) (base := w.heap.size) (x := (n1, v4)) ⟨own_mono ho (by omega)⟩ (by have := HS4.out.set.keep.size; omega)
      simp only at this
      rw [HEE.out] at this
      rw [HEE.out]
      exact this
    · rw [HDE.out]
      refine DSet.next (fun k hk => .inl hk) (HK2.out.mono fun _ h _ => h.elim) (DSet.next HSET.out.2.1 HSET.out.2.2 ?_)
      exact HS4.out.set.before ((Keep.refl _ _).alloc _)
  · rw [fidxG_none hf] at hcl
    have HDE := Lib.hid (acked_none hf)
    have HX := Lib.hid (And.intro x3 x4)
    have H0 := Lib.hid h0
    have HK0 := Lib.hid k0
    have HO := Lib.hid hO
    have hi := (cl98 (w := w0) (S := fun _ => False) x4 x3 id)
    clear x1 x3 x4 h0 k0 hf h ho hT hO hi
    obtain ⟨nk, nfr, ndst, nseq, nfo, nnews⟩ := n
    simp only at hcl hw0 HX HDE ⊢
    go_enter Tryz.func50, Tryz.ntmps50
    go_upto_region 1 with fail
    rw [← hw0]
    clear hw0
    go_wp2_with fail
    refine hcl.mono ?_
    rintro e w1 ⟨rfl, hk1⟩
    have h1 := H0.out.keep0 hk1
    have c5 := h1.c5
    have z3 := hk1.cell HX.out.1
    have z4 := hk1.cell HX.out.2
    have hnb : ∀ g, p.vw.ownBlock = some g → ¬ w.heap.size = g := fun g hg he => HLT.out g (by omega) ⟨.inr (.inr (.inr (.inl hg)))⟩
    have hdl := delfunc_wt (w := w1) (v := p.vw) (fun x => decide (x.s = nseq) && decide (x.n = nfo)) (.pointer (some ⟨w.heap.size, 0, none⟩)) (fun g hg => cl98 z4 z3 (hnb g hg)) (cl98 z4 z3 id) h1.ws (by have := HO.out.ws; omega)
    have H1 := Lib.hid h1
    have HK1 := Lib.hid (HK0.out.step hk1)
    clear h1 hk1 z3 z4 hnb c6 hcl HX H0 HK0
    generalize (d.ws.filter fun x => !(decide (x.s = nseq) && decide (x.n = nfo))) = l' at hdl HDE
    go_wp2_with fail
    refine hdl.mono ?_
    rintro e w2 ⟨v', rfl, hvb, hrow, hk2⟩
    have f5 : w2.frozen? ⟨b, 5, none⟩ = false := by
      have := hk2.old H1.out.blk (fun hj => (H1.out.kb.ne (H1.out.kw hj) (by decide)) rfl)
      simp [World.frozen?, this]
    have c5' : w2.cell? ⟨b, 5, none⟩ = some p.vw := hk2.cellS c5 (fun hj => (H1.out.kb.ne (H1.out.kw hj) (by decide)) rfl)
    have HF := Lib.hid (H1.out.set_ws hk2 hrow (fun g hg => .inl (hvb ▸ hg)))
    obtain ⟨A', cc', hsh⟩ := hrow.shape
    clear hvb hrow hk2 hdl c5 HO
    subst hsh
    go_wp2_with fail
    go_ret
    refine ⟨_, rfl, ?_, ?_⟩
    · rw [HDE.out]
      exact OwnNts.nil _ _
    · rw [HDE.out]
      exact DSet.next (fun k hk => .inl hk) (HK1.out.mono fun _ h _ => h.elim) ⟨⟨_, HF.out.1, HF.out.2.1⟩, HF.out.2.2⟩
end Go.Proofs.YtofonfohaocclaaGreatDoor
