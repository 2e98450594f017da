/- Walk of Detector.Hear. -/
import Derived.Test.YtofonfohaocclaaGreatDoorG26
namespace Go.Proofs.YtofonfohaocclaaGreatDoor
open Go.RowKit Sh
open Go.ChangeMaps (setBlock)
set_option linter.unusedVariables false

structure HSet (w w' : World) (b : Nat) (p : Parts) (xl : Nat) (v : Value) (d' : Det) (L' : List Int) (N : List Nt) : Prop where
  own : OwnNts w' w.heap.size v N
  set : DLSet w w' b p xl d' L'
theorem door_ret {P : Program} {fn : Func} {R : Ending → World → Prop} {a : Act} {w : World} {v : Value} (hd : a.defers = []) (hr : (results fn a.tmps).run P w = .ok v w) (h : R (.returned v) w) : bodyPostD P fn R .ret a w := by
  show Leaves P fn a.tmps R a.defers .returning w
  rw [hd]
  exact ⟨v, hr, h⟩
theorem leaves_ret {P : Program} {fn : Func} {R : Ending → World → Prop} {tmps : Array Value} {u : FrameMode} {w : World} {v : Value} (hu : u = .returning) (hr : (results fn tmps).run P w = .ok v w) (h : R (.returned v) w) : Leaves P fn tmps R [] u w := by
  subst hu
  exact ⟨v, hr, h⟩
structure Ear (w w' : World) (v : Value) (k : Int) : Prop where
  c6 : w'.cell? ⟨w.heap.size + 1, 0, none⟩ = some v
  c7 : w'.cell? ⟨w.heap.size + 1 + 1, 0, none⟩ = some (.int .i64 k)
theorem ear {w w1 : World} {vo v : Value} {ko k : Int} (h6 : w1.heap[w.heap.size + 1]? = some (.cells #[vo] 30 (0, 0))) (h7 : w1.heap[w.heap.size + 2]? = some (.cells #[.int .i64 ko] 56 (0, 0))) :
    Ear w ((w1.setCell ⟨w.heap.size + 1, 0, none⟩ v).setCell ⟨w.heap.size + 1 + 1, 0, none⟩ (.int .i64 k)) v k := by
  have a6 := heap_setCell_at h6 0 v
  have k6 : Keep (fun j => j = w.heap.size + 1) w1 (w1.setCell ⟨w.heap.size + 1, 0, none⟩ v) := (Keep.refl _ w1).setAt _ _
  have a7 := heap_setCell_at (k6.old h7 (by omega)) 0 (.int .i64 k)
  have k7 : Keep (fun j => j = w.heap.size + 2) (w1.setCell ⟨w.heap.size + 1, 0, none⟩ v) ((w1.setCell ⟨w.heap.size + 1, 0, none⟩ v).setCell ⟨w.heap.size + 2, 0, none⟩ (.int .i64 k)) := (Keep.refl _ _).setAt _ _
  have b6 := k7.old a6 (show ¬ w.heap.size + 1 = w.heap.size + 2 by omega)
  exact ⟨by simp [World.cell?, b6], by simp [World.cell?, a7]⟩
theorem ear_keep {S : Nat → Prop} {w w1 : World} {v x : Value} (k : Keep S w w1) : Keep S w ((w1.setCell ⟨w.heap.size + 1, 0, none⟩ v).setCell ⟨w.heap.size + 1 + 1, 0, none⟩ x) :=
  (k.setNew _ (show w.heap.size ≤ w.heap.size + 1 by omega)).setNew _ (show w.heap.size ≤ w.heap.size + 1 + 1 by omega)
structure CutN (w wx : World) (c : Bool) (v : Value) : Prop where
  e : v = .bool c
  keep : Keep (fun _ => False) w wx
def badN (me fr dst fo : Int) : Bool := !decide (dst = me) || !nodeB fr || decide (fr = me) || !nodeB fo
theorem badN_iff (me fr dst fo : Int) : (¬ dst = me ∨ nodeB fr = false ∨ fr = me ∨ nodeB fo = false) ↔ badN me fr dst fo = true := by
  unfold badN
  by_cases h1 : dst = me <;> by_cases h3 : fr = me <;> cases h2 : nodeB fr <;> cases h4 : nodeB fo <;> simp [h1, h3]
theorem hearD_bad {d : Det} {L : List Int} {n : Nt} (hg : d.gone = false) (hb : badN d.r.me n.fr n.dst n.fo = true) : d.hear L n = (d, L, [], 1) := by
  unfold Det.hear
  rw [if_neg (by rw [hg]; simp), if_pos ((badN_iff _ _ _ _).2 hb)]
theorem hearD_kind {d : Det} {L : List Int} {n : Nt} (hg : d.gone = false) (hb : badN d.r.me n.fr n.dst n.fo = false) (hk : n.k < 1 ∨ 3 < n.k) : d.hear L n = (d, L, [], 150) := by
  unfold Det.hear
  rw [if_neg (by rw [hg]; simp), if_neg (fun h => by have := (badN_iff _ _ _ _).1 h; rw [hb] at this; cases this), if_pos hk]
theorem hearD_last {d d' : Det} {L L' : List Int} {n : Nt} {D1 : Det × List Int} (hg : d.gone = false) (hb : badN d.r.me n.fr n.dst n.fo = false) (hk : 1 ≤ n.k ∧ n.k ≤ 3) (h1 : D1 = if (d.r.get n.fr).2 then (d, L) else ((d.take L ⟨n.fr, 0, 0⟩ n.fr).1, (d.take L ⟨n.fr, 0, 0⟩ n.fr).2.1)) (hn : D1.1.news D1.2 n.fr n.news = (d', L', false)) : d.hear L n = (d', L', [], 60) := by
  unfold Det.hear
  rw [if_neg (by rw [hg]; simp), if_neg (fun h => by have := (badN_iff _ _ _ _).1 h; rw [hb] at this; cases this), if_neg (by omega)]
  simp only
  rw [← h1, hn]
  rfl
theorem hearD_went {d d' : Det} {L L' : List Int} {n : Nt} {D1 : Det × List Int} (hg : d.gone = false) (hb : badN d.r.me n.fr n.dst n.fo = false) (hk : 1 ≤ n.k ∧ n.k ≤ 3) (h1 : D1 = if (d.r.get n.fr).2 then (d, L) else ((d.take L ⟨n.fr, 0, 0⟩ n.fr).1, (d.take L ⟨n.fr, 0, 0⟩ n.fr).2.1)) (hn : D1.1.news D1.2 n.fr n.news = (d', L', true)) :
    d.hear L n = ((if n.k = 1 then d'.answer n else if n.k = 2 then d'.acked n else d'.helped n).1, L', (if n.k = 1 then d'.answer n else if n.k = 2 then d'.acked n else d'.helped n).2, 0) := by
  unfold Det.hear
  rw [if_neg (by rw [hg]; simp), if_neg (fun h => by have := (badN_iff _ _ _ _).1 h; rw [hb] at this; cases this), if_neg (by omega)]
  simp only
  rw [← h1, hn]
  rfl
theorem fin_set {w w3 w6 : World} {b xl : Nat} {p : Parts} {d' : Det} {L' : List Int} {c6 c7 : Array Value} {v x : Value} (k0 : Keep (fun _ => False) w w3) (hlt : ∀ j, w.heap.size ≤ j → ¬ p.has b j) (hx : xl < w.heap.size) (u3 : w.heap.size + 3 ≤ w3.heap.size) (hs : DLSet w3 w6 b p xl d' L')
    (h6 : w6.heap[w.heap.size + 1]? = some (.cells c6 30 (0, 0))) (h7 : w6.heap[w.heap.size + 2]? = some (.cells c7 56 (0, 0))) : DLSet w ((w6.setCell ⟨w.heap.size + 1, 0, none⟩ v).setCell ⟨w.heap.size + 1 + 1, 0, none⟩ x) b p xl d' L' := by
  have k6 : Keep (fun j => j = w.heap.size + 1 ∨ j = w.heap.size + 2) w6 ((w6.setCell ⟨w.heap.size + 1, 0, none⟩ v).setCell ⟨w.heap.size + 1 + 1, 0, none⟩ x) :=
    (((Keep.refl (fun j => j = w.heap.size + 1) w6).setAt _ _).mono fun j h _ => .inl h).step (((Keep.refl (fun j => j = w.heap.size + 2) _).setAt _ _).mono fun j h _ => .inr h)
  obtain ⟨p', hd, hsub⟩ := hs.ex
  refine ⟨⟨p', hd.keep k6 fun j hj hh => ?_, fun k hk => ?_⟩, hs.lots.keep k6 (fun hh => ?_) (fun g cs hg hh => ?_), ?_⟩
  · rcases hsub j hj with h | h
    · exact hlt j (by omega) h
    · omega
  · rcases hsub k hk with h | h
    · exact .inl h
    · exact .inr (by omega)
  · omega
  · rcases hh with rfl | rfl
    · rw [h6] at hg; cases hg
    · rw [h7] at hg; cases hg
  · exact ((k0.mono fun _ h _ => h.elim).step hs.keep).trans k6 fun i hi hlt => by omega
theorem fin_keep (w w6 : World) (v x : Value) : Keep (fun j => j = w.heap.size + 1 ∨ j = w.heap.size + 2) w6 ((w6.setCell ⟨w.heap.size + 1, 0, none⟩ v).setCell ⟨w.heap.size + 1 + 1, 0, none⟩ x) :=
  (((Keep.refl (fun j => j = w.heap.size + 1) w6).setAt _ _).mono fun j h _ => .inl h).step (((Keep.refl (fun j => j = w.heap.size + 2) _).setAt _ _).mono fun j h _ => .inr h)
theorem OwnNts.shape {w : World} {base : Nat} {v : Value} {L : List Nt} (h : OwnNts w base v L) : ∃ A n c, v = .slice A n c := by
  obtain ⟨ps, _, h2, _⟩ := h.ex
  obtain ⟨A, c, rfl⟩ := own_shape h2
  exact ⟨A, _, c, rfl⟩
/-- News that are only read: they lie where S changes nothing. -/
structure NewsR (S : Nat → Prop) (w : World) (v : Value) (N : List Up) : Prop where
  ex : ∃ A c, v = .slice A N.length c ∧ (0 < N.length → ∃ g o, A = some ⟨g, o, none⟩ ∧ ¬ S g ∧ ∀ i (hi : i < N.length), w.cell? ⟨g, o + i * 3, none⟩ = some (.int .i64 N[i].n) ∧ w.cell? ⟨g, o + i * 3 + 1, none⟩ = some (.int .u64 N[i].i) ∧ w.cell? ⟨g, o + i * 3 + 2, none⟩ = some (.int .i64 N[i].s))
theorem NewsR.shape {S : Nat → Prop} {w : World} {v : Value} {N : List Up} (h : NewsR S w v N) : ∃ A c, v = .slice A N.length c := by
  obtain ⟨A, c, hv, _⟩ := h.ex
  exact ⟨A, c, hv⟩
theorem NewsR.keep0 {S : Nat → Prop} {w w' : World} {v : Value} {N : List Up} (h : NewsR S w v N) (k : Keep (fun _ => False) w w') : NewsR S w' v N := by
  obtain ⟨A, c, hv, hc⟩ := h.ex
  refine ⟨A, c, hv, fun h0 => ?_⟩
  obtain ⟨g, o, hA, hg, hcell⟩ := hc h0
  exact ⟨g, o, hA, hg, fun i hi => ⟨k.cell (hcell i hi).1, k.cell (hcell i hi).2.1, k.cell (hcell i hi).2.2⟩⟩
theorem NewsR.pos {S : Nat → Prop} {w : World} {A : Option Addr} {n c : Nat} {N : List Up} (h : NewsR S w (.slice A n c) N) (h0 : 0 < N.length) : ∃ g o, A = some ⟨g, o, none⟩ ∧ ¬ S g ∧ ∀ i (hi : i < N.length), w.cell? ⟨g, o + i * 3, none⟩ = some (.int .i64 N[i].n) ∧ w.cell? ⟨g, o + i * 3 + 1, none⟩ = some (.int .u64 N[i].i) ∧ w.cell? ⟨g, o + i * 3 + 2, none⟩ = some (.int .i64 N[i].s) := by
  obtain ⟨A', c', hv, hc⟩ := h.ex
  injection hv with h1 h2 h3
  subst h1
  exact hc h0
theorem NewsR.of_row {w : World} {v : Value} {N : List Up} {b xl : Nat} {d : Det} {p : Parts} {L : List Int} (h : Row w 52 3 v N.length (flat uC N)) (hd : IsDet w b d p) (hl : IsLots w xl L) : NewsR (fun k => p.has b k ∨ k = xl) w v N := by
  obtain ⟨A, c, hv⟩ := h.shape
  refine ⟨A, c, hv, fun h0 => ?_⟩
  obtain ⟨g, o, c', cs, hv2, _⟩ := h.pos h0
  rw [hv] at hv2
  injection hv2 with hA
  rw [hv, hA] at h
  refine ⟨g, o, hA, fun hh => ?_, fun i hi => h.up_at i hi⟩
  rcases hh with hh | hh
  · obtain ⟨t, ht, q1, q2, q3, q4⟩ := hd.khas hh
    exact ht.ne (⟨h.typed rfl⟩ : Kind w g (some 52)) q3 rfl
  · exact (⟨h.typed rfl⟩ : Kind w g (some 52)).ne hl.kind (by decide) hh
theorem loop_meas {i z n : Nat} (h : i + z = n) (hi : i < n) : n - (i + 1) < z := by omega
theorem loop_rel {i n : Nat} (hi : i < n) : i + 1 + (n - (i + 1)) = n := by omega
structure LoopH (w3 wr : World) (b : Nat) (p : Parts) (xl : Nat) (d : Det) (D1 : Det × List Int) (fr : Int) (N : List Up) (i : Nat) : Prop where
  ex : ∃ di Li, DLSet w3 wr b p xl di Li ∧ DetOk di ∧ Same d di ∧ D1.1.news D1.2 fr N = di.news Li fr (N.drop i)
set_option maxRecDepth 100000 in
set_option maxHeartbeats 4000000 in
theorem hear_det {w : World} {b xl : Nat} {d : Det} {p : Parts} {L : List Int} (h : IsDet w b d p) (ho : DetOk d) (hO : WOk d) (hT : TabAt 0 B.tabS w) (hL : IsLots w xl L) (n : Nt) (v0 : Value)
    (hN : NewsR (fun k => p.has b k ∨ k = xl) w v0 n.news) (hnu : ∀ u ∈ n.news, inU u.i) (hnl : n.news.length < 4611686018427387904) (hxp : 0 < xl) :
    Calls Tryz.prog 20 #[.pointer (some ⟨b, 0, none⟩), .agg #[.int .i64 n.k, .int .i64 n.fr, .int .i64 n.dst, .int .u64 n.seq, .int .i64 n.fo, v0], .pointer (some ⟨xl, 0, none⟩)] w fun e w' => ∃ v, e = .returned (.tuple #[v, .int .i64 (d.hear L n).2.2.2]) ∧ HSet w w' b p xl v (d.hear L n).1 (d.hear L n).2.1 (d.hear L n).2.2.1 := by
  have hmf : ∀ (fn : Fn) (first cap : Array Value) (w : World), (Instr.makeFunc fn first cap).run Tryz.prog w = .ok (.func fn first cap) w := fun _ _ _ _ => rfl
  have c9 := h.c9
  have c2 := h.c2
  have hb := h.lt (hb p b)
  have HS := Lib.hid h
  have HL := Lib.hid hL
  have HHO := Lib.hid ho
  have HO := Lib.hid hO
  have HT := Lib.hid hT
  have HN := Lib.hid hN
  have HNU := Lib.hid hnu
  have HNL := Lib.hid hnl
  have HXP := Lib.hid hxp
  have HLT : Hid (∀ j, w.heap.size ≤ j → ¬ p.has b j) := Lib.hid (fun j hj hp => absurd (h.lt hp) (by omega))
  have hxl := hL.lt
  clear h ho hO hT hL hN hnu hnl hxp
  obtain ⟨nk, nfr, ndst, nseq, nfo, nnews⟩ := n
  simp only at HN HNU HNL ⊢
  have hone : v0.oneCell' = true := by
    obtain ⟨A, c, hv⟩ := HN.out.shape
    rw [hv]; rfl
  go_enter_defers Tryz.func20, Tryz.ntmps20
  go_upto_region 1 with fail
  obtain ⟨w0, hw0⟩ : ∃ w0, w0 = ((w.alloc (.cells #[.int .i64 nk, .int .i64 nfr, .int .i64 ndst, .int .u64 nseq, .int .i64 nfo, v0] 62)).alloc (.cells #[.slice none 0 0] 30)).alloc (.cells #[.int .i64 0] 56) := ⟨_, rfl⟩
  have h6 : (w.alloc (.cells #[.int .i64 nk, .int .i64 nfr, .int .i64 ndst, .int .u64 nseq, .int .i64 nfo, v0] 62)).heap.size = w.heap.size + 1 := by simp
  have h7 : ((w.alloc (.cells #[.int .i64 nk, .int .i64 nfr, .int .i64 ndst, .int .u64 nseq, .int .i64 nfo, v0] 62)).alloc (.cells #[.slice none 0 0] 30)).heap.size = w.heap.size + 2 := by simp
  have b4 : w0.heap[w.heap.size]? = some (.cells #[.int .i64 nk, .int .i64 nfr, .int .i64 ndst, .int .u64 nseq, .int .i64 nfo, v0] 62 (0, 0)) := by
    rw [hw0]
    exact (((Keep.refl (fun _ => False) _).alloc _).alloc _).old (heap_alloc_new w _) id
  have b6 : w0.heap[w.heap.size + 1]? = some (.cells #[.slice none 0 0] 30 (0, 0)) := by
    rw [hw0, ← h6]
    exact ((Keep.refl (fun _ => False) _).alloc _).old (heap_alloc_new _ _) id
  have b7 : w0.heap[w.heap.size + 2]? = some (.cells #[.int .i64 0] 56 (0, 0)) := by
    rw [hw0, ← h7]
    exact heap_alloc_new _ _
  have k0 : Keep (fun _ => False) w w0 := by rw [hw0]; exact (((Keep.refl _ w).alloc _).alloc _).alloc _
  have u0 : w.heap.size + 3 ≤ w0.heap.size := by rw [hw0]; simp
  have B4 := Lib.hid b4
  have B6 := Lib.hid b6
  have B7 := Lib.hid b7
  have K0 := Lib.hid k0
  have d9 := k0.cell c9
  have x6 : w0.cell? ⟨w.heap.size + 1, 0, none⟩ = some (.slice none 0 0) := by simp [World.cell?, b6]
  have x7 : w0.cell? ⟨w.heap.size + 1 + 1, 0, none⟩ = some (.int .i64 0) := by simp [World.cell?, b7]
  have f6 : w0.frozen? ⟨w.heap.size + 1, 0, none⟩ = false := by simp [World.frozen?, b6]
  have f7 : w0.frozen? ⟨w.heap.size + 1 + 1, 0, none⟩ = false := by simp [World.frozen?, b7]
  have ub : b < w0.heap.size := by omega
  have ul : w.heap.size + 1 < w0.heap.size := by omega
  have um : w.heap.size + 1 + 1 < w0.heap.size := by omega
  clear h6 h7 b4 b6 b7 k0 c9
  rw [← hw0]
  clear hw0
  refine wp_region_lit ?_
  iterate 2 (refine wpList_plain rfl fun K hK => ?_; go_simp; refine hK _ _ ?_; clear hK K)
  have hta : (w0.alloc (.cells #[.nilFunc, .nilFunc, .nilFunc, .nilFunc] 121)).there w0.heap.size 0 4 := there_of_block (heap_alloc_new w0 _) (by decide)
  refine wpList_store_mid rfl 121 _ _ rfl w0.heap.size 0 #[.nilFunc, .func (.func 49) #[] #[], .func (.func 50) #[] #[], .func (.func 51) #[] #[]] rfl rfl hta (by kernel_rfl) (by kernel_rfl) ?_
  have hsm := World.rangeAt_setCells_same (w0.alloc (.cells #[.nilFunc, .nilFunc, .nilFunc, .nilFunc] 121)) w0.heap.size 0 [.nilFunc, .func (.func 49) #[] #[], .func (.func 50) #[] #[], .func (.func 51) #[] #[]] hta
  show wpList _ _ _ _ _ ((w0.alloc (.cells #[.nilFunc, .nilFunc, .nilFunc, .nilFunc] 121)).setCells w0.heap.size 0 [.nilFunc, .func (.func 49) #[] #[], .func (.func 50) #[] #[], .func (.func 51) #[] #[]])
  obtain ⟨w1, hw1⟩ : ∃ w1, w1 = ((w0.alloc (.cells #[.nilFunc, .nilFunc, .nilFunc, .nilFunc] 121)).setCells w0.heap.size 0 [.nilFunc, .func (.func 49) #[] #[], .func (.func 50) #[] #[], .func (.func 51) #[] #[]]) := ⟨_, rfl⟩
  have k1 : Keep (fun _ => False) w0 w1 := by
    have ka : Keep (fun _ => False) w0 (w0.alloc (.cells #[.nilFunc, .nilFunc, .nilFunc, .nilFunc] 121)) := (Keep.refl _ w0).alloc _
    rw [hw1]
    exact ka.trans (keep_setCells (S := fun j => j = w0.heap.size) (fun _ => rfl) _ _ _ (Keep.refl _ _)) fun i hi hlt => by omega
  rw [← hw1] at hsm ⊢
  clear hw1 hta
  have q1 := hsm 1 _ rfl
  have q2 := hsm 2 _ rfl
  have q3 := hsm 3 _ rfl
  simp only [Nat.zero_add] at q1 q2 q3
  have HQ := Lib.hid (And.intro q1 (And.intro q2 q3))
  obtain ⟨g8, hg8⟩ : ∃ g8, g8 = w0.heap.size := ⟨_, rfl⟩
  rw [← hg8] at HQ ⊢
  have K1 := Lib.hid (K0.out.step k1)
  have d9 := k1.cell d9
  have d2 := k1.cell (K0.out.cell c2)
  have e4 := Lib.hid (k1.old B4.out id)
  have e6 := Lib.hid (k1.old B6.out id)
  have e7 := Lib.hid (k1.old B7.out id)
  have u1 : w.heap.size + 3 ≤ w1.heap.size := by have := k1.size; omega
  have ug : w.heap.size + 3 ≤ g8 := by omega
  clear k1 hsm q1 q2 q3 c2 B4 B6 B7 K0 x6 x7 f6 f7 ub ul um hg8 u0
  have x6 : w1.cell? ⟨w.heap.size + 1, 0, none⟩ = some (.slice none 0 0) := by have := e6.out; simp [World.cell?, this]
  have x7 : w1.cell? ⟨w.heap.size + 1 + 1, 0, none⟩ = some (.int .i64 0) := by have := e7.out; simp [World.cell?, this]
  have f6 : w1.frozen? ⟨w.heap.size + 1, 0, none⟩ = false := by have := e6.out; simp [World.frozen?, this]
  have f7 : w1.frozen? ⟨w.heap.size + 1 + 1, 0, none⟩ = false := by have := e7.out; simp [World.frozen?, this]
  cases hg : d.gone
  · rw [hg] at d9
    have HG := Lib.hid hg
    have y1 : w1.cell? ⟨w.heap.size, 1, none⟩ = some (.int .i64 nfr) := by have := e4.out; simp [World.cell?, this]
    have y2 : w1.cell? ⟨w.heap.size, 2, none⟩ = some (.int .i64 ndst) := by have := e4.out; simp [World.cell?, this]
    have y4 : w1.cell? ⟨w.heap.size, 4, none⟩ = some (.int .i64 nfo) := by have := e4.out; simp [World.cell?, this]
    have S0 := And.intro y1 (And.intro y2 (And.intro y4 d2))
    clear hg
    go_upto_region 4 with fail
    go_cut [20] from 21 to 48 (fun v20 wx => CutN w1 wx (badN d.r.me nfr ndst nfo) v20)
    case first =>
      have Y1 := Lib.hid y1
      have Y2 := Lib.hid y2
      have Y4 := Lib.hid y4
      have D2 := Lib.hid d2
      have hn1 := fun W => (node_any nfr W).mono (R' := fun e w' => e = .returned (.bool (nodeB nfr)) ∧ W = w') (by rintro e w' ⟨h1, h2⟩; exact ⟨h1, h2.symm⟩)
      have hn4 := fun W => (node_any nfo W).mono (R' := fun e w' => e = .returned (.bool (nodeB nfo)) ∧ W = w') (by rintro e w' ⟨h1, h2⟩; exact ⟨h1, h2.symm⟩)
      clear y1 y2 y4 S0
      by_cases h1 : ndst = d.r.me
      · have g1 : (ndst == d.r.me) = true := by rw [beq_iff_eq]; exact h1
        have g1' : (ndst != d.r.me) = false := by simp [h1]
        cases h2 : nodeB nfr
        · have HC : Hid (badN d.r.me nfr ndst nfo = true) := Lib.hid (by unfold badN; rw [h2]; simp)
          simp only [h2] at hn1
          have N1 := Lib.hid (in_same (w1 := w1) hn1)
          clear h1 hn1 hn4 h2
          refine wp_region_quiet (C := fun W => Keep (fun _ => False) w1 W) (by kernel_rfl) (by kernel_rfl) (by first | exact (Keep.refl _ w1).drew | exact (Keep.refl _ w1).drew.drew | exact (Keep.refl _ w1).drew.drew.drew) ?_
          refine hq_start ?_
          repeat (refine hq_step (fun K hK => ?_); go_simp; first | (refine quiet_val (hK _ ?_); clear hK K) | (with_reducible refine quiet_call N1.out (hK _ ?_); clear hK K) | (refine hK _ ?_; clear hK K) | (apply Exists.intro; refine ⟨fun W hW => ?_, hK _ ?_⟩; (have q0 := hW.cell Y1.out; have q1 := hW.cell Y2.out; have q2 := hW.cell Y4.out; have q3 := hW.cell D2.out; go_simp; exact rfl); clear hK K))
          refine hq_nil ?_
          intro W hW
          have HW := Lib.hid hW
          clear hW
          go_wp2_with fail
          go_meet
          exact ⟨by rw [HC.out], HW.out⟩
        · simp only [h2] at hn1
          have N1 := Lib.hid (in_same (w1 := w1) hn1)
          by_cases h3 : nfr = d.r.me
          · have g3 : (nfr == d.r.me) = true := by rw [beq_iff_eq]; exact h3
            have HC : Hid (badN d.r.me nfr ndst nfo = true) := Lib.hid (by unfold badN; rw [decide_eq_true h3]; simp)
            clear h1 h3 hn1 hn4 h2
            refine wp_region_quiet (C := fun W => Keep (fun _ => False) w1 W) (by kernel_rfl) (by kernel_rfl) (by first | exact (Keep.refl _ w1).drew | exact (Keep.refl _ w1).drew.drew | exact (Keep.refl _ w1).drew.drew.drew) ?_
            refine hq_start ?_
            repeat (refine hq_step (fun K hK => ?_); go_simp; first | (refine quiet_val (hK _ ?_); clear hK K) | (with_reducible refine quiet_call N1.out (hK _ ?_); clear hK K) | (refine hK _ ?_; clear hK K) | (apply Exists.intro; refine ⟨fun W hW => ?_, hK _ ?_⟩; (have q0 := hW.cell Y1.out; have q1 := hW.cell Y2.out; have q2 := hW.cell Y4.out; have q3 := hW.cell D2.out; go_simp; exact rfl); clear hK K))
            refine hq_nil ?_
            intro W hW
            have HW := Lib.hid hW
            clear hW
            go_wp2_with fail
            go_meet
            exact ⟨by rw [HC.out], HW.out⟩
          · have g3 : (nfr == d.r.me) = false := by rw [beq_eq_false_iff_ne]; exact h3
            cases h4 : nodeB nfo
            · have HC : Hid (badN d.r.me nfr ndst nfo = true) := Lib.hid (by unfold badN; rw [h4]; simp)
              simp only [h4] at hn4
              have N4 := Lib.hid (in_same (w1 := w1) hn4)
              clear h1 h3 hn1 hn4 h2 h4
              refine wp_region_quiet (C := fun W => Keep (fun _ => False) w1 W) (by kernel_rfl) (by kernel_rfl) (by first | exact (Keep.refl _ w1).drew | exact (Keep.refl _ w1).drew.drew | exact (Keep.refl _ w1).drew.drew.drew) ?_
              refine hq_start ?_
              repeat (refine hq_step (fun K hK => ?_); go_simp; first | (refine quiet_val (hK _ ?_); clear hK K) | (with_reducible refine quiet_call N1.out (hK _ ?_); clear hK K) | (with_reducible refine quiet_call N4.out (hK _ ?_); clear hK K) | (refine hK _ ?_; clear hK K) | (apply Exists.intro; refine ⟨fun W hW => ?_, hK _ ?_⟩; (have q0 := hW.cell Y1.out; have q1 := hW.cell Y2.out; have q2 := hW.cell Y4.out; have q3 := hW.cell D2.out; go_simp; exact rfl); clear hK K))
              refine hq_nil ?_
              intro W hW
              have HW := Lib.hid hW
              clear hW
              go_wp2_with fail
              go_meet
              exact ⟨by rw [HC.out], HW.out⟩
            · have HC : Hid (badN d.r.me nfr ndst nfo = false) := Lib.hid (by unfold badN; rw [h4, h2, decide_eq_true h1, decide_eq_false h3]; rfl)
              simp only [h4] at hn4
              have N4 := Lib.hid (in_same (w1 := w1) hn4)
              clear h1 h3 hn1 hn4 h2 h4
              refine wp_region_quiet (C := fun W => Keep (fun _ => False) w1 W) (by kernel_rfl) (by kernel_rfl) (by first | exact (Keep.refl _ w1).drew | exact (Keep.refl _ w1).drew.drew | exact (Keep.refl _ w1).drew.drew.drew) ?_
              refine hq_start ?_
              repeat (refine hq_step (fun K hK => ?_); go_simp; first | (refine quiet_val (hK _ ?_); clear hK K) | (with_reducible refine quiet_call N1.out (hK _ ?_); clear hK K) | (with_reducible refine quiet_call N4.out (hK _ ?_); clear hK K) | (refine hK _ ?_; clear hK K) | (apply Exists.intro; refine ⟨fun W hW => ?_, hK _ ?_⟩; (have q0 := hW.cell Y1.out; have q1 := hW.cell Y2.out; have q2 := hW.cell Y4.out; have q3 := hW.cell D2.out; go_simp; exact rfl); clear hK K))
              refine hq_nil ?_
              intro W hW
              have HW := Lib.hid hW
              clear hW
              go_wp2_with fail
              go_meet
              exact ⟨by rw [HC.out], HW.out⟩
      · have g1 : (ndst == d.r.me) = false := by rw [beq_eq_false_iff_ne]; exact h1
        have g1' : (ndst != d.r.me) = true := by simp [h1]
        have HC : Hid (badN d.r.me nfr ndst nfo = true) := Lib.hid (by unfold badN; rw [decide_eq_false h1]; rfl)
        clear h1 hn1 hn4
        refine wp_region_quiet (C := fun W => Keep (fun _ => False) w1 W) (by kernel_rfl) (by kernel_rfl) (by first | exact (Keep.refl _ w1).drew | exact (Keep.refl _ w1).drew.drew | exact (Keep.refl _ w1).drew.drew.drew) ?_
        refine hq_start ?_
        repeat (refine hq_step (fun K hK => ?_); go_simp; first | (refine quiet_val (hK _ ?_); clear hK K) | (refine hK _ ?_; clear hK K) | (apply Exists.intro; refine ⟨fun W hW => ?_, hK _ ?_⟩; (have q0 := hW.cell Y1.out; have q1 := hW.cell Y2.out; have q2 := hW.cell Y4.out; have q3 := hW.cell D2.out; go_simp; exact rfl); clear hK K))
        refine hq_nil ?_
        intro W hW
        have HW := Lib.hid hW
        clear hW
        go_wp2_with fail
        go_meet
        exact ⟨by rw [HC.out], HW.out⟩
    case rest =>
      obtain ⟨rfl, kc⟩ := hcut
      obtain ⟨w2, hw2⟩ : ∃ w2, w2 = wc := ⟨_, rfl⟩
      rw [← hw2] at kc ⊢
      clear hw2
      have e4' := Lib.hid (kc.old e4.out id)
      have e6' := Lib.hid (kc.old e6.out id)
      have e7' := Lib.hid (kc.old e7.out id)
      have K2 := Lib.hid (K1.out.step kc)
      have HQ2 := Lib.hid (And.intro (kc.cell HQ.out.1) (And.intro (kc.cell HQ.out.2.1) (kc.cell HQ.out.2.2)))
      have x6' := kc.cell x6
      have x7' := kc.cell x7
      have f6' : w2.frozen? ⟨w.heap.size + 1, 0, none⟩ = false := by have := e6'.out; simp [World.frozen?, this]
      have f7' : w2.frozen? ⟨w.heap.size + 1 + 1, 0, none⟩ = false := by have := e7'.out; simp [World.frozen?, this]
      have u2 : w.heap.size + 3 ≤ w2.heap.size := by have := kc.size; omega
      clear S0 y1 y2 y4 d2 d9 x6 x7 f6 f7 e4 e6 e7 K1 HQ kc u1
      cases hbd : badN d.r.me nfr ndst nfo
      · have y0 : w2.cell? ⟨w.heap.size, 0, none⟩ = some (.int .i64 nk) := by have := e4'.out; simp [World.cell?, this]
        by_cases hk1 : nk < 1
        · have HDE : Hid (d.hear L ⟨nk, nfr, ndst, nseq, nfo, nnews⟩ = (d, L, [], 150)) := Lib.hid (hearD_kind HG.out hbd (.inl hk1))
          have t1 : decide (nk < 1) = true := decide_eq_true hk1
          clear hk1 hbd
          go_wp2_with fail
          obtain ⟨z6, z7⟩ := ear (v := .slice none 0 0) (k := 150) e6'.out e7'.out
          refine door_ret (v := .tuple #[.slice none 0 0, .int .i64 150]) rfl (by simp [results, Tryz.results20, go_sem, z6, z7]) ⟨_, by rw [HDE.out], ?_, ?_⟩
          · rw [HDE.out]
            exact OwnNts.nil _ _
          · rw [HDE.out]
            have hk := ear_keep (v := .slice none 0 0) (x := .int .i64 150) K2.out
            exact (DSet.same HS.out hk).dl HS.out HL.out
        · by_cases hk3 : 3 < nk
          · have HDE : Hid (d.hear L ⟨nk, nfr, ndst, nseq, nfo, nnews⟩ = (d, L, [], 150)) := Lib.hid (hearD_kind HG.out hbd (.inr hk3))
            have t1 : decide (nk < 1) = false := decide_eq_false hk1
            have t3 : decide (3 < nk) = true := decide_eq_true hk3
            clear hk1 hk3 hbd
            go_wp2_with fail
            obtain ⟨z6, z7⟩ := ear (v := .slice none 0 0) (k := 150) e6'.out e7'.out
            refine door_ret (v := .tuple #[.slice none 0 0, .int .i64 150]) rfl (by simp [results, Tryz.results20, go_sem, z6, z7]) ⟨_, by rw [HDE.out], ?_, ?_⟩
            · rw [HDE.out]
              exact OwnNts.nil _ _
            · rw [HDE.out]
              have hk := ear_keep (v := .slice none 0 0) (x := .int .i64 150) K2.out
              exact (DSet.same HS.out hk).dl HS.out HL.out
          · have t1 : decide (nk < 1) = false := decide_eq_false hk1
            have t3 : decide (3 < nk) = false := decide_eq_false hk3
            have HBD := Lib.hid hbd
            have HK1 : Hid (1 ≤ nk ∧ nk ≤ 3) := Lib.hid ⟨by omega, by omega⟩
            clear hk1 hk3 hbd y0
            have hgt := fun W (k : Keep (fun _ => False) w2 W) => get_any ((HS.out.keep0 K2.out).keep0 k).rol HHO.out.r nfr
            have y1 : w2.cell? ⟨w.heap.size, 1, none⟩ = some (.int .i64 nfr) := by have := e4'.out; simp [World.cell?, this]
            have y0 : w2.cell? ⟨w.heap.size, 0, none⟩ = some (.int .i64 nk) := by have := e4'.out; simp [World.cell?, this]
            have e0 := (HS.out.keep0 K2.out).c0
            unfold uV at hgt
            generalize hgtd : d.r.get nfr = gt at *
            have HGE := Lib.hid hgtd
            clear hgtd
            obtain ⟨⟨gn, gi, gs⟩, gb⟩ := gt
            simp only at hgt
            have HGT := Lib.hid hgt
            clear hgt
            go_upto_region 9 with fail
            go_cut [9, 10] from 59 to 68 (fun v9 v10 wx => CutS2 w2 wx gn gi gs gb v9 v10)
            case first =>
              have S0 := And.intro e0 y1
              go_region_held3 (fun W => W.cell? ⟨b, 0, none⟩ = some (.pointer (some ⟨p.rb, 0, none⟩)) ∧ W.cell? ⟨w.heap.size, 1, none⟩ = some (.int .i64 nfr)) (first | assumption | go_keep | ((refine And.intro ?_ ?_) <;> ((repeat (first | assumption | refine set_ne (by omega) ?_)); done))) (first | (go_at_call 31; refine (HGT.out _ (by repeat (first | assumption | exact Sh.Keep.refl _ _ | refine Sh.Keep.drew ?_ | refine Sh.Keep.alloc ?_ _ | refine Sh.Keep.step ?_ (by assumption)))).mono ?_; rintro e w3 ⟨rfl, hk3⟩; have kv3 : Keep (fun _ => False) w2 w3 := (by repeat (first | assumption | exact Sh.Keep.refl _ _ | refine Sh.Keep.drew ?_ | refine Sh.Keep.alloc ?_ _ | refine Sh.Keep.step ?_ (by assumption))); have uv3 := kv3.size; have sw3 := And.intro (kv3.cell e0) (kv3.cell y1); have sx3 := sw3.1; have sy3 := sw3.2; (first | (have z0 := hk3.cell (azd0 _); have f0 := hk3.fro (azd0 _) (alfd _ _ _ 0)) | (have z0 := hk3.cell (az0 _); have f0 := hk3.fro (az0 _) (alf _ _ _ 0)) | skip); (first | (have z1 := hk3.cell (azd1 _); have f1 := hk3.fro (azd1 _) (alfd _ _ _ 1)) | (have z1 := hk3.cell (az1 _); have f1 := hk3.fro (az1 _) (alf _ _ _ 1)) | skip); (first | (have z2 := hk3.cell (azd2 _); have f2 := hk3.fro (azd2 _) (alfd _ _ _ 2)) | (have z2 := hk3.cell (az2 _); have f2 := hk3.fro (az2 _) (alf _ _ _ 2)) | skip)))
              all_goals
                go_wp2_with fail
                go_meet
                first
                  | exact ⟨rfl, ⟨_, rfl, alc3 _ _ _ _ _, by omega⟩, Sh.Keep.alloc (by assumption) _⟩
                  | exact ⟨rfl, ⟨_, rfl, set3 (by assumption) (by assumption) (by assumption), by omega⟩, (((by assumption : Keep (fun _ => False) w2 _).setNew _ (by omega)).setNew _ (by omega)).setNew _ (by omega)⟩
            case rest =>
              obtain ⟨rfl, ⟨g2, rfl, ⟨n0, n1, n2⟩, hg2⟩, kc2⟩ := hcut
              obtain ⟨w3, hw3⟩ : ∃ w3, w3 = wc := ⟨_, rfl⟩
              rw [← hw3] at kc2 ⊢
              clear hw3 n0 n1 n2 hg2
              have K3 := Lib.hid (K2.out.step kc2)
              have e4 := Lib.hid (kc2.old e4'.out id)
              have e6 := Lib.hid (kc2.old e6'.out id)
              have e7 := Lib.hid (kc2.old e7'.out id)
              have HQ3 := Lib.hid (And.intro (kc2.cell HQ2.out.1) (And.intro (kc2.cell HQ2.out.2.1) (kc2.cell HQ2.out.2.2)))
              have u3 : w.heap.size + 3 ≤ w3.heap.size := by have := kc2.size; omega
              have y1 := kc2.cell y1
              clear kc2 e4' e6' e7' HQ2 x6' x7' f6' f7' K2 e0 y0 u2 HGT
              have hd3 := HS.out.keep0 K3.out
              have hl3 := HL.out.keep0 K3.out
              have hT3 := B.tab_keep HT.out K3.out id
              -- what the sender is told of, if it is new
              obtain ⟨D1, hD1⟩ : ∃ D1 : Det × List Int, D1 = if gb then (d, L) else ((d.take L ⟨nfr, 0, 0⟩ nfr).1, (d.take L ⟨nfr, 0, 0⟩ nfr).2.1) := ⟨_, rfl⟩
              have HD1 := Lib.hid hD1
              have HTK := Lib.hid (take_det hd3 HHO.out hT3 hl3 ⟨nfr, 0, 0⟩ (by show (0 : Int) ≤ 0 ∧ (0 : Int) < _; omega) nfr)
              have HD3 := Lib.hid hd3
              have HL3 := Lib.hid hl3
              have HT3 := Lib.hid hT3
              clear hD1 hd3 hl3 hT3
              rename_i hKK
              refine hKK _ _ ?_
              go_cut [] from 69 to 78 (fun wx => DLSet w3 wx b p xl D1.1 D1.2)
              case first =>
                cases gb
                · simp only [Bool.false_eq_true, if_false] at HD1
                  go_wp2_with fail
                  refine HTK.out.mono ?_
                  rintro e w4 ⟨rfl, hs4⟩
                  have HF : Hid (DLSet w3 w4 b p xl D1.1 D1.2) := Lib.hid (by rw [HD1.out]; exact hs4)
                  clear hs4
                  go_wp2_with fail
                  go_meet
                  exact HF.out
                · simp only [if_true] at HD1
                  have HF : Hid (DLSet w3 w3 b p xl D1.1 D1.2) := Lib.hid (by rw [HD1.out]; exact (HD3.out.dset).dl HD3.out HL3.out)
                  go_wp2_with fail
                  go_meet
                  exact HF.out
              case rest =>
                obtain ⟨w4, hw4⟩ : ∃ w4, w4 = wc := ⟨_, rfl⟩
                rw [← hw4] at hcut ⊢
                clear hw4
                have hok1 : DetOk D1.1 := by
                  rw [HD1.out]
                  split
                  · exact HHO.out
                  · exact take_ok HHO.out _ _ _
                have hsm1 : Same d D1.1 := by
                  rw [HD1.out]
                  split
                  · exact .refl d
                  · exact take_same _ _ _ _
                have HST : Hid (LoopH w3 w4 b p xl d D1 nfr nnews 0) := Lib.hid ⟨D1.1, D1.2, hcut, hok1, hsm1, by rw [List.drop_zero]⟩
                clear hcut hok1 hsm1 HTK
                have HN3 := Lib.hid (HN.out.keep0 K3.out)
                obtain ⟨A5, c5, hv0⟩ := HN.out.shape
                subst hv0
                have HE4 : Hid (∀ W : World, (∀ j, w.heap.size ≤ j → j < w3.heap.size → W.heap[j]? = w3.heap[j]?) → W.cell? ⟨w.heap.size, 5, none⟩ = some (.slice A5 nnews.length c5) ∧ W.cell? ⟨w.heap.size, 1, none⟩ = some (.int .i64 nfr)) := Lib.hid (fun W hW => by
                  have := (hW w.heap.size (Nat.le_refl _) (by omega)).trans e4.out
                  constructor <;> simp [World.cell?, this])
                have HOLD : Hid (∀ (W : World) (i : Nat), LoopH w3 W b p xl d D1 nfr nnews i → ∀ j, w.heap.size ≤ j → j < w3.heap.size → W.heap[j]? = w3.heap[j]?) := Lib.hid (fun W i hl j h1 h2 => by
                  obtain ⟨di, Li, hs, _⟩ := hl.ex
                  exact hs.keep.block j h2 (fun hh => by
                    rcases hh with hh | hh
                    · exact HLT.out _ h1 hh
                    · omega))
                have z5 := (HE4.out w4 (HOLD.out _ _ HST.out)).1
                go_wp2_with fail
                go_loopg [82] nnews.length (fun z v82 wr => ∃ i : Nat, i + z = nnews.length ∧ v82 = .int .i64 (i : Int) ∧ LoopH w3 wr b p xl d D1 nfr nnews i)
                case atStart => exact ⟨0, by omega, rfl, HST.out⟩
                case round =>
                  obtain ⟨i, hz, rfl, hlp⟩ := hrel
                  have HLP := Lib.hid hlp
                  have HZ := Lib.hid hz
                  have z1 := (HE4.out wr (HOLD.out _ _ hlp)).2
                  have hil : i ≤ nnews.length := by omega
                  clear hlp hz z5
                  by_cases hi : i < nnews.length
                  · have HI := Lib.hid hi
                    have s1 : decide ((i : Int) < (nnews.length : Int)) = true := decide_eq_true (by omega)
                    have s2 : (i : Int) < (nnews.length : Int) := by omega
                    obtain ⟨di, Li, hds, hok, hsm, hnw⟩ := HLP.out.ex
                    obtain ⟨pi, hdi, hsi⟩ := hds.ex
                    obtain ⟨g5, o5, hA5, hg5, hcell⟩ := HN3.out.pos (by omega)
                    cases hA5
                    have c0 := hds.keep.cellS (hcell i hi).1 hg5
                    have c1 := hds.keep.cellS (hcell i hi).2.1 hg5
                    have c2 := hds.keep.cellS (hcell i hi).2.2 hg5
                    have hur := HNU.out nnews[i] (List.getElem_mem hi)
                    have hdrop : nnews.drop i = nnews[i] :: nnews.drop (i + 1) := List.drop_eq_getElem_cons hi
                    rw [hdrop] at hnw
                    clear hdrop hcell
                    generalize nnews[i] = u at c0 c1 c2 hur hnw
                    have w1i := wrap_succ i (by have := HNL.out; omega)
                    have HTK := Lib.hid (take_det (hdi.keep0 ((Keep.refl (fun _ => False) wr).alloc (.cells #[.int .i64 u.n, .int .u64 u.i, .int .i64 u.s] 52))) hok (B.tab_keep (B.tab_keep HT3.out hds.keep (fun hh => by
                      rcases hh with hh | hh
                      · exact absurd (HD3.out.pos _ hh) (by omega)
                      · exact absurd hh (by have := HXP.out; omega))) ((Keep.refl (fun _ => False) wr).alloc (.cells #[.int .i64 u.n, .int .u64 u.i, .int .i64 u.s] 52)) id) (hds.lots.keep0 ((Keep.refl (fun _ => False) wr).alloc (.cells #[.int .i64 u.n, .int .u64 u.i, .int .i64 u.s] 52))) u hur nfr)
                    have hnx : di.news Li nfr (u :: nnews.drop (i + 1)) = if (di.take Li u nfr).2.2 = 60 then ((di.take Li u nfr).1, (di.take Li u nfr).2.1, false) else (di.take Li u nfr).1.news (di.take Li u nfr).2.1 nfr (nnews.drop (i + 1)) := rfl
                    have hok2 := take_ok hok Li u nfr
                    have hsm2 := hsm.trans (take_same di Li u nfr)
                    rw [hnx] at hnw
                    clear hnx
                    generalize di.take Li u nfr = r at *
                    obtain ⟨d', L', code⟩ := r
                    simp only at hnw hok2 hsm2 HTK
                    obtain ⟨un, ui, us⟩ := u
                    simp only at c0 c1 c2 HTK
                    have HCH : Hid (∀ w', DLSet (wr.alloc (.cells #[.int .i64 un, .int .u64 ui, .int .i64 us] 52)) w' b pi xl d' L' → DLSet w3 w' b p xl d' L') := Lib.hid (fun w' hs => DLSet.next (fun k hk => by
                        rcases hsi k hk with h | h
                        · exact .inl h
                        · exact .inr h) (hds.keep.step (((Keep.refl (fun _ => False) wr).alloc (.cells #[.int .i64 un, .int .u64 ui, .int .i64 us] 52)).mono fun _ h _ => h.elim)) hs)
                    have ulr : w.heap.size < wr.heap.size := by have := hds.keep.size; omega
                    clear hds hdi hsi hok hsm hur
                    by_cases hc : code = 60
                    · rw [if_pos hc] at hnw
                      have HNW := Lib.hid hnw
                      subst hc
                      clear hnw
                      go_wp2_with fail
                      refine HTK.out.mono ?_
                      rintro e w6 ⟨rfl, hs6⟩
                      have hl6 := HCH.out w6 hs6
                      have hb6 := hl6.keep.old e6.out (fun hh => by
                        rcases hh with hh | hh
                        · exact HLT.out _ (by omega) hh
                        · omega)
                      have hb7 := hl6.keep.old e7.out (fun hh => by
                        rcases hh with hh | hh
                        · exact HLT.out _ (by omega) hh
                        · omega)
                      have HS6 := Lib.hid hl6
                      have HB6 := Lib.hid hb6
                      have HB7 := Lib.hid hb7
                      clear hs6 hl6 hb6 hb7
                      have HDE : Hid (d.hear L ⟨nk, nfr, ndst, nseq, nfo, nnews⟩ = (d', L', [], 60)) := Lib.hid (hearD_last HG.out HBD.out HK1.out (by rw [HGE.out]; exact HD1.out) HNW.out)
                      go_wp2_with fail
                      refine leaves_cons (f := 53) (args := #[.pointer (some ⟨w.heap.size + 1, 0, none⟩), .pointer (some ⟨w.heap.size + 1 + 1, 0, none⟩)]) (by simp) (by simp [go_sem]) ?_
                      refine (catch_panicking ⟨w.heap.size + 1, 0, none⟩ ⟨w.heap.size + 1 + 1, 0, none⟩ 60 (.slice none 0 0) 0 [] w6 (by have := HB6.out; simp [World.cell?, this]) (by have := HB6.out; simp [World.frozen?, this]) (by have := HB7.out; simp [World.cell?, this]) (by have := HB7.out; simp [World.frozen?, this]) (by show w.heap.size + 1 + 1 ≠ w.heap.size + 1; omega)).mono ?_
                      rintro e u' w'' ⟨rfl, rfl, rfl⟩
                      obtain ⟨z6, z7⟩ := ear (v := .slice none 0 0) (k := 60) HB6.out HB7.out
                      refine leaves_ret (v := .tuple #[.slice none 0 0, .int .i64 60]) rfl (by simp [results, Tryz.results20, go_sem, z6, z7]) ⟨_, by rw [HDE.out], ?_, ?_⟩
                      · rw [HDE.out]
                        exact OwnNts.nil _ _
                      · rw [HDE.out]
                        exact fin_set K3.out HLT.out hxl u3 HS6.out HB6.out HB7.out
                    · rw [if_neg hc] at hnw
                      have HNX : Hid (∀ w', DLSet (wr.alloc (.cells #[.int .i64 un, .int .u64 ui, .int .i64 us] 52)) w' b pi xl d' L' → LoopH w3 w' b p xl d D1 nfr nnews (i + 1)) := Lib.hid (fun w' hs => ⟨d', L', HCH.out w' hs, hok2, hsm2, hnw⟩)
                      have t60 : (code == 60) = false := by rw [beq_eq_false_iff_ne]; exact hc
                      have d60 : decide (code = 60) = false := decide_eq_false hc
                      clear hc hnw hok2 hsm2 HCH
                      go_wp2_with fail
                      refine HTK.out.mono ?_
                      rintro e w6 ⟨rfl, hs6⟩
                      have HL6 := Lib.hid (HNX.out w6 hs6)
                      clear hs6
                      go_wp2_with fail
                      go_roundg (nnews.length - (i + 1))
                      case measure => exact loop_meas HZ.out HI.out
                      case rel => exact ⟨i + 1, loop_rel HI.out, by go_num, HL6.out⟩
                  · have hin : i = nnews.length := by omega
                    obtain ⟨di, Li, hds, hok, hsm, hnw⟩ := HLP.out.ex
                    obtain ⟨pi, hdi, hsi⟩ := hds.ex
                    rw [hin, List.drop_length] at hnw
                    have hnw2 : D1.1.news D1.2 nfr nnews = (di, Li, true) := hnw
                    have HDE := Lib.hid (hearD_went (n := ⟨nk, nfr, ndst, nseq, nfo, nnews⟩) HG.out HBD.out HK1.out (by rw [HGE.out]; exact HD1.out) hnw2)
                    have hold := HOLD.out _ _ HLP.out
                    have hb4 := (hold w.heap.size (Nat.le_refl _) (by omega)).trans e4.out
                    have hb6 := (hold (w.heap.size + 1) (by omega) (by omega)).trans e6.out
                    have hb7 := (hold (w.heap.size + 2) (by omega) (by omega)).trans e7.out
                    have HB6 := Lib.hid hb6
                    have HB7 := Lib.hid hb7
                    have z0 : wr.cell? ⟨w.heap.size, 0, none⟩ = some (.int .i64 nk) := by simp [World.cell?, hb4]
                    have z2 : wr.cell? ⟨w.heap.size, 2, none⟩ = some (.int .i64 ndst) := by simp [World.cell?, hb4]
                    have z3 : wr.cell? ⟨w.heap.size, 3, none⟩ = some (.int .u64 nseq) := by simp [World.cell?, hb4]
                    have z4 : wr.cell? ⟨w.heap.size, 4, none⟩ = some (.int .i64 nfo) := by simp [World.cell?, hb4]
                    have z5 : wr.cell? ⟨w.heap.size, 5, none⟩ = some (.slice A5 nnews.length c5) := by simp [World.cell?, hb4]
                    have hg8 : ¬ (p.has b g8 ∨ g8 = xl) := fun hh => by
                      rcases hh with hh | hh
                      · exact HLT.out g8 (by omega) hh
                      · omega
                    have q1 := hds.keep.cellS HQ3.out.1 hg8
                    have q2 := hds.keep.cellS HQ3.out.2.1 hg8
                    have q3 := hds.keep.cellS HQ3.out.2.2 hg8
                    have hTr := B.tab_keep HT3.out hds.keep (fun hh => by
                      rcases hh with hh | hh
                      · exact absurd (HD3.out.pos _ hh) (by omega)
                      · exact absurd hh (by have := HXP.out; omega))
                    have hOi : WOk di := ⟨by rw [hsm.ws]; exact HO.out.ws, by rw [hsm.es]; exact HO.out.es⟩
                    have HAN := Lib.hid (fun W (k : Keep (fun _ => False) wr W) => answer_det (hdi.keep0 k) hok (B.tab_keep hTr k id) ⟨nk, nfr, ndst, nseq, nfo, nnews⟩ (.slice A5 nnews.length c5) rfl)
                    have HAC := Lib.hid (fun W (k : Keep (fun _ => False) wr W) => acked_det (hdi.keep0 k) hok hOi (B.tab_keep hTr k id) ⟨nk, nfr, ndst, nseq, nfo, nnews⟩ (.slice A5 nnews.length c5) rfl)
                    have HHE := Lib.hid (fun W (k : Keep (fun _ => False) wr W) => helped_det (hdi.keep0 k) hok hOi (B.tab_keep hTr k id) ⟨nk, nfr, ndst, nseq, nfo, nnews⟩ (.slice A5 nnews.length c5) rfl)
                    have HDS := Lib.hid hds
                    have HDI := Lib.hid hdi
                    have HSI := Lib.hid hsi
                    have s1 : decide ((i : Int) < (nnews.length : Int)) = false := decide_eq_false (by omega)
                    have hnk := HK1.out
                    obtain rfl | rfl | rfl : nk = 1 ∨ nk = 2 ∨ nk = 3 := by omega
                    all_goals clear hnw hnw2 hold hb4 hb6 hb7 hg8 hTr hOi hds hdi hsi hnk hok hsm hin
                    · go_upto_region 19 with fail
                      go_still_tail 6, (by kernel_rfl)
                      go_wp2_with fail
                      refine (HAN.out _ ((Keep.refl _ wr).drew)).mono ?_
                      rintro e w6 ⟨v6, rfl, hs6⟩
                      have hk6 := hs6.set.keep
                      have hu7 : wr.heap.size ≤ w6.heap.size := by have := hk6.size; simpa using this
                      have hb6' := hk6.old (show wr.drew.heap[_]? = _ from HB6.out) (fun hh => by
                        rcases HSI.out _ hh with h | h
                        · exact HLT.out _ (by omega) h
                        · omega)
                      have hb7' := hk6.old (show wr.drew.heap[_]? = _ from HB7.out) (fun hh => by
                        rcases HSI.out _ hh with h | h
                        · exact HLT.out _ (by omega) h
                        · omega)
                      have HS6 := Lib.hid hs6
                      have HB6' := Lib.hid hb6'
                      have HB7' := Lib.hid hb7'
                      have g6 : w6.cell? ⟨w.heap.size + 1, 0, none⟩ = some (.slice none 0 0) := by simp [World.cell?, hb6']
                      have g7 : w6.cell? ⟨w.heap.size + 1 + 1, 0, none⟩ = some (.int .i64 0) := by simp [World.cell?, hb7']
                      have e6f : w6.frozen? ⟨w.heap.size + 1, 0, none⟩ = false := by simp [World.frozen?, hb6']
                      have e7f : w6.frozen? ⟨w.heap.size + 1 + 1, 0, none⟩ = false := by simp [World.frozen?, hb7']
                      obtain ⟨A6, n6, c6, hv6⟩ := hs6.own.shape
                      subst hv6
                      clear hs6 hb6' hb7' hk6
                      go_wp2_with fail
                      refine leaves_cons (f := 53) (args := #[.pointer (some ⟨w.heap.size + 1, 0, none⟩), .pointer (some ⟨w.heap.size + 1 + 1, 0, none⟩)]) (by simp) (by simp [go_sem]) ?_
                      refine (catch_idle ⟨w.heap.size + 1, 0, none⟩ ⟨w.heap.size + 1 + 1, 0, none⟩ _).mono ?_
                      rintro e u' w'' ⟨rfl, rfl, rfl⟩
                      obtain ⟨y6, y7⟩ := ear (v := .slice A6 n6 c6) (k := 0) HB6'.out HB7'.out
                      refine leaves_ret (v := .tuple #[.slice A6 n6 c6, .int .i64 0]) rfl (by simp [results, Tryz.results20, go_sem, y6, y7]) ⟨_, by rw [HDE.out], ?_, ?_⟩
                      · rw [HDE.out]
                        exact (HS6.out.own.keep (fin_keep w w6 _ _) (fun j t hj hk ht hS => by
                          have hj' : wr.heap.size ≤ j := hj
                          have := HDS.out.keep.size
                          omega)).mono (by
                          have := HDS.out.keep.size
                          show w.heap.size ≤ wr.heap.size
                          omega)
                      · rw [HDE.out]
                        exact fin_set K3.out HLT.out hxl u3 (DLSet.next HSI.out HDS.out.keep (DSet.dl (HS6.out.set.after (Keep.refl _ wr).drew) HDI.out HDS.out.lots)) HB6'.out HB7'.out
                    · go_upto_region 19 with fail
                      go_still_tail 6, (by kernel_rfl)
                      go_wp2_with fail
                      refine (HAC.out _ ((Keep.refl _ wr).drew)).mono ?_
                      rintro e w6 ⟨v6, rfl, hs6⟩
                      have hk6 := hs6.set.keep
                      have hu7 : wr.heap.size ≤ w6.heap.size := by have := hk6.size; simpa using this
                      have hb6' := hk6.old (show wr.drew.heap[_]? = _ from HB6.out) (fun hh => by
                        rcases HSI.out _ hh with h | h
                        · exact HLT.out _ (by omega) h
                        · omega)
                      have hb7' := hk6.old (show wr.drew.heap[_]? = _ from HB7.out) (fun hh => by
                        rcases HSI.out _ hh with h | h
                        · exact HLT.out _ (by omega) h
                        · omega)
                      have HS6 := Lib.hid hs6
                      have HB6' := Lib.hid hb6'
                      have HB7' := Lib.hid hb7'
                      have g6 : w6.cell? ⟨w.heap.size + 1, 0, none⟩ = some (.slice none 0 0) := by simp [World.cell?, hb6']
                      have g7 : w6.cell? ⟨w.heap.size + 1 + 1, 0, none⟩ = some (.int .i64 0) := by simp [World.cell?, hb7']
                      have e6f : w6.frozen? ⟨w.heap.size + 1, 0, none⟩ = false := by simp [World.frozen?, hb6']
                      have e7f : w6.frozen? ⟨w.heap.size + 1 + 1, 0, none⟩ = false := by simp [World.frozen?, hb7']
                      obtain ⟨A6, n6, c6, hv6⟩ := hs6.own.shape
                      subst hv6
                      clear hs6 hb6' hb7' hk6
                      go_wp2_with fail
                      refine leaves_cons (f := 53) (args := #[.pointer (some ⟨w.heap.size + 1, 0, none⟩), .pointer (some ⟨w.heap.size + 1 + 1, 0, none⟩)]) (by simp) (by simp [go_sem]) ?_
                      refine (catch_idle ⟨w.heap.size + 1, 0, none⟩ ⟨w.heap.size + 1 + 1, 0, none⟩ _).mono ?_
                      rintro e u' w'' ⟨rfl, rfl, rfl⟩
                      obtain ⟨y6, y7⟩ := ear (v := .slice A6 n6 c6) (k := 0) HB6'.out HB7'.out
                      refine leaves_ret (v := .tuple #[.slice A6 n6 c6, .int .i64 0]) rfl (by simp [results, Tryz.results20, go_sem, y6, y7]) ⟨_, by rw [HDE.out], ?_, ?_⟩
                      · rw [HDE.out]
                        exact (HS6.out.own.keep (fin_keep w w6 _ _) (fun j t hj hk ht hS => by
                          have hj' : wr.heap.size ≤ j := hj
                          have := HDS.out.keep.size
                          omega)).mono (by
                          have := HDS.out.keep.size
                          show w.heap.size ≤ wr.heap.size
                          omega)
                      · rw [HDE.out]
                        exact fin_set K3.out HLT.out hxl u3 (DLSet.next HSI.out HDS.out.keep (DSet.dl (HS6.out.set.after (Keep.refl _ wr).drew) HDI.out HDS.out.lots)) HB6'.out HB7'.out
                    · go_upto_region 19 with fail
                      go_still_tail 6, (by kernel_rfl)
                      go_wp2_with fail
                      refine (HHE.out _ ((Keep.refl _ wr).drew)).mono ?_
                      rintro e w6 ⟨v6, rfl, hs6⟩
                      have hk6 := hs6.set.keep
                      have hu7 : wr.heap.size ≤ w6.heap.size := by have := hk6.size; simpa using this
                      have hb6' := hk6.old (show wr.drew.heap[_]? = _ from HB6.out) (fun hh => by
                        rcases HSI.out _ hh with h | h
                        · exact HLT.out _ (by omega) h
                        · omega)
                      have hb7' := hk6.old (show wr.drew.heap[_]? = _ from HB7.out) (fun hh => by
                        rcases HSI.out _ hh with h | h
                        · exact HLT.out _ (by omega) h
                        · omega)
                      have HS6 := Lib.hid hs6
                      have HB6' := Lib.hid hb6'
                      have HB7' := Lib.hid hb7'
                      have g6 : w6.cell? ⟨w.heap.size + 1, 0, none⟩ = some (.slice none 0 0) := by simp [World.cell?, hb6']
                      have g7 : w6.cell? ⟨w.heap.size + 1 + 1, 0, none⟩ = some (.int .i64 0) := by simp [World.cell?, hb7']
                      have e6f : w6.frozen? ⟨w.heap.size + 1, 0, none⟩ = false := by simp [World.frozen?, hb6']
                      have e7f : w6.frozen? ⟨w.heap.size + 1 + 1, 0, none⟩ = false := by simp [World.frozen?, hb7']
                      obtain ⟨A6, n6, c6, hv6⟩ := hs6.own.shape
                      subst hv6
                      clear hs6 hb6' hb7' hk6
                      go_wp2_with fail
                      refine leaves_cons (f := 53) (args := #[.pointer (some ⟨w.heap.size + 1, 0, none⟩), .pointer (some ⟨w.heap.size + 1 + 1, 0, none⟩)]) (by simp) (by simp [go_sem]) ?_
                      refine (catch_idle ⟨w.heap.size + 1, 0, none⟩ ⟨w.heap.size + 1 + 1, 0, none⟩ _).mono ?_
                      rintro e u' w'' ⟨rfl, rfl, rfl⟩
                      obtain ⟨y6, y7⟩ := ear (v := .slice A6 n6 c6) (k := 0) HB6'.out HB7'.out
                      refine leaves_ret (v := .tuple #[.slice A6 n6 c6, .int .i64 0]) rfl (by simp [results, Tryz.results20, go_sem, y6, y7]) ⟨_, by rw [HDE.out], ?_, ?_⟩
                      · rw [HDE.out]
                        exact (HS6.out.own.keep (fin_keep w w6 _ _) (fun j t hj hk ht hS => by
                          have hj' : wr.heap.size ≤ j := hj
                          have := HDS.out.keep.size
                          omega)).mono (by
                          have := HDS.out.keep.size
                          show w.heap.size ≤ wr.heap.size
                          omega)
                      · rw [HDE.out]
                        exact fin_set K3.out HLT.out hxl u3 (DLSet.next HSI.out HDS.out.keep (DSet.dl (HS6.out.set.after (Keep.refl _ wr).drew) HDI.out HDS.out.lots)) HB6'.out HB7'.out
      · have HDE : Hid (d.hear L ⟨nk, nfr, ndst, nseq, nfo, nnews⟩ = (d, L, [], 1)) := Lib.hid (hearD_bad HG.out hbd)
        clear hbd
        go_wp2_with fail
        obtain ⟨z6, z7⟩ := ear (v := .slice none 0 0) (k := 1) e6'.out e7'.out
        refine door_ret (v := .tuple #[.slice none 0 0, .int .i64 1]) rfl (by simp [results, Tryz.results20, go_sem, z6, z7]) ⟨_, by rw [HDE.out], ?_, ?_⟩
        · rw [HDE.out]
          exact OwnNts.nil _ _
        · rw [HDE.out]
          have hk := ear_keep (v := .slice none 0 0) (x := .int .i64 1) K2.out
          exact (DSet.same HS.out hk).dl HS.out HL.out
  · rw [hg] at d9
    have HDE : Hid (d.hear L ⟨nk, nfr, ndst, nseq, nfo, nnews⟩ = (d, L, [], 5)) := Lib.hid (by unfold Det.hear; rw [if_pos hg])
    clear hg
    go_wp2_with fail
    obtain ⟨z6, z7⟩ := ear (v := .slice none 0 0) (k := 5) e6.out e7.out
    refine door_ret (v := .tuple #[.slice none 0 0, .int .i64 5]) rfl (by simp [results, Tryz.results20, go_sem, z6, z7]) ⟨_, by rw [HDE.out], ?_, ?_⟩
    · rw [HDE.out]
      exact OwnNts.nil _ _
    · rw [HDE.out]
      have hk := ear_keep (v := .slice none 0 0) (x := .int .i64 5) K1.out
      exact (DSet.same HS.out hk).dl HS.out HL.out
end Go.Proofs.YtofonfohaocclaaGreatDoor
