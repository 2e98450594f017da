/- TraceOut: the plain law, and the walk. -/
import Derived.Test.YtjihimapopbdpaaVieW
import Derived.Maps.AppendAt
namespace Go.Proofs.Ytjihimapopbdpaa
open Go.RowKit Sh
open Go.ChangeMaps (setBlock)
set_option linter.unusedVariables false

def e1 : Ent := ⟨0, false, 1, 1, 3, 0, 0, 0, ⟨#[]⟩⟩
def e2 (num : Int) (text : ByteArray) : Ent := ⟨1, true, 0, 0, 0, 0, 1, num, text⟩
def e3 (num : Int) (text : ByteArray) : Ent := ⟨0, false, 2, 1, 3, 1, 1, num, text⟩
def e4 : Ent := ⟨0, false, 3, 1, 3, 0, 0, 0, ⟨#[]⟩⟩
def e5 : Ent := ⟨0, false, 1, 3, 3, 0, 0, 0, ⟨#[]⟩⟩
def e6 (num : Int) (text : ByteArray) : Ent := ⟨0, false, 2, 3, 3, 1, 1, num, text⟩

theorem h30 : hasP 3 0 = true := by decide
theorem h31 : hasP 3 1 = true := by decide
theorem plEq_self (p : Vw × Int) : plEq p p = true := by simp [plEq]
theorem acc_in (num : Int) (text : ByteArray) : accP ([e1, e2 num text, e3 num text] ++ [e5, e6 num text]) = (4, 4) := by
  have u2 : IntKind.u64.wrap 2 = 2 := by decide
  have u4 : IntKind.u64.wrap 4 = 4 := by decide
  have u0 : IntKind.u64.wrap 0 = 0 := by decide
  have u1 : IntKind.u64.wrap 1 = 1 := by decide
  have x1 : wrap64 1 = 1 := by decide +kernel
  simp [accP, accGo, wr_, tst, runT, vstep, ostep, nstep, astep, vbad, vnext, vmin, majorV, nkey, e1, e2, e3, e5, e6, Ent.inst, Ent.out, Ent.dlv, Ent.v, Ent.m, v0, o0, t0, a0, noPc, upd, h30, h31, u0, u1, u2, u4, x1, plEq_self]
theorem acc_out (num : Int) (text : ByteArray) : accP ([e1, e2 num text, e3 num text] ++ [e4] ++ [e5, e6 num text]) = (6, 0) := by
  have u2 : IntKind.u64.wrap 2 = 2 := by decide
  have u4 : IntKind.u64.wrap 4 = 4 := by decide
  have u0 : IntKind.u64.wrap 0 = 0 := by decide
  have u1 : IntKind.u64.wrap 1 = 1 := by decide
  have x1 : wrap64 1 = 1 := by decide +kernel
  simp [accP, accGo, wr_, tst, runT, vstep, ostep, nstep, astep, vbad, vnext, vmin, majorV, nkey, e1, e2, e3, e4, e5, e6, Ent.inst, Ent.out, Ent.dlv, Ent.v, Ent.m, v0, o0, t0, a0, noPc, upd, del, h30, h31, u0, u1, u2, u4, x1, plEq_self]

def ent0 : Value := .agg #[.int .i64 0, .bool false, .int .i64 0, .int .u64 0, .int .u64 0, .int .u64 0, .int .i64 0, .int .u64 0, .string ⟨#[]⟩]
theorem info42 : (Try.prog.info? 42).map (fun i => (i.zero, i.size, i.bytes)) = some (some ent0, 9, 80) := by kernel_rfl
theorem entA_one (e : Ent) : ∀ u ∈ (entA e).toList, u.oneCell' = true := by
  intro u hu
  simp [entA] at hu
  rcases hu with rfl | rfl | rfl | rfl | rfl | rfl | rfl | rfl | rfl <;> rfl
theorem esC_one (L : List Ent) : ∀ u ∈ esC L, u.oneCell' = true := by
  induction L with
  | nil => intro u hu; simp [esC] at hu
  | cons e L ih =>
    intro u hu
    rw [esC, List.mem_append] at hu
    rcases hu with hu | hu
    · exact entA_one e u hu
    · exact ih u hu
theorem IsEs.ofOwn {w : World} {base : Nat} {v : Value} {n : Nat} {L : List Ent} (hn : n = L.length ∧ L.length ≤ 17592186044416) (h : w.ownsRow base 42 9 v n (esC L)) : IsEs w v L := by
  obtain ⟨rfl, hl⟩ := hn
  rcases h.2 with ⟨rfl, h0⟩ | ⟨g, cap, cur, rfl, hb, hg, hn, hc, hs, ht⟩
  · exact ⟨none, 0, by rw [h0], by omega, hl, fun hp => by omega⟩
  · refine IsEs.of_cells hn hl fun k hk => ?_
    rw [← ht, List.getElem?_take_of_lt hk]
    simp [World.cell?, hg]
theorem grown_keep {base size n : Nat} {e : TypeId} {w w' : World} {v : Value} {xs : List Value} {o : Obj} (hg : (w.alloc o).grownBy w' v.ownBlock) (hown : w.ownsRow base e size v n xs) : Keep (fun k => base ≤ k) (w.alloc o) w' := by
  refine (Keep.refl _ _).grown hg fun k hk hlt => ?_
  rcases hown.2 with ⟨rfl, _⟩ | ⟨g, cap, cur, rfl, hb, _⟩
  · cases hk
  · injection hk with hk
    subst hk
    exact hb

set_option maxRecDepth 100000 in
set_option maxHeartbeats 1000000 in
theorem out_walk {w : World} (snd num : Int) (text : ByteArray) (out : Bool) :
    Calls Try.prog 6 #[.agg #[.int .i64 snd, .int .u64 num, .string text], .bool out] w fun r w' => r = .returned (.bool true) ∧ Keep (fun _ => False) w w' := by
  obtain ⟨i0, hi, hz0, hz1, hz2⟩ : ∃ i, Try.prog.info? 42 = some i ∧ i.zero = some ent0 ∧ i.size = 9 ∧ i.bytes = 80 := by
    have := info42
    cases h : Try.prog.info? 42 with
    | none => rw [h] at this; cases this
    | some i =>
      rw [h] at this
      simp only [Option.map_some, Option.some.injEq, Prod.mk.injEq] at this
      exact ⟨i, rfl, this⟩
  have Hi := Lib.hid hi
  have Hz0 := Lib.hid hz0
  have Hz1 := Lib.hid hz1
  have Hz2 := Lib.hid hz2
  clear hi hz0 hz1 hz2
  by_cases hb : 100 < text.size
  · have d1 : decide ((100 : Int) < (text.size : Int)) = true := decide_eq_true (by omega)
    have d2 : (100 : Int) < (text.size : Int) := by omega
    go_enter Try.func6, Try.ntmps6
    go_wp2_with fail
    refine (shown_any _).mono ?_
    rintro r w1 ⟨rfl, hk1⟩
    have HK := Lib.hid (((Keep.refl (fun _ => False) w).alloc _).step hk1)
    clear hk1
    go_wp2
    go_ret
    exact ⟨rfl, HK.out⟩
  · have d1 : decide ((100 : Int) < (text.size : Int)) = false := decide_eq_false (by omega)
    have d2 : ¬ (100 : Int) < (text.size : Int) := by omega
    clear hb
    go_enter Try.func6, Try.ntmps6
    go_wp2_with fail
    refine (shown_any _).mono ?_
    rintro r w1 ⟨rfl, hk1⟩
    have bm := hk1.old (heap_alloc_new w (.cells #[.int .i64 snd, .int .u64 num, .string text] 38)) (fun h => h)
    have fr : w1.frozen? ⟨w.heap.size, 0, none⟩ = false := by simp [World.frozen?, bm]
    have HK1 := Lib.hid (((Keep.refl (fun _ => False) w).alloc (.cells #[.int .i64 snd, .int .u64 num, .string text] 38)).step hk1)
    clear hk1
    have BM := Lib.hid bm
    have sz : w.heap.size < w1.heap.size := (Array.getElem?_eq_some_iff.1 bm).1
    obtain ⟨n0, n1, n2⟩ := mg_cells bm
    clear bm
    go_upto_region 3 with fail
    go_cut [] (fun wx => Keep (fun k => k = w.heap.size) w1 wx ∧ wx.heap[w.heap.size]? = some (.cells #[.int .i64 1, .int .u64 num, .string text] 38 (0, 0)))
    case first =>
      go_wp2_with fail
      go_meet
      exact ⟨(Keep.refl _ w1).setCell _ _ (fun _ => rfl), heap_setCell_at BM.out 0 _⟩
    case rest =>
    obtain ⟨kc, bm2⟩ := hcut
    obtain ⟨w2, hw2⟩ : ∃ w2, w2 = wc := ⟨_, rfl⟩
    rw [← hw2] at kc bm2 ⊢
    clear hw2 fr BM n0 n1 n2
    have HK2 : Hid (Keep (fun _ => False) w w2) := Lib.hid (HK1.out.trans kc (fun k hk hlt => by omega))
    have sz2 : w.heap.size < w2.heap.size := (Array.getElem?_eq_some_iff.1 bm2).1
    obtain ⟨m0, m1, m2⟩ := mg_cells bm2
    have BM2 := Lib.hid bm2
    clear kc bm2
    have m0a := fun o o' => (((Keep.refl (fun _ => False) w2).alloc o).alloc o').cell m0
    have m1a := fun o o' => (((Keep.refl (fun _ => False) w2).alloc o).alloc o').cell m1
    have m2a := fun o o' => (((Keep.refl (fun _ => False) w2).alloc o).alloc o').cell m2
    go_upto_region 6 with fail
    have q1 : Hid ((((w2.alloc (.cells #[.int .u64 1, .int .u64 3] 36)).alloc (.cells #[.int .u64 3, .int .u64 3] 36)).alloc (.cells (esC [e1, e2 num text, e3 num text]).toArray 42)).ownsRow w.heap.size 42 9 (.slice (some ⟨w2.heap.size + 1 + 1, 0, none⟩) 3 3) 3 (esC [e1, e2 num text, e3 num text])) := by
      refine Lib.hid ⟨by simp [esC_length], .inr ⟨w2.heap.size + 1 + 1, 3, (esC [e1, e2 num text, e3 num text]).toArray, rfl, by omega, ?_, by omega, by simp [maxLen], by simp [esC_length], ?_⟩⟩
      · have := heap_alloc_new ((w2.alloc (.cells #[.int .u64 1, .int .u64 3] 36)).alloc (.cells #[.int .u64 3, .int .u64 3] 36)) (.cells (esC [e1, e2 num text, e3 num text]).toArray 42)
        rwa [show ((w2.alloc (.cells #[.int .u64 1, .int .u64 3] 36)).alloc (.cells #[.int .u64 3, .int .u64 3] 36)).heap.size = w2.heap.size + 1 + 1 by simp] at this
      · exact List.take_of_length_le (by simp [esC_length])
    have q2 : Hid (((w2.alloc (.cells #[.int .u64 1, .int .u64 3] 36)).alloc (.cells #[.int .u64 3, .int .u64 3] 36)).heap[w2.heap.size]? = some (.cells #[.int .u64 1, .int .u64 3] 36 (0, 0))) := Lib.hid (((Keep.refl (fun _ => False) _).alloc _).old (heap_alloc_new w2 _) (fun h => h))
    have q3 : Hid (((w2.alloc (.cells #[.int .u64 1, .int .u64 3] 36)).alloc (.cells #[.int .u64 3, .int .u64 3] 36)).heap[w2.heap.size + 1]? = some (.cells #[.int .u64 3, .int .u64 3] 36 (0, 0))) := by
      have := heap_alloc_new (w2.alloc (.cells #[.int .u64 1, .int .u64 3] 36)) (.cells #[.int .u64 3, .int .u64 3] 36)
      rw [show (w2.alloc (.cells #[.int .u64 1, .int .u64 3] 36)).heap.size = w2.heap.size + 1 by simp] at this
      exact Lib.hid this
    go_cut [7] (fun v wx => ∃ g, v = .slice (some ⟨g, 0, none⟩) 3 3 ∧ Hid (wx.ownsRow w.heap.size 42 9 v 3 (esC [e1, e2 num text, e3 num text])) ∧ Hid (Keep (fun _ => False) w wx) ∧ Hid (wx.heap[w2.heap.size]? = some (.cells #[.int .u64 1, .int .u64 3] 36 (0, 0))) ∧ Hid (wx.heap[w2.heap.size + 1]? = some (.cells #[.int .u64 3, .int .u64 3] 36 (0, 0))) ∧ Hid (wx.heap[w.heap.size]? = some (.cells #[.int .i64 1, .int .u64 num, .string text] 38 (0, 0))))
    case first =>
      go_wp2_with fail
      go_meet
      exact ⟨_, rfl, q1, Lib.hid (((HK2.out.alloc _).alloc _).alloc _), Lib.hid (((Keep.refl (fun _ => False) _).alloc _).old q2.out (fun h => h)), Lib.hid (((Keep.refl (fun _ => False) _).alloc _).old q3.out (fun h => h)), Lib.hid ((((((Keep.refl (fun _ => False) w2).alloc _).alloc _).alloc _)).old BM2.out (fun h => h))⟩
    case rest =>
    obtain ⟨g, rfl, HOq, HKq, BVq, BWq, BMq⟩ := hcut
    obtain ⟨wq, hwq⟩ : ∃ wq, wq = wc := ⟨_, rfl⟩
    rw [← hwq] at HOq HKq BVq BWq BMq ⊢
    clear hwq m0a m1a m2a q1 q2 q3 m0 m1 m2 HK2 BM2
    obtain ⟨pv, hpv⟩ : ∃ p, p = w2.heap.size := ⟨_, rfl⟩
    obtain ⟨pw, hpw⟩ : ∃ p, p = w2.heap.size + 1 := ⟨_, rfl⟩
    rw [← hpv] at BVq
    rw [← hpw] at BWq
    have HPV : Hid (w.heap.size < pv ∧ w.heap.size < pw) := Lib.hid (by omega)
    cases out
    · subst hpv hpw
      have cv0 : wq.cell? ⟨w2.heap.size + 1, 0, none⟩ = some (.int .u64 3) := by have := BWq.out; simp [World.cell?, this]
      have cv1 : wq.cell? ⟨w2.heap.size + 1, 1, none⟩ = some (.int .u64 3) := by have := BWq.out; simp [World.cell?, this]
      obtain ⟨m0, m1, m2⟩ := mg_cells BMq.out
      go_wp2_with (at_builtin; refine wpList_append_own_at _ rfl _ _ 22 rfl w.heap.size 42 i0 ent0 9 80 Try.underlying22 Hi.out Hz0.out Hz1.out Hz2.out rfl (by decide) _ _ _ rfl (HOq.out.alloc _) ⟨wq.heap.size, 0, none⟩ 2 2 (esC [e5, e6 num text]) rfl rfl ?c13 ?c23 ?c33 ?c43 ?c53 ?_)
      case c13 => exact World.news_of_block (cs := (esC [e5, e6 num text]).toArray) (t := 42) (fr := (0, 0)) (heap_alloc_new wq _)
      case c23 => exact esC_one _
      case c33 => simp only [maxLen]; omega
      case c43 => omega
      case c53 => simp; have := HKq.out.size; omega
      intro v9 w9 hown9 hg9 _ _
      obtain ⟨A9, c9, rfl⟩ := own_shape hown9
      have kg9 : Keep (fun _ => False) w w9 := (HKq.out.alloc _).trans (grown_keep hg9 HOq.out) (fun k hk hlt => by omega)
      have HK9 := Lib.hid kg9
      have HE9 : Hid (IsEs w9 (.slice A9 5 c9) ([e1, e2 num text, e3 num text] ++ [e5, e6 num text])) := Lib.hid (IsEs.ofOwn (n := 5) (L := ([e1, e2 num text, e3 num text] ++ [e5, e6 num text])) (by simp) (by rw [esC_append]; exact hown9))
      clear hown9 hg9 kg9
      go_wp2_with fail
      refine (accept_any HE9.out).mono ?_
      rintro r wz ⟨rfl, hkz⟩
      rw [acc_in num text]
      have HKz := Lib.hid (HK9.out.step hkz)
      clear hkz
      go_wp2
      go_ret
      exact ⟨rfl, HKz.out⟩
    · have cv0 : wq.cell? ⟨w2.heap.size, 0, none⟩ = some (.int .u64 1) := by have := BVq.out; rw [hpv] at this; simp [World.cell?, this]
      have cv1 : wq.cell? ⟨w2.heap.size, 1, none⟩ = some (.int .u64 3) := by have := BVq.out; rw [hpv] at this; simp [World.cell?, this]
      subst hpv hpw
      go_wp2_with (at_builtin; refine wpList_append_own_at _ rfl _ _ 22 rfl w.heap.size 42 i0 ent0 9 80 Try.underlying22 Hi.out Hz0.out Hz1.out Hz2.out rfl (by decide) _ _ _ rfl (HOq.out.alloc _) ⟨wq.heap.size, 0, none⟩ 1 1 (esC [e4]) rfl rfl ?d1 ?d2 ?d3 ?d4 ?d5 ?_)
      case d1 => exact World.news_of_block (cs := (esC [e4]).toArray) (t := 42) (fr := (0, 0)) (heap_alloc_new wq _)
      case d2 => exact esC_one _
      case d3 => simp only [maxLen]; omega
      case d4 => omega
      case d5 => simp; have := HKq.out.size; omega
      intro v8 w8 hown8 hg8 _ _
      obtain ⟨A8, c8, rfl⟩ := own_shape hown8
      have hgb : w.heap.size ≤ g ∧ ∃ cur, wq.heap[g]? = some (.cells cur 42 (0, 0)) := by
        rcases HOq.out.2 with ⟨h, _⟩ | ⟨g', cap, cur, h, hb, hh, _⟩
        · cases h
        · injection h with h1
          injection h1 with h1
          injection h1 with h1
          subst h1
          exact ⟨hb, cur, hh⟩
      obtain ⟨hgb, cur, hcur⟩ := hgb
      have kg8 : Keep (fun k => k = g) (wq.alloc (.cells (esC [e4]).toArray 42)) w8 := (Keep.refl _ _).grown hg8 (fun k hk _ => by injection hk with hk; exact hk.symm)
      have nm : ¬ w.heap.size = g := fun h => by
        have := BMq.out
        rw [h, hcur] at this
        cases this
      have nw : ¬ w2.heap.size + 1 = g := fun h => by
        have := BWq.out
        rw [h, hcur] at this
        cases this
      have BW8 := Lib.hid (kg8.old (((Keep.refl (fun _ => False) wq).alloc _).old BWq.out (fun h => h)) nw)
      have BM8 := Lib.hid (kg8.old (((Keep.refl (fun _ => False) wq).alloc _).old BMq.out (fun h => h)) nm)
      have HK8 : Hid (Keep (fun _ => False) w w8) := Lib.hid ((HKq.out.alloc _).trans kg8 (fun k hk hlt => by omega))
      have HO8 : Hid (w8.ownsRow w.heap.size 42 9 (.slice A8 4 c8) 4 (esC ([e1, e2 num text, e3 num text] ++ [e4]))) := Lib.hid (by rw [esC_append]; exact hown8)
      clear hown8 hg8 kg8 nm nw hcur HOq BWq BVq BMq cv0 cv1 HKq
      have cv0 : w8.cell? ⟨w2.heap.size + 1, 0, none⟩ = some (.int .u64 3) := by have := BW8.out; simp [World.cell?, this]
      have cv1 : w8.cell? ⟨w2.heap.size + 1, 1, none⟩ = some (.int .u64 3) := by have := BW8.out; simp [World.cell?, this]
      obtain ⟨m0, m1, m2⟩ := mg_cells BM8.out
      go_wp2_with (at_builtin; refine wpList_append_own_at _ rfl _ _ 22 rfl w.heap.size 42 i0 ent0 9 80 Try.underlying22 Hi.out Hz0.out Hz1.out Hz2.out rfl (by decide) _ _ _ rfl (HO8.out.alloc _) ⟨w8.heap.size, 0, none⟩ 2 2 (esC [e5, e6 num text]) rfl rfl ?c14 ?c24 ?c34 ?c44 ?c54 ?_)
      case c14 => exact World.news_of_block (cs := (esC [e5, e6 num text]).toArray) (t := 42) (fr := (0, 0)) (heap_alloc_new w8 _)
      case c24 => exact esC_one _
      case c34 => simp only [maxLen]; omega
      case c44 => omega
      case c54 => simp; have := HK8.out.size; omega
      intro v9 w9 hown9 hg9 _ _
      obtain ⟨A9, c9, rfl⟩ := own_shape hown9
      have kg9 : Keep (fun _ => False) w w9 := (HK8.out.alloc _).trans (grown_keep hg9 HO8.out) (fun k hk hlt => by omega)
      have HK9 := Lib.hid kg9
      have HE9 : Hid (IsEs w9 (.slice A9 6 c9) (([e1, e2 num text, e3 num text] ++ [e4]) ++ [e5, e6 num text])) := Lib.hid (IsEs.ofOwn (n := 6) (L := (([e1, e2 num text, e3 num text] ++ [e4]) ++ [e5, e6 num text])) (by simp) (by rw [esC_append]; exact hown9))
      clear hown9 hg9 kg9
      go_wp2_with fail
      refine (accept_any HE9.out).mono ?_
      rintro r wz ⟨rfl, hkz⟩
      rw [acc_out num text]
      have HKz := Lib.hid (HK9.out.step hkz)
      clear hkz
      go_wp2
      go_ret
      exact ⟨rfl, HKz.out⟩

end Go.Proofs.Ytjihimapopbdpaa
