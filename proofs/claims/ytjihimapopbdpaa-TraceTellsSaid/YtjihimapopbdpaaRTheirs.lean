/- The law's own turning of entries into the document's (theirs). -/
import Derived.Test.YtjihimapopbdpaaRComm
import Derived.Test.YtjihimapopbdpaaOutW
namespace Go.Proofs.Ytjihimapopbdpaa
open Go.RowKit Sh
open Go.ChangeMaps (setBlock)
set_option linter.unusedVariables false

theorem info47 : (Try.prog.info? 47).map (fun i => (i.zero, i.size, i.bytes)) = some (some ent0, 9, 80) := by kernel_rfl
theorem isEs_own {w : World} {base : Nat} {v : Value} {n : Nat} {L : List Ent} (hn : n = L.length ∧ L.length ≤ 17592186044416) (h : w.ownsRow base 47 9 v n (esC L)) : IsEs w v L := by
  obtain ⟨rfl, hl⟩ := hn
  rcases h.2 with ⟨rfl, h0⟩ | ⟨g, cap, cur, rfl, hb, hg, hn, hc, hs, ht⟩
  · exact ⟨none, 0, by rw [h0], by omega, hl, fun hp => by omega⟩
  · refine IsEs.of_cells hn hl fun k hk => ?_
    rw [← ht, List.getElem?_take_of_lt hk]
    simp [World.cell?, hg]
theorem esC_len1 (e : Ent) : (esC [e]).length = 1 * 9 := by rw [esC_length]; rfl
theorem take_snoc9 (L : List Ent) (k : Nat) (h : k < L.length) : L.take (k + 1) = L.take k ++ [L.getD k default] := by
  rw [List.take_succ_eq_append_getElem h]
  simp [h]
set_option maxRecDepth 100000 in
set_option maxHeartbeats 4000000 in
theorem theirs_any {w : World} {v : Value} {L : List Ent} (hL : IsEs w v L) (hle : L.length ≤ 1000) :
    Calls Try.prog 8 #[v] w fun r w' => ∃ u, r = .returned u ∧ IsEs w' u L ∧ Keep (fun _ => False) w w' := by
  obtain ⟨i0, hi, hi2⟩ : ∃ i0, Try.prog.info? 47 = some i0 ∧ (i0.zero, i0.size, i0.bytes) = (some ent0, 9, 80) := by
    have := info47
    rw [Option.map_eq_some_iff] at this
    exact this
  simp only [Prod.mk.injEq] at hi2
  obtain ⟨hz0, hz1, hz2⟩ := hi2
  have Hi := Lib.hid hi
  have Hz0 := Lib.hid hz0
  have Hz1 := Lib.hid hz1
  have Hz2 := Lib.hid hz2
  obtain ⟨A, c, rfl, hc1, _, hA⟩ := hL.ex
  have HL := Lib.hid hL
  clear hL hc1 hA hi hz0 hz1 hz2
  go_enter Try.func8, Try.ntmps8
  go_wp2_with fail
  go_loopg [3, 4] L.length (fun q v3 v4 wr => ∃ (k : Nat), k + q = L.length ∧ v4 = .int .i64 k ∧ wr.ownsRow w.heap.size 47 9 v3 k (esC (L.take k)) ∧ Keep (fun _ => False) w wr)
  case atStart =>
    exact ⟨0, by omega, rfl, World.ownsRow_lit w #[] 0 (Nat.le_refl _) (by simp [maxLen]) rfl, (Keep.refl _ w).alloc _⟩
  case round =>
    obtain ⟨k, hq, rfl, ho, hK⟩ := hrel
    obtain ⟨A3, c3', rfl⟩ := own_shape ho
    have HQ := Lib.hid hq
    have HO := Lib.hid ho
    have HK := Lib.hid hK
    clear hq ho hK
    by_cases hlt : k < L.length
    · obtain ⟨g, o, c', hform, hcc⟩ := HL.out.form (by omega)
      injection hform with e1 e2 e3
      subst e1; subst e3
      clear e2 hcc
      have k2 : (k : Int) < (L.length : Int) := by omega
      have d0 : decide ((k : Int) < (L.length : Int)) = true := decide_eq_true k2
      have k0 : (0 : Int) ≤ (k : Int) := by omega
      have wk1 : IntKind.i64.wrap ((k : Int) + 1) = (k : Int) + 1 := IntWalk.i64_in _ (by omega)
      have HE := Lib.hid ((HL.out.keep HK.out).ec k hlt)
      have HT := Lib.hid (take_snoc9 L k hlt)
      have HEC := Lib.hid (fun W (hW : Keep (fun _ => False) w W) => (HL.out.keep hW).ec k hlt)
      generalize L.getD k default = e at HE HT HEC
      have hlen : k ≤ 1000 := by omega
      go_upto_region 5 with fail
      have c0 := HE.out.c0
      have c1 := HE.out.c1
      have c2 := HE.out.c2
      have c3 := HE.out.c3
      have c4 := HE.out.c4
      have c5 := HE.out.c5
      have c6 := HE.out.c6
      have c7 := HE.out.c7
      have c8 := HE.out.c8
      have HOd : Hid ((wr.alloc (.cells (entA e) 47)).drew.ownsRow w.heap.size 47 9 (.slice A3 k c3') k (esC (L.take k))) := HO.out.alloc _
      have HKd : Hid (Keep (fun _ => False) w (wr.alloc (.cells (entA e) 47)).drew) := (HK.out.alloc _).drew
      simp only [entA] at HOd HKd
      go_region_held3 (fun W => W.cell? ⟨g, o + k * 9, none⟩ = some (.int .i64 e.node) ∧ W.cell? ⟨g, o + k * 9 + 1, none⟩ = some (.bool e.sent) ∧ W.cell? ⟨g, o + k * 9 + 2, none⟩ = some (.int .i64 e.kind) ∧ W.cell? ⟨g, o + k * 9 + 3, none⟩ = some (.int .u64 e.id) ∧ W.cell? ⟨g, o + k * 9 + 4, none⟩ = some (.int .u64 e.mem) ∧ W.cell? ⟨g, o + k * 9 + 5, none⟩ = some (.int .u64 e.n) ∧ W.cell? ⟨g, o + k * 9 + 6, none⟩ = some (.int .i64 e.snd) ∧ W.cell? ⟨g, o + k * 9 + 7, none⟩ = some (.int .u64 e.num) ∧ W.cell? ⟨g, o + k * 9 + 8, none⟩ = some (.string e.text)) (go_keep)
        (first | (refine step_append_own (by rfl) _ _ _ (by rfl) w.heap.size 47 i0 ent0 9 80 Try.underlying24 Hi.out Hz0.out Hz1.out Hz2.out rfl (by decide) (.slice A3 k c3') k (esC (L.take k)) (by rfl) HOd.out ⟨wr.heap.size, 0, none⟩ 1 1 (esC [e]) (by rfl) (esC_len1 e) (World.news_of_block (cs := (entA e)) (t := 47) (fr := (0, 0)) (heap_alloc_new wr _)) (esC_one _) (by simp only [maxLen]; omega) (by omega) (by have := HK.out.size; simp; omega) ?_; intro v6 w6 hown6 hg6; have hk6 : Keep (fun _ => False) w w6 := HKd.out.grown hg6 (fun j hj hlt => by have := (HOd.out.lt j hj).1; omega); have hec := HEC.out w6 hk6; have j0 := hec.c0; have j1 := hec.c1; have j2 := hec.c2; have j3 := hec.c3; have j4 := hec.c4; have j5 := hec.c5; have j6 := hec.c6; have j7 := hec.c7; have j8 := hec.c8))
      have hown7 : w6.ownsRow w.heap.size 47 9 v6 (k + 1) (esC (L.take (k + 1))) := by rw [HT.out, esC_append]; exact hown6
      have HO7 := Lib.hid hown7
      have HK6 := Lib.hid hk6
      clear hown6 hown7 hk6 hg6 hec j0 j1 j2 j3 j4 j5 j6 j7 j8
      go_wp2
      go_roundg (L.length - (k + 1))
      case measure => have := HQ.out; omega
      case rel => exact ⟨k + 1, by omega, by go_num, HO7.out, HK6.out⟩
    · have hk : k = L.length := by have := HQ.out; omega
      subst hk
      have d0 : decide ((L.length : Int) < (L.length : Int)) = false := decide_eq_false (by omega)
      have HF : Hid (IsEs wr (.slice A3 L.length c3') L) := Lib.hid (by
        have := HO.out
        rw [List.take_length] at this
        exact isEs_own ⟨rfl, by omega⟩ this)
      go_wp2_with fail
      go_ret
      exact ⟨_, rfl, HF.out, HK.out⟩
end Go.Proofs.Ytjihimapopbdpaa
