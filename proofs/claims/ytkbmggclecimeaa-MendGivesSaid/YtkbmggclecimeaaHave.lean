/- shelf.Have: the numbers that are there, as spans. -/
import Derived.Test.YtkbmggclecimeaaShelfTrims
import Derived.Test.YtkbmggclecimeaaSpanG
namespace Go.Proofs.Ytkbmggclecimeaa
open Go.RowKit Sh
set_option linter.unusedVariables false

theorem IsL.store {w : World} {v u x : Value} {l : List Sp} {g : Nat} {t : TypeId} (h : IsL w v l) (hg : w.heap[g]? = some (.cells #[x] t (0, 0))) (hx : ∃ A n c, x = .slice A n c) : IsL (w.setCell ⟨g, 0, none⟩ u) v l := by
  obtain ⟨A, c, h1, h2, h3, h4⟩ := h.ex
  refine ⟨A, c, h1, h2, h3, fun h0 => ?_⟩
  obtain ⟨b, o, e, hc⟩ := h4 h0
  have hne : b ≠ g := by
    rintro rfl
    obtain ⟨A', n', c', rfl⟩ := hx
    have h := (hc 0 h0).1
    simp only [Nat.zero_mul, Nat.add_zero, World.cell?, hg] at h
    cases o with
    | zero => simp at h
    | succ o => simp at h
  have hb : (w.setCell ⟨g, 0, none⟩ u).heap[b]? = w.heap[b]? := Below.heap_setCell _ _ _ _ hne
  exact ⟨b, o, e, fun i hi => ⟨(World.cell?_of_block hb).trans (hc i hi).1, (World.cell?_of_block hb).trans (hc i hi).2⟩⟩
theorem store_set {w : World} {v u x : Value} {K : Int → Bool} {g : Nat} {t : TypeId} (h : IsSet w v K) (hg : w.heap[g]? = some (.cells #[x] t (0, 0))) (hx : ∃ A n c, x = .slice A n c) : IsSet (w.setCell ⟨g, 0, none⟩ u) v K := by
  obtain ⟨l, h1, h2, h3, h4⟩ := h.ex
  exact ⟨l, h1.store hg hx, h2, h3, h4⟩
theorem shape_set {w : World} {v : Value} {K : Int → Bool} (h : IsSet w v K) : ∃ A n c, v = .slice A n c := by
  obtain ⟨l, h1, _⟩ := h.ex
  obtain ⟨A, c, rfl, _⟩ := h1.ex
  exact ⟨A, _, c, rfl⟩

set_option maxHeartbeats 1000000 in
theorem add58 {w : World} {g : Nat} {v : Value} {K : Int → Bool} (n : Int) (hb : w.heap[g]? = some (.cells #[v] 43 (0, 0))) (hs : IsSet w v K) (sK : Small K) (n0 : 0 ≤ n) (n1 : n < 256) :
    Calls Try.prog 58 #[.int .u64 n, .pointer (some ⟨g, 0, none⟩)] w fun e w' => e = .returned (.tuple #[]) ∧ (∃ v', w'.heap[g]? = some (.cells #[v'] 43 (0, 0)) ∧ IsSet w' v' (fun x => K x || decide (x = n))) ∧ Keep (fun k => k = g) w w' := by
  have HS := Lib.hid hs
  have SK := Lib.hid sK
  have HB := Lib.hid hb
  have hlt : g < w.heap.size := (Array.getElem?_eq_some_iff.1 hb).1
  have cB := cell_of_one hb
  have hx := shape_set hs
  clear hs sK hb
  go_enter Try.func58, Try.ntmps58
  go_wp2_with fail
  refine (add_set HS.out SK.out n n0 n1).mono ?_
  rintro e w1 ⟨⟨u, rfl, hu⟩, hk1⟩
  obtain ⟨Au, nu, cu, hue⟩ := shape_set hu
  subst hue
  have hb1 := hk1.old HB.out (fun h => h)
  have hs1 := store_set (u := .slice Au nu cu) hu hb1 hx
  have cB1 := cell_of_one hb1
  have fB1 := free_of_one hb1
  have hb2 : (w1.setCell ⟨g, 0, none⟩ (.slice Au nu cu)).heap[g]? = some (.cells #[.slice Au nu cu] 43 (0, 0)) := one_setCell hb1
  have hk2 : Keep (fun k => k = g) w (w1.setCell ⟨g, 0, none⟩ (.slice Au nu cu)) := (hk1.mono (fun i h _ => absurd h id)).setCell _ _ (fun _ => rfl)
  have HU := Lib.hid hs1
  have HB2 := Lib.hid hb2
  have HK2 := Lib.hid hk2
  clear hu hs1 hb1 hb2 hk2 hk1 cB
  go_wp2
  go_end0
  exact ⟨rfl, ⟨_, HB2.out, HU.out⟩, HK2.out⟩

theorem Sh.Keep.andStore {w a b : World} {g : Nat} (h : Keep (fun _ => False) w a) (k : Keep (fun i => i = g) a b) (hg : w.heap.size ≤ g) : Keep (fun _ => False) w b :=
  h.trans k (by rintro i rfl hi; omega)

set_option maxRecDepth 100000 in
set_option maxHeartbeats 2000000 in
theorem have_set (b : Nat) (st : St) (w : World) (h : IsShelf w b st) (ho : St.ok st) (hl : st.low = 0) :
    Calls Try.prog 43 #[.pointer (some ⟨b, 0, none⟩)] w fun e w' => (∃ v, e = .returned v ∧ IsSet w' v (fun x => decide (1 ≤ x ∧ x ≤ 64) && hasB st x)) ∧ Keep (fun _ => False) w w' := by
  have H := Lib.hid h
  have hc := h.low
  rw [hl] at hc
  have hbl := h.lt
  have HC : Hid (∀ W, Keep (fun _ => False) w W → W.cell? ⟨b, 256, none⟩ = some (.int .u64 0)) := fun W k => k.cell hc
  clear h hl hc
  have c0 := HC.out _ ((Keep.refl _ w).alloc (.cells #[.slice none 0 0] 43))
  go_enter Try.func43, Try.ntmps43
  go_wp2_with fail
  go_loopg [20] 64 (fun q v20 wr => ∃ (i : Nat) (v : Value), i + q = 64 ∧ v20 = .int .u64 i ∧ wr.heap[w.heap.size]? = some (.cells #[v] 43 (0, 0)) ∧ IsSet wr v (fun x => decide (1 ≤ x ∧ x ≤ i) && hasB st x) ∧ Keep (fun _ => False) w wr)
  case atStart => exact ⟨0, _, by omega, rfl, heap_alloc_new w _, (IsSet.empty _ none 0).of (fun x => by rw [decide_eq_false (by omega)]; rfl), (Keep.refl _ w).alloc _⟩
  case round =>
    obtain ⟨i, v, hq, rfl, hb, hs, hk⟩ := hrel
    have HB := Lib.hid hb
    have HS := Lib.hid hs
    have HK := Lib.hid hk
    have HQ := Lib.hid hq
    clear hb hs hk hq c0
    by_cases hlt : i < 64
    · have c0 := HC.out _ HK.out
      have e1 : IntKind.u64.wrap (1 + (i : Int)) = 1 + (i : Int) := by rw [IntKind.wrap_u64]; omega
      have e2 : IntKind.u64.wrap (i : Int) = (i : Int) := by rw [IntKind.wrap_u64]; omega
      go_wp2_with fail
      refine (has_st b st _ _ (H.out.keep HK.out id) ho (by omega) (by omega)).mono ?_
      rintro e w1 ⟨rfl, rfl⟩
      by_cases hh : hasB st (1 + (i : Int)) = true
      · rw [hh]
        go_wp2_with fail
        refine (add58 (1 + (i : Int)) HB.out HS.out (fun x hx => by simp at hx; omega) (by omega) (by omega)).mono ?_
        rintro e w2 ⟨rfl, ⟨u, hb2, hu⟩, hk2⟩
        have HB2 := Lib.hid hb2
        have HU := Lib.hid hu
        have HK2 := Lib.hid (HK.out.andStore hk2 (Nat.le_refl _))
        have HH := Lib.hid hh
        clear hb2 hu hk2 hh c0
        go_wp2
        go_roundg (64 - (i + 1))
        case measure => have := HQ.out; omega
        case rel => exact ⟨i + 1, u, by omega, by go_num, HB2.out, HU.out.of (fun x => by
          by_cases e : x = 1 + (i : Int)
          · subst e; rw [HH.out]; simp; omega
          · rw [decide_eq_false e, Bool.or_false]; congr 1; exact decide_eq_decide.2 (by omega)), HK2.out⟩
      · rw [Bool.not_eq_true] at hh
        rw [hh]
        have HH := Lib.hid hh
        clear hh c0
        go_wp2
        go_roundg (64 - (i + 1))
        case measure => have := HQ.out; omega
        case rel => exact ⟨i + 1, v, by omega, by go_num, HB.out, HS.out.of (fun x => by
          by_cases e : x = 1 + (i : Int)
          · subst e; rw [HH.out]; simp
          · congr 1; exact decide_eq_decide.2 (by omega)), HK.out⟩
    · obtain rfl : i = 64 := by have := HQ.out; omega
      have cB := cell_of_one HB.out
      have fB := free_of_one HB.out
      obtain ⟨Au, nu, cu, rfl⟩ := shape_set HS.out
      have HS2 := Lib.hid (store_set (u := .slice Au nu cu) HS.out HB.out ⟨_, _, _, rfl⟩)
      have HK2 := Lib.hid (HK.out.setCell ⟨w.heap.size, 0, none⟩ (.slice Au nu cu) (fun h => absurd h (Nat.lt_irrefl _)))
      have HB2 : Hid ((wr.setCell ⟨w.heap.size, 0, none⟩ (.slice Au nu cu)).heap[w.heap.size]? = some (.cells #[.slice Au nu cu] 43 (0, 0))) := one_setCell HB.out
      go_wp2
      have c9 := cell_of_one HB2.out
      exact bodyPost_ret (v := .slice Au nu cu) (by simp [results, Try.results43, go_sem, c9]) rfl ⟨⟨_, rfl, HS2.out⟩, HK2.out⟩

end Go.Proofs.Ytkbmggclecimeaa
