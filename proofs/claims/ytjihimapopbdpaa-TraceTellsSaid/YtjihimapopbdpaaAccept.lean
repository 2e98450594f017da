/- Accept. -/
import Derived.Test.YtjihimapopbdpaaTests
namespace Go.Proofs.Ytjihimapopbdpaa
open Go.RowKit Sh
open Go.ChangeMaps (setBlock)
set_option linter.unusedVariables false

def tst (j : Nat) (L : List Ent) : Int :=
  if j = 0 then runT vstep v0 L else if j = 1 then runT ostep o0 L else if j = 2 then runT nstep t0 L else runT astep a0 L
def wr_ (L : List Ent) : Int := if tst 0 L ≠ 0 then tst 0 L else if tst 1 L ≠ 0 then tst 1 L else if tst 2 L ≠ 0 then tst 2 L else tst 3 L
def accGo (L : List Ent) : Nat → Nat → Int × Int
  | _, 0 => (L.length, 0)
  | i, q + 1 => if wr_ (L.take i) = 0 then accGo L (i + 1) q else (i - 1, wr_ (L.take i))
def accP (L : List Ent) : Int × Int := accGo L 0 (L.length + 1)

theorem IsEs.take {w : World} {A : Option Addr} {n c : Nat} {L : List Ent} (h : IsEs w (.slice A n c) L) (i : Nat) (hi : i ≤ L.length) : IsEs w (.slice A i c) (L.take i) := by
  obtain ⟨A', c', e, h1, h2, h3⟩ := h.ex
  injection e with e1 e2 e3
  subst e1; subst e3
  refine ⟨A, c, by rw [List.length_take, Nat.min_eq_left hi], by rw [List.length_take]; omega, by rw [List.length_take]; omega, fun h0 => ?_⟩
  rw [List.length_take] at h0
  obtain ⟨g, o, e, hc⟩ := h3 (by omega)
  refine ⟨g, o, e, fun k hk j hj => ?_⟩
  rw [List.length_take] at hk
  rw [List.getElem_take]
  exact hc k (by omega) j hj
theorem wr_at {L : List Ent} {j : Nat} (hj : j < 4) (h : ∀ k, k < j → tst k L = 0) (hz : tst j L ≠ 0) : wr_ L = tst j L := by
  unfold wr_
  rcases j with _ | _ | _ | _ | j
  · rw [if_pos hz]
  · rw [if_neg (by rw [h 0 (by omega)]; simp), if_pos hz]
  · rw [if_neg (by rw [h 0 (by omega)]; simp), if_neg (by rw [h 1 (by omega)]; simp), if_pos hz]
  · rw [if_neg (by rw [h 0 (by omega)]; simp), if_neg (by rw [h 1 (by omega)]; simp), if_neg (by rw [h 2 (by omega)]; simp)]
  · omega
theorem wr_none {L : List Ent} (h : ∀ k, k < 4 → tst k L = 0) : wr_ L = 0 := by
  unfold wr_
  rw [if_neg (by rw [h 0 (by omega)]; simp), if_neg (by rw [h 1 (by omega)]; simp), if_neg (by rw [h 2 (by omega)]; simp), h 3 (by omega)]

theorem index4 (w : World) : ∀ k : Nat, k < 4 → (Instr.index 48 (.agg #[.func (.func 11) #[] #[], .func (.func 13) #[] #[], .func (.func 15) #[] #[], .func (.func 17) #[] #[]]) (.int .i64 k)).run Try.prog w = .ok (.func (.func (11 + 2 * k)) #[] #[]) w := by
  intro k hk
  obtain rfl | rfl | rfl | rfl : k = 0 ∨ k = 1 ∨ k = 2 ∨ k = 3 := by omega
  all_goals
    simp only [Instr.index]
    go_simp

set_option maxRecDepth 100000 in
set_option maxHeartbeats 1000000 in
theorem accept_any {w : World} {v : Value} {L : List Ent} (hL : IsEs w v L) :
    Calls Try.prog 9 #[v] w fun r w' => r = .returned (.tuple #[.int .i64 (accP L).1, .int .i64 (accP L).2]) ∧ Keep (fun _ => False) w w' := by
  have HL := Lib.hid hL
  obtain ⟨A, c, rfl, hc1, hc2, hA⟩ := hL.ex
  have hlen : L.length ≤ 17592186044416 := by omega
  have HC1 := Lib.hid hc1
  obtain ⟨wo, rfl⟩ : ∃ wo : World, wo = w := ⟨_, rfl⟩
  clear hL hA hc1
  have w1 : IntKind.i64.wrap ((L.length : Int) + 1) = (L.length : Int) + 1 := by rw [IntKind.wrap_i64]; omega
  have hsf : ∀ (a : Addr) (x : Fn) (y z : Array Value) (w : World), (store a (.func x y z) .plain).run Try.prog w = stored Try.prog w a (.func x y z) .plain := fun a x y z w => run_store Try.prog w a (.func x y z) .plain rfl
  go_enter Try.func9, Try.ntmps9
  have hBA : Hid ((wo.alloc (.cells #[.func (.func 11) #[] #[], .func (.func 13) #[] #[], .func (.func 15) #[] #[], .func (.func 17) #[] #[]] 48)).heap[wo.heap.size]? = some (.cells #[.func (.func 11) #[] #[], .func (.func 13) #[] #[], .func (.func 15) #[] #[], .func (.func 17) #[] #[]] 48 (0, 0))) := Lib.hid (heap_alloc_new wo _)
  have hK0 : Hid (Keep (fun _ => False) wo (wo.alloc (.cells #[.func (.func 11) #[] #[], .func (.func 13) #[] #[], .func (.func 15) #[] #[], .func (.func 17) #[] #[]] 48))) := Lib.hid ((Keep.refl _ wo).alloc _)
  go_wp2_with fail
  go_loopg [13] (L.length + 1) (fun q u wr => ∃ (i : Nat), i + q = L.length + 1 ∧ u = .int .i64 i ∧ Hid (Keep (fun _ => False) wo wr) ∧ Hid (wr.heap[wo.heap.size]? = some (.cells #[.func (.func 11) #[] #[], .func (.func 13) #[] #[], .func (.func 15) #[] #[], .func (.func 17) #[] #[]] 48 (0, 0))) ∧ Hid (accP L = accGo L i (L.length + 1 - i)))
  case atStart => exact ⟨0, by omega, rfl, hK0, hBA, Lib.hid rfl⟩
  case round =>
    obtain ⟨i, hq, rfl, HK, HB, HA⟩ := hrel
    have HQ := Lib.hid hq
    obtain ⟨wi, hwi⟩ : ∃ wi : World, wi = wr := ⟨_, rfl⟩
    rw [← hwi] at HK HB ⊢
    clear hwi hK0 hBA
    by_cases hlt : i < L.length + 1
    · obtain ⟨p, hp⟩ : ∃ p, L.length + 1 - i = p + 1 := ⟨L.length + 1 - i - 1, by omega⟩
      clear hq
      have d1 : decide ((i : Int) < (L.length : Int) + 1) = true := decide_eq_true (by omega)
      have d2 : (i : Int) < (L.length : Int) + 1 := by omega
      have b0 : wi.cell? ⟨wo.heap.size, 0, none⟩ = some (.func (.func 11) #[] #[]) := by have := HB.out; simp [World.cell?, this]
      have b1 : wi.cell? ⟨wo.heap.size, 1, none⟩ = some (.func (.func 13) #[] #[]) := by have := HB.out; simp [World.cell?, this]
      have b2 : wi.cell? ⟨wo.heap.size, 2, none⟩ = some (.func (.func 15) #[] #[]) := by have := HB.out; simp [World.cell?, this]
      have b3 : wi.cell? ⟨wo.heap.size, 3, none⟩ = some (.func (.func 17) #[] #[]) := by have := HB.out; simp [World.cell?, this]
      have HS : Hid (∀ w', Keep (fun _ => False) wo w' → IsEs w' (.slice A i c) (L.take i)) := Lib.hid (fun w' k => ((HL.out).keep k).take i (by omega))
      have HR : Hid (accP L = if wr_ (L.take i) = 0 then accGo L (i + 1) p else ((i : Int) - 1, wr_ (L.take i))) := Lib.hid (by rw [HA.out, hp, accGo])
      have x1 : (i : Int) ≤ (c : Int) := by have := HC1.out; omega
      have x2 : (0 : Int) ≤ (i : Int) := by omega
      clear HA
      go_wp2_with fail
      go_loopg [17] 4 (fun q2 u wr => ∃ (j : Nat), j + q2 = 4 ∧ u = .int .i64 j ∧ Hid (Keep (fun _ => False) wo wr) ∧ Hid (wr.heap[wo.heap.size]? = some (.cells #[.func (.func 11) #[] #[], .func (.func 13) #[] #[], .func (.func 15) #[] #[], .func (.func 17) #[] #[]] 48 (0, 0))) ∧ Hid (∀ k, k < j → tst k (L.take i) = 0))
      case atStart => exact ⟨0, by omega, rfl, HK, HB, Lib.hid (fun k hk => by omega)⟩
      case round =>
        obtain ⟨j, hq2, rfl, HK2, HB2, HZ⟩ := hrel
        clear b0 b1 b2 b3 HK HB
        have HQ2 := Lib.hid hq2
        clear hq2
        by_cases hj : j < 4
        · have ix := index4 wr j hj
          obtain rfl | rfl | rfl | rfl : j = 0 ∨ j = 1 ∨ j = 2 ∨ j = 3 := by omega
          · replace ix : (Instr.index 48 (.agg #[.func (.func 11) #[] #[], .func (.func 13) #[] #[], .func (.func 15) #[] #[], .func (.func 17) #[] #[]]) (.int .i64 0)).run Try.prog wr = .ok (.func (.func 11) #[] #[]) wr := ix
            go_wp2_with fail
            refine (views_any (HS.out _ HK2.out)).mono ?_
            rintro r w3 ⟨rfl, hk3⟩
            have HK3 := Lib.hid (HK2.out.step hk3)
            have HB3 := Lib.hid (hk3.old HB2.out (fun h => h))
            clear hk3
            obtain ⟨tv, htv⟩ : ∃ t, runT vstep v0 (L.take i) = t := ⟨_, rfl⟩
            rw [htv]
            have HT : Hid (tst 0 (L.take i) = tv) := Lib.hid htv
            clear htv HK2 HB2
            by_cases hz : tv = 0
            · subst hz
              go_wp2
              go_roundg (4 - (0 + 1))
              case measure => have := HQ2.out; omega
              case rel =>
                refine ⟨0 + 1, by omega, by rfl, HK3, HB3, Lib.hid (fun k hk => ?_)⟩
                by_cases e : k = 0
                · rw [e]; exact HT.out
                · exact HZ.out k (by omega)
            · have HW : Hid (wr_ (L.take i) = tv) := Lib.hid (by rw [wr_at (by omega) HZ.out (by rw [HT.out]; exact hz), HT.out])
              have HE : Hid (accP L = ((i : Int) - 1, tv)) := Lib.hid (by rw [HR.out, HW.out, if_neg hz])
              have hz1 : (tv == 0) = false := by simpa using hz
              have wm : IntKind.i64.wrap ((i : Int) - 1) = (i : Int) - 1 := by rw [IntKind.wrap_i64]; omega
              clear HT HW HZ
              go_wp2
              go_ret2
              rw [HE.out]
              exact ⟨rfl, HK3.out⟩
          · replace ix : (Instr.index 48 (.agg #[.func (.func 11) #[] #[], .func (.func 13) #[] #[], .func (.func 15) #[] #[], .func (.func 17) #[] #[]]) (.int .i64 1)).run Try.prog wr = .ok (.func (.func 13) #[] #[]) wr := ix
            go_wp2_with fail
            refine (order_any (HS.out _ HK2.out)).mono ?_
            rintro r w3 ⟨rfl, hk3⟩
            have HK3 := Lib.hid (HK2.out.step hk3)
            have HB3 := Lib.hid (hk3.old HB2.out (fun h => h))
            clear hk3
            obtain ⟨tv, htv⟩ : ∃ t, runT ostep o0 (L.take i) = t := ⟨_, rfl⟩
            rw [htv]
            have HT : Hid (tst 1 (L.take i) = tv) := Lib.hid htv
            clear htv HK2 HB2
            by_cases hz : tv = 0
            · subst hz
              go_wp2
              go_roundg (4 - (1 + 1))
              case measure => have := HQ2.out; omega
              case rel =>
                refine ⟨1 + 1, by omega, by rfl, HK3, HB3, Lib.hid (fun k hk => ?_)⟩
                by_cases e : k = 1
                · rw [e]; exact HT.out
                · exact HZ.out k (by omega)
            · have HW : Hid (wr_ (L.take i) = tv) := Lib.hid (by rw [wr_at (by omega) HZ.out (by rw [HT.out]; exact hz), HT.out])
              have HE : Hid (accP L = ((i : Int) - 1, tv)) := Lib.hid (by rw [HR.out, HW.out, if_neg hz])
              have hz1 : (tv == 0) = false := by simpa using hz
              have wm : IntKind.i64.wrap ((i : Int) - 1) = (i : Int) - 1 := by rw [IntKind.wrap_i64]; omega
              clear HT HW HZ
              go_wp2
              go_ret2
              rw [HE.out]
              exact ⟨rfl, HK3.out⟩
          · replace ix : (Instr.index 48 (.agg #[.func (.func 11) #[] #[], .func (.func 13) #[] #[], .func (.func 15) #[] #[], .func (.func 17) #[] #[]]) (.int .i64 2)).run Try.prog wr = .ok (.func (.func 15) #[] #[]) wr := ix
            go_wp2_with fail
            refine (once_any (HS.out _ HK2.out)).mono ?_
            rintro r w3 ⟨rfl, hk3⟩
            have HK3 := Lib.hid (HK2.out.step hk3)
            have HB3 := Lib.hid (hk3.old HB2.out (fun h => h))
            clear hk3
            obtain ⟨tv, htv⟩ : ∃ t, runT nstep t0 (L.take i) = t := ⟨_, rfl⟩
            rw [htv]
            have HT : Hid (tst 2 (L.take i) = tv) := Lib.hid htv
            clear htv HK2 HB2
            by_cases hz : tv = 0
            · subst hz
              go_wp2
              go_roundg (4 - (2 + 1))
              case measure => have := HQ2.out; omega
              case rel =>
                refine ⟨2 + 1, by omega, by rfl, HK3, HB3, Lib.hid (fun k hk => ?_)⟩
                by_cases e : k = 2
                · rw [e]; exact HT.out
                · exact HZ.out k (by omega)
            · have HW : Hid (wr_ (L.take i) = tv) := Lib.hid (by rw [wr_at (by omega) HZ.out (by rw [HT.out]; exact hz), HT.out])
              have HE : Hid (accP L = ((i : Int) - 1, tv)) := Lib.hid (by rw [HR.out, HW.out, if_neg hz])
              have hz1 : (tv == 0) = false := by simpa using hz
              have wm : IntKind.i64.wrap ((i : Int) - 1) = (i : Int) - 1 := by rw [IntKind.wrap_i64]; omega
              clear HT HW HZ
              go_wp2
              go_ret2
              rw [HE.out]
              exact ⟨rfl, HK3.out⟩
          · replace ix : (Instr.index 48 (.agg #[.func (.func 11) #[] #[], .func (.func 13) #[] #[], .func (.func 15) #[] #[], .func (.func 17) #[] #[]]) (.int .i64 3)).run Try.prog wr = .ok (.func (.func 17) #[] #[]) wr := ix
            go_wp2_with fail
            refine (alike_any (HS.out _ HK2.out)).mono ?_
            rintro r w3 ⟨rfl, hk3⟩
            have HK3 := Lib.hid (HK2.out.step hk3)
            have HB3 := Lib.hid (hk3.old HB2.out (fun h => h))
            clear hk3
            obtain ⟨tv, htv⟩ : ∃ t, runT astep a0 (L.take i) = t := ⟨_, rfl⟩
            rw [htv]
            have HT : Hid (tst 3 (L.take i) = tv) := Lib.hid htv
            clear htv HK2 HB2
            by_cases hz : tv = 0
            · subst hz
              go_wp2
              go_roundg (4 - (3 + 1))
              case measure => have := HQ2.out; omega
              case rel =>
                refine ⟨3 + 1, by omega, by rfl, HK3, HB3, Lib.hid (fun k hk => ?_)⟩
                by_cases e : k = 3
                · rw [e]; exact HT.out
                · exact HZ.out k (by omega)
            · have HW : Hid (wr_ (L.take i) = tv) := Lib.hid (by rw [wr_at (by omega) HZ.out (by rw [HT.out]; exact hz), HT.out])
              have HE : Hid (accP L = ((i : Int) - 1, tv)) := Lib.hid (by rw [HR.out, HW.out, if_neg hz])
              have hz1 : (tv == 0) = false := by simpa using hz
              have wm : IntKind.i64.wrap ((i : Int) - 1) = (i : Int) - 1 := by rw [IntKind.wrap_i64]; omega
              clear HT HW HZ
              go_wp2
              go_ret2
              rw [HE.out]
              exact ⟨rfl, HK3.out⟩
        · have dj : decide ((j : Int) < 4) = false := decide_eq_false (by omega)
          have dj2 : ¬ (j : Int) < 4 := by omega
          have HE : Hid (accP L = accGo L (i + 1) p) := Lib.hid (by rw [HR.out, if_pos (wr_none (fun k hk => HZ.out k (by omega)))])
          have w2 : IntKind.i64.wrap ((i : Int) + 1) = (i : Int) + 1 := by rw [IntKind.wrap_i64]; omega
          clear HZ
          go_wp2
          go_roundg (L.length + 1 - (i + 1))
          case measure => have := HQ.out; omega
          case rel => exact ⟨i + 1, by omega, by go_num, HK2, HB2, Lib.hid (by rw [HE.out]; congr 1; omega)⟩
    · have d1 : decide ((i : Int) < (L.length : Int) + 1) = false := decide_eq_false (by omega)
      have d2 : ¬ (i : Int) < (L.length : Int) + 1 := by omega
      have HE : Hid (accP L = ((L.length : Int), 0)) := Lib.hid (by rw [HA.out, show L.length + 1 - i = 0 by omega, accGo])
      clear hq
      go_wp2
      go_ret2
      rw [HE.out]
      exact ⟨rfl, HK.out⟩

end Go.Proofs.Ytjihimapopbdpaa
