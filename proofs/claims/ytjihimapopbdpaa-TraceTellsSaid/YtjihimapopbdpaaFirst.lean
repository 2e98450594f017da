/- Rows of entries; the function first, with each of the four tests. -/
import Derived.Test.YtjihimapopbdpaaAlike
namespace Go.Proofs.Ytjihimapopbdpaa
open Go.RowKit Sh
open Go.ChangeMaps (setBlock)
set_option linter.unusedVariables false

/-- A slice of entries, as it lies in memory. -/
structure IsEs (w : World) (v : Value) (L : List Ent) : Prop where
  ex : ∃ A c, v = .slice A L.length c ∧ L.length ≤ c ∧ L.length ≤ 17592186044416 ∧ (0 < L.length → ∃ g o, A = some ⟨g, o, none⟩ ∧ ∀ i (h : i < L.length), ∀ j, j < 9 → w.cell? ⟨g, o + i * 9 + j, none⟩ = (entA L[i])[j]?)
theorem IsEs.keep {w w' : World} {v : Value} {L : List Ent} (h : IsEs w v L) (k : Keep (fun _ => False) w w') : IsEs w' v L := by
  obtain ⟨A, c, h1, h2, h3, h4⟩ := h.ex
  refine ⟨A, c, h1, h2, h3, fun h0 => ?_⟩
  obtain ⟨g, o, e, hc⟩ := h4 h0
  refine ⟨g, o, e, fun i hi j hj => ?_⟩
  have := hc i hi j hj
  rw [← this]
  obtain ⟨v, hv⟩ : ∃ v, (entA L[i])[j]? = some v := by
    have : j < (entA L[i]).size := by simpa [entA] using hj
    exact ⟨_, Array.getElem?_eq_getElem this⟩
  rw [hv] at this
  rw [this]
  exact k.cell this

def runT {St : Type} (step : St → Ent → Int × St) : St → List Ent → Int
  | _, [] => 0
  | σ, e :: L => if (step σ e).1 = 0 then runT step (step σ e).2 L else (step σ e).1

theorem drop_cons {L : List Ent} {i : Nat} (h : i < L.length) : L.drop i = L[i] :: L.drop (i + 1) := List.drop_eq_getElem_cons h

set_option maxHeartbeats 1000000 in
theorem first_23 {St : Type} (I : World → St → Prop) (step : St → Ent → Int × St) (S : Nat → Prop) (w0 : World) (pa pb pc : Value)
    (hI : ∀ w w' σ, I w σ → Keep (fun _ => False) w w' → I w' σ) (hS : ∀ k, S k → w0.heap.size ≤ k)
    (hstep : ∀ w σ e, I w σ → Calls Try.prog 23 #[entV e, pa, pb, pc] w fun r w' => r = .returned (.int .i64 (step σ e).1) ∧ ((step σ e).1 = 0 → I w' (step σ e).2) ∧ Keep S w w')
    {v : Value} {L : List Ent} (hL : IsEs w0 v L) {σ0 : St} {w : World} (hk : Keep (fun _ => False) w0 w) (h : I w σ0) :
    Calls Try.prog 22 #[v, .func (.func 23) #[] #[pa, pb, pc]] w fun r w' => r = .returned (.int .i64 (runT step σ0 L)) ∧ Keep (fun _ => False) w0 w' := by
  have HL := Lib.hid hL
  have HI := Lib.hid hI
  have HS := Lib.hid hS
  have HST := Lib.hid hstep
  obtain ⟨A, c, rfl, hc1, hc2, hA⟩ := hL.ex
  have HA := Lib.hid hA
  have HK0 := Lib.hid hk
  have H0 := Lib.hid h
  have hlen : L.length ≤ 17592186044416 := by omega
  obtain ⟨wo, rfl⟩ : ∃ wo : World, wo = w := ⟨_, rfl⟩
  clear hL hI hS hstep hA hk h hc1 hc2
  go_enter Try.func22, Try.ntmps22
  go_wp2_with fail
  go_loopg [10] L.length (fun q u wr => ∃ (i : Nat) (σ : St), i + q = L.length ∧ u = .int .i64 i ∧ Hid (I wr σ) ∧ Hid (Keep (fun _ => False) w0 wr) ∧ Hid (runT step σ0 L = runT step σ (L.drop i)))
  case atStart => exact ⟨0, σ0, by omega, rfl, H0, HK0, Lib.hid (by rw [List.drop_zero])⟩
  case round =>
    obtain ⟨i, σ, hq, rfl, HR, HK, HV⟩ := hrel
    have HQ := Lib.hid hq
    by_cases hlt : i < L.length
    · clear hq
      obtain ⟨g, o, rfl, hcell⟩ := HA.out (by omega)
      have hE : ∀ j, j < 9 → wr.cell? ⟨g, o + i * 9 + j, none⟩ = (entA L[i])[j]? := by
        obtain ⟨A', c', e', _, _, h4⟩ := (HL.out.keep HK.out).ex
        obtain ⟨g', o', e2, h5⟩ := h4 (by omega)
        injection e' with e1
        rw [e2] at e1
        injection e1 with e1
        injection e1 with e1 e3
        subst e1; subst e3
        exact h5 i hlt
      have HC := Lib.hid (HST.out · σ L[i])
      have HD : Hid (runT step σ0 L = if (step σ L[i]).1 = 0 then runT step (step σ L[i]).2 (L.drop (i + 1)) else (step σ L[i]).1) := Lib.hid (by rw [HV.out, drop_cons hlt, runT])
      clear HV hcell
      generalize L[i] = e at hE HC HD
      obtain ⟨nd, st, kd, eid, mem, n, snd, num, text⟩ := e
      have e0 : wr.cell? ⟨g, o + i * 9, none⟩ = some (.int .i64 nd) := hE 0 (by omega)
      have e1 : wr.cell? ⟨g, o + i * 9 + 1, none⟩ = some (.bool st) := hE 1 (by omega)
      have e2 : wr.cell? ⟨g, o + i * 9 + 2, none⟩ = some (.int .i64 kd) := hE 2 (by omega)
      have e3 : wr.cell? ⟨g, o + i * 9 + 3, none⟩ = some (.int .u64 eid) := hE 3 (by omega)
      have e4 : wr.cell? ⟨g, o + i * 9 + 4, none⟩ = some (.int .u64 mem) := hE 4 (by omega)
      have e5 : wr.cell? ⟨g, o + i * 9 + 5, none⟩ = some (.int .u64 n) := hE 5 (by omega)
      have e6 : wr.cell? ⟨g, o + i * 9 + 6, none⟩ = some (.int .i64 snd) := hE 6 (by omega)
      have e7 : wr.cell? ⟨g, o + i * 9 + 7, none⟩ = some (.int .u64 num) := hE 7 (by omega)
      have e8 : wr.cell? ⟨g, o + i * 9 + 8, none⟩ = some (.string text) := hE 8 (by omega)
      clear hE
      have d1 : decide ((i : Int) < (L.length : Int)) = true := decide_eq_true (by omega)
      have d2 : (i : Int) < (L.length : Int) := by omega
      have d3 : (0 : Int) ≤ (i : Int) := by omega
      go_wp2_with fail
      simp only [entV, entA] at HC
      refine (HC.out _ (HI.out _ _ _ HR.out ((Keep.refl _ wr).alloc _))).mono ?_
      rintro r w1 ⟨rfl, hn, hk⟩
      have HN := Lib.hid hn
      have HK1 : Hid (Keep (fun _ => False) w0 w1) := Lib.hid ((HK.out.alloc _).trans hk (fun k hk hlt => by have := HS.out k hk; omega))
      clear hn hk HC
      by_cases hz : (step σ ⟨nd, st, kd, eid, mem, n, snd, num, text⟩).1 = 0
      · have HN2 := Lib.hid (HN.out hz)
        have hd := HD.out
        rw [if_pos hz] at hd
        have HD2 := Lib.hid hd
        rw [hz]
        clear HN HD hd hz
        have w1i : IntKind.i64.wrap ((i : Int) + 1) = (i : Int) + 1 := by rw [IntKind.wrap_i64]; omega
        go_wp2
        go_roundg (L.length - (i + 1))
        case measure => have := HQ.out; omega
        case rel => exact ⟨i + 1, (step σ ⟨nd, st, kd, eid, mem, n, snd, num, text⟩).2, by omega, by go_num, HN2, HK1, HD2⟩
      · have hd := HD.out
        rw [if_neg hz] at hd
        have HD2 := Lib.hid hd
        have hz1 : ((step σ ⟨nd, st, kd, eid, mem, n, snd, num, text⟩).1 == 0) = false := by simpa using hz
        clear HN HD hd
        go_wp2
        go_ret
        exact ⟨by rw [HD2.out]; rfl, HK1.out⟩
    · have d1 : decide ((i : Int) < (L.length : Int)) = false := decide_eq_false (by omega)
      have d2 : ¬ (i : Int) < (L.length : Int) := by omega
      have hv := HV.out
      rw [List.drop_eq_nil_of_le (by omega), runT] at hv
      have HV2 := Lib.hid hv
      clear hv hq
      go_wp2
      go_ret
      exact ⟨by rw [HV2.out]; rfl, HK.out⟩

set_option maxHeartbeats 1000000 in
theorem first_27 {St : Type} (I : World → St → Prop) (step : St → Ent → Int × St) (S : Nat → Prop) (w0 : World) (pa pb : Value)
    (hI : ∀ w w' σ, I w σ → Keep (fun _ => False) w w' → I w' σ) (hS : ∀ k, S k → w0.heap.size ≤ k)
    (hstep : ∀ w σ e, I w σ → Calls Try.prog 27 #[entV e, pa, pb] w fun r w' => r = .returned (.int .i64 (step σ e).1) ∧ ((step σ e).1 = 0 → I w' (step σ e).2) ∧ Keep S w w')
    {v : Value} {L : List Ent} (hL : IsEs w0 v L) {σ0 : St} {w : World} (hk : Keep (fun _ => False) w0 w) (h : I w σ0) :
    Calls Try.prog 22 #[v, .func (.func 27) #[] #[pa, pb]] w fun r w' => r = .returned (.int .i64 (runT step σ0 L)) ∧ Keep (fun _ => False) w0 w' := by
  have HL := Lib.hid hL
  have HI := Lib.hid hI
  have HS := Lib.hid hS
  have HST := Lib.hid hstep
  obtain ⟨A, c, rfl, hc1, hc2, hA⟩ := hL.ex
  have HA := Lib.hid hA
  have HK0 := Lib.hid hk
  have H0 := Lib.hid h
  have hlen : L.length ≤ 17592186044416 := by omega
  obtain ⟨wo, rfl⟩ : ∃ wo : World, wo = w := ⟨_, rfl⟩
  clear hL hI hS hstep hA hk h hc1 hc2
  go_enter Try.func22, Try.ntmps22
  go_wp2_with fail
  go_loopg [10] L.length (fun q u wr => ∃ (i : Nat) (σ : St), i + q = L.length ∧ u = .int .i64 i ∧ Hid (I wr σ) ∧ Hid (Keep (fun _ => False) w0 wr) ∧ Hid (runT step σ0 L = runT step σ (L.drop i)))
  case atStart => exact ⟨0, σ0, by omega, rfl, H0, HK0, Lib.hid (by rw [List.drop_zero])⟩
  case round =>
    obtain ⟨i, σ, hq, rfl, HR, HK, HV⟩ := hrel
    have HQ := Lib.hid hq
    by_cases hlt : i < L.length
    · clear hq
      obtain ⟨g, o, rfl, hcell⟩ := HA.out (by omega)
      have hE : ∀ j, j < 9 → wr.cell? ⟨g, o + i * 9 + j, none⟩ = (entA L[i])[j]? := by
        obtain ⟨A', c', e', _, _, h4⟩ := (HL.out.keep HK.out).ex
        obtain ⟨g', o', e2, h5⟩ := h4 (by omega)
        injection e' with e1
        rw [e2] at e1
        injection e1 with e1
        injection e1 with e1 e3
        subst e1; subst e3
        exact h5 i hlt
      have HC := Lib.hid (HST.out · σ L[i])
      have HD : Hid (runT step σ0 L = if (step σ L[i]).1 = 0 then runT step (step σ L[i]).2 (L.drop (i + 1)) else (step σ L[i]).1) := Lib.hid (by rw [HV.out, drop_cons hlt, runT])
      clear HV hcell
      generalize L[i] = e at hE HC HD
      obtain ⟨nd, st, kd, eid, mem, n, snd, num, text⟩ := e
      have e0 : wr.cell? ⟨g, o + i * 9, none⟩ = some (.int .i64 nd) := hE 0 (by omega)
      have e1 : wr.cell? ⟨g, o + i * 9 + 1, none⟩ = some (.bool st) := hE 1 (by omega)
      have e2 : wr.cell? ⟨g, o + i * 9 + 2, none⟩ = some (.int .i64 kd) := hE 2 (by omega)
      have e3 : wr.cell? ⟨g, o + i * 9 + 3, none⟩ = some (.int .u64 eid) := hE 3 (by omega)
      have e4 : wr.cell? ⟨g, o + i * 9 + 4, none⟩ = some (.int .u64 mem) := hE 4 (by omega)
      have e5 : wr.cell? ⟨g, o + i * 9 + 5, none⟩ = some (.int .u64 n) := hE 5 (by omega)
      have e6 : wr.cell? ⟨g, o + i * 9 + 6, none⟩ = some (.int .i64 snd) := hE 6 (by omega)
      have e7 : wr.cell? ⟨g, o + i * 9 + 7, none⟩ = some (.int .u64 num) := hE 7 (by omega)
      have e8 : wr.cell? ⟨g, o + i * 9 + 8, none⟩ = some (.string text) := hE 8 (by omega)
      clear hE
      have d1 : decide ((i : Int) < (L.length : Int)) = true := decide_eq_true (by omega)
      have d2 : (i : Int) < (L.length : Int) := by omega
      have d3 : (0 : Int) ≤ (i : Int) := by omega
      go_wp2_with fail
      simp only [entV, entA] at HC
      refine (HC.out _ (HI.out _ _ _ HR.out ((Keep.refl _ wr).alloc _))).mono ?_
      rintro r w1 ⟨rfl, hn, hk⟩
      have HN := Lib.hid hn
      have HK1 : Hid (Keep (fun _ => False) w0 w1) := Lib.hid ((HK.out.alloc _).trans hk (fun k hk hlt => by have := HS.out k hk; omega))
      clear hn hk HC
      by_cases hz : (step σ ⟨nd, st, kd, eid, mem, n, snd, num, text⟩).1 = 0
      · have HN2 := Lib.hid (HN.out hz)
        have hd := HD.out
        rw [if_pos hz] at hd
        have HD2 := Lib.hid hd
        rw [hz]
        clear HN HD hd hz
        have w1i : IntKind.i64.wrap ((i : Int) + 1) = (i : Int) + 1 := by rw [IntKind.wrap_i64]; omega
        go_wp2
        go_roundg (L.length - (i + 1))
        case measure => have := HQ.out; omega
        case rel => exact ⟨i + 1, (step σ ⟨nd, st, kd, eid, mem, n, snd, num, text⟩).2, by omega, by go_num, HN2, HK1, HD2⟩
      · have hd := HD.out
        rw [if_neg hz] at hd
        have HD2 := Lib.hid hd
        have hz1 : ((step σ ⟨nd, st, kd, eid, mem, n, snd, num, text⟩).1 == 0) = false := by simpa using hz
        clear HN HD hd
        go_wp2
        go_ret
        exact ⟨by rw [HD2.out]; rfl, HK1.out⟩
    · have d1 : decide ((i : Int) < (L.length : Int)) = false := decide_eq_false (by omega)
      have d2 : ¬ (i : Int) < (L.length : Int) := by omega
      have hv := HV.out
      rw [List.drop_eq_nil_of_le (by omega), runT] at hv
      have HV2 := Lib.hid hv
      clear hv hq
      go_wp2
      go_ret
      exact ⟨by rw [HV2.out]; rfl, HK.out⟩

set_option maxHeartbeats 1000000 in
theorem first_31 {St : Type} (I : World → St → Prop) (step : St → Ent → Int × St) (S : Nat → Prop) (w0 : World) (pa pb pc : Value)
    (hI : ∀ w w' σ, I w σ → Keep (fun _ => False) w w' → I w' σ) (hS : ∀ k, S k → w0.heap.size ≤ k)
    (hstep : ∀ w σ e, I w σ → Calls Try.prog 31 #[entV e, pa, pb, pc] w fun r w' => r = .returned (.int .i64 (step σ e).1) ∧ ((step σ e).1 = 0 → I w' (step σ e).2) ∧ Keep S w w')
    {v : Value} {L : List Ent} (hL : IsEs w0 v L) {σ0 : St} {w : World} (hk : Keep (fun _ => False) w0 w) (h : I w σ0) :
    Calls Try.prog 22 #[v, .func (.func 31) #[] #[pa, pb, pc]] w fun r w' => r = .returned (.int .i64 (runT step σ0 L)) ∧ Keep (fun _ => False) w0 w' := by
  have HL := Lib.hid hL
  have HI := Lib.hid hI
  have HS := Lib.hid hS
  have HST := Lib.hid hstep
  obtain ⟨A, c, rfl, hc1, hc2, hA⟩ := hL.ex
  have HA := Lib.hid hA
  have HK0 := Lib.hid hk
  have H0 := Lib.hid h
  have hlen : L.length ≤ 17592186044416 := by omega
  obtain ⟨wo, rfl⟩ : ∃ wo : World, wo = w := ⟨_, rfl⟩
  clear hL hI hS hstep hA hk h hc1 hc2
  go_enter Try.func22, Try.ntmps22
  go_wp2_with fail
  go_loopg [10] L.length (fun q u wr => ∃ (i : Nat) (σ : St), i + q = L.length ∧ u = .int .i64 i ∧ Hid (I wr σ) ∧ Hid (Keep (fun _ => False) w0 wr) ∧ Hid (runT step σ0 L = runT step σ (L.drop i)))
  case atStart => exact ⟨0, σ0, by omega, rfl, H0, HK0, Lib.hid (by rw [List.drop_zero])⟩
  case round =>
    obtain ⟨i, σ, hq, rfl, HR, HK, HV⟩ := hrel
    have HQ := Lib.hid hq
    by_cases hlt : i < L.length
    · clear hq
      obtain ⟨g, o, rfl, hcell⟩ := HA.out (by omega)
      have hE : ∀ j, j < 9 → wr.cell? ⟨g, o + i * 9 + j, none⟩ = (entA L[i])[j]? := by
        obtain ⟨A', c', e', _, _, h4⟩ := (HL.out.keep HK.out).ex
        obtain ⟨g', o', e2, h5⟩ := h4 (by omega)
        injection e' with e1
        rw [e2] at e1
        injection e1 with e1
        injection e1 with e1 e3
        subst e1; subst e3
        exact h5 i hlt
      have HC := Lib.hid (HST.out · σ L[i])
      have HD : Hid (runT step σ0 L = if (step σ L[i]).1 = 0 then runT step (step σ L[i]).2 (L.drop (i + 1)) else (step σ L[i]).1) := Lib.hid (by rw [HV.out, drop_cons hlt, runT])
      clear HV hcell
      generalize L[i] = e at hE HC HD
      obtain ⟨nd, st, kd, eid, mem, n, snd, num, text⟩ := e
      have e0 : wr.cell? ⟨g, o + i * 9, none⟩ = some (.int .i64 nd) := hE 0 (by omega)
      have e1 : wr.cell? ⟨g, o + i * 9 + 1, none⟩ = some (.bool st) := hE 1 (by omega)
      have e2 : wr.cell? ⟨g, o + i * 9 + 2, none⟩ = some (.int .i64 kd) := hE 2 (by omega)
      have e3 : wr.cell? ⟨g, o + i * 9 + 3, none⟩ = some (.int .u64 eid) := hE 3 (by omega)
      have e4 : wr.cell? ⟨g, o + i * 9 + 4, none⟩ = some (.int .u64 mem) := hE 4 (by omega)
      have e5 : wr.cell? ⟨g, o + i * 9 + 5, none⟩ = some (.int .u64 n) := hE 5 (by omega)
      have e6 : wr.cell? ⟨g, o + i * 9 + 6, none⟩ = some (.int .i64 snd) := hE 6 (by omega)
      have e7 : wr.cell? ⟨g, o + i * 9 + 7, none⟩ = some (.int .u64 num) := hE 7 (by omega)
      have e8 : wr.cell? ⟨g, o + i * 9 + 8, none⟩ = some (.string text) := hE 8 (by omega)
      clear hE
      have d1 : decide ((i : Int) < (L.length : Int)) = true := decide_eq_true (by omega)
      have d2 : (i : Int) < (L.length : Int) := by omega
      have d3 : (0 : Int) ≤ (i : Int) := by omega
      go_wp2_with fail
      simp only [entV, entA] at HC
      refine (HC.out _ (HI.out _ _ _ HR.out ((Keep.refl _ wr).alloc _))).mono ?_
      rintro r w1 ⟨rfl, hn, hk⟩
      have HN := Lib.hid hn
      have HK1 : Hid (Keep (fun _ => False) w0 w1) := Lib.hid ((HK.out.alloc _).trans hk (fun k hk hlt => by have := HS.out k hk; omega))
      clear hn hk HC
      by_cases hz : (step σ ⟨nd, st, kd, eid, mem, n, snd, num, text⟩).1 = 0
      · have HN2 := Lib.hid (HN.out hz)
        have hd := HD.out
        rw [if_pos hz] at hd
        have HD2 := Lib.hid hd
        rw [hz]
        clear HN HD hd hz
        have w1i : IntKind.i64.wrap ((i : Int) + 1) = (i : Int) + 1 := by rw [IntKind.wrap_i64]; omega
        go_wp2
        go_roundg (L.length - (i + 1))
        case measure => have := HQ.out; omega
        case rel => exact ⟨i + 1, (step σ ⟨nd, st, kd, eid, mem, n, snd, num, text⟩).2, by omega, by go_num, HN2, HK1, HD2⟩
      · have hd := HD.out
        rw [if_neg hz] at hd
        have HD2 := Lib.hid hd
        have hz1 : ((step σ ⟨nd, st, kd, eid, mem, n, snd, num, text⟩).1 == 0) = false := by simpa using hz
        clear HN HD hd
        go_wp2
        go_ret
        exact ⟨by rw [HD2.out]; rfl, HK1.out⟩
    · have d1 : decide ((i : Int) < (L.length : Int)) = false := decide_eq_false (by omega)
      have d2 : ¬ (i : Int) < (L.length : Int) := by omega
      have hv := HV.out
      rw [List.drop_eq_nil_of_le (by omega), runT] at hv
      have HV2 := Lib.hid hv
      clear hv hq
      go_wp2
      go_ret
      exact ⟨by rw [HV2.out]; rfl, HK.out⟩

set_option maxHeartbeats 1000000 in
theorem first_33 {St : Type} (I : World → St → Prop) (step : St → Ent → Int × St) (S : Nat → Prop) (w0 : World) (pa pb : Value)
    (hI : ∀ w w' σ, I w σ → Keep (fun _ => False) w w' → I w' σ) (hS : ∀ k, S k → w0.heap.size ≤ k)
    (hstep : ∀ w σ e, I w σ → Calls Try.prog 33 #[entV e, pa, pb] w fun r w' => r = .returned (.int .i64 (step σ e).1) ∧ ((step σ e).1 = 0 → I w' (step σ e).2) ∧ Keep S w w')
    {v : Value} {L : List Ent} (hL : IsEs w0 v L) {σ0 : St} {w : World} (hk : Keep (fun _ => False) w0 w) (h : I w σ0) :
    Calls Try.prog 22 #[v, .func (.func 33) #[] #[pa, pb]] w fun r w' => r = .returned (.int .i64 (runT step σ0 L)) ∧ Keep (fun _ => False) w0 w' := by
  have HL := Lib.hid hL
  have HI := Lib.hid hI
  have HS := Lib.hid hS
  have HST := Lib.hid hstep
  obtain ⟨A, c, rfl, hc1, hc2, hA⟩ := hL.ex
  have HA := Lib.hid hA
  have HK0 := Lib.hid hk
  have H0 := Lib.hid h
  have hlen : L.length ≤ 17592186044416 := by omega
  obtain ⟨wo, rfl⟩ : ∃ wo : World, wo = w := ⟨_, rfl⟩
  clear hL hI hS hstep hA hk h hc1 hc2
  go_enter Try.func22, Try.ntmps22
  go_wp2_with fail
  go_loopg [10] L.length (fun q u wr => ∃ (i : Nat) (σ : St), i + q = L.length ∧ u = .int .i64 i ∧ Hid (I wr σ) ∧ Hid (Keep (fun _ => False) w0 wr) ∧ Hid (runT step σ0 L = runT step σ (L.drop i)))
  case atStart => exact ⟨0, σ0, by omega, rfl, H0, HK0, Lib.hid (by rw [List.drop_zero])⟩
  case round =>
    obtain ⟨i, σ, hq, rfl, HR, HK, HV⟩ := hrel
    have HQ := Lib.hid hq
    by_cases hlt : i < L.length
    · clear hq
      obtain ⟨g, o, rfl, hcell⟩ := HA.out (by omega)
      have hE : ∀ j, j < 9 → wr.cell? ⟨g, o + i * 9 + j, none⟩ = (entA L[i])[j]? := by
        obtain ⟨A', c', e', _, _, h4⟩ := (HL.out.keep HK.out).ex
        obtain ⟨g', o', e2, h5⟩ := h4 (by omega)
        injection e' with e1
        rw [e2] at e1
        injection e1 with e1
        injection e1 with e1 e3
        subst e1; subst e3
        exact h5 i hlt
      have HC := Lib.hid (HST.out · σ L[i])
      have HD : Hid (runT step σ0 L = if (step σ L[i]).1 = 0 then runT step (step σ L[i]).2 (L.drop (i + 1)) else (step σ L[i]).1) := Lib.hid (by rw [HV.out, drop_cons hlt, runT])
      clear HV hcell
      generalize L[i] = e at hE HC HD
      obtain ⟨nd, st, kd, eid, mem, n, snd, num, text⟩ := e
      have e0 : wr.cell? ⟨g, o + i * 9, none⟩ = some (.int .i64 nd) := hE 0 (by omega)
      have e1 : wr.cell? ⟨g, o + i * 9 + 1, none⟩ = some (.bool st) := hE 1 (by omega)
      have e2 : wr.cell? ⟨g, o + i * 9 + 2, none⟩ = some (.int .i64 kd) := hE 2 (by omega)
      have e3 : wr.cell? ⟨g, o + i * 9 + 3, none⟩ = some (.int .u64 eid) := hE 3 (by omega)
      have e4 : wr.cell? ⟨g, o + i * 9 + 4, none⟩ = some (.int .u64 mem) := hE 4 (by omega)
      have e5 : wr.cell? ⟨g, o + i * 9 + 5, none⟩ = some (.int .u64 n) := hE 5 (by omega)
      have e6 : wr.cell? ⟨g, o + i * 9 + 6, none⟩ = some (.int .i64 snd) := hE 6 (by omega)
      have e7 : wr.cell? ⟨g, o + i * 9 + 7, none⟩ = some (.int .u64 num) := hE 7 (by omega)
      have e8 : wr.cell? ⟨g, o + i * 9 + 8, none⟩ = some (.string text) := hE 8 (by omega)
      clear hE
      have d1 : decide ((i : Int) < (L.length : Int)) = true := decide_eq_true (by omega)
      have d2 : (i : Int) < (L.length : Int) := by omega
      have d3 : (0 : Int) ≤ (i : Int) := by omega
      go_wp2_with fail
      simp only [entV, entA] at HC
      refine (HC.out _ (HI.out _ _ _ HR.out ((Keep.refl _ wr).alloc _))).mono ?_
      rintro r w1 ⟨rfl, hn, hk⟩
      have HN := Lib.hid hn
      have HK1 : Hid (Keep (fun _ => False) w0 w1) := Lib.hid ((HK.out.alloc _).trans hk (fun k hk hlt => by have := HS.out k hk; omega))
      clear hn hk HC
      by_cases hz : (step σ ⟨nd, st, kd, eid, mem, n, snd, num, text⟩).1 = 0
      · have HN2 := Lib.hid (HN.out hz)
        have hd := HD.out
        rw [if_pos hz] at hd
        have HD2 := Lib.hid hd
        rw [hz]
        clear HN HD hd hz
        have w1i : IntKind.i64.wrap ((i : Int) + 1) = (i : Int) + 1 := by rw [IntKind.wrap_i64]; omega
        go_wp2
        go_roundg (L.length - (i + 1))
        case measure => have := HQ.out; omega
        case rel => exact ⟨i + 1, (step σ ⟨nd, st, kd, eid, mem, n, snd, num, text⟩).2, by omega, by go_num, HN2, HK1, HD2⟩
      · have hd := HD.out
        rw [if_neg hz] at hd
        have HD2 := Lib.hid hd
        have hz1 : ((step σ ⟨nd, st, kd, eid, mem, n, snd, num, text⟩).1 == 0) = false := by simpa using hz
        clear HN HD hd
        go_wp2
        go_ret
        exact ⟨by rw [HD2.out]; rfl, HK1.out⟩
    · have d1 : decide ((i : Int) < (L.length : Int)) = false := decide_eq_false (by omega)
      have d2 : ¬ (i : Int) < (L.length : Int) := by omega
      have hv := HV.out
      rw [List.drop_eq_nil_of_le (by omega), runT] at hv
      have HV2 := Lib.hid hv
      clear hv hq
      go_wp2
      go_ret
      exact ⟨by rw [HV2.out]; rfl, HK.out⟩

end Go.Proofs.Ytjihimapopbdpaa
