/- The document's shelf: Have, Reach, Trim; shelves that are filled. -/
import Derived.Test.YtkbmggclecimeaaRefT
import Derived.Test.YtkbmggclecimeaaKeepP
import Derived.Test.YtkbmggclecimeaaLackW
namespace Go.Proofs.Ytkbmggclecimeaa
open Go.RowKit Sh
set_option linter.unusedVariables false

theorem radd_set {w : World} {v : Value} {K : Int → Bool} (h : IsSet w v K) (sK : Small K) (n : Int) (n0 : 0 ≤ n) (n1 : n < 256) :
    Calls Try.prog 36 #[v, .int .u64 n] w fun e w' => (∃ u b, e = .returned (.tuple #[u, .bool b]) ∧ IsSet w' u (fun x => K x || decide (x = n))) ∧ Keep (fun _ => False) w w' := by
  obtain ⟨l, h1, h2, h3, h4⟩ := h.ex
  refine (radd_gen h1 h3 (by have := len_small h2 h3 h4 sK; omega) n n0 (by omega)).mono ?_
  rintro e w' ⟨⟨u, out, b, rfl, g1, g2⟩, hk⟩
  refine ⟨⟨u, b, rfl, ?_⟩, hk⟩
  obtain ⟨o1, o2, o3⟩ := ((g2.2 (by omega)).1 h2).1.1 ⟨h2, ok1 (by omega)⟩
  refine ⟨out, g1, o1, o2, fun x => ?_⟩
  rw [o3]
  show (memB l x || memB [(⟨n, n⟩ : Sp)] x) = _
  rw [h4]
  congr 1
  by_cases e : x = n
  · rw [decide_eq_true e, memB_iff, mem_cons]; exact .inl (by simp only; omega)
  · rw [decide_eq_false e, memB_false, mem_cons]
    rintro (g | g)
    · simp only at g; omega
    · exact mem_nil _ g

def kE (E : List Ent) (x : Int) : Bool := E.any fun e => e.k == x
theorem kE_iff {E : List Ent} {x : Int} : kE E x = true ↔ ∃ e ∈ E, e.k = x := by simp [kE]
theorem kE_take {E : List Ent} {i : Nat} (h : i < E.length) (x : Int) : (kE (E.take i) x || decide (x = (en E i).k)) = kE (E.take (i + 1)) x := by
  have e : E.take (i + 1) = E.take i ++ [en E i] := by rw [List.take_add_one]; simp [en, h]
  rw [e]
  simp only [kE, List.any_append, List.any_cons, List.any_nil, Bool.or_false]
  congr 1
  rw [Bool.eq_iff_iff, decide_eq_true_iff, beq_iff_eq]
  exact eq_comm
theorem kE_small {E : List Ent} (h : ∀ e ∈ E, e.k ≤ 64) (i : Nat) : Small (kE (E.take i)) := fun x hx => by
  obtain ⟨e, he, rfl⟩ := kE_iff.1 hx
  have := h e (List.mem_of_mem_take he)
  omega

set_option maxRecDepth 100000 in
set_option maxHeartbeats 1000000 in
theorem rhave_set {w : World} {B : Nat} {E : List Ent} (h : IsRef w B E) (hE : ∀ e ∈ E, 1 ≤ e.k ∧ e.k ≤ 64) (hl : E.length ≤ 1000) :
    Calls Try.prog 47 #[.pointer (some ⟨B, 0, none⟩)] w fun e w' => (∃ u, e = .returned u ∧ IsSet w' u (kE E)) ∧ Keep (fun _ => False) w w' := by
  obtain ⟨v, hb, ho⟩ := h.ex
  obtain ⟨A, c, rfl⟩ := own_shape ho
  have CC : Hid (∀ W, Keep (fun _ => False) w W → W.cell? ⟨B, 0, none⟩ = some (.slice A E.length c) ∧ W.cell? ⟨B, 1, none⟩ = some (.int .u64 0)) := fun W k => ⟨k.cell (by simp [World.cell?, hb]), k.cell (by simp [World.cell?, hb])⟩
  have HO := Lib.hid (fun W (k : Keep (fun _ => False) w W) => own_keepS ho k (fun _ _ h => h))
  have HE := Lib.hid hE
  have HSM := Lib.hid (fun i => kE_small (fun e he => (hE e he).2) i)
  have c1 : (w.alloc (.cells #[] 46)).cell? ⟨B, 1, none⟩ = some (.int .u64 0) := (CC.out _ ((Keep.refl _ w).alloc _)).2
  clear h hb ho hE
  go_enter Try.func47, Try.ntmps47
  go_wp2_with fail
  clear c1
  go_loopg [3, 4] E.length (fun q v3 v4 wr => ∃ i : Nat, i + q = E.length ∧ v4 = .int .i64 i ∧ IsSet wr v3 (kE (E.take i)) ∧ Keep (fun _ => False) w wr)
  case atStart => exact ⟨0, by omega, rfl, (IsSet.empty _ _ _).of (fun x => by simp [kE]), (Keep.refl _ w).alloc _⟩
  case round =>
    obtain ⟨i, hq, rfl, hs, hK⟩ := hrel
    have HS := Lib.hid hs
    have HK := Lib.hid hK
    have HQ := Lib.hid hq
    clear hs hK hq
    obtain ⟨c0, c1⟩ := CC.out _ HK.out
    by_cases hlt : i < E.length
    · obtain ⟨g, rfl, _⟩ := own_form (HO.out _ HK.out) (by omega)
      obtain ⟨x0, _⟩ := ref_cells (HO.out _ HK.out) rfl i hlt
      have hke := HE.out _ (en_mem hlt)
      have hst := kE_take hlt
      obtain ⟨kk, hkk⟩ : ∃ k, k = (en E i).k := ⟨_, rfl⟩
      rw [← hkk] at x0 hke
      simp only [← hkk] at hst
      have HST := Lib.hid hst
      obtain ⟨k1, k2⟩ := hke
      clear hkk hst
      go_wp2_with fail
      refine (radd_set HS.out (HSM.out i) kk (by omega) (by omega)).mono ?_
      rintro e w5 ⟨⟨u, b, rfl, hu⟩, hk5⟩
      have HU := Lib.hid (hu.of (fun x => HST.out x))
      have HK5 := Lib.hid (HK.out.step hk5)
      obtain ⟨Au, nu, cu, rfl⟩ := shape_set hu
      clear hu hk5 c0 c1 x0
      go_wp2_with fail
      go_roundg (E.length - (i + 1))
      case measure => have := HQ.out; omega
      case rel => exact ⟨i + 1, by omega, by go_num, HU.out, HK5.out⟩
    · obtain rfl : E.length = i := by have := HQ.out; omega
      have HS2 := HS.out
      rw [List.take_length] at HS2
      have HS3 := Lib.hid HS2
      clear HS2
      go_wp2_with fail
      go_ret
      exact ⟨⟨_, rfl, HS3.out⟩, HK.out⟩

theorem rtrim0 {w : World} {B : Nat} {E : List Ent} (h : IsRef w B E) (hE : ∀ e ∈ E, 1 ≤ e.k ∧ e.k ≤ 64) (hl : E.length ≤ 1000) :
    Calls Try.prog 60 #[.pointer (some ⟨B, 0, none⟩), .int .u64 0] w fun e w' => e = .returned (.int .i64 0) ∧ Keep (fun _ => False) w w' := by
  have HR : Hid (Calls Try.prog 68 #[.pointer (some ⟨B, 0, none⟩)] w fun e w' => (∃ r, e = .returned (.int .u64 r) ∧ 0 ≤ r) ∧ Keep (fun _ => False) w w') := by
    have HH := Lib.hid (rhave_set h hE hl)
    go_enter Try.func68, Try.ntmps68
    go_wp2_with fail
    refine HH.out.mono ?_
    rintro e w1 ⟨⟨u, rfl, hu⟩, hk1⟩
    obtain ⟨l, g1, g2, g3, g4⟩ := hu.ex
    have G1 := Lib.hid g1
    have G3 := Lib.hid g3
    have HK1 := Lib.hid hk1
    obtain ⟨Au, nu, cu, rfl⟩ := shape_set hu
    clear hu hk1 g1 g2 g3 g4
    go_wp2_with fail
    refine (rreach_gen _ l 0 _ G1.out G3.out (by omega) (by omega)).mono ?_
    rintro e w2 ⟨⟨r, rfl, hr⟩, hk2⟩
    have R0 : Hid (0 ≤ r) := by
      rcases hr with ⟨_, rfl⟩ | ⟨_, k, _, _, q, rfl⟩ | ⟨_, _, rfl⟩
      · exact Int.le_refl 0
      · show (0 : Int) ≤ _; omega
      · exact Int.le_refl 0
    have HK2 := Lib.hid (HK1.out.step hk2)
    clear hr hk2
    go_wp2_with fail
    go_ret
    exact ⟨⟨r, rfl, R0.out⟩, HK2.out⟩
  obtain ⟨v, hb, _⟩ := h.ex
  have CC : Hid (∀ W, Keep (fun _ => False) w W → W.cell? ⟨B, 1, none⟩ = some (.int .u64 0)) := fun W k => k.cell (by simp [World.cell?, hb])
  clear h hb hE
  go_enter Try.func60, Try.ntmps60
  go_wp2_with fail
  refine HR.out.mono ?_
  rintro e w1 ⟨⟨r, rfl, r0⟩, hk1⟩
  have HK1 := Lib.hid hk1
  have c1 := CC.out _ hk1
  have t1 : decide (r < 0) = false := decide_eq_false (by omega)
  have t2 : ¬ r < 0 := by omega
  clear hk1
  go_wp2_with fail
  go_ret
  exact ⟨rfl, HK1.out⟩

/-- what a Put to the program's shelf leaves. -/
theorem sput_any {w : World} {b : Nat} {st : St} {E : List Ent} (h : IsShelf w b st) (hk : Kps st E) (hl : st.low = 0) (n s m : Int) (n0 : 0 ≤ n) (n1 : n ≤ 255) :
    Calls Try.prog 17 #[.pointer (some ⟨b, 0, none⟩), .int .u64 n, .agg #[.int .i64 s, .int .u64 m, .string ⟨#[]⟩]] w fun e w' => (∃ r st', e = .returned (.int .i64 r) ∧ IsShelf w' b st' ∧ st'.low = 0 ∧ ∀ E', PutE E n s m E' → Kps st' E') ∧ Keep (fun k => k = b) w w' := by
  have ok : St.ok st := ⟨by omega, by omega⟩
  have hkey : hasB st n = true ↔ ∃ e ∈ E, e.k = n := by
    constructor
    · exact hk.conv n
    · rintro ⟨e, he, rfl⟩
      rcases (hk.ent e he).2 with c | c
      · have := (hk.ent e he).1; omega
      · exact c.1
  have same : ∀ {E'}, (n = 0 ∨ (∃ x ∈ E, x.k = n) ∨ 64 < n) → PutE E n s m E' → Kps st E' := fun h g => by
    rcases g with ⟨_, rfl⟩ | ⟨a, b, c, _⟩
    · exact hk
    · exfalso
      rcases h with h | ⟨x, hx, h⟩ | h
      · omega
      · exact c x hx h
      · omega
  by_cases hz : n = 0
  · refine (put_arg0 b st n s m ⟨#[]⟩ w h ok n0 (by omega) hz).mono ?_
    rintro e w' ⟨rfl, kk⟩
    exact ⟨⟨1, st, rfl, h.keep kk id, hl, fun E' g => same (.inl hz) g⟩, kk.mono (fun _ h _ => absurd h id)⟩
  · by_cases hh : hasB st n = true
    · refine (put_twice b st n s m ⟨#[]⟩ w h ok n0 (by omega) (by omega) (by omega) (by decide) (by omega) hh).mono ?_
      rintro e w' ⟨rfl, kk⟩
      exact ⟨⟨4, st, rfl, h.keep kk id, hl, fun E' g => same (.inr (.inl (hkey.1 hh))) g⟩, kk.mono (fun _ h _ => absurd h id)⟩
    · by_cases hf : 64 < n
      · refine (put_full b st n s m ⟨#[]⟩ w h ok n0 (by omega) (by omega) (by omega) (by decide) (by omega) (by omega)).mono ?_
        rintro e w' ⟨rfl, kk⟩
        exact ⟨⟨2, st, rfl, h.keep kk id, hl, fun E' g => same (.inr (.inr hf)) g⟩, kk.mono (fun _ h _ => absurd h id)⟩
      · have hh' : hasB st n = false := by simpa using hh
        refine (put_ok b st n s m ⟨#[]⟩ w h ok (by omega) (by omega) (by decide) (by omega) hh' (by omega)).mono ?_
        rintro e w' ⟨rfl, hs, kk⟩
        refine ⟨⟨0, _, rfl, hs, hl, fun E' g => ?_⟩, kk⟩
        rcases g with ⟨g, _⟩ | ⟨a, c, d, rfl⟩
        · exfalso
          rcases g with g | g | g
          · exact hz g
          · exact hh (hkey.2 g)
          · exact hf g
        · exact hk.put (by omega) (by omega) d s m

end Go.Proofs.Ytkbmggclecimeaa
