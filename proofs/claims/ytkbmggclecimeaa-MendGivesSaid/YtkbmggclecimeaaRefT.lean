/- The document's shelf: Put, Get. -/
import Derived.Test.YtkbmggclecimeaaRefS
import Derived.Deep.RegionLaw
namespace Go.Proofs.Ytkbmggclecimeaa
open Go.RowKit Sh
set_option linter.unusedVariables false

set_option maxRecDepth 100000 in
set_option maxHeartbeats 1000000 in
theorem rget_in {w : World} {B : Nat} {E : List Ent} (h : IsRef w B E) (n : Int) (n1 : 1 ≤ n) (hE : E.length ≤ 1000) (hn : ∃ x ∈ E, x.k = n) :
    Calls Try.prog 46 #[.pointer (some ⟨B, 0, none⟩), .int .u64 n] w fun e w' => (∃ x ∈ E, x.k = n ∧ e = .returned (.tuple #[.agg #[.int .i64 x.s, .int .u64 x.m, .string ⟨#[]⟩], .int .i64 0])) ∧ Keep (fun _ => False) w w' := by
  obtain ⟨v, hb, ho⟩ := h.ex
  obtain ⟨A, c, rfl⟩ := own_shape ho
  have hlt : B < w.heap.size := (Array.getElem?_eq_some_iff.1 hb).1
  have HH := Lib.hid (fun o => h.keep ((Keep.refl (fun _ => False) w).alloc o) (fun _ _ h => h))
  have CC : Hid (∀ o, (w.alloc o).cell? ⟨B, 0, none⟩ = some (.slice A E.length c) ∧ (w.alloc o).cell? ⟨B, 1, none⟩ = some (.int .u64 0)) := fun o => ⟨((Keep.refl (fun _ => False) w).alloc o).cell (by simp [World.cell?, hb]), ((Keep.refl (fun _ => False) w).alloc o).cell (by simp [World.cell?, hb])⟩
  have c0 := fun o => (CC.out o).1
  have c1 := fun o => (CC.out o).2
  have HO := Lib.hid (fun o => own_keepS ho ((Keep.refl (fun _ => False) w).alloc o) (fun _ _ h => h))
  have t0 : (n == 0) = false := by rw [beq_eq_false_iff_ne]; omega
  have t1 : decide (n ≤ 0) = false := decide_eq_false (by omega)
  have HN := Lib.hid hn
  clear h hb ho hn
  go_enter Try.func46, Try.ntmps46
  go_wp2_with fail
  refine (find_any (HH.out _) n hE).mono ?_
  rintro e w1 ⟨⟨r, rfl, hr⟩, rfl⟩
  rcases hr with ⟨_, hno⟩ | ⟨i, hi, rfl, hk⟩
  · obtain ⟨x, hx, hk⟩ := HN.out
    exact absurd hk (hno x hx)
  · obtain ⟨g, rfl, _⟩ := own_form (HO.out (.cells #[.int .i64 0, .int .u64 0, .string ⟨#[]⟩] 27)) (by omega)
    obtain ⟨_, x1, x2, x3⟩ := ref_cells (HO.out (.cells #[.int .i64 0, .int .u64 0, .string ⟨#[]⟩] 27)) rfl i hi
    have XM := Lib.hid (en_mem hi)
    have HK := Lib.hid hk
    obtain ⟨es, hes⟩ : ∃ s, s = (en E i).s := ⟨_, rfl⟩
    obtain ⟨em, hem⟩ : ∃ s, s = (en E i).m := ⟨_, rfl⟩
    rw [← hes] at x1
    rw [← hem] at x2
    have HES := Lib.hid hes
    have HEM := Lib.hid hem
    clear hk hes hem
    go_wp2
    exact bodyPost_ret (v := .tuple #[.agg #[.int .i64 es, .int .u64 em, .string ⟨#[]⟩], .int .i64 0]) (by simp [results, Try.results46, go_sem]) rfl ⟨⟨en E i, XM.out, HK.out, by rw [HES.out, HEM.out]⟩, (Keep.refl _ w).alloc _⟩

/-- what a Put leaves. -/
def PutE (E : List Ent) (n s m : Int) (E' : List Ent) : Prop :=
  ((n = 0 ∨ (∃ x ∈ E, x.k = n) ∨ 64 < n) ∧ E' = E) ∨ (1 ≤ n ∧ n ≤ 64 ∧ (∀ x ∈ E, x.k ≠ n) ∧ E' = E ++ [⟨n, s, m⟩])

set_option maxRecDepth 100000 in
set_option maxHeartbeats 2000000 in
theorem rput_any {w : World} {B : Nat} {E : List Ent} (h : IsRef w B E) (n s m : Int) (n0 : 0 ≤ n) (n1 : n ≤ 255) (hE : E.length ≤ 1000) :
    Calls Try.prog 59 #[.pointer (some ⟨B, 0, none⟩), .int .u64 n, .agg #[.int .i64 s, .int .u64 m, .string ⟨#[]⟩]] w fun e w' => (∃ r E', e = .returned (.int .i64 r) ∧ IsRef w' B E' ∧ PutE E n s m E') ∧ Keep (fun i => B ≤ i) w w' := by
  obtain ⟨v, hb, ho⟩ := h.ex
  obtain ⟨A, c, rfl⟩ := own_shape ho
  have hlt : B < w.heap.size := (Array.getElem?_eq_some_iff.1 hb).1
  obtain ⟨bx, hbx⟩ : ∃ o : Obj, o = .cells #[.int .i64 s, .int .u64 m, .string ⟨#[]⟩] 27 := ⟨_, rfl⟩
  have K0 : Hid (Keep (fun i => B ≤ i) w (w.alloc (.cells #[.int .i64 s, .int .u64 m, .string ⟨#[]⟩] 27))) := (Keep.refl _ w).alloc _
  have HH : Hid (IsRef (w.alloc (.cells #[.int .i64 s, .int .u64 m, .string ⟨#[]⟩] 27)) B E) := h.keep ((Keep.refl (fun _ => False) w).alloc _) (fun _ _ h => h)
  have c0 : (w.alloc (.cells #[.int .i64 s, .int .u64 m, .string ⟨#[]⟩] 27)).cell? ⟨B, 0, none⟩ = some (.slice A E.length c) := ((Keep.refl (fun _ => False) w).alloc _).cell (by simp [World.cell?, hb])
  have c1 : (w.alloc (.cells #[.int .i64 s, .int .u64 m, .string ⟨#[]⟩] 27)).cell? ⟨B, 1, none⟩ = some (.int .u64 0) := ((Keep.refl (fun _ => False) w).alloc _).cell (by simp [World.cell?, hb])
  have HO := Lib.hid (own_keepS ho ((Keep.refl (fun _ => False) w).alloc (.cells #[.int .i64 s, .int .u64 m, .string ⟨#[]⟩] 27)) (fun _ _ h => h))
  have HB := Lib.hid hb
  obtain ⟨i0, hi, hz0, hz1, hz2⟩ := info_parts info89
  have Hi := Lib.hid hi
  have Hz0 := Lib.hid hz0
  have Hz1 := Lib.hid hz1
  have Hz2 := Lib.hid hz2
  clear h hb ho hi hz0 hz1 hz2 hbx bx
  by_cases hz : n = 0
  · subst hz
    go_enter Try.func59, Try.ntmps59
    go_wp2_with fail
    go_ret
    exact ⟨⟨1, E, rfl, HH.out, .inl ⟨.inl rfl, rfl⟩⟩, K0.out⟩
  · have t0 : (n == 0) = false := by rw [beq_eq_false_iff_ne]; exact hz
    have t1 : (n == 18446744073709551615) = false := by rw [beq_eq_false_iff_ne]; omega
    have t2 : decide (n ≤ 0) = false := decide_eq_false (by omega)
    have e1 : IntKind.u64.wrap n = n := by rw [IntKind.wrap_u64]; omega
    go_enter Try.func59, Try.ntmps59
    go_wp2_with fail
    refine (find_any HH.out n hE).mono ?_
    rintro e w1 ⟨⟨r, rfl, hr⟩, rfl⟩
    rcases hr with ⟨rfl, hno⟩ | ⟨i, hi, rfl, hk⟩
    · have HNO := Lib.hid hno
      clear hno
      by_cases hf : 64 < n
      · have t3 : decide (64 < n) = true := decide_eq_true hf
        go_wp2_with fail
        go_ret
        exact ⟨⟨2, E, rfl, HH.out, .inl ⟨.inr (.inr hf), rfl⟩⟩, K0.out⟩
      · have t3 : decide (64 < n) = false := decide_eq_false hf
        have NB : Hid (((w.alloc (.cells #[.int .i64 s, .int .u64 m, .string ⟨#[]⟩] 27)).alloc (.cells #[.int .u64 n, .int .i64 s, .int .u64 m, .string ⟨#[]⟩] 89)).heap[w.heap.size + 1]? = some (.cells #[.int .u64 n, .int .i64 s, .int .u64 m, .string ⟨#[]⟩] 89 (0, 0))) := by
          have := heap_alloc_new (w.alloc (.cells #[.int .i64 s, .int .u64 m, .string ⟨#[]⟩] 27)) (.cells #[.int .u64 n, .int .i64 s, .int .u64 m, .string ⟨#[]⟩] 89)
          rwa [show (w.alloc (.cells #[.int .i64 s, .int .u64 m, .string ⟨#[]⟩] 27)).heap.size = w.heap.size + 1 by simp] at this
        have KE : Hid (Keep (fun i => B + 1 ≤ i) w ((w.alloc (.cells #[.int .i64 s, .int .u64 m, .string ⟨#[]⟩] 27)).alloc (.cells #[.int .u64 n, .int .i64 s, .int .u64 m, .string ⟨#[]⟩] 89)).drew) := (((Keep.refl _ w).alloc _).alloc _).drew
        have HOd : Hid (((w.alloc (.cells #[.int .i64 s, .int .u64 m, .string ⟨#[]⟩] 27)).alloc (.cells #[.int .u64 n, .int .i64 s, .int .u64 m, .string ⟨#[]⟩] 89)).drew.ownsRow (B + 1) 89 4 (.slice A E.length c) E.length (itCells E)) := HO.out.alloc _
        have hbsz : B + 1 ≤ ((w.alloc (.cells #[.int .i64 s, .int .u64 m, .string ⟨#[]⟩] 27)).alloc (.cells #[.int .u64 n, .int .i64 s, .int .u64 m, .string ⟨#[]⟩] 89)).drew.heap.size := Nat.le_trans hlt KE.out.size
        have HBS := Lib.hid hbsz
        clear hbsz
        go_upto_region 9 with fail
        go_region_law (first | (refine step_append_own (by rfl) _ _ _ (by rfl) (B + 1) 89 i0 (.agg #[.int .u64 0, .int .i64 0, .int .u64 0, .string ⟨#[]⟩]) 4 40 Try.underlying82 Hi.out Hz0.out Hz1.out Hz2.out rfl (by decide) (.slice A E.length c) E.length (itCells E) (by rfl) HOd.out ⟨w.heap.size + 1, 0, none⟩ 1 1 (itCells [⟨n, s, m⟩]) (by rfl) (by rfl) (World.news_of_block (cs := (#[Value.int IntKind.u64 n, Value.int IntKind.i64 s, Value.int IntKind.u64 m, Value.string ⟨#[]⟩] : Array Value)) (t := 89) (fr := (0, 0)) NB.out) (itCells_one _) (by simp only [maxLen]; omega) (by omega) HBS.out ?_; intro v6 w6 hown6 hg6; obtain ⟨A6, c6, rfl⟩ := own_shape hown6; have kw6 : Keep (fun i => B + 1 ≤ i) w w6 := KE.out.grown hg6 (fun k hk hl => (HOd.out.lt k hk).1); have hb6 := kw6.old HB.out (fun h => by omega); have cB6 : w6.cell? ⟨B, 0, none⟩ = some (.slice A E.length c) := (by simp [World.cell?, hb6]); have fB6 : w6.frozen? ⟨B, 0, none⟩ = false := (by simp [World.frozen?, hb6])))
        all_goals
          have hX : Hid (IsRef (w6.setCell ⟨B, 0, none⟩ (.slice A6 (E.length + 1) c6)) B (E ++ [⟨n, s, m⟩]) ∧ Keep (fun i => B ≤ i) w (w6.setCell ⟨B, 0, none⟩ (.slice A6 (E.length + 1) c6))) := by
            refine ⟨⟨.slice A6 (E.length + 1) c6, ?_, ?_⟩, (kw6.mono (fun i h _ => by omega)).setCell _ _ (fun _ => Nat.le_refl _)⟩
            · have := heap_setCell_at hb6 0 (.slice A6 (E.length + 1) c6)
              simpa using this
            · have := ownsRow_setCell_below hown6 (a := ⟨B, 0, none⟩) (show B < B + 1 by omega) (.slice A6 (E.length + 1) c6)
              rw [List.length_append, itCells_append]
              exact this
          clear hown6 hg6 kw6 hb6 cB6 fB6
          go_wp2_with fail
          go_ret
          exact ⟨⟨0, _, rfl, hX.out.1, .inr ⟨by omega, by omega, HNO.out, rfl⟩⟩, hX.out.2⟩
    · have X : Hid (∃ x ∈ E, x.k = n) := ⟨en E i, en_mem hi, hk⟩
      clear hk
      go_wp2_with fail
      go_ret
      exact ⟨⟨4, E, rfl, HH.out, .inl ⟨.inr (.inl X.out), rfl⟩⟩, K0.out⟩

end Go.Proofs.Ytkbmggclecimeaa
