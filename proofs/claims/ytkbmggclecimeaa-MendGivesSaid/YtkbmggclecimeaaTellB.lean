/- Add and Clone, the program's and the document's; the document's Many and Reach: walks. -/
import Derived.Test.YtkbmggclecimeaaTellA
namespace Go.Proofs.Ytkbmggclecimeaa
open Go.RowKit Sh
set_option linter.unusedVariables false

theorem read_cells {w : World} {g o : Nat} {l : List Sp} (hc : ∀ i, i < l.length → w.cell? ⟨g, o + i * 2, none⟩ = some (.int .u64 (sp l i).f) ∧ w.cell? ⟨g, o + i * 2 + 1, none⟩ = some (.int .u64 (sp l i).t)) :
    ∀ j u, (spCells l)[j]? = some u → w.cell? ((⟨g, o, none⟩ : Addr).add j) = some u := by
  intro j u h
  have hj : j < l.length * 2 := by rw [← spCells_length]; exact (List.getElem?_eq_some_iff.1 h).1
  obtain ⟨c0, c1⟩ := hc (j / 2) (by omega)
  obtain ⟨a0, a1⟩ := spCells_at l (j / 2) (by omega)
  rw [Go.WideShapes.add_plain]
  by_cases e : j % 2 = 0
  · rw [show j / 2 * 2 = j by omega] at a0 c0
    rw [a0] at h
    rw [c0, h]
  · rw [show j / 2 * 2 + 1 = j by omega] at a1
    rw [show o + j / 2 * 2 + 1 = o + j by omega] at c1
    rw [a1] at h
    rw [c1, h]

set_option maxRecDepth 100000 in
set_option maxHeartbeats 1000000 in
theorem clone_gen {w : World} {v : Value} {l : List Sp} (h : IsL w v l) (hsz : l.length ≤ 268435456) :
    Calls Try.prog 56 #[v] w fun e w' => (∃ u, e = .returned u ∧ IsL w' u l) ∧ Keep (fun _ => False) w w' := by
  obtain ⟨A, c, rfl, _, hl, hA⟩ := h.ex
  have HA := Lib.hid hA
  obtain ⟨i0, hi, hz0, hz1, hz2⟩ := info_parts info46
  have Hi := Lib.hid hi
  have Hz0 := Lib.hid hz0
  have Hz1 := Lib.hid hz1
  have Hz2 := Lib.hid hz2
  clear h hA hi hz0 hz1 hz2
  cases A with
  | none =>
    have hn : l = [] := by
      cases l with
      | nil => rfl
      | cons x r =>
        obtain ⟨g, o, e, _⟩ := HA.out (by simp)
        cases e
    have HN := Lib.hid hn
    clear hn
    have E := Lib.run_eql_slice_nil (P := Try.prog) w 43 46 none l.length c 0 0 Try.underlying43
    go_enter Try.func56, Try.ntmps56
    go_wp2_with fail
    go_ret
    exact ⟨⟨_, rfl, by rw [HN.out]; exact IsL.nil _⟩, Keep.refl _ w⟩
  | some ad =>
    have hnews : ∀ j u, (spCells l)[j]? = some u → w.cell? (ad.add j) = some u := by
      by_cases h0 : 0 < l.length
      · obtain ⟨g, o, e, hc⟩ := HA.out h0
        injection e with e
        subst e
        exact read_cells hc
      · intro j u h
        have : l = [] := List.eq_nil_of_length_eq_zero (by omega)
        subst this
        simp [spCells] at h
    have HNW := Lib.hid hnews
    clear hnews
    have HOW := Lib.hid (World.ownsRow_lit (base := w.heap.size) (e := 46) (size := 2) w #[] 0 (Nat.le_refl _) (by simp [maxLen]) rfl)
    have HK0 : Hid (Keep (fun _ => False) w (w.alloc (.cells #[] 46))) := (Keep.refl _ w).alloc _
    have E := Lib.run_eql_slice_nil (P := Try.prog) w 43 46 (some ad) l.length c 0 0 Try.underlying43
    go_enter Try.func56, Try.ntmps56
    go_wp2_with (at_builtin; refine wpList_append_own_at _ rfl _ _ 43 rfl w.heap.size 46 i0 (.agg #[.int .u64 0, .int .u64 0]) 2 16 Try.underlying43 Hi.out Hz0.out Hz1.out Hz2.out rfl (by decide) _ _ _ rfl HOW.out ad l.length c (spCells l) rfl (spCells_length l) ?c1 (spCells_one l) ?c3 ?c4 ?c5 ?_)
    case c1 => intro j u h; exact HK0.out.cell (HNW.out j u h)
    case c3 => simp only [maxLen]; omega
    case c4 => omega
    intro v' w' hown hg _ _
    have hK' : Keep (fun _ => False) w w' := HK0.out.grown hg (by
      intro k hk hlt
      have := (HOW.out.lt k hk).1
      omega)
    have hown' : w'.ownsRow w.heap.size 46 2 v' l.length (spCells l) := by
      have := hown
      simpa using this
    have HI := Lib.hid (IsL.ofOwn hown' hl)
    have HK' := Lib.hid hK'
    obtain ⟨A', c', rfl⟩ := own_shape hown'
    clear hown hown' hK' hg
    go_wp2_with fail
    go_ret
    exact ⟨⟨_, rfl, HI.out⟩, HK'.out⟩

set_option maxHeartbeats 2000000 in
theorem add_gen {w : World} {va : Value} {a : List Sp} (ha : IsL w va a) (ra : Rng a) (hs : a.length ≤ 1000) (n : Int) (n0 : 0 ≤ n) (n1 : n < 18446744073709551616) :
    Calls Try.prog 35 #[va, .int .u64 n] w fun e w' => (∃ u out b, e = .returned (.tuple #[u, .bool b]) ∧ IsL w' u out ∧ AddIs a n out b) ∧ Keep (fun _ => False) w w' := by
  have HA := Lib.hid ha
  have RA := Lib.hid ra
  by_cases hn : n = 18446744073709551615
  · subst hn
    by_cases oa : Ok a
    · have OB := Lib.hid (okB_true oa)
      have AI : Hid (AddIs a 18446744073709551615 a false) := ⟨fun _ => ⟨rfl, fun _ => rfl, fun c => absurd oa c⟩, fun c => absurd rfl c⟩
      clear ha ra oa n0 n1
      have KW : Hid (Keep (fun _ => False) w (w.alloc (.cells #[.int .u64 18446744073709551615, .int .u64 18446744073709551615] 46))) := (Keep.refl _ w).alloc _
      have HB0 := Lib.hid (heap_alloc_new w (.cells #[.int .u64 18446744073709551615, .int .u64 18446744073709551615] 46))
      go_enter Try.func35, Try.ntmps35
      go_wp2_with fail
      refine (may_any _ a _ (HA.out.keep KW.out) RA.out).mono ?_
      rintro e w1 ⟨rfl, hk1⟩
      rw [OB.out]
      have HK1 := Lib.hid (KW.out.step hk1)
      clear hk1
      go_wp2_with fail
      refine (clone_gen (HA.out.keep HK1.out) (by omega)).mono ?_
      rintro e w2 ⟨⟨u, rfl, hu⟩, hk2⟩
      have HU := Lib.hid hu
      have HK2 := Lib.hid (HK1.out.step hk2)
      clear hu hk2
      go_wp2_with fail
      go_ret2
      exact ⟨⟨u, a, false, rfl, HU.out, AI.out⟩, HK2.out⟩
    · have OB := Lib.hid (okB_false oa)
      have AI : Hid (AddIs a 18446744073709551615 [] false) := ⟨fun _ => ⟨rfl, fun c => absurd c oa, fun _ => rfl⟩, fun c => absurd rfl c⟩
      clear ha ra oa n0 n1
      have KW : Hid (Keep (fun _ => False) w (w.alloc (.cells #[.int .u64 18446744073709551615, .int .u64 18446744073709551615] 46))) := (Keep.refl _ w).alloc _
      have HB0 := Lib.hid (heap_alloc_new w (.cells #[.int .u64 18446744073709551615, .int .u64 18446744073709551615] 46))
      go_enter Try.func35, Try.ntmps35
      go_wp2_with fail
      refine (may_any _ a _ (HA.out.keep KW.out) RA.out).mono ?_
      rintro e w1 ⟨rfl, hk1⟩
      rw [OB.out]
      have HK1 := Lib.hid (KW.out.step hk1)
      clear hk1
      go_wp2_with fail
      go_ret2
      exact ⟨⟨_, [], false, rfl, IsL.nil _, AI.out⟩, HK1.out⟩
  · have hne : (n == 18446744073709551615) = false := by rw [beq_eq_false_iff_ne]; exact hn
    have H1 := Lib.hid (fun (W : World) (b : Nat) (h : W.heap[b]? = some (.cells #[.int .u64 n, .int .u64 n] 46 (0, 0))) => (show IsL W (.slice (some ⟨b, 0, none⟩) 1 1) [⟨n, n⟩] from
      ⟨some ⟨b, 0, none⟩, 1, rfl, by simp, by simp, fun _ => ⟨b, 0, rfl, fun i hi => by
        obtain rfl : i = 0 := by simp at hi; omega
        obtain ⟨c0, c1, _, _⟩ := two_cells h
        exact ⟨c0, c1⟩⟩⟩))
    have R1 := Lib.hid (rng1 n0 n1)
    by_cases oa : Ok a
    · have OB := Lib.hid (okB_true oa)
      have AI : Hid (∀ out, BothIs a [⟨n, n⟩] (fun z => memB a z || memB [⟨n, n⟩] z) out → AddIs a n out (!hasLB a n)) := fun out h => ⟨fun c => absurd c hn, fun _ => ⟨fun _ => ⟨h, by
        by_cases c : mem a n
        · rw [hasLB_true ⟨oa, c⟩, memB_iff.2 c]
        · rw [hasLB_false (fun h => c h.2), memB_false.2 c]⟩, fun c => absurd oa c⟩⟩
      clear ha ra oa
      have KW : Hid (Keep (fun _ => False) w (w.alloc (.cells #[.int .u64 n, .int .u64 n] 46))) := (Keep.refl _ w).alloc _
      have HB0 := Lib.hid (heap_alloc_new w (.cells #[.int .u64 n, .int .u64 n] 46))
      go_enter Try.func35, Try.ntmps35
      go_wp2_with fail
      refine (may_any _ a _ (HA.out.keep KW.out) RA.out).mono ?_
      rintro e w1 ⟨rfl, hk1⟩
      rw [OB.out]
      have HK1 := Lib.hid (KW.out.step hk1)
      have HB1 := Lib.hid (hk1.old HB0.out (fun h => h))
      clear hk1
      go_wp2_with fail
      refine (join_gen (HA.out.keep HK1.out) (H1.out _ _ HB1.out) RA.out R1.out (by simp; omega)).mono ?_
      rintro e w2 ⟨⟨u, out, rfl, hu, hb⟩, hk2⟩
      have HU := Lib.hid hu
      have HBB := Lib.hid (AI.out out hb)
      have HK2 := Lib.hid (HK1.out.step hk2)
      clear hu hb hk2
      go_wp2_with fail
      refine (has_span _ a n _ (HA.out.keep HK2.out) RA.out).mono ?_
      rintro e w3 ⟨rfl, hk3⟩
      have HU3 := Lib.hid (HU.out.keep hk3)
      have HK3 := Lib.hid (HK2.out.step hk3)
      clear hk3
      go_wp2_with fail
      go_ret2
      exact ⟨⟨u, out, _, rfl, HU3.out, HBB.out⟩, HK3.out⟩
    · have OB := Lib.hid (okB_false oa)
      have AI : Hid (AddIs a n [⟨n, n⟩] true) := ⟨fun c => absurd c hn, fun _ => ⟨fun c => absurd c oa, fun _ => ⟨rfl, rfl⟩⟩⟩
      clear ha ra oa
      have KW : Hid (Keep (fun _ => False) w (w.alloc (.cells #[.int .u64 n, .int .u64 n] 46))) := (Keep.refl _ w).alloc _
      have HB0 := Lib.hid (heap_alloc_new w (.cells #[.int .u64 n, .int .u64 n] 46))
      go_enter Try.func35, Try.ntmps35
      go_wp2_with fail
      refine (may_any _ a _ (HA.out.keep KW.out) RA.out).mono ?_
      rintro e w1 ⟨rfl, hk1⟩
      rw [OB.out]
      have HK1 := Lib.hid (KW.out.step hk1)
      have HB1 := Lib.hid (hk1.old HB0.out (fun h => h))
      clear hk1
      go_wp2_with fail
      go_ret2
      exact ⟨⟨_, [⟨n, n⟩], true, rfl, H1.out _ _ HB1.out, AI.out⟩, HK1.out⟩

theorem rjoin_gen {w : World} {va vb : Value} {a b : List Sp} (ha : IsL w va a) (hb : IsL w vb b) (ra : Rng a) (rb : Rng b) (hs : a.length + b.length ≤ 268435456) :
    Calls Try.prog 22 #[va, vb] w fun e w' => (∃ u out, e = .returned u ∧ IsL w' u out ∧ BothIs a b (fun z => memB a z || memB b z) out) ∧ Keep (fun _ => False) w w' := by
  by_cases oa : Ok a
  · by_cases ob : Ok b
    · refine (rjoin_any va vb a b w ha hb ra rb oa ob hs).mono ?_
      rintro e w' ⟨⟨u, out, rfl, h1, h2, h3, h4⟩, hk⟩
      exact ⟨⟨u, out, rfl, h1, fun _ => ⟨h2, h3, h4⟩, fun c => absurd ⟨oa, ob⟩ c⟩, hk⟩
    · refine (rjoin_not2 ha ra oa hb rb ob).mono ?_
      rintro e w' ⟨rfl, hk⟩
      exact ⟨⟨_, [], rfl, IsL.nil _, fun c => absurd c.2 ob, fun _ => rfl⟩, hk⟩
  · refine (rjoin_not1 ha ra oa).mono ?_
    rintro e w' ⟨rfl, hk⟩
    exact ⟨⟨_, [], rfl, IsL.nil _, fun c => absurd c.1 oa, fun _ => rfl⟩, hk⟩

set_option maxHeartbeats 2000000 in
theorem radd_gen {w : World} {va : Value} {a : List Sp} (ha : IsL w va a) (ra : Rng a) (hs : a.length ≤ 1000) (n : Int) (n0 : 0 ≤ n) (n1 : n < 18446744073709551616) :
    Calls Try.prog 36 #[va, .int .u64 n] w fun e w' => (∃ u out b, e = .returned (.tuple #[u, .bool b]) ∧ IsL w' u out ∧ AddIs a n out b) ∧ Keep (fun _ => False) w w' := by
  have HA := Lib.hid ha
  have RA := Lib.hid ra
  by_cases hn : n = 18446744073709551615
  · subst hn
    by_cases oa : Ok a
    · have OB := Lib.hid (okB_true oa)
      have AI : Hid (AddIs a 18446744073709551615 a false) := ⟨fun _ => ⟨rfl, fun _ => rfl, fun c => absurd oa c⟩, fun c => absurd rfl c⟩
      clear ha ra oa n0 n1
      have KW : Hid (Keep (fun _ => False) w w) := Keep.refl _ w
      go_enter Try.func36, Try.ntmps36
      go_wp2_with fail
      refine (rmay_any _ a _ (HA.out.keep KW.out) RA.out).mono ?_
      rintro e w1 ⟨rfl, hk1⟩
      rw [OB.out]
      have HK1 := Lib.hid (KW.out.step hk1)
      clear hk1
      go_wp2_with fail
      go_ret2
      exact ⟨⟨va, a, false, rfl, HA.out.keep HK1.out, AI.out⟩, HK1.out⟩
    · have OB := Lib.hid (okB_false oa)
      have AI : Hid (AddIs a 18446744073709551615 [] false) := ⟨fun _ => ⟨rfl, fun c => absurd c oa, fun _ => rfl⟩, fun c => absurd rfl c⟩
      clear ha ra oa n0 n1
      have KW : Hid (Keep (fun _ => False) w w) := Keep.refl _ w
      go_enter Try.func36, Try.ntmps36
      go_wp2_with fail
      refine (rmay_any _ a _ (HA.out.keep KW.out) RA.out).mono ?_
      rintro e w1 ⟨rfl, hk1⟩
      rw [OB.out]
      have HK1 := Lib.hid (KW.out.step hk1)
      clear hk1
      go_wp2_with fail
      go_ret2
      exact ⟨⟨_, [], false, rfl, IsL.nil _, AI.out⟩, HK1.out⟩
  · have hne : (n == 18446744073709551615) = false := by rw [beq_eq_false_iff_ne]; exact hn
    have H1 := Lib.hid (fun (W : World) (b : Nat) (h : W.heap[b]? = some (.cells #[.int .u64 n, .int .u64 n] 46 (0, 0))) => (show IsL W (.slice (some ⟨b, 0, none⟩) 1 1) [⟨n, n⟩] from
      ⟨some ⟨b, 0, none⟩, 1, rfl, by simp, by simp, fun _ => ⟨b, 0, rfl, fun i hi => by
        obtain rfl : i = 0 := by simp at hi; omega
        obtain ⟨c0, c1, _, _⟩ := two_cells h
        exact ⟨c0, c1⟩⟩⟩))
    have R1 := Lib.hid (rng1 n0 n1)
    by_cases oa : Ok a
    · have OB := Lib.hid (okB_true oa)
      have AI : Hid (∀ out, BothIs a [⟨n, n⟩] (fun z => memB a z || memB [⟨n, n⟩] z) out → AddIs a n out (!hasLB a n)) := fun out h => ⟨fun c => absurd c hn, fun _ => ⟨fun _ => ⟨h, by
        by_cases c : mem a n
        · rw [hasLB_true ⟨oa, c⟩, memB_iff.2 c]
        · rw [hasLB_false (fun h => c h.2), memB_false.2 c]⟩, fun c => absurd oa c⟩⟩
      clear ha ra oa
      have KW : Hid (Keep (fun _ => False) w (w.alloc (.cells #[.int .u64 n, .int .u64 n] 46))) := (Keep.refl _ w).alloc _
      have HB0 := Lib.hid (heap_alloc_new w (.cells #[.int .u64 n, .int .u64 n] 46))
      go_enter Try.func36, Try.ntmps36
      go_wp2_with fail
      refine (rmay_any _ a _ (HA.out.keep KW.out) RA.out).mono ?_
      rintro e w1 ⟨rfl, hk1⟩
      rw [OB.out]
      have HK1 := Lib.hid (KW.out.step hk1)
      have HB1 := Lib.hid (hk1.old HB0.out (fun h => h))
      clear hk1
      go_wp2_with fail
      refine (rjoin_gen (HA.out.keep HK1.out) (H1.out _ _ HB1.out) RA.out R1.out (by simp; omega)).mono ?_
      rintro e w2 ⟨⟨u, out, rfl, hu, hb⟩, hk2⟩
      have HU := Lib.hid hu
      have HBB := Lib.hid (AI.out out hb)
      have HK2 := Lib.hid (HK1.out.step hk2)
      clear hu hb hk2
      go_wp2_with fail
      refine (rhas_any _ a n _ (HA.out.keep HK2.out) RA.out).mono ?_
      rintro e w3 ⟨rfl, hk3⟩
      have HU3 := Lib.hid (HU.out.keep hk3)
      have HK3 := Lib.hid (HK2.out.step hk3)
      clear hk3
      go_wp2_with fail
      go_ret2
      exact ⟨⟨u, out, _, rfl, HU3.out, HBB.out⟩, HK3.out⟩
    · have OB := Lib.hid (okB_false oa)
      have AI : Hid (AddIs a n [⟨n, n⟩] true) := ⟨fun c => absurd c hn, fun _ => ⟨fun c => absurd c oa, fun _ => ⟨rfl, rfl⟩⟩⟩
      clear ha ra oa
      have KW : Hid (Keep (fun _ => False) w (w.alloc (.cells #[.int .u64 n, .int .u64 n] 46))) := (Keep.refl _ w).alloc _
      have HB0 := Lib.hid (heap_alloc_new w (.cells #[.int .u64 n, .int .u64 n] 46))
      go_enter Try.func36, Try.ntmps36
      go_wp2_with fail
      refine (rmay_any _ a _ (HA.out.keep KW.out) RA.out).mono ?_
      rintro e w1 ⟨rfl, hk1⟩
      rw [OB.out]
      have HK1 := Lib.hid (KW.out.step hk1)
      have HB1 := Lib.hid (hk1.old HB0.out (fun h => h))
      clear hk1
      go_wp2_with fail
      go_ret2
      exact ⟨⟨_, [⟨n, n⟩], true, rfl, H1.out _ _ HB1.out, AI.out⟩, HK1.out⟩

end Go.Proofs.Ytkbmggclecimeaa
