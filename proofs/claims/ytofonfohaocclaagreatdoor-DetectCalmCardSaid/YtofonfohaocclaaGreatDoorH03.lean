/- Walk of the law's settle. A group of detectors, its lots, and the row of its pointers: a tick of one, and what settles behind it; how many a band has, by the document. -/
import Derived.Test.YtofonfohaocclaaGreatDoorH02
import Derived.Test.YtofonfohaocclaaGreatDoorH01
namespace Go.Proofs.YtofonfohaocclaaGreatDoor
open Go.RowKit Sh
open Go.ChangeMaps (setBlock)
set_option linter.unusedVariables false
set_option linter.unusedSimpArgs false

theorem bhas_hasP (b : Nat) (hb : b < 18446744073709551616) (n : Int) : B.hasP (b : Int) n = bHas b n := by
  unfold bHas
  by_cases h : 0 ≤ n ∧ n < 64
  · obtain ⟨k, rfl⟩ : ∃ k : Nat, n = (k : Int) := ⟨n.toNat, by omega⟩
    rw [B.hasP_nat b k hb (by omega), decide_eq_true h, Int.toNat_natCast]
    rfl
  · rw [B.hasP_out h, decide_eq_false h]
    rfl
/-- Ahead of a round. -/
structure StL (w wr : World) (base xl n up : Nat) (vp : Value) (bs : List Nat) (ds0 : List Det) (L0 : List Int) (N0 : List Nt) (i : Nat) (v2 : Value) (ds : List Det) (L : List Int) (N : List Nt) : Prop where
  eq : settleP up 5001 ds0 L0 N0 = settleP up (5001 - i) ds L N
  grp : Grp wr base bs ds
  lots : IsLots wr xl L
  que : QNts wr base v2 N
  ptr : PtrR wr base vp bs
  ni : ∀ d ∈ ds, NI n d
  nt : ∀ m ∈ N, NtI m
  len : N.length ≤ N0.length + i
  keep : Keep (fun j => base ≤ j) w wr
structure StX (w wr : World) (base xl n up : Nat) (vp : Value) (bs : List Nat) (ds0 : List Det) (L0 : List Int) (N0 : List Nt) (i : Nat) (v2 : Value) : Prop where
  ex : ∃ ds L N, StL w wr base xl n up vp bs ds0 L0 N0 i v2 ds L N
/-- How it ends. -/
structure StEnd (w w' : World) (base xl n : Nat) (vp : Value) (bs : List Nat) (r : List Det × List Int × Bool) : Prop where
  grp : Grp w' base bs r.1
  lots : IsLots w' xl r.2.1
  ptr : PtrR w' base vp bs
  ni : ∀ d ∈ r.1, NI n d
  keep : Keep (fun j => base ≤ j) w w'
theorem mem_set {α : Type} {l : List α} {i : Nat} {x y : α} (h : y ∈ l.set i x) : y ∈ l ∨ y = x := by
  induction l generalizing i with
  | nil => cases h
  | cons a l ih =>
    cases i with
    | zero =>
      simp only [List.set_cons_zero, List.mem_cons] at h
      rcases h with h | h
      · exact .inr h
      · exact .inl (List.mem_cons_of_mem _ h)
    | succ i =>
      simp only [List.set_cons_succ, List.mem_cons] at h
      rcases h with h | h
      · exact .inl (h ▸ List.mem_cons_self)
      · rcases ih h with h | h
        · exact .inl (List.mem_cons_of_mem _ h)
        · exact .inr h
theorem settleP_skip {up f : Nat} {ds : List Det} {L : List Int} {n : Nt} {N : List Nt} (h : (ds.length : Int) ≤ n.dst ∨ bHas up n.dst = false ∨ bHas up n.fr = false) : settleP up (f + 1) ds L (n :: N) = settleP up f ds L N := by
  rw [settleP, if_pos h]
theorem fuel {i : Nat} (h : i ≤ 5000) : 5001 - i = (5001 - (i + 1)) + 1 := by omega
theorem StL.skip {w wr wn : World} {base xl n up : Nat} {vp v2 v' : Value} {bs : List Nat} {ds0 ds : List Det} {L0 L : List Int} {N0 N : List Nt} {m : Nt} {i : Nat} (h : StL w wr base xl n up vp bs ds0 L0 N0 i v2 ds L (m :: N)) (hi : i ≤ 5000) (ht : QNts wr base v' N) (k : Keep (fun _ => False) wr wn)
    (hc : (ds.length : Int) ≤ m.dst ∨ bHas up m.dst = false ∨ bHas up m.fr = false) : StX w wn base xl n up vp bs ds0 L0 N0 (i + 1) v' :=
  ⟨ds, L, N, by rw [h.eq, fuel hi, settleP_skip hc], h.grp.keep0 k, h.lots.keep0 k, ht.keep0 k, h.ptr.keep0 k, h.ni, fun x hx => h.nt x (List.mem_cons_of_mem _ hx), by have := h.len; simp only [List.length_cons] at this; omega, h.keep.step (k.mono fun _ h _ => h.elim)⟩
/-- One has heard a note: the group behind it. -/
theorem StL.hear {w wr w1 w2 : World} {base xl n up b dk : Nat} {vp v2 v' : Value} {bs : List Nat} {ds0 ds : List Det} {L0 L : List Int} {N0 N : List Nt} {m : Nt} {i : Nat} {d : Det} {p : Parts} (h : StL w wr base xl n up vp bs ds0 L0 N0 i v2 ds L (m :: N)) (ht : QNts wr base v' N) (k : Keep (fun _ => False) wr w1)
    (hat : GAt wr base xl bs ds dk b d p) (hxb : base ≤ xl) (hs : DLSet w1 w2 b p xl (d.hear L m).1 (d.hear L m).2.1) (hdd : d ∈ ds) :
    Grp w2 base bs (ds.set dk (d.hear L m).1) ∧ IsLots w2 xl (d.hear L m).2.1 ∧ QNts w2 base v' N ∧ PtrR w2 base vp bs ∧ (∀ e ∈ ds.set dk (d.hear L m).1, NI n e) ∧ Keep (fun j => base ≤ j) w w2 := by
  have hd1 := hat.det.keep0 k
  have hl1 := h.lots.keep0 k
  refine ⟨hat.next w1 w2 _ _ k hs, hs.lots, (ht.keep0 k).keepDL hd1 hl1 hs.keep, (h.ptr.keep0 k).keep hs.keep fun j hj hk hh => ?_, fun e he => ?_, ?_⟩
  · rcases hh with hh | hh
    · exact hd1.khas31 hh hk
    · subst hh
      exact hk.ne hl1.kind (by decide) rfl
  · rcases mem_set he with he | he
    · exact h.ni e he
    · rw [he]
      exact (hear_ng (h.ni d hdd) L m (h.nt m List.mem_cons_self)).ni
  · refine (h.keep.step (k.mono fun _ h _ => h.elim)).trans hs.keep fun j hj hlt => ?_
    rcases hj with hj | hj
    · exact hat.base_ j hj
    · have e : j = xl := hj
      omega
theorem StL.next {w wr w2 w3 : World} {base xl n up dk : Nat} {vp v2 v' v3 : Value} {bs : List Nat} {ds0 ds : List Det} {L0 L : List Int} {N0 N : List Nt} {m : Nt} {i : Nat} {d : Det} (h : StL w wr base xl n up vp bs ds0 L0 N0 i v2 ds L (m :: N)) (hi : i ≤ 5000)
    (h1 : m.dst = (dk : Int)) (h2 : bHas up m.dst = true) (h3 : bHas up m.fr = true) (hd : ds[dk]? = some d) (hc : (d.hear L m).2.2.2 = 0)
    (hh : Grp w2 base bs (ds.set dk (d.hear L m).1) ∧ IsLots w2 xl (d.hear L m).2.1 ∧ QNts w2 base v' N ∧ PtrR w2 base vp bs ∧ (∀ e ∈ ds.set dk (d.hear L m).1, NI n e) ∧ Keep (fun j => base ≤ j) w w2)
    (hq : QNts w3 base v3 (N ++ (d.hear L m).2.2.1)) (k3 : Keep (fun j => v'.ownBlock = some j) w2 w3) (hvb : ∀ g, v'.ownBlock = some g → base ≤ g ∧ Kind w2 g (some 62)) : StX w w3 base xl n up vp bs ds0 L0 N0 (i + 1) v3 := by
  obtain ⟨hg, hl, hq2, hp, hni, hk⟩ := hh
  have hdl : dk < ds.length := (List.getElem?_eq_some_iff.1 hd).1
  have hdm : d ∈ ds := List.mem_of_getElem? hd
  have hng := hear_ng (h.ni d hdm) L m (h.nt m List.mem_cons_self)
  have hln : (d.hear L m).2.2.1.length ≤ 1 := LE.hear_len d L m
  refine ⟨ds.set dk (d.hear L m).1, (d.hear L m).2.1, N ++ (d.hear L m).2.2.1, ?_, hg.keep k3 (fun t j hj hb q1 q2 q3 q4 q5 e => ?_), hl.keep k3 (fun e => ?_) (fun g cs hg' e => ?_), hq, hp.keep k3 (fun j hj hk' e => ?_), hni, fun x hx => ?_, ?_, hk.trans k3 fun j hj hlt => (hvb j hj).1⟩
  · rw [h.eq, fuel hi, settleP_hear (d := d) (by rw [h1]; omega) h2 h3 (by rw [h1, Int.toNat_natCast]; exact hd) hc, h1, Int.toNat_natCast]
  · exact hj.ne (hvb j e).2 q4 rfl
  · exact (hvb xl e).2.ne hl.kind (by decide) rfl
  · exact (hvb g e).2.ne (⟨cs, hg'⟩ : Kind w2 g (some 29)) (by decide) rfl
  · exact hk'.ne (hvb j e).2 (by decide) rfl
  · rcases List.mem_append.1 hx with hx | hx
    · exact h.nt x (List.mem_cons_of_mem _ hx)
    · exact hng.nt x hx
  · have := h.len
    simp only [List.length_cons] at this
    rw [List.length_append]
    omega
theorem st_meas {i z : Nat} (h : i + z = 5001) (hi : i ≤ 5000) : 5001 - (i + 1) < z := by omega
theorem st_rel {i : Nat} (hi : i ≤ 5000) : i + 1 + (5001 - (i + 1)) = 5001 := by omega
theorem dl_note {w : World} {b xl j : Nat} {d : Det} {p : Parts} {L : List Int} (hd : IsDet w b d p) (hl : IsLots w xl L) (hj : Kind w j (some 62)) : ¬ (p.has b j ∨ j = xl) := by
  rintro (hh | hh)
  · obtain ⟨t, ht, q1, q2, q3, q4⟩ := hd.khas hh
    exact ht.ne hj q4 rfl
  · subst hh
    exact hj.ne hl.kind (by decide) rfl
theorem dl_ptr {w : World} {b xl j : Nat} {d : Det} {p : Parts} {L : List Int} (hd : IsDet w b d p) (hl : IsLots w xl L) (hj : Kind w j (some 31)) : ¬ (p.has b j ∨ j = xl) := by
  rintro (hh | hh)
  · exact hd.khas31 hh hj
  · subst hh
    exact hj.ne hl.kind (by decide) rfl
theorem settleP_bad {up f : Nat} {ds : List Det} {L : List Int} {n : Nt} {N : List Nt} {d : Det} {k : Nat} (h1 : n.dst < (ds.length : Int)) (h2 : bHas up n.dst = true) (h3 : bHas up n.fr = true) (hd : ds[k]? = some d) (hc : (d.hear L n).2.2.2 ≠ 0) (hk : n.dst = (k : Int) := by rfl) :
    settleP up (f + 1) ds L (n :: N) = (ds.set k (d.hear L n).1, (d.hear L n).2.1, false) := by
  rw [settleP, if_neg, hk, Int.toNat_natCast, hd]
  · simp only [hc, ne_eq, not_false_eq_true, if_true]
  · rw [h2, h3]; simp; omega
theorem QNts.vb {w : World} {base : Nat} {v : Value} {N : List Nt} (h : QNts w base v N) {g : Nat} (hg : v.ownBlock = some g) : base ≤ g ∧ Kind w g (some 62) := by
  obtain ⟨ps, h1, h2, h3, h4⟩ := h.ex
  exact ⟨h4 g hg, ⟨h2.typed hg⟩⟩
set_option maxRecDepth 100000 in
set_option maxHeartbeats 4000000 in
theorem settle_any {w : World} {base xl n up : Nat} {vp v0 : Value} {bs : List Nat} {ds : List Det} {L : List Int} {N : List Nt} (hg : Grp w base bs ds) (hl : IsLots w xl L) (hq : QNts w base v0 N) (hp : PtrR w base vp bs) (hni : ∀ d ∈ ds, NI n d) (hnt : ∀ m ∈ N, NtI m)
    (hup : up < 18446744073709551616) (hn : n < 137438953472) (hNl : N.length ≤ 549755813888) (hb : base ≤ w.heap.size) (hxb : base ≤ xl) (hb0 : 0 < base) (hT : TabAt 0 B.tabS w) (hbl : bs.length < 1099511627776) :
    Calls Tryz.prog 11 #[vp, .int .u64 (up : Int), v0, .pointer (some ⟨xl, 0, none⟩)] w fun e w' => e = .returned (.bool (settleP up 5001 ds L N).2.2) ∧ StEnd w w' base xl n vp bs (settleP up 5001 ds L N) := by
  obtain ⟨Ap, cp, hvp, hpc⟩ := hp.ex
  obtain ⟨A0, c0, hv0⟩ := hq.shape
  have HST : Hid (StX w w base xl n up vp bs ds L N 0 v0) := Lib.hid ⟨ds, L, N, rfl, hg, hl, hq, hp, hni, hnt, by omega, Keep.refl _ _⟩
  have HUP := Lib.hid hup
  have HN := Lib.hid hn
  have HNL := Lib.hid hNl
  have HB := Lib.hid hb
  have HXB := Lib.hid hxb
  have HB0 := Lib.hid hb0
  have HT := Lib.hid hT
  have HBL := Lib.hid hbl
  have HPC := Lib.hid hpc
  have HLEN := Lib.hid hg.len
  clear hg hl hq hp hni hnt hup hn hNl hb hxb hb0 hT hpc hbl
  subst hvp
  subst hv0
  go_enter Tryz.func11, Tryz.ntmps11
  go_wp2_with fail
  go_loopg [2, 9] 5001 (fun z v2 v9 wr => ∃ i : Nat, i + z = 5001 ∧ v9 = .int .i64 (i : Int) ∧ StX w wr base xl n up (.slice Ap bs.length cp) bs ds L N i v2)
  case atStart => exact ⟨0, rfl, rfl, HST.out⟩
  case round =>
    obtain ⟨i, hz, rfl, hst⟩ := hrel
    have HZ := Lib.hid hz
    obtain ⟨di, Li, Ni, hs⟩ := hst.ex
    have HS := Lib.hid hs
    have hi1 : i ≤ 5001 := by omega
    have w1i := wrap_succ i (by omega)
    clear hst hz
    cases Ni with
    | nil =>
      obtain ⟨A, c, hv⟩ := hs.que.shape
      have hres : settleP up 5001 ds L N = (di, Li, true) := by rw [hs.eq, settleP_nil]
      have HRES := Lib.hid hres
      have HF : Hid (StEnd w wr base xl n (.slice Ap bs.length cp) bs (di, Li, true)) := Lib.hid ⟨hs.grp, hs.lots, hs.ptr, hs.ni, hs.keep⟩
      subst hv
      clear hs hres HS
      go_wp2_with fail
      go_ret
      rw [HRES.out]
      exact ⟨rfl, HF.out⟩
    | cons nn Nr =>
      obtain ⟨g, o, vn, v', hh⟩ := hs.que.head
      obtain ⟨c, hv⟩ := hh.at_
      subst hv
      obtain ⟨b0, b1, b2, b3, b4, b5⟩ := hh.cells
      have hrun := hh.run
      have HH := Lib.hid hh
      clear hs hh
      obtain ⟨n0, n1, n2, n3, n4, n5⟩ := nn
      simp only at b0 b1 b2 b3 b4 b5
      have s1 : decide ((0 : Int) < ((Nr.length + 1 : Nat) : Int)) = true := decide_eq_true (by omega)
      have s2 : (0 : Int) < ((Nr.length + 1 : Nat) : Int) := by omega
      obtain ⟨An, cn, hvn⟩ := HH.out.news.shape
      subst hvn
      obtain ⟨wn, hwn⟩ : ∃ wn, wn = wr.alloc (.cells #[.int .i64 n0, .int .i64 n1, .int .i64 n2, .int .u64 n3, .int .i64 n4, .slice An n5.length cn] 62) := ⟨_, rfl⟩
      have kn : Keep (fun _ => False) wr wn := by rw [hwn]; exact (Keep.refl _ wr).alloc _
      have x0 : wn.cell? ⟨wr.heap.size, 0, none⟩ = some (.int .i64 n0) := by rw [hwn]; exact alc _ _ _ _ _ rfl
      have x1 : wn.cell? ⟨wr.heap.size, 1, none⟩ = some (.int .i64 n1) := by rw [hwn]; exact alc _ _ _ _ _ rfl
      have x2 : wn.cell? ⟨wr.heap.size, 2, none⟩ = some (.int .i64 n2) := by rw [hwn]; exact alc _ _ _ _ _ rfl
      have x3 : wn.cell? ⟨wr.heap.size, 3, none⟩ = some (.int .u64 n3) := by rw [hwn]; exact alc _ _ _ _ _ rfl
      have x4 : wn.cell? ⟨wr.heap.size, 4, none⟩ = some (.int .i64 n4) := by rw [hwn]; exact alc _ _ _ _ _ rfl
      have x5 : wn.cell? ⟨wr.heap.size, 5, none⟩ = some (.slice An n5.length cn) := by rw [hwn]; exact alc _ _ _ _ _ rfl
      have ubn : wr.heap.size < wn.heap.size := by rw [hwn]; simp
      have HKN := Lib.hid kn
      clear kn
      go_upto_region 6 with fail
      rw [← hwn]
      have HWN := Lib.hid hwn
      clear hwn b0 b1 b2 b3 b4 b5 hrun s1 s2
      by_cases h5 : i = 5001
      · have e5 : 5001 - i = 0 := by omega
        have hres : settleP up 5001 ds L N = (di, Li, false) := by rw [HS.out.eq, e5]; rfl
        have HRES := Lib.hid hres
        have HF : Hid (StEnd w wn base xl n (.slice Ap bs.length cp) bs (di, Li, false)) := Lib.hid ⟨HS.out.grp.keep0 HKN.out, HS.out.lots.keep0 HKN.out, HS.out.ptr.keep0 HKN.out, HS.out.ni, HS.out.keep.step (HKN.out.mono fun _ h _ => h.elim)⟩
        have d5 : decide ((5000 : Int) < (i : Int)) = true := decide_eq_true (by omega)
        clear hres HS h5 e5
        go_wp2_with fail
        go_ret
        rw [HRES.out]
        exact ⟨rfl, HF.out⟩
      have hi5 : i ≤ 5000 := by omega
      have HI5 := Lib.hid hi5
      have d5 : decide ((5000 : Int) < (i : Int)) = false := decide_eq_false (by omega)
      have hrh := fun (k : Int) W => B.rhas_any (up : Int) k W (by omega) (by have := HUP.out; omega)
      have hbp := fun (k : Int) => bhas_hasP up HUP.out k
      have HL2 : Hid ((bs.length : Int) = (di.length : Int)) := Lib.hid (by rw [HS.out.grp.len])
      clear h5 hi5
      by_cases q1 : (di.length : Int) ≤ n2
      · have HN2 : Hid (StX w wn base xl n up (.slice Ap bs.length cp) bs ds L N (i + 1) v') := Lib.hid (HS.out.skip HI5.out HH.out.tail HKN.out (.inl q1))
        have g1 : decide ((bs.length : Int) ≤ n2) = true := decide_eq_true (by rw [HL2.out]; exact q1)
        clear HS HH q1
        go_wp2_with fail
        go_roundg (5001 - (i + 1))
        case measure => exact st_meas HZ.out HI5.out
        case rel => exact ⟨i + 1, st_rel HI5.out, rfl, HN2.out⟩
      · have g1 : decide ((bs.length : Int) ≤ n2) = false := decide_eq_false (by rw [HL2.out]; exact q1)
        cases q2 : bHas up n2 with
        | false =>
          have HN2 : Hid (StX w wn base xl n up (.slice Ap bs.length cp) bs ds L N (i + 1) v') := Lib.hid (HS.out.skip HI5.out HH.out.tail HKN.out (.inr (.inl q2)))
          clear HS HH q1
          go_wp2_with fail
          refine (hrh n2 _).mono ?_
          rintro e w9 ⟨rfl, rfl⟩
          rw [hbp, q2]
          go_wp2_with fail
          go_roundg (5001 - (i + 1))
          case measure => exact st_meas HZ.out HI5.out
          case rel => exact ⟨i + 1, st_rel HI5.out, rfl, HN2.out⟩
        | true =>
          cases q3 : bHas up n1 with
          | false =>
            have HN2 : Hid (StX w wn base xl n up (.slice Ap bs.length cp) bs ds L N (i + 1) v') := Lib.hid (HS.out.skip HI5.out HH.out.tail HKN.out (.inr (.inr q3)))
            clear HS HH q1
            go_wp2_with fail
            refine (hrh n2 _).mono ?_
            rintro e w9 ⟨rfl, rfl⟩
            rw [hbp, q2]
            go_wp2_with fail
            refine (hrh n1 _).mono ?_
            rintro e w9 ⟨rfl, rfl⟩
            rw [hbp, q3]
            go_wp2_with fail
            go_roundg (5001 - (i + 1))
            case measure => exact st_meas HZ.out HI5.out
            case rel => exact ⟨i + 1, st_rel HI5.out, rfl, HN2.out⟩
          | true =>
            obtain ⟨dk, hdk⟩ : ∃ dk : Nat, n2 = (dk : Int) := ⟨n2.toNat, by
              unfold bHas at q2
              rw [Bool.and_eq_true, decide_eq_true_eq] at q2
              omega⟩
            subst hdk
            have hdl : dk < di.length := by omega
            obtain ⟨d, hd⟩ : ∃ d, di[dk]? = some d := ⟨di[dk], List.getElem?_eq_getElem hdl⟩
            obtain ⟨b, p, hbk, hat⟩ := HS.out.grp.at HS.out.lots (by have := HB.out; have := HS.out.keep.size; omega) hd
            obtain ⟨A', c', hv', hc'⟩ := HS.out.ptr.ex
            have hbk0 : 0 < bs.length := by have := (List.getElem?_eq_some_iff.1 hbk).1; omega
            obtain ⟨gp, op, hA', hgb, hgk, hcell⟩ := hc' hbk0
            injection hv' with e1 e2 e3
            subst hA'
            subst e1
            subst e3
            have lp := HKN.out.cell (hcell dk b hbk)
            have kd : Keep (fun _ => False) wr wn.drew := HKN.out.drew
            have hdn := hat.det.keep0 kd
            have hln := HS.out.lots.keep0 kd
            have hnews := HH.out.news.keep0 kd
            have hdm : d ∈ di := List.mem_of_getElem? hd
            have hnid := HS.out.ni d hdm
            have hnt := HS.out.nt _ List.mem_cons_self
            have hkw : Keep (fun j => base ≤ j) w wn.drew := HS.out.keep.step (kd.mono fun _ h _ => h.elim)
            have htab : TabAt 0 B.tabS wn.drew := B.tab_keep HT.out hkw (fun h => by have h' : base ≤ 0 := h; have := HB0.out; omega)
            have HHR := Lib.hid (hear_det hdn hnid.ko.ok (hnid.ko.w (by have := HN.out; omega)) htab hln ⟨n0, n1, (dk : Int), n3, n4, n5⟩ (.slice An n5.length cn) (NewsR.of_row hnews hdn hln) hnt.inc (by have := hnt.len; show n5.length < _; simp only at this; omega) (by have := HXB.out; have := HB0.out; omega))
            have HDN := Lib.hid hdn
            have HLN := Lib.hid hln
            have HKD := Lib.hid kd
            have HAT := Lib.hid hat
            have HDI := Lib.hid hd
            have HDM := Lib.hid hdm
            have HC := Lib.hid hc'
            have HGK : Hid (Kind wn.drew gp (some 31)) := Lib.hid (by
              obtain ⟨cs, hh⟩ := hgk.is
              exact ⟨⟨cs, kd.old hh id⟩⟩)
            have HNK : Hid (Kind wn.drew wr.heap.size (some 62)) := Lib.hid (by
              exact ⟨⟨_, by rw [heap_drew, HWN.out]; exact heap_alloc_new wr _⟩⟩)
            have S0 : (fun W' : World => W'.cell? ⟨wr.heap.size, 0, none⟩ = some (.int .i64 n0) ∧ W'.cell? ⟨wr.heap.size, 1, none⟩ = some (.int .i64 n1) ∧ W'.cell? ⟨wr.heap.size, 2, none⟩ = some (.int .i64 (dk : Int)) ∧ W'.cell? ⟨wr.heap.size, 3, none⟩ = some (.int .u64 n3) ∧ W'.cell? ⟨wr.heap.size, 4, none⟩ = some (.int .i64 n4) ∧ W'.cell? ⟨wr.heap.size, 5, none⟩ = some (.slice An n5.length cn) ∧ W'.cell? ⟨gp, op + dk, none⟩ = some (.pointer (some ⟨b, 0, none⟩))) wn.drew := ⟨x0, x1, x2, x3, x4, x5, lp⟩
            have i1 : ¬ ((dk : Int) < 0) := by omega
            have i2 : (dk : Int) < (bs.length : Int) := by rw [HL2.out]; omega
            clear hat hd hdm hnid hnt hkw htab hdn hln hnews kd hc' hgk hcell hbk hbk0 q1 hgb hdl
            have g2 : decide (bs.length ≤ dk) = false := decide_eq_false (by omega)
            go_wp2_with fail
            refine (hrh (dk : Int) _).mono ?_
            rintro e w9 ⟨rfl, rfl⟩
            rw [hbp, q2]
            go_wp2_with fail
            refine (hrh n1 _).mono ?_
            rintro e w9 ⟨rfl, rfl⟩
            rw [hbp, q3]
            go_upto_region 9 with fail
            refine Upto.start (fun W' : World => W'.cell? ⟨wr.heap.size, 0, none⟩ = some (.int .i64 n0) ∧ W'.cell? ⟨wr.heap.size, 1, none⟩ = some (.int .i64 n1) ∧ W'.cell? ⟨wr.heap.size, 2, none⟩ = some (.int .i64 (dk : Int)) ∧ W'.cell? ⟨wr.heap.size, 3, none⟩ = some (.int .u64 n3) ∧ W'.cell? ⟨wr.heap.size, 4, none⟩ = some (.int .i64 n4) ∧ W'.cell? ⟨wr.heap.size, 5, none⟩ = some (.slice An n5.length cn) ∧ W'.cell? ⟨gp, op + dk, none⟩ = some (.pointer (some ⟨b, 0, none⟩))) 1000 (by kernel_rfl) ?_
            change Upto _ _ _ _ _ _ 13 _ _ _
            refine Upto.takeS (i := 0) (v := ?v0) rfl (by kernel_rfl) (by kernel_rfl) (by kernel_rfl) (by kernel_rfl) (fun _ _ _ h => h) S0 (Or.inl ⟨by rfl, ?hy0⟩) ?rest0
            case hy0 =>
              intro W' hW
              obtain ⟨l0, l1, l2, l3, l4, l5, lp⟩ := hW
              go_simp
              try with_reducible rfl
            try simp only [Act.put, List.setIfInBounds_toArray, List.set_cons_zero, List.set_cons_succ]
            refine Upto.takeS (i := 1) (v := ?v1) rfl (by kernel_rfl) (by kernel_rfl) (by kernel_rfl) (by kernel_rfl) (fun _ _ _ h => h) S0 (Or.inl ⟨by rfl, ?hy1⟩) ?rest1
            case hy1 =>
              intro W' hW
              obtain ⟨l0, l1, l2, l3, l4, l5, lp⟩ := hW
              go_simp
              try with_reducible rfl
            try simp only [Act.put, List.setIfInBounds_toArray, List.set_cons_zero, List.set_cons_succ]
            refine Upto.takeS (i := 2) (v := ?v2) rfl (by kernel_rfl) (by kernel_rfl) (by kernel_rfl) (by kernel_rfl) (fun _ _ _ h => h) S0 (Or.inl ⟨by rfl, ?hy2⟩) ?rest2
            case hy2 =>
              intro W' hW
              obtain ⟨l0, l1, l2, l3, l4, l5, lp⟩ := hW
              go_simp
              try with_reducible rfl
            try simp only [Act.put, List.setIfInBounds_toArray, List.set_cons_zero, List.set_cons_succ]
            refine Upto.takeS (i := 3) (v := ?v3) rfl (by kernel_rfl) (by kernel_rfl) (by kernel_rfl) (by kernel_rfl) (fun _ _ _ h => h) S0 (Or.inl ⟨by rfl, ?hy3⟩) ?rest3
            case hy3 =>
              intro W' hW
              obtain ⟨l0, l1, l2, l3, l4, l5, lp⟩ := hW
              go_simp
              try with_reducible rfl
            try simp only [Act.put, List.setIfInBounds_toArray, List.set_cons_zero, List.set_cons_succ]
            refine Upto.takeS (i := 4) (v := ?v4) rfl (by kernel_rfl) (by kernel_rfl) (by kernel_rfl) (by kernel_rfl) (fun _ _ _ h => h) S0 (Or.inl ⟨by rfl, ?hy4⟩) ?rest4
            case hy4 =>
              intro W' hW
              obtain ⟨l0, l1, l2, l3, l4, l5, lp⟩ := hW
              go_simp
              try with_reducible rfl
            try simp only [Act.put, List.setIfInBounds_toArray, List.set_cons_zero, List.set_cons_succ]
            refine Upto.takeS (i := 5) (v := ?v5) rfl (by kernel_rfl) (by kernel_rfl) (by kernel_rfl) (by kernel_rfl) (fun _ _ _ h => h) S0 (Or.inl ⟨by rfl, ?hy5⟩) ?rest5
            case hy5 =>
              intro W' hW
              obtain ⟨l0, l1, l2, l3, l4, l5, lp⟩ := hW
              go_simp
              try with_reducible rfl
            try simp only [Act.put, List.setIfInBounds_toArray, List.set_cons_zero, List.set_cons_succ]
            refine Upto.takeS (i := 6) (v := ?v6) rfl (by kernel_rfl) (by kernel_rfl) (by kernel_rfl) (by kernel_rfl) (fun _ _ _ h => h) S0 (Or.inl ⟨by rfl, ?hy6⟩) ?rest6
            case hy6 =>
              intro W' hW
              obtain ⟨l0, l1, l2, l3, l4, l5, lp⟩ := hW
              go_simp
              try with_reducible rfl
            try simp only [Act.put, List.setIfInBounds_toArray, List.set_cons_zero, List.set_cons_succ]
            refine Upto.one (i := 7) (by kernel_rfl) rfl (fun K hK => ?_)
            go_simp
            refine HHR.out.mono ?_
            rintro e w2 ⟨v3, rfl, hs⟩
            have hnn := dl_note HDN.out HLN.out HNK.out
            have hnp := dl_ptr HDN.out HLN.out HGK.out
            have hk2 := hs.set.keep
            have S2 : (fun W' : World => W'.cell? ⟨wr.heap.size, 0, none⟩ = some (.int .i64 n0) ∧ W'.cell? ⟨wr.heap.size, 1, none⟩ = some (.int .i64 n1) ∧ W'.cell? ⟨wr.heap.size, 2, none⟩ = some (.int .i64 (dk : Int)) ∧ W'.cell? ⟨wr.heap.size, 3, none⟩ = some (.int .u64 n3) ∧ W'.cell? ⟨wr.heap.size, 4, none⟩ = some (.int .i64 n4) ∧ W'.cell? ⟨wr.heap.size, 5, none⟩ = some (.slice An n5.length cn) ∧ W'.cell? ⟨gp, op + dk, none⟩ = some (.pointer (some ⟨b, 0, none⟩))) w2 := ⟨hk2.cellS S0.1 hnn, hk2.cellS S0.2.1 hnn, hk2.cellS S0.2.2.1 hnn, hk2.cellS S0.2.2.2.1 hnn, hk2.cellS S0.2.2.2.2.1 hnn, hk2.cellS S0.2.2.2.2.2.1 hnn, hk2.cellS S0.2.2.2.2.2.2 hnp⟩
            have HHE := Lib.hid (HS.out.hear HH.out.tail HKD.out HAT.out HXB.out hs.set HDM.out)
            have HOW := Lib.hid hs.own
            refine hK.out _ _ (.inr S2) ?_
            clear hK K hs hnn hnp hk2 HHR S0
            obtain ⟨cc, hcc⟩ : ∃ cc, cc = (d.hear Li ⟨n0, n1, (dk : Int), n3, n4, n5⟩).2.2.2 := ⟨_, rfl⟩
            rw [← hcc]
            by_cases hc0 : cc = 0
            · subst hc0
              have HC0 := Lib.hid hcc.symm
              clear hcc
              try simp only [Act.put, List.setIfInBounds_toArray, List.set_cons_zero, List.set_cons_succ]
              refine Upto.one (i := 8) (by kernel_rfl) rfl (fun K hK => ?_)
              go_simp
              refine hK.out _ _ (.inr S2) ?_
              clear hK K
              refine Upto.takeS (i := 9) (v := ?v9a) rfl (by kernel_rfl) (by kernel_rfl) (by kernel_rfl) (by kernel_rfl) (fun _ _ _ h => h) S2 (Or.inl ⟨by rfl, ?hy9a⟩) ?rest9a
              case hy9a =>
                intro W' hW
                obtain ⟨l0, l1, l2, l3, l4, l5, lp⟩ := hW
                go_simp
                try with_reducible rfl
              try simp only [Act.put, List.setIfInBounds_toArray, List.set_cons_zero, List.set_cons_succ]
              refine Upto.takeS (i := 10) (v := ?v10a) rfl (by kernel_rfl) (by kernel_rfl) (by kernel_rfl) (by kernel_rfl) (fun _ _ _ h => h) S2 (Or.inl ⟨by rfl, ?hy10a⟩) ?rest10a
              case hy10a =>
                intro W' hW
                obtain ⟨l0, l1, l2, l3, l4, l5, lp⟩ := hW
                go_simp
                try with_reducible rfl
              try simp only [Act.put, List.setIfInBounds_toArray, List.set_cons_zero, List.set_cons_succ]
              try simp only [Act.put, List.setIfInBounds_toArray, List.set_cons_zero, List.set_cons_succ]
              refine Upto.one (i := 11) (by kernel_rfl) rfl (fun K hK => ?_)
              go_simp
              refine hK.out _ _ (.inr S2) ?_
              clear hK K
              try simp only [Act.put, List.setIfInBounds_toArray, List.set_cons_zero, List.set_cons_succ]
              refine Upto.one (i := 12) (by kernel_rfl) rfl (fun K hK => ?_)
              go_simp
              refine hK.out _ _ (.inr S2) ?_
              clear hK K
              refine Upto.done (by kernel_rfl) ?_
              have HQ2 := Lib.hid HHE.out.2.2.1
              have hb2 : base ≤ wn.drew.heap.size := by have := HB.out; have := HS.out.keep.size; have := HKD.out.size; omega
              have hw2 : base ≤ w2.heap.size := by have := HB.out; have := HHE.out.2.2.2.2.2.size; omega
              have hln : Nr.length + (d.hear Li ⟨n0, n1, (dk : Int), n3, n4, n5⟩).2.2.1.length ≤ 1099511627776 := by
                have h1 := LE.hear_len d Li ⟨n0, n1, (dk : Int), n3, n4, n5⟩
                have h2 := HS.out.len
                have h3 := HNL.out
                have h4 := HI5.out
                simp only [List.length_cons] at h2
                omega
              clear S2
              go_wp2_with (at_builtin; refine wpList_append_nts rfl _ _ rfl rfl rfl HQ2.out HOW.out hb2 hw2 hln ?_)
              intro v9 w3 hq hk
              have HN2 := Lib.hid (HS.out.next HI5.out rfl q2 q3 HDI.out HC0.out HHE.out hq hk (fun g hg => HQ2.out.vb hg))
              clear hq hk
              go_wp2_with fail
              go_roundg (5001 - (i + 1))
              case measure => exact st_meas HZ.out HI5.out
              case rel => exact ⟨i + 1, st_rel HI5.out, rfl, HN2.out⟩
            · have HF : Hid (StEnd w w2 base xl n (.slice (some ⟨gp, op, none⟩) bs.length cp) bs (settleP up 5001 ds L N) ∧ (settleP up 5001 ds L N).2.2 = false) := Lib.hid (by
                obtain ⟨z1, z2, z3, z4, z5, z6⟩ := HHE.out
                have e : settleP up 5001 ds L N = (di.set dk (d.hear Li ⟨n0, n1, (dk : Int), n3, n4, n5⟩).1, (d.hear Li ⟨n0, n1, (dk : Int), n3, n4, n5⟩).2.1, false) := by
                  rw [HS.out.eq, fuel HI5.out]
                  exact settleP_bad (d := d) (n := ⟨n0, n1, (dk : Int), n3, n4, n5⟩) (by show (dk : Int) < _; rw [← HL2.out]; exact i2) q2 q3 HDI.out (by rw [← hcc]; exact hc0)
                rw [e]
                exact ⟨⟨z1, z2, z4, z5, z6⟩, rfl⟩)
              have cb : (cc == 0) = false := by rw [beq_eq_false_iff_ne]; exact hc0
              clear hcc
              try simp only [Act.put, List.setIfInBounds_toArray, List.set_cons_zero, List.set_cons_succ]
              refine Upto.one (i := 8) (by kernel_rfl) rfl (fun K hK => ?_)
              go_simp
              refine hK.out _ _ (.inr S2) ?_
              clear hK K
              refine Upto.takeS (i := 9) (v := ?v9) rfl (by kernel_rfl) (by kernel_rfl) (by kernel_rfl) (by kernel_rfl) (fun _ _ _ h => h) S2 (Or.inl ⟨by rfl, ?hy9⟩) ?rest9
              case hy9 =>
                intro W' hW
                obtain ⟨l0, l1, l2, l3, l4, l5, lp⟩ := hW
                go_simp
                try with_reducible rfl
              try simp only [Act.put, List.setIfInBounds_toArray, List.set_cons_zero, List.set_cons_succ]
              refine Upto.takeS (i := 10) (v := ?v10) rfl (by kernel_rfl) (by kernel_rfl) (by kernel_rfl) (by kernel_rfl) (fun _ _ _ h => h) S2 (Or.inl ⟨by rfl, ?hy10⟩) ?rest10
              case hy10 =>
                intro W' hW
                obtain ⟨l0, l1, l2, l3, l4, l5, lp⟩ := hW
                go_simp
                try with_reducible rfl
              try simp only [Act.put, List.setIfInBounds_toArray, List.set_cons_zero, List.set_cons_succ]
              try simp only [Act.put, List.setIfInBounds_toArray, List.set_cons_zero, List.set_cons_succ]
              refine Upto.one (i := 11) (by kernel_rfl) rfl (fun K hK => ?_)
              go_simp
              refine hK.out _ _ (.inr S2) ?_
              clear hK K
              try simp only [Act.put, List.setIfInBounds_toArray, List.set_cons_zero, List.set_cons_succ]
              refine Upto.one (i := 12) (by kernel_rfl) rfl (fun K hK => ?_)
              go_simp
              refine hK.out _ _ (.inr S2) ?_
              clear hK K
              refine Upto.done (by kernel_rfl) ?_
              go_wp2_with fail
              go_ret
              rw [HF.out.2]
              exact ⟨rfl, HF.out.1⟩
end Go.Proofs.YtofonfohaocclaaGreatDoor

namespace Go.Proofs.YtofonfohaocclaaGreatDoor
open Go.RowKit Sh
open Go.ChangeMaps (setBlock)
set_option linter.unusedVariables false
set_option linter.unusedSimpArgs false

theorem Grp.mono {w : World} {base base' : Nat} {bs : List Nat} {ds : List Det} (h : Grp w base bs ds) (hb : base' ≤ base) : Grp w base' bs ds := by
  obtain ⟨ps, h1, h2⟩ := h.ex
  exact ⟨h.len, ps, fun i b d hb' hd => ⟨(h1 i b d hb' hd).1, fun k hk => Nat.le_trans hb ((h1 i b d hb' hd).2 k hk)⟩, h2⟩
theorem PtrR.mono {w : World} {base base' : Nat} {v : Value} {bs : List Nat} (h : PtrR w base v bs) (hb : base' ≤ base) : PtrR w base' v bs := by
  obtain ⟨A, c, hv, hc⟩ := h.ex
  refine ⟨A, c, hv, fun h0 => ?_⟩
  obtain ⟨g, o, hA, hg, r⟩ := hc h0
  exact ⟨g, o, hA, Nat.le_trans hb hg, r⟩
structure GSt (w wr : World) (xl t : Nat) (vp : Value) (bs : List Nat) (ds : List Det) (L : List Int) : Prop where
  grp : Grp wr w.heap.size bs ds
  lots : IsLots wr xl L
  ptr : PtrR wr w.heap.size vp bs
  ni : ∀ d ∈ ds, NI t d
  keep : Keep (fun _ => False) w wr
  xb : w.heap.size ≤ xl
  hw : 0 < w.heap.size
  tab : TabAt 0 B.tabS w
theorem NI.le {n m : Nat} {d : Det} (h : NI n d) (hn : n ≤ m) : NI m d := ⟨h.ko.le hn, h.q⟩
theorem GSt.keep0 {w wr w' : World} {xl t : Nat} {vp : Value} {bs : List Nat} {ds : List Det} {L : List Int} (h : GSt w wr xl t vp bs ds L) (k : Keep (fun _ => False) wr w') : GSt w w' xl t vp bs ds L :=
  ⟨h.grp.keep0 k, h.lots.keep0 k, h.ptr.keep0 k, h.ni, h.keep.step k, h.xb, h.hw, h.tab⟩
theorem GSt.le {w wr : World} {xl t t' : Nat} {vp : Value} {bs : List Nat} {ds : List Det} {L : List Int} (h : GSt w wr xl t vp bs ds L) (ht : t ≤ t') : GSt w wr xl t' vp bs ds L :=
  ⟨h.grp, h.lots, h.ptr, fun d hd => (h.ni d hd).le ht, h.keep, h.xb, h.hw, h.tab⟩
theorem GSt.at {w wr : World} {xl t : Nat} {vp : Value} {bs : List Nat} {ds : List Det} {L : List Int} (h : GSt w wr xl t vp bs ds L) {k : Nat} {d : Det} (hd : ds[k]? = some d) :
    ∃ b p g o c, bs[k]? = some b ∧ IsDet wr b d p ∧ vp = .slice (some ⟨g, o, none⟩) bs.length c ∧ wr.cell? ⟨g, o + k, none⟩ = some (.pointer (some ⟨b, 0, none⟩)) := by
  obtain ⟨b, p, hb, hat⟩ := h.grp.at h.lots (h.keep.size) hd
  obtain ⟨A, c, hv, hc⟩ := h.ptr.ex
  obtain ⟨g, o, hA, _, _, hcell⟩ := hc (by have := (List.getElem?_eq_some_iff.1 hb).1; omega)
  exact ⟨b, p, g, o, c, hb, hat.det, by rw [hv, hA], hcell k b hb⟩
theorem GSt.len {w wr : World} {xl t : Nat} {vp : Value} {bs : List Nat} {ds : List Det} {L : List Int} (h : GSt w wr xl t vp bs ds L) : bs.length = ds.length := h.grp.len
theorem GSt.tabr {w wr : World} {xl t : Nat} {vp : Value} {bs : List Nat} {ds : List Det} {L : List Int} (h : GSt w wr xl t vp bs ds L) : TabAt 0 B.tabS wr := B.tab_keep h.tab h.keep id
/-- One ticks. -/
theorem GSt.tick {w wr : World} {xl t : Nat} {vp : Value} {bs : List Nat} {ds : List Det} {L : List Int} (h : GSt w wr xl t vp bs ds L) {k b : Nat} {d : Det} (hd : ds[k]? = some d) (hb : bs[k]? = some b) (ht : t < 137438953472) :
    Calls Tryz.prog 12 #[.pointer (some ⟨b, 0, none⟩), .pointer (some ⟨xl, 0, none⟩)] wr fun e w1 => ∃ v, e = .returned v ∧ GSt w w1 xl (t + 1) vp bs (ds.set k (d.tick L).1) (d.tick L).2.1 ∧ QNts w1 w.heap.size v (d.tick L).2.2 := by
  obtain ⟨b', p, hb', hat⟩ := h.grp.at h.lots (h.keep.size) hd
  rw [hb] at hb'
  cases hb'
  have hdm : d ∈ ds := List.mem_of_getElem? hd
  refine (tick_det hat.det (h.ni d hdm).ko ht h.tabr h.lots (by have := h.hw; have := h.xb; omega)).mono ?_
  rintro e w1 ⟨v, rfl, hs⟩
  refine ⟨v, rfl, ⟨hat.next wr w1 _ _ (Keep.refl _ _) hs.set, hs.set.lots, h.ptr.keep hs.set.keep fun j hj hk hh => ?_, fun x hx => ?_, h.keep.trans hs.set.keep fun j hj hl => ?_, h.xb, h.hw, h.tab⟩, QNts.of_own hs.own h.keep.size⟩
  · exact dl_ptr hat.det h.lots hk hh
  · rcases mem_set hx with hx | hx
    · exact (h.ni x hx).le (Nat.le_succ t)
    · rw [hx]
      exact (tick_ng (h.ni d hdm) L).ni
  · rcases hj with hj | hj
    · have := hat.base_ j hj; omega
    · have := h.xb; omega
/-- What was said settles. -/
theorem GSt.settle {w wr : World} {xl t up : Nat} {vp v : Value} {bs : List Nat} {ds : List Det} {L : List Int} {N : List Nt} (h : GSt w wr xl t vp bs ds L) (hq : QNts wr w.heap.size v N) (hnt : ∀ m ∈ N, NtI m) (hN : N.length ≤ 549755813888) (hup : up < 18446744073709551616) (ht : t < 137438953472) (hbl : bs.length < 1099511627776) :
    Calls Tryz.prog 11 #[vp, .int .u64 (up : Int), v, .pointer (some ⟨xl, 0, none⟩)] wr fun e w2 => e = .returned (.bool (settleP up 5001 ds L N).2.2) ∧ GSt w w2 xl t vp bs (settleP up 5001 ds L N).1 (settleP up 5001 ds L N).2.1 := by
  refine (settle_any h.grp h.lots hq h.ptr h.ni hnt hup ht hN h.keep.size h.xb h.hw h.tabr hbl).mono ?_
  rintro e w2 ⟨rfl, hs⟩
  exact ⟨rfl, hs.grp, hs.lots, hs.ptr, hs.ni, h.keep.trans hs.keep fun j hj hl => (by have h' : w.heap.size ≤ j := hj; omega), h.xb, h.hw, h.tab⟩
set_option maxRecDepth 100000 in
set_option maxHeartbeats 2000000 in
theorem rmany_any (b : Nat) (hb : b < 18446744073709551616) (w : World) : Calls Tryz.prog 13 #[.int .u64 (b : Int)] w fun e w' => e = .returned (.int .i64 ((bMany b : Nat) : Int)) ∧ Keep (fun _ => False) w w' := by
  have hl : (B.gs b 64).length = bMany b := by rw [← bList_len]; unfold bList; rw [List.length_map, ← bNat_gs b hb, List.length_map]
  have HL := Lib.hid (B.rlist_gs b hb w)
  rw [hl] at HL
  clear hl
  go_enter Tryz.func13, Tryz.ntmps13
  go_wp2_with fail
  refine HL.out.mono ?_
  rintro e w1 ⟨v, rfl, ho, hk⟩
  obtain ⟨A, c, rfl⟩ := own_shape ho
  have HK := Lib.hid hk
  clear ho hk HL
  go_wp2_with fail
  go_ret
  exact ⟨rfl, HK.out⟩
end Go.Proofs.YtofonfohaocclaaGreatDoor
