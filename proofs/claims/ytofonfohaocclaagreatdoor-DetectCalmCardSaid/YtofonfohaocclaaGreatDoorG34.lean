/- Notes in memory are read; what a new detector does in the small case that must go well. Walk of the law's shown. Arguments that are only read: lots, and what happens to a detector. -/
import Derived.Test.YtofonfohaocclaaGreatDoorG26
import Derived.Test.YtofonfohaocclaaGreatDoorTickM
import Derived.Test.YtofonfohaocclaaGreatDoorHearB
import Derived.Test.YtofonfohaocclaaGreatDoorG21
namespace Go.Proofs.YtofonfohaocclaaGreatDoor
open Go.RowKit Sh
open Go.ChangeMaps (setBlock)
set_option linter.unusedVariables false

/-- A note in memory. -/
structure NtIn (w : World) (base g o : Nat) (n : Nt) (vn : Value) : Prop where
  c0 : w.cell? ⟨g, o, none⟩ = some (.int .i64 n.k)
  c1 : w.cell? ⟨g, o + 1, none⟩ = some (.int .i64 n.fr)
  c2 : w.cell? ⟨g, o + 2, none⟩ = some (.int .i64 n.dst)
  c3 : w.cell? ⟨g, o + 3, none⟩ = some (.int .u64 n.seq)
  c4 : w.cell? ⟨g, o + 4, none⟩ = some (.int .i64 n.fo)
  c5 : w.cell? ⟨g, o + 5, none⟩ = some vn
  news : w.ownsRow base 52 3 vn n.news.length (flat uC n.news)
theorem nts_shape {w : World} {base : Nat} {v : Value} {L : List Nt} (h : OwnNts w base v L) : ∃ A c, v = .slice A L.length c ∧ (0 < L.length → ∃ g o, A = some ⟨g, o, none⟩ ∧ ∀ j (hj : j < L.length), ∃ vn, NtIn w base g (o + j * 6) L[j] vn) := by
  obtain ⟨ps, hps, hown, hn⟩ := h.ex
  have hl : ps.length = L.length := by rw [← hps, List.length_map]
  obtain ⟨A, c, hv⟩ := own_shape hown
  refine ⟨A, c, by rw [hv, hl], fun h0 => ?_⟩
  have hr := Row.of_own hown
  obtain ⟨g, o, c', cs, hv2, _⟩ := hr.pos (by omega)
  rw [hv] at hv2
  injection hv2 with hA hn' hc
  refine ⟨g, o, hA, fun j hj => ?_⟩
  have hjp : j < ps.length := by omega
  rw [hv, hA] at hr
  have cell : ∀ (t : Nat) (u : Value), (ntC ps[j])[t]? = some u → w.cell? ⟨g, o + (j * 6 + t), none⟩ = some u := fun t u hu => hr.cell (flat_at ntC (k := 6) (fun _ => rfl) hjp hu)
  have he : L[j] = ps[j].1 := by
    have : (ps.map Prod.fst)[j]? = L[j]? := by rw [hps]
    rw [List.getElem?_map, List.getElem?_eq_getElem hjp, List.getElem?_eq_getElem hj] at this
    simpa using this.symm
  have ha : ∀ t, o + (j * 6 + t) = o + j * 6 + t := fun t => by omega
  have hx := hn ps[j] (List.getElem_mem hjp)
  rw [he]
  refine ⟨ps[j].2, ?_, ?_, ?_, ?_, ?_, ?_, hx.own⟩
  · have := cell 0 _ rfl; rwa [ha] at this
  · have := cell 1 _ rfl; rwa [ha] at this
  · have := cell 2 _ rfl; rwa [ha] at this
  · have := cell 3 _ rfl; rwa [ha] at this
  · have := cell 4 _ rfl; rwa [ha] at this
  · have := cell 5 _ rfl; rwa [ha] at this
def shA : Det × List Int × Int := (Det.new 1).take [] ⟨2, 0, 0⟩ 1
def shT : Det × List Int × List Nt := shA.1.tick []
def shN : Nt := shT.2.2.headD ⟨0, 0, 0, 0, 0, []⟩
def shH : Det × List Int × List Nt × Int := (Det.new 2).hear [] shN
def shB : Bool := decide (shA.2.1 = []) && decide (shA.2.2 = 0) && decide (shT.2.1 = []) && decide (shT.2.2.length = 1) && decide (shN.k = 1) && decide (shN.dst = 2) && shN.news.all (fun u => decide (u.i = 0)) && decide (shN.news.length ≤ 8) && decide (shH.2.2.2 = 0) && decide (shH.2.2.1.length = 1) && decide ((shH.2.2.1.headD ⟨0, 0, 0, 0, 0, []⟩).k = 2) && decide (shH.1.r.all.length = 2)
theorem shB_ok : shB = true := by kernel_rfl
theorem one_list {α : Type} {l : List α} {d : α} (h : l.length = 1) : l = [l.headD d] := by
  match l, h with
  | [a], _ => rfl
structure ShIs : Prop where
  a1 : shA.2.1 = []
  a2 : shA.2.2 = 0
  t1 : shT.2.1 = []
  t2 : shT.2.2 = [shN]
  n1 : shN.k = 1
  n2 : shN.dst = 2
  n3 : ∀ u ∈ shN.news, inU u.i
  n4 : shN.news.length ≤ 8
  h1 : shH.2.2.2 = 0
  h2 : ∃ m, shH.2.2.1 = [m] ∧ m.k = 2
  h3 : shH.1.r.all.length = 2
theorem shIs : ShIs := by
  have h := shB_ok
  unfold shB at h
  simp only [Bool.and_eq_true, decide_eq_true_eq, List.all_eq_true] at h
  obtain ⟨⟨⟨⟨⟨⟨⟨⟨⟨⟨⟨a1, a2⟩, t1⟩, t2⟩, n1⟩, n2⟩, n3⟩, n4⟩, h1⟩, h2⟩, h3⟩, h4⟩ := h
  exact ⟨a1, a2, t1, one_list t2, n1, n2, fun u hu => by rw [n3 u hu]; exact ⟨by show (0 : Int) ≤ 0; omega, by show (0 : Int) < _; omega⟩, n4, h1, ⟨_, one_list h2, h3⟩, h4⟩
end Go.Proofs.YtofonfohaocclaaGreatDoor

namespace Go.Proofs.YtofonfohaocclaaGreatDoor
open Go.RowKit Sh
open Go.ChangeMaps (setBlock)
set_option linter.unusedVariables false
set_option linter.unusedSimpArgs false

structure NtCells (w : World) (g o : Nat) (n : Nt) (vn : Value) : Prop where
  c0 : w.cell? ⟨g, o, none⟩ = some (.int .i64 n.k)
  c1 : w.cell? ⟨g, o + 1, none⟩ = some (.int .i64 n.fr)
  c2 : w.cell? ⟨g, o + 2, none⟩ = some (.int .i64 n.dst)
  c3 : w.cell? ⟨g, o + 3, none⟩ = some (.int .u64 n.seq)
  c4 : w.cell? ⟨g, o + 4, none⟩ = some (.int .i64 n.fo)
  c5 : w.cell? ⟨g, o + 5, none⟩ = some vn
theorem NtCells.keep {S : Nat → Prop} {w w' : World} {g o : Nat} {n : Nt} {vn : Value} (h : NtCells w g o n vn) (k : Keep S w w') (hS : ¬ S g) : NtCells w' g o n vn :=
  ⟨k.cellS h.c0 hS, k.cellS h.c1 hS, k.cellS h.c2 hS, k.cellS h.c3 hS, k.cellS h.c4 hS, k.cellS h.c5 hS⟩
theorem NtIn.cells {w : World} {base g o : Nat} {n : Nt} {vn : Value} (h : NtIn w base g o n vn) : NtCells w g o n vn := ⟨h.c0, h.c1, h.c2, h.c3, h.c4, h.c5⟩
set_option maxRecDepth 100000 in
set_option maxHeartbeats 4000000 in
theorem shown_any {w : World} (hT : TabAt 0 B.tabS w) (hw : 0 < w.heap.size) : Calls Tryz.prog 8 #[] w fun e w' => e = .returned (.bool true) ∧ Keep (fun _ => False) w w' := by
  have HT := Lib.hid hT
  have HSH := Lib.hid shIs
  have HNA := Lib.hid (new_det (w := w) 1 (by omega) hw)
  clear hT
  go_enter Tryz.func8, Tryz.ntmps8
  go_wp2_with fail
  refine HNA.out.mono ?_
  rintro e w1 ⟨ba, rfl, hba, hna⟩
  obtain ⟨pa, hda, hpa⟩ := hna.ex
  have HDA := Lib.hid hda
  have HPA := Lib.hid hpa
  have HK1 := Lib.hid hna.keep
  have HLA := Lib.hid (lotnew_any (w := w1) (v := .slice none 0 0) (L := []) (Row.nil _ _ _) (fun _ h => by cases h) (by simp))
  clear hna hda hpa HNA
  go_wp2_with fail
  refine HLA.out.mono ?_
  rintro e w2 ⟨xa, rfl, hxa, hla, hk2⟩
  have HKA : Hid (KO 0 (Det.new 1)) := Lib.hid (new_ko (by omega))
  have hkn : Calls Tryz.prog 18 #[.pointer (some ⟨ba, 0, none⟩), uV ⟨2, 0, 0⟩, .pointer (some ⟨xa, 0, none⟩)] w2 fun e w' => e = .returned (.int .i64 0) ∧ DLSet w2 w' ba pa xa shA.1 [] := by
    have := know_det (HDA.out.keep0 hk2) HKA.out.ok (B.tab_keep HT.out (HK1.out.step hk2) id) hla ⟨2, 0, 0⟩ ⟨by show (0 : Int) ≤ 0; omega, by show (0 : Int) < _; omega⟩
    have e : (Det.new 1).take [] ⟨2, 0, 0⟩ (Det.new 1).r.me = shA := rfl
    rw [e, HSH.out.a1, HSH.out.a2] at this
    exact this
  have HKN := Lib.hid hkn
  have HK2 := Lib.hid (HK1.out.step hk2)
  have u1 := HK1.out.size
  clear hkn hla hk2 HLA
  unfold uV at HKN
  go_wp2_with fail
  refine HKN.out.mono ?_
  rintro e w3 ⟨rfl, hs3⟩
  obtain ⟨p3, hd3, hp3⟩ := hs3.ex
  have HD3 := Lib.hid hd3
  have HP3 : Hid (∀ k, p3.has ba k → w.heap.size ≤ k) := Lib.hid (fun k hk => by
    rcases hp3 k hk with h | h
    · exact HPA.out k h
    · have := HK2.out.size; omega)
  have HK3 : Hid (Keep (fun _ => False) w w3) := Lib.hid (HK2.out.trans hs3.keep fun i hi hl => by
    rcases hi with hi | hi
    · have := HPA.out i hi; omega
    · omega)
  have HKA3 : Hid (KO 0 shA.1) := Lib.hid (take_ko HKA.out [] ⟨by show (0 : Int) ≤ 0; omega, by show (0 : Int) < _; omega⟩ 1)
  have HLB := Lib.hid (lotnew_any (w := w3) (v := .slice none 0 0) (L := []) (Row.nil _ _ _) (fun _ h => by cases h) (by simp))
  clear hs3 hd3 hp3 HKN HDA HPA HK1 HK2 HKA
  go_wp2_with fail
  refine HLB.out.mono ?_
  rintro e w4 ⟨xb, rfl, hxb, hlb, hk4⟩
  have u3 := HK3.out.size
  have htk : Calls Tryz.prog 12 #[.pointer (some ⟨ba, 0, none⟩), .pointer (some ⟨xb, 0, none⟩)] w4 fun e w' => ∃ v, e = .returned v ∧ TSet w4 w' ba p3 xb v shT.1 shT.2.1 [shN] := by
    have := tick_det (HD3.out.keep0 hk4) HKA3.out (by omega) (B.tab_keep HT.out (HK3.out.step hk4) id) hlb (by omega)
    have e : shA.1.tick [] = shT := rfl
    rw [e, HSH.out.t2] at this
    exact this
  have HTK := Lib.hid htk
  have HK4 := Lib.hid (HK3.out.step hk4)
  clear htk hlb hk4 HLB
  go_wp2_with fail
  refine HTK.out.mono ?_
  rintro e w5 ⟨v5, rfl, hs5⟩
  have HK5 : Hid (Keep (fun _ => False) w w5) := Lib.hid (HK4.out.trans hs5.set.keep fun i hi hl => by
    rcases hi with hi | hi
    · have := HP3.out i hi; omega
    · omega)
  obtain ⟨A5, c5, hv5, hat⟩ := nts_shape hs5.own
  obtain ⟨g, o, hA, hat⟩ := hat (by show 0 < 1; omega)
  obtain ⟨vn, hnt⟩ := hat 0 (by show 0 < 1; omega)
  subst hv5
  subst hA
  have hnt : NtIn w5 w4.heap.size g o shN vn := hnt
  have HNI := Lib.hid hnt
  have z0 := hnt.c0
  have z2 := hnt.c2
  rw [HSH.out.n1] at z0
  rw [HSH.out.n2] at z2
  have u5 := HK5.out.size
  have ug : g < w5.heap.size := World.block_lt_of_cell? w5 _ z0
  have HNB := Lib.hid (new_det (w := w5) 2 (by omega) (by omega))
  clear hs5 hat hnt HTK HK4 HKA3 HP3 HD3 HK3
  simp only [List.length_cons, List.length_nil, Nat.zero_add]
  go_wp2_with fail
  refine HNB.out.mono ?_
  rintro e w6 ⟨bb, rfl, hbb, hnb⟩
  obtain ⟨pb, hdb, hpb⟩ := hnb.ex
  have S6 : (fun W' : World => NtCells W' g o shN vn) w6.drew := (HNI.out.cells.keep hnb.keep id).keep ((Keep.refl (fun _ => False) w6).drew) id
  have HRN : Hid (Row w6 52 3 vn shN.news.length (flat uC shN.news)) := Lib.hid ((Row.of_own HNI.out.news).keep0 hnb.keep)
  have HDB := Lib.hid hdb
  have HPB := Lib.hid hpb
  have HK6 := Lib.hid (HK5.out.step hnb.keep)
  have HLC := Lib.hid (lotnew_any (w := w6.drew) (v := .slice none 0 0) (L := []) (Row.nil _ _ _) (fun _ h => by cases h) (by simp))
  have u6 := hnb.keep.size
  clear hnb hdb hpb HNB z0 z2
  go_upto_region 8 with fail
  refine Upto.start (fun W' : World => NtCells W' g o shN vn) 1000 (by kernel_rfl) ?_
  change Upto _ _ _ _ _ _ 11 _ _ _
  refine Upto.takeS (i := 0) (v := ?v0) rfl (by kernel_rfl) (by kernel_rfl) (by kernel_rfl) (by kernel_rfl) (fun _ _ _ h => h) S6 (Or.inl ⟨by rfl, ?hy0⟩) ?rest0
  case hy0 =>
    intro W' hW
    obtain ⟨l0, l1, l2, l3, l4, l5⟩ := hW
    go_simp
    try with_reducible rfl
  try simp only [Act.put, List.setIfInBounds_toArray, List.set_cons_zero, List.set_cons_succ]
  refine Upto.takeS (i := 1) (v := ?v1) rfl (by kernel_rfl) (by kernel_rfl) (by kernel_rfl) (by kernel_rfl) (fun _ _ _ h => h) S6 (Or.inl ⟨by rfl, ?hy1⟩) ?rest1
  case hy1 =>
    intro W' hW
    obtain ⟨l0, l1, l2, l3, l4, l5⟩ := hW
    go_simp
    try with_reducible rfl
  try simp only [Act.put, List.setIfInBounds_toArray, List.set_cons_zero, List.set_cons_succ]
  refine Upto.takeS (i := 2) (v := ?v2) rfl (by kernel_rfl) (by kernel_rfl) (by kernel_rfl) (by kernel_rfl) (fun _ _ _ h => h) S6 (Or.inl ⟨by rfl, ?hy2⟩) ?rest2
  case hy2 =>
    intro W' hW
    obtain ⟨l0, l1, l2, l3, l4, l5⟩ := hW
    go_simp
    try with_reducible rfl
  try simp only [Act.put, List.setIfInBounds_toArray, List.set_cons_zero, List.set_cons_succ]
  refine Upto.takeS (i := 3) (v := ?v3) rfl (by kernel_rfl) (by kernel_rfl) (by kernel_rfl) (by kernel_rfl) (fun _ _ _ h => h) S6 (Or.inl ⟨by rfl, ?hy3⟩) ?rest3
  case hy3 =>
    intro W' hW
    obtain ⟨l0, l1, l2, l3, l4, l5⟩ := hW
    go_simp
    try with_reducible rfl
  try simp only [Act.put, List.setIfInBounds_toArray, List.set_cons_zero, List.set_cons_succ]
  refine Upto.one (i := 4) (by kernel_rfl) rfl (fun K hK => ?_)
  go_simp
  refine HLC.out.mono ?_
  rintro e w7 ⟨xc, rfl, hxc, hlc, hk7⟩
  have kd : Keep (fun _ => False) w6 w6.drew := (Keep.refl _ w6).drew
  have S7 : (fun W' : World => NtCells W' g o shN vn) w7 := S6.keep hk7 id
  have hhr : Calls Tryz.prog 20 #[.pointer (some ⟨bb, 0, none⟩), .agg #[.int .i64 shN.k, .int .i64 shN.fr, .int .i64 shN.dst, .int .u64 shN.seq, .int .i64 shN.fo, vn], .pointer (some ⟨xc, 0, none⟩)] w7 fun e w' => ∃ v, e = .returned (.tuple #[v, .int .i64 0]) ∧ HSet w7 w' bb pb xc v shH.1 shH.2.1 shH.2.2.1 := by
    have := hear_det ((HDB.out.keep0 kd).keep0 hk7) (new_ko (k := 2) (by omega)).ok ((new_ko (k := 2) (by omega)).w (by omega)) (B.tab_keep HT.out ((HK6.out.step kd).step hk7) id) hlc shN vn (NewsR.of_row ((HRN.out.keep0 kd).keep0 hk7) ((HDB.out.keep0 kd).keep0 hk7) hlc) HSH.out.n3 (by have := HSH.out.n4; omega) (by have hu : w6.drew.heap.size = w6.heap.size := rfl; omega)
    have e : (Det.new 2).hear [] shN = shH := rfl
    rw [e, HSH.out.h1] at this
    exact this
  have HHR := Lib.hid hhr
  have HK7 := Lib.hid ((HK6.out.step kd).step hk7)
  refine hK.out _ _ (.inr S7) ?_
  clear hK K hlc hk7 hhr HLC kd S6
  try simp only [Act.put, List.setIfInBounds_toArray, List.set_cons_zero, List.set_cons_succ]
  refine Upto.one (i := 5) (by kernel_rfl) rfl (fun K hK => ?_)
  go_simp
  refine HHR.out.mono ?_
  rintro e w8 ⟨v8, rfl, hs8⟩
  have hu6 : w6.drew.heap.size = w6.heap.size := rfl
  have S8 : (fun W' : World => NtCells W' g o shN vn) w8 := S7.keep hs8.set.keep (fun hh => by
    rcases hh with hh | hh
    · have := HPB.out g hh; omega
    · omega)
  have HK8 : Hid (Keep (fun _ => False) w w8) := Lib.hid (HK7.out.trans hs8.set.keep fun i hi hl => by
    rcases hi with hi | hi
    · have := HPB.out i hi; omega
    · omega)
  obtain ⟨p8, hd8, hp8⟩ := hs8.set.ex
  have HD8 := Lib.hid hd8
  obtain ⟨m, hm, hmk⟩ := HSH.out.h2
  have ho8 := hs8.own
  rw [hm] at ho8
  obtain ⟨A8, c8, hv8, hat⟩ := nts_shape ho8
  obtain ⟨g8, o8, hA8, hat⟩ := hat (by show 0 < 1; omega)
  obtain ⟨vm, hnm⟩ := hat 0 (by show 0 < 1; omega)
  have hnm : NtIn w8 w7.heap.size g8 o8 m vm := hnm
  have z0 := hnm.c0
  rw [hmk] at z0
  have HC0 := Lib.hid z0
  have hra : Calls Tryz.prog 15 #[.pointer (some ⟨p8.rb, 0, none⟩)] w8 fun e w' => ∃ A c, e = .returned (.slice A 2 c) ∧ Keep (fun _ => False) w8 w' := (rall_any HD8.out.rol ((hear_ko (new_ko (k := 2) (by omega)) [] shN HSH.out.n3).ok.r : RolOk shH.1.r) (B.tab_keep HT.out HK8.out id)).mono (by
    rintro e w' ⟨v, rfl, hu⟩
    obtain ⟨A, c, hv⟩ := own_shape hu.own
    rw [hv, HSH.out.h3]
    exact ⟨A, c, rfl, hu.keep⟩)
  have HRA := Lib.hid hra
  clear hra
  have y0 := HD8.out.c0
  subst hv8
  subst hA8
  refine hK.out _ _ (.inr S8) ?_
  clear hK K hs8 hd8 hp8 hm hmk ho8 hat hnm HHR z0 S7
  try simp only [Act.put, List.setIfInBounds_toArray, List.set_cons_zero, List.set_cons_succ]
  refine Upto.one (i := 6) (by kernel_rfl) rfl (fun K hK => ?_)
  go_simp
  refine hK.out _ _ (.inr S8) ?_
  clear hK K
  try simp only [Act.put, List.setIfInBounds_toArray, List.set_cons_zero, List.set_cons_succ]
  refine Upto.takeS (i := 7) (v := ?v7) rfl (by kernel_rfl) (by kernel_rfl) (by kernel_rfl) (by kernel_rfl) (fun _ _ _ h => h) S8 (Or.inl ⟨by rfl, ?hy7⟩) ?rest7
  case hy7 =>
    intro W' hW
    obtain ⟨l0, l1, l2, l3, l4, l5⟩ := hW
    go_simp
    try with_reducible rfl
  try simp only [Act.put, List.setIfInBounds_toArray, List.set_cons_zero, List.set_cons_succ]
  refine Upto.takeS (i := 8) (v := ?v8) rfl (by kernel_rfl) (by kernel_rfl) (by kernel_rfl) (by kernel_rfl) (fun _ _ _ h => h) S8 (Or.inl ⟨by rfl, ?hy8⟩) ?rest8
  case hy8 =>
    intro W' hW
    obtain ⟨l0, l1, l2, l3, l4, l5⟩ := hW
    go_simp
    try with_reducible rfl
  try simp only [Act.put, List.setIfInBounds_toArray, List.set_cons_zero, List.set_cons_succ]
  try simp only [Act.put, List.setIfInBounds_toArray, List.set_cons_zero, List.set_cons_succ]
  refine Upto.one (i := 9) (by kernel_rfl) rfl (fun K hK => ?_)
  go_simp
  refine hK.out _ _ (.inr S8) ?_
  clear hK K
  try simp only [Act.put, List.setIfInBounds_toArray, List.set_cons_zero, List.set_cons_succ]
  refine Upto.one (i := 10) (by kernel_rfl) rfl (fun K hK => ?_)
  go_simp
  refine hK.out _ _ (.inr S8) ?_
  clear hK K
  try simp only [Act.put, List.setIfInBounds_toArray, List.set_cons_zero, List.set_cons_succ]
  refine Upto.done (by kernel_rfl) ?_
  try simp only [List.length_cons, List.length_nil, Nat.zero_add]
  have z0 := HC0.out
  go_wp2_with fail
  refine HRA.out.mono ?_
  rintro e w9 ⟨A9, c9, rfl, hk9⟩
  have HF := Lib.hid (HK8.out.step hk9)
  clear hk9 HRA
  go_wp2_with fail
  go_ret
  exact ⟨rfl, HF.out⟩
end Go.Proofs.YtofonfohaocclaaGreatDoor

namespace Go.Proofs.YtofonfohaocclaaGreatDoor
open Go.RowKit Sh
open Go.ChangeMaps (setBlock)
set_option linter.unusedVariables false

/-- Words that lie somewhere. -/
structure WArg (w : World) (v : Value) (L : List Int) : Prop where
  ex : ∃ A c, v = .slice A L.length c ∧ (0 < L.length → ∃ g o, A = some ⟨g, o, none⟩ ∧ ∀ i (hi : i < L.length), w.cell? ⟨g, o + i, none⟩ = some (.int .u64 L[i]))
  rng : ∀ x ∈ L, 0 ≤ x ∧ x < 18446744073709551616
theorem WArg.keep {w w' : World} {v : Value} {L : List Int} (h : WArg w v L) (k : Keep (fun _ => False) w w') : WArg w' v L := by
  obtain ⟨A, c, hv, hc⟩ := h.ex
  refine ⟨⟨A, c, hv, fun h0 => ?_⟩, h.rng⟩
  obtain ⟨g, o, hA, hcell⟩ := hc h0
  exact ⟨g, o, hA, fun i hi => k.cell (hcell i hi)⟩
theorem copy_arg {W : World} {g n : Nat} {cur : Array Value} (hg : W.heap[g]? = some (.cells cur 29 (0, 0))) (hc : cur.size = n) (cap : Nat) {v : Value} {L : List Int} (hr : WArg W v L) (hn : L.length = n) (ty : TypeId) :
    ∃ W', (Builtin.copy_ #[22, 22] ty #[.slice (some ⟨g, 0, none⟩) n cap, v]).run Tryz.prog W = .ok (.int .i64 (n : Int)) W' ∧ W'.heap[g]? = some (.cells (wordsC L).toArray 29 (0, 0)) ∧ Keep (fun k => k = g) W W' := by
  obtain ⟨A, c, rfl, hcell⟩ := hr.ex
  have hl : (wordsC L).length = n := by simp [wordsC, hn]
  by_cases h0 : n = 0
  · rw [hn]
    subst h0
    refine ⟨W, run_copy_none (P := Tryz.prog) W 22 22 ty 29 _ A 0 cap 0 c Tryz.underlying22 size29 (by simp), ?_, Keep.refl _ _⟩
    have e1 : wordsC L = [] := List.eq_nil_of_length_eq_zero hl
    have e2 : cur = #[] := Array.eq_empty_of_size_eq_zero hc
    rw [hg, e1, e2]
  · obtain ⟨g', o, rfl, hcc⟩ := hcell (by omega)
    have := run_copy_row (P := Tryz.prog) W 22 22 ty 29 g 0 n cap ⟨g', o, none⟩ n c cur 29 (wordsC L) Tryz.underlying22 size29 hg (by rw [hl]; exact (Nat.min_self n).symm) (fun j v hv => by
      have hj : j < L.length := by have := (List.getElem?_eq_some_iff.1 hv).1; omega
      have hv2 : v = .int .u64 L[j] := by
        unfold wordsC at hv
        rw [List.getElem?_map, List.getElem?_eq_getElem hj] at hv
        simpa using hv.symm
      have := hcc j hj
      rw [hv2]
      unfold Addr.add
      split <;> simp_all) (by omega) (one_words L)
    rw [hl] at this
    rw [hn]
    refine ⟨_, this, ?_, ⟨rfl, rfl, rfl, by simp [World.setRow], fun k _ hk => setRow_other W g k _ hk⟩⟩
    rw [setRow_heap W g _ _ 29 _ hg]
    simp [List.drop_eq_nil_of_le (show cur.toList.length ≤ n by simp [hc])]
set_option maxRecDepth 100000 in
set_option maxHeartbeats 1000000 in
theorem lotnew_arg {w : World} {v : Value} {L : List Int} (h : WArg w v L) (hl : L.length ≤ 8796093022208) :
    Calls Tryz.prog 10 #[v] w fun e w' => ∃ b, e = .returned (.pointer (some ⟨b, 0, none⟩)) ∧ w.heap.size ≤ b ∧ IsLots w' b L ∧ Keep (fun _ => False) w w' := by
  have hr := h.rng
  have hmk := fun W => make_one 22 29 (.int .u64 0) 8 Tryz.underlying22 info29 (by omega) #[.int .u64 0] rfl L.length (by omega) hl W
  have K2 := ((Keep.refl (fun _ => False) w).alloc (.cells (madeCells #[.int .u64 0] L.length) 29)).alloc (.cells #[.slice (some ⟨w.heap.size, 0, none⟩) L.length L.length] 95)
  have hg2 : ((w.alloc (.cells (madeCells #[.int .u64 0] L.length) 29)).alloc (.cells #[.slice (some ⟨w.heap.size, 0, none⟩) L.length L.length] 95)).heap[w.heap.size]? = some (.cells (madeCells #[.int .u64 0] L.length) 29 (0, 0)) := by
    rw [Below.heap_alloc _ _ _ (by simp)]
    exact heap_alloc_new w _
  have hn2 := heap_alloc_new (w.alloc (.cells (madeCells #[.int .u64 0] L.length) 29)) (.cells #[.slice (some ⟨w.heap.size, 0, none⟩) L.length L.length] 95)
  obtain ⟨W3, hcp, h3, k3⟩ := copy_arg hg2 (size_madeCells _ _) L.length (h.keep K2) rfl 3
  obtain ⟨A, c, rfl, _⟩ := h.ex
  have H3 := Lib.hid h3
  have KK3 := Lib.hid k3
  have KK2 := Lib.hid K2
  have HN := Lib.hid hn2
  clear h3 k3 K2 hg2 hn2 h
  go_enter Tryz.func10, Tryz.ntmps10
  go_wp2
  go_ret
  have hs1 : (w.alloc (.cells (madeCells #[.int .u64 0] L.length) 29)).heap.size = w.heap.size + 1 := by simp
  have hn := HN.out
  rw [hs1] at hn
  refine ⟨w.heap.size + 1, rfl, by omega, ⟨⟨_, KK3.out.old hn (by omega), ?_⟩, hr⟩, ?_⟩
  · exact Row.of_own (own_full (base := 0) H3.out (by simp [wordsC]) (by simp only [maxLen]; omega) (by omega))
  · exact KK2.out.trans KK3.out fun i hi hl => absurd hi (by omega)
/-- What happens to a detector. -/
structure ActD where
  kd : Int
  k : Int
  fr : Int
  dst : Int
  seq : Int
  fo : Int
  nv : Value
  news : List Up
  u : Up
def acC (a : ActD) : List Value := [.int .i64 a.kd, .int .i64 a.k, .int .i64 a.fr, .int .i64 a.dst, .int .u64 a.seq, .int .i64 a.fo, a.nv, .int .i64 a.u.n, .int .u64 a.u.i, .int .i64 a.u.s]
/-- Its news lie somewhere. -/
structure ActOk (w : World) (a : ActD) : Prop where
  ex : ∃ A c, a.nv = .slice A a.news.length c ∧ (0 < a.news.length → ∃ g o, A = some ⟨g, o, none⟩ ∧ ∀ i (hi : i < a.news.length), w.cell? ⟨g, o + i * 3, none⟩ = some (.int .i64 a.news[i].n) ∧ w.cell? ⟨g, o + i * 3 + 1, none⟩ = some (.int .u64 a.news[i].i) ∧ w.cell? ⟨g, o + i * 3 + 2, none⟩ = some (.int .i64 a.news[i].s))
  inc : ∀ u ∈ a.news, 0 ≤ u.i ∧ u.i < 18446744073709551616
  ui : 0 ≤ a.u.i ∧ a.u.i < 18446744073709551616
structure ActsR (w : World) (v : Value) (l : List ActD) : Prop where
  ex : ∃ A c, v = .slice A l.length c ∧ (0 < l.length → ∃ g o, A = some ⟨g, o, none⟩ ∧ ∀ i (hi : i < l.length) (t : Nat) (u : Value), (acC l[i])[t]? = some u → w.cell? ⟨g, o + i * 10 + t, none⟩ = some u)
  ok : ∀ a ∈ l, ActOk w a
end Go.Proofs.YtofonfohaocclaaGreatDoor
