/- Walks of rank.Refute and Roll.Hear. (Printed by mkro.py.) -/
import Derived.Test.YtofonfohaocclaaGreatDoorRo
namespace Go.Proofs.YtofonfohaocclaaGreatDoor
open Go.RowKit Sh
open Go.ChangeMaps (setBlock)
set_option linter.unusedVariables false

def refuteP (inc i s : Int) : Int × Bool × Int :=
  if Q.newI i s inc 0 = false then (inc, false, 0) else if i = 18446744073709551615 then (inc, false, 60) else (i + 1, true, 0)
set_option maxRecDepth 100000 in
set_option maxHeartbeats 1000000 in
theorem refute_any (n inc i s : Int) (hmay : Q.mayU n s = true) (hi : 0 ≤ i ∧ i < 18446744073709551616) (w : World) : Calls Tryz.prog 118 #[.int .i64 n, .int .u64 inc, uV ⟨n, i, s⟩] w fun e w' =>
    e = .returned (.tuple #[.int .u64 (refuteP inc i s).1, .bool (refuteP inc i s).2.1, .int .i64 (refuteP inc i s).2.2]) ∧ Keep (fun _ => False) w w' := by
  unfold uV refuteP
  have HM := Lib.hid (fun W => Q.may_any n i s W)
  have HN := Lib.hid (fun W => Q.newer_any n i s n inc 0 W)
  rw [hmay] at HM
  unfold Q.updV at HM HN
  have hnn : (n != n) = false := by simp
  clear hmay
  cases hnew : Q.newI i s inc 0
  · rw [hnew] at HN
    simp only [if_true]
    clear hnew hi
    go_enter Tryz.func118, Tryz.ntmps118
    go_wp2_with fail
    refine (HM.out _).mono ?_
    rintro e w1 ⟨rfl, hk1⟩
    have HK1 := Lib.hid (((Keep.refl (fun _ => False) w).alloc _).step hk1)
    have hb1 := hk1.old (heap_alloc_new w _) (fun h => h)
    have c0 : w1.cell? ⟨w.heap.size, 0, none⟩ = some (.int .i64 n) := by simp [World.cell?, hb1]
    have c1 : w1.cell? ⟨w.heap.size, 1, none⟩ = some (.int .u64 i) := by simp [World.cell?, hb1]
    have c2 : w1.cell? ⟨w.heap.size, 2, none⟩ = some (.int .i64 s) := by simp [World.cell?, hb1]
    clear hk1 hb1
    go_wp2_with fail
    refine (HN.out _).mono ?_
    rintro e w2 ⟨rfl, hk2⟩
    have HK2 := Lib.hid (HK1.out.step hk2)
    clear hk2
    go_wp2
    go_ret3
    exact ⟨rfl, HK2.out⟩
  · rw [hnew] at HN
    have HU := Lib.hid (fun W => up_any i hi W)
    simp only [Bool.true_eq_false, if_false]
    clear hnew
    by_cases hmx : i = 18446744073709551615
    · simp only [if_pos hmx] at HU ⊢
      clear hmx hi
      go_enter Tryz.func118, Tryz.ntmps118
      go_wp2_with fail
      refine (HM.out _).mono ?_
      rintro e w1 ⟨rfl, hk1⟩
      have HK1 := Lib.hid (((Keep.refl (fun _ => False) w).alloc _).step hk1)
      have hb1 := hk1.old (heap_alloc_new w _) (fun h => h)
      have c0 : w1.cell? ⟨w.heap.size, 0, none⟩ = some (.int .i64 n) := by simp [World.cell?, hb1]
      have c1 : w1.cell? ⟨w.heap.size, 1, none⟩ = some (.int .u64 i) := by simp [World.cell?, hb1]
      have c2 : w1.cell? ⟨w.heap.size, 2, none⟩ = some (.int .i64 s) := by simp [World.cell?, hb1]
      clear hk1 hb1
      go_wp2_with fail
      refine (HN.out _).mono ?_
      rintro e w2 ⟨rfl, hk2⟩
      have HK2 := Lib.hid (HK1.out.step hk2)
      have d1 := hk2.cell c1
      clear hk2
      go_wp2_with fail
      refine (HU.out _).mono ?_
      rintro e w' ⟨rfl, rfl⟩
      go_wp2
      go_ret3
      exact ⟨rfl, HK2.out⟩
    · simp only [if_neg hmx] at HU ⊢
      clear hmx hi
      go_enter Tryz.func118, Tryz.ntmps118
      go_wp2_with fail
      refine (HM.out _).mono ?_
      rintro e w1 ⟨rfl, hk1⟩
      have HK1 := Lib.hid (((Keep.refl (fun _ => False) w).alloc _).step hk1)
      have hb1 := hk1.old (heap_alloc_new w _) (fun h => h)
      have c0 : w1.cell? ⟨w.heap.size, 0, none⟩ = some (.int .i64 n) := by simp [World.cell?, hb1]
      have c1 : w1.cell? ⟨w.heap.size, 1, none⟩ = some (.int .u64 i) := by simp [World.cell?, hb1]
      have c2 : w1.cell? ⟨w.heap.size, 2, none⟩ = some (.int .i64 s) := by simp [World.cell?, hb1]
      clear hk1 hb1
      go_wp2_with fail
      refine (HN.out _).mono ?_
      rintro e w2 ⟨rfl, hk2⟩
      have HK2 := Lib.hid (HK1.out.step hk2)
      have d1 := hk2.cell c1
      clear hk2
      go_wp2_with fail
      refine (HU.out _).mono ?_
      rintro e w' ⟨rfl, rfl⟩
      go_wp2
      go_ret3
      exact ⟨rfl, HK2.out⟩

def hearV (h : Rol × Bool × Int) : Value := .tuple #[.bool h.2.1, .int .i64 h.2.2]
structure HearIs (w w' : World) (b : Nat) (r : Rol) : Prop where
  rol : IsRoll w' b r
  keep : Keep (fun k => k = b) w w'
set_option maxRecDepth 100000 in
set_option maxHeartbeats 1000000 in
theorem hear_bad {w : World} {b : Nat} {r : Rol} (h : IsRoll w b r) (n i s : Int) (hmay : Q.mayU n s = false) : Calls Tryz.prog 73 #[.pointer (some ⟨b, 0, none⟩), uV ⟨n, i, s⟩] w fun e w' => e = .returned (.tuple #[.bool false, .int .i64 1]) ∧ Keep (fun _ => False) w w' := by
  unfold uV
  have HM := Lib.hid (fun W => Q.may_any n i s W)
  rw [hmay] at HM
  unfold Q.updV at HM
  clear hmay h
  go_enter Tryz.func73, Tryz.ntmps73
  go_wp2_with fail
  refine (HM.out _).mono ?_
  rintro e w1 ⟨rfl, hk1⟩
  have HK1 := Lib.hid (((Keep.refl (fun _ => False) w).alloc _).step hk1)
  clear hk1
  go_wp2
  go_ret2
  exact ⟨rfl, HK1.out⟩
set_option maxRecDepth 100000 in
set_option maxHeartbeats 1000000 in
theorem hear_first {w : World} {b : Nat} {r : Rol} (h : IsRoll w b r) (hr : RolOk r) (k : Nat) (i s : Int) (hmay : Q.mayU (k : Int) s = true) (hk : k < 64) (hne : (k : Int) ≠ r.me) (hbh : bHas r.has (k : Int) = false) : Calls Tryz.prog 73 #[.pointer (some ⟨b, 0, none⟩), uV ⟨(k : Int), i, s⟩] w fun e w' => e = .returned (.tuple #[.bool true, .int .i64 0]) ∧ HearIs w w' b (r.put ⟨(k : Int), i, s⟩) := by
  have hk3 : (k : Int) < 64 := by omega
  have HP := Lib.hid (fun W (h : IsRoll W b r) => put_any h hr ⟨(k : Int), i, s⟩ ⟨by show 0 ≤ (k : Int); omega, hk3⟩)
  have HC := Lib.hid (fun W (h : IsRoll W b r) => h.ckn k hk)
  have HM := Lib.hid (fun W => Q.may_any (k : Int) i s W)
  have HN := Lib.hid (fun W => Q.newer_any (k : Int) i s (r.kn k).n (r.kn k).i (r.kn k).s W)
  have HH := Lib.hid (fun W => has_all r.has (k : Int) hr.has W)
  rw [hmay] at HM
  rw [hbh] at HH
  generalize Q.newI i s (r.kn k).i (r.kn k).s = bn at HN
  unfold uV at HP ⊢
  unfold Q.updV at HM HN
  have HR := Lib.hid h
  have e1 : ((k : Int) == r.me) = false := by rw [beq_eq_false_iff_ne]; exact hne
  clear hmay h hr hbh
  obtain ⟨m, hm⟩ : ∃ m, m = r.me := ⟨_, rfl⟩
  rw [← hm] at e1 hne
  have HMe := Lib.hid (fun W (h : IsRoll W b r) => hm ▸ h.cme)
  clear hm
  have HCH := Lib.hid (fun W (h : IsRoll W b r) => h.chas)
  generalize r.kn k = y at HC HN
  obtain ⟨yn, yi, ys⟩ := y
  simp only at HC HN
  generalize (r.has : Int) = rh at HH HCH
  go_enter Tryz.func73, Tryz.ntmps73
  go_wp2_with fail
  refine (HM.out _).mono ?_
  rintro e w1 ⟨rfl, hk1⟩
  have HK1 := Lib.hid (((Keep.refl (fun _ => False) w).alloc _).step hk1)
  have hb1 := hk1.old (heap_alloc_new w _) (fun h => h)
  have c0 : w1.cell? ⟨w.heap.size, 0, none⟩ = some (.int .i64 (k : Int)) := by simp [World.cell?, hb1]
  have c1 : w1.cell? ⟨w.heap.size, 1, none⟩ = some (.int .u64 i) := by simp [World.cell?, hb1]
  have c2 : w1.cell? ⟨w.heap.size, 2, none⟩ = some (.int .i64 s) := by simp [World.cell?, hb1]
  have HR1 := Lib.hid (HR.out.keep0 HK1.out)
  have hb := HR.out.lt
  clear hk1 hb1
  have cm := HMe.out _ HR1.out
  go_upto_region 3 with fail
  refine still_lit (by kernel_rfl) (by kernel_rfl) ?_
  repeat still_step
  refine wpStill_nil ?_
  have C0 := Lib.hid c0
  have C1 := Lib.hid c1
  have C2 := Lib.hid c2
  clear c0 c1 c2 cm
  obtain ⟨k0, k1, k2⟩ := HC.out _ HR1.out
  have K0 := Lib.hid k0
  have K1 := Lib.hid k1
  have K2 := Lib.hid k2
  have CH := Lib.hid (HCH.out _ HR1.out)
  clear k0 k1 k2
  have QH := Lib.hid (in_same (w1 := w1) HH.out)
  have QN := Lib.hid (in_keep (w1 := w1) fun W _ => HN.out W)
  go_upto_region 10 with fail
  refine wp_region_quiet (C := fun W => Keep (fun _ => False) w1 W) (by kernel_rfl) (by kernel_rfl) (by first | exact (Keep.refl _ w1).drew | exact (Keep.refl _ w1).drew.drew | exact (Keep.refl _ w1).drew.drew.drew) ?_
  refine hq_start ?_
  repeat (refine hq_step (fun K hK => ?_); go_simp; first | (refine quiet_val (hK _ ?_); clear hK K) | (with_reducible refine quiet_call QH.out (hK _ ?_); clear hK K) | (refine hK _ ?_; clear hK K) | (apply Exists.intro; refine ⟨fun W hW => ?_, hK _ ?_⟩; (have q0 := hW.cell C0.out; have q1 := hW.cell C1.out; have q2 := hW.cell C2.out; have q3 := hW.cell CH.out; go_simp; exact rfl); clear hK K))
  refine hq_nil ?_
  intro W hW
  have HW := Lib.hid hW
  have d0 := hW.cell C0.out
  have d1 := hW.cell C1.out
  have d2 := hW.cell C2.out
  have HRW := Lib.hid (HR1.out.keep0 hW)
  clear hW
  go_wp2_with fail
  refine (HP.out _ HRW.out).mono ?_
  rintro e w3 ⟨rfl, hr3, hk3'⟩
  have HR3 := Lib.hid hr3
  have HK3 : Hid (Keep (fun j => j = b) w w3) := Lib.hid (((HK1.out.step HW.out).mono fun _ h _ => h.elim).step hk3')
  clear hr3 hk3'
  go_wp2
  go_ret2
  exact ⟨rfl, HR3.out, HK3.out⟩
set_option maxRecDepth 100000 in
set_option maxHeartbeats 1000000 in
theorem hear_old {w : World} {b : Nat} {r : Rol} (h : IsRoll w b r) (hr : RolOk r) (k : Nat) (i s : Int) (hmay : Q.mayU (k : Int) s = true) (hk : k < 64) (hne : (k : Int) ≠ r.me) (hbh : bHas r.has (k : Int) = true) (hbn : Q.newI i s (r.kn k).i (r.kn k).s = false) : Calls Tryz.prog 73 #[.pointer (some ⟨b, 0, none⟩), uV ⟨(k : Int), i, s⟩] w fun e w' => e = .returned (.tuple #[.bool false, .int .i64 70]) ∧ HearIs w w' b r := by
  have hk3 : (k : Int) < 64 := by omega
  have HP := Lib.hid (fun W (h : IsRoll W b r) => put_any h hr ⟨(k : Int), i, s⟩ ⟨by show 0 ≤ (k : Int); omega, hk3⟩)
  have HC := Lib.hid (fun W (h : IsRoll W b r) => h.ckn k hk)
  have HM := Lib.hid (fun W => Q.may_any (k : Int) i s W)
  have HN := Lib.hid (fun W => Q.newer_any (k : Int) i s (r.kn k).n (r.kn k).i (r.kn k).s W)
  have HH := Lib.hid (fun W => has_all r.has (k : Int) hr.has W)
  rw [hmay] at HM
  rw [hbh] at HH
  rw [hbn] at HN
  unfold uV at HP ⊢
  unfold Q.updV at HM HN
  have HR := Lib.hid h
  have e1 : ((k : Int) == r.me) = false := by rw [beq_eq_false_iff_ne]; exact hne
  clear hmay h hr hbh hbn
  obtain ⟨m, hm⟩ : ∃ m, m = r.me := ⟨_, rfl⟩
  rw [← hm] at e1 hne
  have HMe := Lib.hid (fun W (h : IsRoll W b r) => hm ▸ h.cme)
  clear hm
  have HCH := Lib.hid (fun W (h : IsRoll W b r) => h.chas)
  generalize r.kn k = y at HC HN
  obtain ⟨yn, yi, ys⟩ := y
  simp only at HC HN
  generalize (r.has : Int) = rh at HH HCH
  go_enter Tryz.func73, Tryz.ntmps73
  go_wp2_with fail
  refine (HM.out _).mono ?_
  rintro e w1 ⟨rfl, hk1⟩
  have HK1 := Lib.hid (((Keep.refl (fun _ => False) w).alloc _).step hk1)
  have hb1 := hk1.old (heap_alloc_new w _) (fun h => h)
  have c0 : w1.cell? ⟨w.heap.size, 0, none⟩ = some (.int .i64 (k : Int)) := by simp [World.cell?, hb1]
  have c1 : w1.cell? ⟨w.heap.size, 1, none⟩ = some (.int .u64 i) := by simp [World.cell?, hb1]
  have c2 : w1.cell? ⟨w.heap.size, 2, none⟩ = some (.int .i64 s) := by simp [World.cell?, hb1]
  have HR1 := Lib.hid (HR.out.keep0 HK1.out)
  have hb := HR.out.lt
  clear hk1 hb1
  have cm := HMe.out _ HR1.out
  go_upto_region 3 with fail
  refine still_lit (by kernel_rfl) (by kernel_rfl) ?_
  repeat still_step
  refine wpStill_nil ?_
  have C0 := Lib.hid c0
  have C1 := Lib.hid c1
  have C2 := Lib.hid c2
  clear c0 c1 c2 cm
  obtain ⟨k0, k1, k2⟩ := HC.out _ HR1.out
  have K0 := Lib.hid k0
  have K1 := Lib.hid k1
  have K2 := Lib.hid k2
  have CH := Lib.hid (HCH.out _ HR1.out)
  clear k0 k1 k2
  have QH := Lib.hid (in_same (w1 := w1) HH.out)
  have QN := Lib.hid (in_keep (w1 := w1) fun W _ => HN.out W)
  go_upto_region 10 with fail
  refine wp_region_quiet (C := fun W => Keep (fun _ => False) w1 W) (by kernel_rfl) (by kernel_rfl) (by first | exact (Keep.refl _ w1).drew | exact (Keep.refl _ w1).drew.drew | exact (Keep.refl _ w1).drew.drew.drew) ?_
  refine hq_start ?_
  repeat (refine hq_step (fun K hK => ?_); go_simp; first | (refine quiet_val (hK _ ?_); clear hK K) | (with_reducible refine quiet_call QH.out (hK _ ?_); clear hK K) | (with_reducible refine quiet_call QN.out (hK _ ?_); clear hK K) | (refine hK _ ?_; clear hK K) | (apply Exists.intro; refine ⟨fun W hW => ?_, hK _ ?_⟩; (have q0 := hW.cell C0.out; have q1 := hW.cell C1.out; have q2 := hW.cell C2.out; have q3 := hW.cell CH.out; have q4 := hW.cell K0.out; have q5 := hW.cell K1.out; have q6 := hW.cell K2.out; go_simp; exact rfl); clear hK K))
  refine hq_nil ?_
  intro W hW
  have HW := Lib.hid hW
  have d0 := hW.cell C0.out
  have d1 := hW.cell C1.out
  have d2 := hW.cell C2.out
  have HRW := Lib.hid (HR1.out.keep0 hW)
  clear hW
  go_wp2
  go_ret2
  exact ⟨rfl, HRW.out, (HK1.out.step HW.out).mono fun _ h _ => h.elim⟩
set_option maxRecDepth 100000 in
set_option maxHeartbeats 1000000 in
theorem hear_newer {w : World} {b : Nat} {r : Rol} (h : IsRoll w b r) (hr : RolOk r) (k : Nat) (i s : Int) (hmay : Q.mayU (k : Int) s = true) (hk : k < 64) (hne : (k : Int) ≠ r.me) (hbh : bHas r.has (k : Int) = true) (hbn : Q.newI i s (r.kn k).i (r.kn k).s = true) : Calls Tryz.prog 73 #[.pointer (some ⟨b, 0, none⟩), uV ⟨(k : Int), i, s⟩] w fun e w' => e = .returned (.tuple #[.bool true, .int .i64 0]) ∧ HearIs w w' b (r.put ⟨(k : Int), i, s⟩) := by
  have hk3 : (k : Int) < 64 := by omega
  have HP := Lib.hid (fun W (h : IsRoll W b r) => put_any h hr ⟨(k : Int), i, s⟩ ⟨by show 0 ≤ (k : Int); omega, hk3⟩)
  have HC := Lib.hid (fun W (h : IsRoll W b r) => h.ckn k hk)
  have HM := Lib.hid (fun W => Q.may_any (k : Int) i s W)
  have HN := Lib.hid (fun W => Q.newer_any (k : Int) i s (r.kn k).n (r.kn k).i (r.kn k).s W)
  have HH := Lib.hid (fun W => has_all r.has (k : Int) hr.has W)
  rw [hmay] at HM
  rw [hbh] at HH
  rw [hbn] at HN
  unfold uV at HP ⊢
  unfold Q.updV at HM HN
  have HR := Lib.hid h
  have e1 : ((k : Int) == r.me) = false := by rw [beq_eq_false_iff_ne]; exact hne
  clear hmay h hr hbh hbn
  obtain ⟨m, hm⟩ : ∃ m, m = r.me := ⟨_, rfl⟩
  rw [← hm] at e1 hne
  have HMe := Lib.hid (fun W (h : IsRoll W b r) => hm ▸ h.cme)
  clear hm
  have HCH := Lib.hid (fun W (h : IsRoll W b r) => h.chas)
  generalize r.kn k = y at HC HN
  obtain ⟨yn, yi, ys⟩ := y
  simp only at HC HN
  generalize (r.has : Int) = rh at HH HCH
  go_enter Tryz.func73, Tryz.ntmps73
  go_wp2_with fail
  refine (HM.out _).mono ?_
  rintro e w1 ⟨rfl, hk1⟩
  have HK1 := Lib.hid (((Keep.refl (fun _ => False) w).alloc _).step hk1)
  have hb1 := hk1.old (heap_alloc_new w _) (fun h => h)
  have c0 : w1.cell? ⟨w.heap.size, 0, none⟩ = some (.int .i64 (k : Int)) := by simp [World.cell?, hb1]
  have c1 : w1.cell? ⟨w.heap.size, 1, none⟩ = some (.int .u64 i) := by simp [World.cell?, hb1]
  have c2 : w1.cell? ⟨w.heap.size, 2, none⟩ = some (.int .i64 s) := by simp [World.cell?, hb1]
  have HR1 := Lib.hid (HR.out.keep0 HK1.out)
  have hb := HR.out.lt
  clear hk1 hb1
  have cm := HMe.out _ HR1.out
  go_upto_region 3 with fail
  refine still_lit (by kernel_rfl) (by kernel_rfl) ?_
  repeat still_step
  refine wpStill_nil ?_
  have C0 := Lib.hid c0
  have C1 := Lib.hid c1
  have C2 := Lib.hid c2
  clear c0 c1 c2 cm
  obtain ⟨k0, k1, k2⟩ := HC.out _ HR1.out
  have K0 := Lib.hid k0
  have K1 := Lib.hid k1
  have K2 := Lib.hid k2
  have CH := Lib.hid (HCH.out _ HR1.out)
  clear k0 k1 k2
  have QH := Lib.hid (in_same (w1 := w1) HH.out)
  have QN := Lib.hid (in_keep (w1 := w1) fun W _ => HN.out W)
  go_upto_region 10 with fail
  refine wp_region_quiet (C := fun W => Keep (fun _ => False) w1 W) (by kernel_rfl) (by kernel_rfl) (by first | exact (Keep.refl _ w1).drew | exact (Keep.refl _ w1).drew.drew | exact (Keep.refl _ w1).drew.drew.drew) ?_
  refine hq_start ?_
  repeat (refine hq_step (fun K hK => ?_); go_simp; first | (refine quiet_val (hK _ ?_); clear hK K) | (with_reducible refine quiet_call QH.out (hK _ ?_); clear hK K) | (with_reducible refine quiet_call QN.out (hK _ ?_); clear hK K) | (refine hK _ ?_; clear hK K) | (apply Exists.intro; refine ⟨fun W hW => ?_, hK _ ?_⟩; (have q0 := hW.cell C0.out; have q1 := hW.cell C1.out; have q2 := hW.cell C2.out; have q3 := hW.cell CH.out; have q4 := hW.cell K0.out; have q5 := hW.cell K1.out; have q6 := hW.cell K2.out; go_simp; exact rfl); clear hK K))
  refine hq_nil ?_
  intro W hW
  have HW := Lib.hid hW
  have d0 := hW.cell C0.out
  have d1 := hW.cell C1.out
  have d2 := hW.cell C2.out
  have HRW := Lib.hid (HR1.out.keep0 hW)
  clear hW
  go_wp2_with fail
  refine (HP.out _ HRW.out).mono ?_
  rintro e w3 ⟨rfl, hr3, hk3'⟩
  have HR3 := Lib.hid hr3
  have HK3 : Hid (Keep (fun j => j = b) w w3) := Lib.hid (((HK1.out.step HW.out).mono fun _ h _ => h.elim).step hk3')
  clear hr3 hk3'
  go_wp2
  go_ret2
  exact ⟨rfl, HR3.out, HK3.out⟩
theorem hear_other {w : World} {b : Nat} {r : Rol} (h : IsRoll w b r) (hr : RolOk r) (u : Up) (hmay : Q.mayU u.n u.s = true) (hne : u.n ≠ r.me) : Calls Tryz.prog 73 #[.pointer (some ⟨b, 0, none⟩), uV u] w fun e w' => e = .returned (hearV (r.hear u)) ∧ HearIs w w' b (r.hear u).1 := by
  obtain ⟨n, i, s⟩ := u
  simp only at hmay hne ⊢
  have hn : 0 ≤ n ∧ n < 64 := by unfold Q.mayU at hmay; simp only [decide_eq_true_eq] at hmay; exact ⟨hmay.1, hmay.2.1⟩
  obtain ⟨k, rfl⟩ : ∃ k : Nat, n = (k : Int) := ⟨n.toNat, by omega⟩
  have hk : k < 64 := by omega
  unfold Rol.hear hearV
  simp only [hmay, Bool.true_eq_false, if_false, if_neg hne]
  have hat : r.at (k : Int) = r.kn k := rfl
  rw [hat]
  cases hbh : bHas r.has (k : Int)
  · exact hear_first h hr k i s hmay hk hne hbh
  · cases hbn : Q.newI i s (r.kn k).i (r.kn k).s
    · exact hear_old h hr k i s hmay hk hne hbh hbn
    · exact hear_newer h hr k i s hmay hk hne hbh hbn
set_option maxRecDepth 100000 in
set_option maxHeartbeats 1000000 in
theorem mine_old {w : World} {b : Nat} {r : Rol} (h : IsRoll w b r) (hr : RolOk r) (i s : Int) (hmay : Q.mayU r.me s = true) (hi : 0 ≤ i ∧ i < 18446744073709551616) (hrf : refuteP r.mine.i i s = (r.mine.i, false, 0)) : Calls Tryz.prog 73 #[.pointer (some ⟨b, 0, none⟩), uV ⟨r.me, i, s⟩] w fun e w' => e = .returned (.tuple #[.bool false, .int .i64 70]) ∧ HearIs w w' b r := by
  have HM := Lib.hid (fun W => Q.may_any r.me i s W)
  have HF := Lib.hid (fun W => refute_any r.me r.mine.i i s hmay hi W)
  rw [hrf] at HF
  have HMN := Lib.hid (fun W (h : IsRoll W b r) => mine_any h hr)
  have HP := Lib.hid (fun W (h : IsRoll W b r) => put_any h hr ⟨r.me, i + 1, 0⟩ hr.me)
  rw [hmay] at HM
  unfold uV at HF HMN HP ⊢
  unfold Q.updV at HM
  have HR := Lib.hid h
  have hr0 : 0 ≤ i ∧ i < 18446744073709551616 := hi
  clear hmay h hr hrf hi
  have HMe := Lib.hid (fun W (h : IsRoll W b r) => h.cme)
  generalize r.mine = y at HMN HF
  obtain ⟨yn, yi, ys⟩ := y
  simp only at HF HMN
  generalize hm : r.me = m at *
  clear hm
  have e1 : (m == m) = true := by simp
  go_enter Tryz.func73, Tryz.ntmps73
  go_wp2_with fail
  refine (HM.out _).mono ?_
  rintro e w1 ⟨rfl, hk1⟩
  have HK1 := Lib.hid (((Keep.refl (fun _ => False) w).alloc _).step hk1)
  have hb1 := hk1.old (heap_alloc_new w _) (fun h => h)
  have c0 : w1.cell? ⟨w.heap.size, 0, none⟩ = some (.int .i64 m) := by simp [World.cell?, hb1]
  have c1 : w1.cell? ⟨w.heap.size, 1, none⟩ = some (.int .u64 i) := by simp [World.cell?, hb1]
  have c2 : w1.cell? ⟨w.heap.size, 2, none⟩ = some (.int .i64 s) := by simp [World.cell?, hb1]
  have HR1 := Lib.hid (HR.out.keep0 HK1.out)
  have hb := HR.out.lt
  clear hk1 hb1
  have cm := HMe.out _ HR1.out
  go_upto_region 3 with fail
  refine still_lit (by kernel_rfl) (by kernel_rfl) ?_
  repeat still_step
  refine wpStill_nil ?_
  have C0 := Lib.hid c0
  have C1 := Lib.hid c1
  have C2 := Lib.hid c2
  have CM := Lib.hid cm
  clear c0 c1 c2 cm
  have fi := field_i yn yi ys
  have QM := Lib.hid (in_keep (w1 := w1) fun W hW => HMN.out W (HR1.out.keep0 hW))
  have QF := Lib.hid (in_keep (w1 := w1) fun W _ => HF.out W)
  go_upto_region 4 with fail
  refine wp_region_quiet (C := fun W => Keep (fun _ => False) w1 W) (by kernel_rfl) (by kernel_rfl) (by first | exact (Keep.refl _ w1).drew | exact (Keep.refl _ w1).drew.drew | exact (Keep.refl _ w1).drew.drew.drew) ?_
  refine hq_start ?_
  repeat (refine hq_step (fun K hK => ?_); go_simp; first | (refine quiet_val (hK _ ?_); clear hK K) | (with_reducible refine quiet_call QM.out (hK _ ?_); clear hK K) | (with_reducible refine quiet_call QF.out (hK _ ?_); clear hK K) | (refine hK _ ?_; clear hK K) | (apply Exists.intro; refine ⟨fun W hW => ?_, hK _ ?_⟩; (have q0 := hW.cell C0.out; have q1 := hW.cell C1.out; have q2 := hW.cell C2.out; have q3 := hW.cell CM.out; go_simp; exact rfl); clear hK K))
  refine hq_nil ?_
  intro W hW
  have HW := Lib.hid hW
  clear fi
  have cm := hW.cell CM.out
  have HRW := Lib.hid (HR1.out.keep0 hW)
  clear hW
  go_wp2
  go_ret2
  exact ⟨rfl, HRW.out, (HK1.out.step HW.out).mono fun _ h _ => h.elim⟩
set_option maxRecDepth 100000 in
set_option maxHeartbeats 1000000 in
theorem mine_last {w : World} {b : Nat} {r : Rol} (h : IsRoll w b r) (hr : RolOk r) (i s : Int) (hmay : Q.mayU r.me s = true) (hi : 0 ≤ i ∧ i < 18446744073709551616) (hrf : refuteP r.mine.i i s = (r.mine.i, false, 60)) : Calls Tryz.prog 73 #[.pointer (some ⟨b, 0, none⟩), uV ⟨r.me, i, s⟩] w fun e w' => e = .returned (.tuple #[.bool false, .int .i64 60]) ∧ HearIs w w' b r := by
  have HM := Lib.hid (fun W => Q.may_any r.me i s W)
  have HF := Lib.hid (fun W => refute_any r.me r.mine.i i s hmay hi W)
  rw [hrf] at HF
  have HMN := Lib.hid (fun W (h : IsRoll W b r) => mine_any h hr)
  have HP := Lib.hid (fun W (h : IsRoll W b r) => put_any h hr ⟨r.me, i + 1, 0⟩ hr.me)
  rw [hmay] at HM
  unfold uV at HF HMN HP ⊢
  unfold Q.updV at HM
  have HR := Lib.hid h
  have hr0 : 0 ≤ i ∧ i < 18446744073709551616 := hi
  clear hmay h hr hrf hi
  have HMe := Lib.hid (fun W (h : IsRoll W b r) => h.cme)
  generalize r.mine = y at HMN HF
  obtain ⟨yn, yi, ys⟩ := y
  simp only at HF HMN
  generalize hm : r.me = m at *
  clear hm
  have e1 : (m == m) = true := by simp
  go_enter Tryz.func73, Tryz.ntmps73
  go_wp2_with fail
  refine (HM.out _).mono ?_
  rintro e w1 ⟨rfl, hk1⟩
  have HK1 := Lib.hid (((Keep.refl (fun _ => False) w).alloc _).step hk1)
  have hb1 := hk1.old (heap_alloc_new w _) (fun h => h)
  have c0 : w1.cell? ⟨w.heap.size, 0, none⟩ = some (.int .i64 m) := by simp [World.cell?, hb1]
  have c1 : w1.cell? ⟨w.heap.size, 1, none⟩ = some (.int .u64 i) := by simp [World.cell?, hb1]
  have c2 : w1.cell? ⟨w.heap.size, 2, none⟩ = some (.int .i64 s) := by simp [World.cell?, hb1]
  have HR1 := Lib.hid (HR.out.keep0 HK1.out)
  have hb := HR.out.lt
  clear hk1 hb1
  have cm := HMe.out _ HR1.out
  go_upto_region 3 with fail
  refine still_lit (by kernel_rfl) (by kernel_rfl) ?_
  repeat still_step
  refine wpStill_nil ?_
  have C0 := Lib.hid c0
  have C1 := Lib.hid c1
  have C2 := Lib.hid c2
  have CM := Lib.hid cm
  clear c0 c1 c2 cm
  have fi := field_i yn yi ys
  have QM := Lib.hid (in_keep (w1 := w1) fun W hW => HMN.out W (HR1.out.keep0 hW))
  have QF := Lib.hid (in_keep (w1 := w1) fun W _ => HF.out W)
  go_upto_region 4 with fail
  refine wp_region_quiet (C := fun W => Keep (fun _ => False) w1 W) (by kernel_rfl) (by kernel_rfl) (by first | exact (Keep.refl _ w1).drew | exact (Keep.refl _ w1).drew.drew | exact (Keep.refl _ w1).drew.drew.drew) ?_
  refine hq_start ?_
  repeat (refine hq_step (fun K hK => ?_); go_simp; first | (refine quiet_val (hK _ ?_); clear hK K) | (with_reducible refine quiet_call QM.out (hK _ ?_); clear hK K) | (with_reducible refine quiet_call QF.out (hK _ ?_); clear hK K) | (refine hK _ ?_; clear hK K) | (apply Exists.intro; refine ⟨fun W hW => ?_, hK _ ?_⟩; (have q0 := hW.cell C0.out; have q1 := hW.cell C1.out; have q2 := hW.cell C2.out; have q3 := hW.cell CM.out; go_simp; exact rfl); clear hK K))
  refine hq_nil ?_
  intro W hW
  have HW := Lib.hid hW
  clear fi
  have cm := hW.cell CM.out
  have HRW := Lib.hid (HR1.out.keep0 hW)
  clear hW
  go_wp2
  go_ret2
  exact ⟨rfl, HRW.out, (HK1.out.step HW.out).mono fun _ h _ => h.elim⟩
set_option maxRecDepth 100000 in
set_option maxHeartbeats 1000000 in
theorem mine_up {w : World} {b : Nat} {r : Rol} (h : IsRoll w b r) (hr : RolOk r) (i s : Int) (hmay : Q.mayU r.me s = true) (hi : 0 ≤ i ∧ i < 18446744073709551616) (hrf : refuteP r.mine.i i s = (i + 1, true, 0)) : Calls Tryz.prog 73 #[.pointer (some ⟨b, 0, none⟩), uV ⟨r.me, i, s⟩] w fun e w' => e = .returned (.tuple #[.bool false, .int .i64 0]) ∧ HearIs w w' b (r.put ⟨r.me, i + 1, 0⟩) := by
  have HM := Lib.hid (fun W => Q.may_any r.me i s W)
  have HF := Lib.hid (fun W => refute_any r.me r.mine.i i s hmay hi W)
  rw [hrf] at HF
  have HMN := Lib.hid (fun W (h : IsRoll W b r) => mine_any h hr)
  have HP := Lib.hid (fun W (h : IsRoll W b r) => put_any h hr ⟨r.me, i + 1, 0⟩ hr.me)
  rw [hmay] at HM
  unfold uV at HF HMN HP ⊢
  unfold Q.updV at HM
  have HR := Lib.hid h
  have hr0 : 0 ≤ i ∧ i < 18446744073709551616 := hi
  clear hmay h hr hrf hi
  have HMe := Lib.hid (fun W (h : IsRoll W b r) => h.cme)
  generalize r.mine = y at HMN HF
  obtain ⟨yn, yi, ys⟩ := y
  simp only at HF HMN
  generalize hm : r.me = m at *
  clear hm
  have e1 : (m == m) = true := by simp
  go_enter Tryz.func73, Tryz.ntmps73
  go_wp2_with fail
  refine (HM.out _).mono ?_
  rintro e w1 ⟨rfl, hk1⟩
  have HK1 := Lib.hid (((Keep.refl (fun _ => False) w).alloc _).step hk1)
  have hb1 := hk1.old (heap_alloc_new w _) (fun h => h)
  have c0 : w1.cell? ⟨w.heap.size, 0, none⟩ = some (.int .i64 m) := by simp [World.cell?, hb1]
  have c1 : w1.cell? ⟨w.heap.size, 1, none⟩ = some (.int .u64 i) := by simp [World.cell?, hb1]
  have c2 : w1.cell? ⟨w.heap.size, 2, none⟩ = some (.int .i64 s) := by simp [World.cell?, hb1]
  have HR1 := Lib.hid (HR.out.keep0 HK1.out)
  have hb := HR.out.lt
  clear hk1 hb1
  have cm := HMe.out _ HR1.out
  go_upto_region 3 with fail
  refine still_lit (by kernel_rfl) (by kernel_rfl) ?_
  repeat still_step
  refine wpStill_nil ?_
  have C0 := Lib.hid c0
  have C1 := Lib.hid c1
  have C2 := Lib.hid c2
  have CM := Lib.hid cm
  clear c0 c1 c2 cm
  have fi := field_i yn yi ys
  have QM := Lib.hid (in_keep (w1 := w1) fun W hW => HMN.out W (HR1.out.keep0 hW))
  have QF := Lib.hid (in_keep (w1 := w1) fun W _ => HF.out W)
  go_upto_region 4 with fail
  refine wp_region_quiet (C := fun W => Keep (fun _ => False) w1 W) (by kernel_rfl) (by kernel_rfl) (by first | exact (Keep.refl _ w1).drew | exact (Keep.refl _ w1).drew.drew | exact (Keep.refl _ w1).drew.drew.drew) ?_
  refine hq_start ?_
  repeat (refine hq_step (fun K hK => ?_); go_simp; first | (refine quiet_val (hK _ ?_); clear hK K) | (with_reducible refine quiet_call QM.out (hK _ ?_); clear hK K) | (with_reducible refine quiet_call QF.out (hK _ ?_); clear hK K) | (refine hK _ ?_; clear hK K) | (apply Exists.intro; refine ⟨fun W hW => ?_, hK _ ?_⟩; (have q0 := hW.cell C0.out; have q1 := hW.cell C1.out; have q2 := hW.cell C2.out; have q3 := hW.cell CM.out; go_simp; exact rfl); clear hK K))
  refine hq_nil ?_
  intro W hW
  have HW := Lib.hid hW
  clear fi
  have cm := hW.cell CM.out
  have HRW := Lib.hid (HR1.out.keep0 hW)
  clear hW
  go_wp2_with fail
  refine (HP.out _ HRW.out).mono ?_
  rintro e w3 ⟨rfl, hr3, hk3'⟩
  have HR3 := Lib.hid hr3
  have HK3 : Hid (Keep (fun j => j = b) w w3) := Lib.hid (((HK1.out.step HW.out).mono fun _ h _ => h.elim).step hk3')
  clear hr3 hk3'
  go_wp2
  go_ret2
  exact ⟨rfl, HR3.out, HK3.out⟩
theorem hear_any {w : World} {b : Nat} {r : Rol} (h : IsRoll w b r) (hr : RolOk r) (u : Up) (hi : 0 ≤ u.i ∧ u.i < 18446744073709551616) : Calls Tryz.prog 73 #[.pointer (some ⟨b, 0, none⟩), uV u] w fun e w' => e = .returned (hearV (r.hear u)) ∧ HearIs w w' b (r.hear u).1 := by
  cases hmay : Q.mayU u.n u.s
  · have e : r.hear u = (r, false, 1) := by unfold Rol.hear; rw [if_pos hmay]
    rw [e]
    obtain ⟨n, i, s⟩ := u
    refine (hear_bad h n i s hmay).mono ?_
    rintro e w' ⟨rfl, hk⟩
    exact ⟨rfl, h.keep0 hk, hk.mono fun _ h _ => h.elim⟩
  · by_cases hne : u.n = r.me
    · obtain ⟨n, i, s⟩ := u
      simp only at hne hi
      subst hne
      have e : r.hear ⟨r.me, i, s⟩ = if Q.newI i s r.mine.i 0 = false then (r, false, 70) else if i = 18446744073709551615 then (r, false, 60) else (r.put ⟨r.me, i + 1, 0⟩, false, 0) := by
        unfold Rol.hear
        rw [if_neg (by rw [hmay]; simp), if_pos rfl]
      rw [e]
      cases hnew : Q.newI i s r.mine.i 0
      · simp only [if_true]
        exact mine_old h hr i s hmay hi (by unfold refuteP; rw [if_pos hnew])
      · simp only [Bool.true_eq_false, if_false]
        by_cases hmx : i = 18446744073709551615
        · simp only [if_pos hmx]
          exact mine_last h hr i s hmay hi (by unfold refuteP; rw [if_neg (by rw [hnew]; simp), if_pos hmx])
        · simp only [if_neg hmx]
          exact mine_up h hr i s hmay hi (by unfold refuteP; rw [if_neg (by rw [hnew]; simp), if_neg hmx])
    · exact hear_other h hr u hmay hne
end Go.Proofs.YtofonfohaocclaaGreatDoor
