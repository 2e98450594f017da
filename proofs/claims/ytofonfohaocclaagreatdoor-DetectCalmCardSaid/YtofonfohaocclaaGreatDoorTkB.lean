/- Walk of Detector.take. -/
import Derived.Test.YtofonfohaocclaaGreatDoorG21
namespace Go.Proofs.YtofonfohaocclaaGreatDoor
open Go.RowKit Sh
open Go.ChangeMaps (setBlock)
set_option linter.unusedVariables false

theorem take_eq (d : Det) (L : List Int) (u : Up) (fr : Int) {r' : Rol} {tk : Bool} {er : Int} (hh : d.r.hear u = (r', tk, er)) : d.take L u fr =
    if er = 1 ∨ er = 60 then (d, L, er)
    else if er ≠ 0 then (if (d.r.get u.n).2 && decide ((d.r.get u.n).1 = u) && decide (u.s = 1) then d.raise u fr else d, L, 0)
    else if tk = false then (if r'.mine ≠ d.r.mine then { d with r := r', q := qput d.q r'.mine } else { d with r := r' }, L, 0)
    else if u.s = 1 then (({ d with r := r', q := qput d.q u } : Det).raise u fr, L, 0)
    else if u.s = 0 ∧ bHas d.r.live u.n = false then ({ d with r := r', q := qput d.q u, d := d.d.filter fun z => z.n ≠ u.n, left := (joinP d.left u.n L).1 }, (joinP d.left u.n L).2, 0)
    else ({ d with r := r', q := qput d.q u, d := d.d.filter fun z => z.n ≠ u.n }, L, 0) := by
  unfold Det.take
  rw [hh]
theorem hear_may {r r' : Rol} {u : Up} {tk : Bool} (h : r.hear u = (r', tk, 0)) : Q.mayU u.n u.s = true := by
  unfold Rol.hear at h
  cases hm : Q.mayU u.n u.s
  · rw [if_pos hm] at h
    injection h with _ h
    injection h with _ h
    exact absurd h (by decide)
  · rfl
theorem hear_own {r r' : Rol} {u : Up} (hr : RolOk r) (h : r.hear u = (r', false, 0)) : Q.mayU r'.mine.n r'.mine.s = true := by
  have hm := hear_may h
  unfold Rol.hear at h
  rw [if_neg (by rw [hm]; simp)] at h
  by_cases c2 : u.n = r.me
  · rw [if_pos c2] at h
    by_cases c3 : Q.newI u.i u.s r.mine.i 0 = false
    · rw [if_pos c3] at h
      injection h with _ h
      injection h with _ h
      exact absurd h (by decide)
    · rw [if_neg c3] at h
      by_cases c4 : u.i = 18446744073709551615
      · rw [if_pos c4] at h
        injection h with _ h
        injection h with _ h
        exact absurd h (by decide)
      · rw [if_neg c4] at h
        injection h with h _
        subst h
        have e : (r.put ⟨r.me, u.i + 1, 0⟩).mine = ⟨r.me, u.i + 1, 0⟩ := by
          unfold Rol.put Rol.mine Rol.at
          simp
        rw [e]
        have := hr.me
        unfold Q.mayU
        simp only [decide_eq_true_eq]
        omega
  · rw [if_neg c2] at h
    cases c3 : (bHas r.has u.n && !Q.newI u.i u.s (r.at u.n).i (r.at u.n).s)
    · rw [c3] at h
      injection h with _ h
      injection h with h _
      cases h
    · rw [c3] at h
      injection h with _ h
      injection h with _ h
      exact absurd h (by decide)
structure Cut1 (w0 wx : World) (g0 : Nat) (lv : Int) (mn mi ms : Int) (v9 v10 : Value) : Prop where
  e9 : v9 = .int .u64 lv
  ex : ∃ g1, v10 = .pointer (some ⟨g1, 0, none⟩) ∧ (wx.cell? ⟨g1, 0, none⟩ = some (.int .i64 mn) ∧ wx.cell? ⟨g1, 1, none⟩ = some (.int .u64 mi) ∧ wx.cell? ⟨g1, 2, none⟩ = some (.int .i64 ms)) ∧ w0.heap.size ≤ g1
  keep : Keep (fun _ => False) w0 wx
structure Cut2 (w0 wx : World) (gn gi gs : Int) (gb : Bool) (v11 v12 : Value) : Prop where
  e12 : v12 = .bool gb
  ex : ∃ g1, v11 = .pointer (some ⟨g1, 0, none⟩) ∧ (wx.cell? ⟨g1, 0, none⟩ = some (.int .i64 gn) ∧ wx.cell? ⟨g1, 1, none⟩ = some (.int .u64 gi) ∧ wx.cell? ⟨g1, 2, none⟩ = some (.int .i64 gs)) ∧ w0.heap.size ≤ g1
  keep : Keep (fun _ => False) w0 wx

set_option maxRecDepth 100000 in
set_option maxHeartbeats 4000000 in
theorem take_det {w : World} {b xl : Nat} {d : Det} {p : Parts} {L : List Int} (h : IsDet w b d p) (ho : DetOk d) (hT : TabAt 0 B.tabS w) (hL : IsLots w xl L) (u : Up) (hu : 0 ≤ u.i ∧ u.i < 18446744073709551616) (fr : Int) :
    Calls Tryz.prog 32 #[.pointer (some ⟨b, 0, none⟩), uV u, .int .i64 fr, .pointer (some ⟨xl, 0, none⟩)] w fun e w' => e = .returned (.int .i64 (d.take L u fr).2.2) ∧ DLSet w w' b p xl (d.take L u fr).1 (d.take L u fr).2.1 := by
  have HLV := Lib.hid (fun W (k : Keep (fun _ => False) w W) => rlive_any (h.keep0 k).rol ho.r (B.tab_keep hT k id))
  have HMN := Lib.hid (fun W (k : Keep (fun _ => False) w W) => mine_any (h.keep0 k).rol ho.r)
  have HGT := Lib.hid (fun W (k : Keep (fun _ => False) w W) => get_any (h.keep0 k).rol ho.r u.n)
  have HHR := Lib.hid (fun W (k : Keep (fun _ => False) w W) => hear_any (h.keep0 k).rol ho.r u hu)
  have HS := Lib.hid (fun W (k : Keep (fun _ => False) w W) => h.keep0 k)
  have HO := Lib.hid ho
  have HTT := Lib.hid hT
  have HLL := Lib.hid hL
  have HUI := Lib.hid hu
  have c0 := h.c0
  obtain ⟨n, i, s⟩ := u
  obtain ⟨res, hres⟩ : ∃ res, res = d.take L ⟨n, i, s⟩ fr := ⟨_, rfl⟩
  rw [← hres]
  have HTK := Lib.hid hres
  clear hres
  unfold uV at HMN HGT HHR ⊢
  unfold hearV at HHR
  simp only at HGT HUI HHR
  have hb := h.lt (hb p b)
  have HXL := Lib.hid hL.lt
  clear h ho hT hL hu
  generalize hmine : d.r.mine = my at *
  have HMY := Lib.hid hmine
  clear hmine
  generalize hlive : d.r.live = lv at *
  have HLE := Lib.hid hlive
  clear hlive
  obtain ⟨mn, mi, ms⟩ := my
  have k0 := (Keep.refl (fun _ => False) w).alloc (.cells #[.int .i64 n, .int .u64 i, .int .i64 s] 52)
  have a0 : (w.alloc (.cells #[.int .i64 n, .int .u64 i, .int .i64 s] 52)).cell? ⟨w.heap.size, 0, none⟩ = some (.int .i64 n) := Q.cell_new rfl rfl
  have a1 : (w.alloc (.cells #[.int .i64 n, .int .u64 i, .int .i64 s] 52)).cell? ⟨w.heap.size, 1, none⟩ = some (.int .u64 i) := Q.cell_new rfl rfl
  have a2 : (w.alloc (.cells #[.int .i64 n, .int .u64 i, .int .i64 s] 52)).cell? ⟨w.heap.size, 2, none⟩ = some (.int .i64 s) := Q.cell_new rfl rfl
  have d0 := k0.cell c0
  clear c0
  go_enter Tryz.func32, Tryz.ntmps32
  go_upto_region 1 with fail
  obtain ⟨w0, hw0⟩ : ∃ w0, w0 = w.alloc (.cells #[.int .i64 n, .int .u64 i, .int .i64 s] 52) := ⟨_, rfl⟩
  have hs0 : w0.heap.size = w.heap.size + 1 := by rw [hw0]; simp
  rw [← hw0] at k0 a0 a1 a2 d0 ⊢
  clear hw0
  have HS0 := Lib.hid hs0
  clear hs0
  have u0 := k0.size
  go_cut [9, 10] (fun v9 v10 wx => Cut1 w0 wx w.heap.size lv mn mi ms v9 v10)
  case first =>
    go_region_held3 (fun W => W.cell? ⟨b, 0, none⟩ = some (.pointer (some ⟨p.rb, 0, none⟩))) (first | assumption | go_keep | ((repeat (first | assumption | refine set_ne (by omega) ?_)); done)) (first | (go_at_call 14; refine (HLV.out _ (by repeat (first | assumption | refine Sh.Keep.drew ?_ | refine Sh.Keep.alloc ?_ _ | refine Sh.Keep.step ?_ (by assumption)))).mono ?_; rintro e w1 ⟨rfl, hk1⟩; have kv1 : Keep (fun _ => False) w0 w1 := (by repeat (first | assumption | exact Sh.Keep.refl _ _ | refine Sh.Keep.drew ?_ | refine Sh.Keep.alloc ?_ _ | refine Sh.Keep.step ?_ (by assumption))); have uv1 := kv1.size; have kw1 := k0.step kv1; have sw1 := (HS.out _ kw1).c0; (try (have y0 := hk1.cell z0; have g0 := hk1.fro z0 f0; clear z0 f0)); (first | (have z0 := hk1.cell (azd0 _); have f0 := hk1.fro (azd0 _) (alfd _ _ _ 0)) | (have z0 := hk1.cell (az0 _); have f0 := hk1.fro (az0 _) (alf _ _ _ 0)) | skip); (try (have y1 := hk1.cell z1; have g1 := hk1.fro z1 f1; clear z1 f1)); (first | (have z1 := hk1.cell (azd1 _); have f1 := hk1.fro (azd1 _) (alfd _ _ _ 1)) | (have z1 := hk1.cell (az1 _); have f1 := hk1.fro (az1 _) (alf _ _ _ 1)) | skip); (try (have y2 := hk1.cell z2; have g2 := hk1.fro z2 f2; clear z2 f2)); (first | (have z2 := hk1.cell (azd2 _); have f2 := hk1.fro (azd2 _) (alfd _ _ _ 2)) | (have z2 := hk1.cell (az2 _); have f2 := hk1.fro (az2 _) (alf _ _ _ 2)) | skip)) | (go_at_call 48; refine (HMN.out _ (by repeat (first | assumption | refine Sh.Keep.drew ?_ | refine Sh.Keep.alloc ?_ _ | refine Sh.Keep.step ?_ (by assumption)))).mono ?_; rintro e w2 ⟨rfl, hk2⟩; have kv2 : Keep (fun _ => False) w0 w2 := (by repeat (first | assumption | exact Sh.Keep.refl _ _ | refine Sh.Keep.drew ?_ | refine Sh.Keep.alloc ?_ _ | refine Sh.Keep.step ?_ (by assumption))); have uv2 := kv2.size; have kw2 := k0.step kv2; have sw2 := (HS.out _ kw2).c0; (try (have y0 := hk2.cell z0; have g0 := hk2.fro z0 f0; clear z0 f0)); (first | (have z0 := hk2.cell (azd0 _); have f0 := hk2.fro (azd0 _) (alfd _ _ _ 0)) | (have z0 := hk2.cell (az0 _); have f0 := hk2.fro (az0 _) (alf _ _ _ 0)) | skip); (try (have y1 := hk2.cell z1; have g1 := hk2.fro z1 f1; clear z1 f1)); (first | (have z1 := hk2.cell (azd1 _); have f1 := hk2.fro (azd1 _) (alfd _ _ _ 1)) | (have z1 := hk2.cell (az1 _); have f1 := hk2.fro (az1 _) (alf _ _ _ 1)) | skip); (try (have y2 := hk2.cell z2; have g2 := hk2.fro z2 f2; clear z2 f2)); (first | (have z2 := hk2.cell (azd2 _); have f2 := hk2.fro (azd2 _) (alfd _ _ _ 2)) | (have z2 := hk2.cell (az2 _); have f2 := hk2.fro (az2 _) (alf _ _ _ 2)) | skip)))
    all_goals
      go_wp2_with fail
      go_meet
      first
        | exact ⟨rfl, ⟨_, rfl, alc3 _ _ _ _ _, by omega⟩, Sh.Keep.alloc (by assumption) _⟩
        | exact ⟨rfl, ⟨_, rfl, set3 (by assumption) (by assumption) (by assumption), by omega⟩, (((by assumption : Keep (fun _ => False) w0 _).setNew _ (by omega)).setNew _ (by omega)).setNew _ (by omega)⟩
  case rest =>
    obtain ⟨rfl, ⟨g1, rfl, ⟨m0, m1, m2⟩, hg1⟩, kc⟩ := hcut
    obtain ⟨wp, hwp⟩ : ∃ wp, wp = wc := ⟨_, rfl⟩
    rw [← hwp] at m0 m1 m2 kc ⊢
    clear hwp
    have kp := k0.step kc
    have b0 := kc.cell a0
    have b1 := kc.cell a1
    have b2 := kc.cell a2
    have e0 := kc.cell d0
    have M0 := Lib.hid m0
    have M1 := Lib.hid m1
    have M2 := Lib.hid m2
    have up := kp.size
    have u1 : w.heap.size < w0.heap.size := by have := HS0.out; omega
    have uc := kc.size
    clear a0 a1 a2 d0 m0 m1 m2
    generalize hgt : d.r.get n = gt at *
    have HGE := Lib.hid hgt
    clear hgt
    obtain ⟨⟨gn, gi, gs⟩, gb⟩ := gt
    go_upto_region 2 with fail
    go_cut [11, 12] (fun v11 v12 wx => Cut2 wp wx gn gi gs gb v11 v12)
    case first =>
      go_region_held3 (fun W => W.cell? ⟨b, 0, none⟩ = some (.pointer (some ⟨p.rb, 0, none⟩)) ∧ W.cell? ⟨w.heap.size, 0, none⟩ = some (.int .i64 n)) (first | assumption | go_keep | ((refine And.intro ?_ ?_) <;> ((repeat (first | assumption | refine set_ne (by omega) ?_)); done))) (first | (go_at_call 31; refine (HGT.out _ (by repeat (first | assumption | refine Sh.Keep.drew ?_ | refine Sh.Keep.alloc ?_ _ | refine Sh.Keep.step ?_ (by assumption)))).mono ?_; rintro e w1 ⟨rfl, hk1⟩; have kvw1 : Keep (fun _ => False) wp w1 := (by repeat (first | assumption | exact Sh.Keep.refl _ _ | refine Sh.Keep.drew ?_ | refine Sh.Keep.alloc ?_ _ | refine Sh.Keep.step ?_ (by assumption))); have uvw1 := kvw1.size; have kw1 := kp.step kvw1; have sw1 := And.intro (HS.out _ kw1).c0 (kvw1.cell b0); have sx1 := sw1.1; have sy1 := sw1.2; (try (have y0 := hk1.cell z0; have g0 := hk1.fro z0 f0; clear z0 f0)); (first | (have z0 := hk1.cell (azd0 _); have f0 := hk1.fro (azd0 _) (alfd _ _ _ 0)) | (have z0 := hk1.cell (az0 _); have f0 := hk1.fro (az0 _) (alf _ _ _ 0)) | skip); (try (have y1 := hk1.cell z1; have g1 := hk1.fro z1 f1; clear z1 f1)); (first | (have z1 := hk1.cell (azd1 _); have f1 := hk1.fro (azd1 _) (alfd _ _ _ 1)) | (have z1 := hk1.cell (az1 _); have f1 := hk1.fro (az1 _) (alf _ _ _ 1)) | skip); (try (have y2 := hk1.cell z2; have g2 := hk1.fro z2 f2; clear z2 f2)); (first | (have z2 := hk1.cell (azd2 _); have f2 := hk1.fro (azd2 _) (alfd _ _ _ 2)) | (have z2 := hk1.cell (az2 _); have f2 := hk1.fro (az2 _) (alf _ _ _ 2)) | skip)))
      all_goals
        go_wp2_with fail
        go_meet
        first
          | exact ⟨rfl, ⟨_, rfl, alc3 _ _ _ _ _, by omega⟩, Sh.Keep.alloc (by assumption) _⟩
          | exact ⟨rfl, ⟨_, rfl, set3 (by assumption) (by assumption) (by assumption), by omega⟩, (((by assumption : Keep (fun _ => False) wp _).setNew _ (by omega)).setNew _ (by omega)).setNew _ (by omega)⟩
    case rest =>
      obtain ⟨rfl, ⟨g2, rfl, ⟨n0, n1, n2⟩, hg2⟩, kc2⟩ := hcut
      obtain ⟨wq, hwq⟩ : ∃ wq, wq = wc := ⟨_, rfl⟩
      rw [← hwq] at n0 n1 n2 kc2 ⊢
      clear hwq
      have kq := kp.step kc2
      have c0 := kc2.cell b0
      have c1 := kc2.cell b1
      have c2 := kc2.cell b2
      have cd := kc2.cell e0
      have N0 := Lib.hid n0
      have N1 := Lib.hid n1
      have N2 := Lib.hid n2
      have P0 := Lib.hid (kc2.cell M0.out)
      have P1 := Lib.hid (kc2.cell M1.out)
      have P2 := Lib.hid (kc2.cell M2.out)
      have hrl : p.rb < w.heap.size := (HS.out w (Keep.refl _ w)).rol.lt
      have hrb : b ≠ p.rb := (HS.out w (Keep.refl _ w)).kb.ne (HS.out w (Keep.refl _ w)).krb (by decide)
      clear b0 b1 b2 e0 n0 n1 n2 M0 M1 M2 kc kc2 k0 HLV HMN HGT
      generalize hhr : d.r.hear ⟨n, i, s⟩ = hr at *
      have HRE := Lib.hid hhr
      clear hhr
      obtain ⟨r', tk, er⟩ := hr
      simp only at HHR
      go_upto_region 3 with fail
      go_region_held3 (fun W => W.cell? ⟨b, 0, none⟩ = some (.pointer (some ⟨p.rb, 0, none⟩)) ∧ W.cell? ⟨w.heap.size, 0, none⟩ = some (.int .i64 n) ∧ W.cell? ⟨w.heap.size, 1, none⟩ = some (.int .u64 i) ∧ W.cell? ⟨w.heap.size, 2, none⟩ = some (.int .i64 s)) (first | assumption | exact ⟨cd, c0, c1, c2⟩) (first | (go_at_call 73; refine (HHR.out _ (kq.drew)).mono ?_; rintro e w3 ⟨rfl, h3⟩; have sw3 := And.intro (h3.keep.cellS cd hrb) (And.intro (h3.keep.cellS c0 (by show ¬ w.heap.size = p.rb; omega)) (And.intro (h3.keep.cellS c1 (by show ¬ w.heap.size = p.rb; omega)) (h3.keep.cellS c2 (by show ¬ w.heap.size = p.rb; omega))))))
      have hre := HRE.out
      have HD3 := Lib.hid ((HS.out _ kq.drew).set_roll h3.keep h3.rol (by have := hear_me d.r ⟨n, i, s⟩; rw [hre] at this; exact this))
      have hok : RolOk r' := by have := hear_ok HO.out.r ⟨n, i, s⟩; rw [hre] at this; exact this
      have HO3 : Hid (DetOk { d with r := r' }) := Lib.hid ⟨HO.out.left, hok, HO.out.q, HO.out.d, HO.out.now, HO.out.seq⟩
      have K3 : Hid (Keep (p.has b) w w3) := Lib.hid ((kq.drew.mono fun _ h _ => h.elim).step (h3.keep.mono fun j hj _ => ⟨.inr (.inl hj)⟩))
      have hpos : ¬ p.has b 0 := fun h0 => absurd ((HS.out w (Keep.refl _ w)).pos 0 h0) (by omega)
      have HT3 := Lib.hid (B.tab_keep HTT.out K3.out hpos)
      have HL3 := Lib.hid ((HS.out w (Keep.refl _ w)).lots HLL.out K3.out)
      have S0 := Lib.hid (h3.keep.cellS c0 (by show ¬ w.heap.size = p.rb; omega))
      have S1 := Lib.hid (h3.keep.cellS c1 (by show ¬ w.heap.size = p.rb; omega))
      have S2 := Lib.hid (h3.keep.cellS c2 (by show ¬ w.heap.size = p.rb; omega))
      have G0 := Lib.hid (h3.keep.cellS P0.out (by show ¬ g1 = p.rb; omega))
      have G1 := Lib.hid (h3.keep.cellS P1.out (by show ¬ g1 = p.rb; omega))
      have G2 := Lib.hid (h3.keep.cellS P2.out (by show ¬ g1 = p.rb; omega))
      have F0 := Lib.hid (h3.keep.cellS N0.out (by show ¬ g2 = p.rb; omega))
      have F1 := Lib.hid (h3.keep.cellS N1.out (by show ¬ g2 = p.rb; omega))
      have F2 := Lib.hid (h3.keep.cellS N2.out (by show ¬ g2 = p.rb; omega))
      have HTE := Lib.hid (HTK.out.trans (take_eq d L ⟨n, i, s⟩ fr hre))
      have HSZ : Hid (w.heap.size < w3.heap.size) := Lib.hid (by have := World.block_lt_of_cell? w3 _ S0.out; exact this)
      have ND : Hid (∀ j, w.heap.size ≤ j → ¬ p.has b j) := Lib.hid (fun j hj hp => absurd ((HS.out w (Keep.refl _ w)).lt hp) (by omega))
      have hw0 : IsDet w b d p := HS.out w (Keep.refl _ w)
      have HW0 := Lib.hid hw0
      clear hre hok hpos sw3 h3 cd c0 c1 c2 P0 P1 P2 N0 N1 N2 kq kp HTK HTT HLL hw0 HS HHR
      by_cases hA : er = 1 ∨ er = 60
      · have HF : Hid (res = (d, L, er)) := Lib.hid (by rw [HTE.out, if_pos hA])
        have HRR : Hid (r' = d.r) := Lib.hid (by have := hear_err (r := d.r) (u := ⟨n, i, s⟩) (by rw [HRE.out]; rcases hA with h | h <;> (show er ≠ 0; omega)); rw [HRE.out] at this; exact this)
        have HDD : Hid (DLSet w w3 b p xl d L) := Lib.hid ⟨⟨p, by have := HD3.out; rw [HRR.out] at this; exact this, fun _ h => .inl h⟩, HL3.out, K3.out.mono fun _ h _ => .inl h⟩
        clear HTE
        rcases hA with rfl | rfl
        all_goals
          go_wp2
          go_ret
          rw [HF.out]
          exact ⟨rfl, HDD.out⟩
      · have e1 : (er == 1) = false := by rw [beq_eq_false_iff_ne]; intro h; exact hA (.inl h)
        have e60 : (er == 60) = false := by rw [beq_eq_false_iff_ne]; intro h; exact hA (.inr h)
        have n1 : ¬ er = 1 := fun h => hA (.inl h)
        have n60 : ¬ er = 60 := fun h => hA (.inr h)
        by_cases h0 : er = 0
        · subst h0
          have HF : Hid (res = if tk = false then (if r'.mine ≠ d.r.mine then { d with r := r', q := qput d.q r'.mine } else { d with r := r' }, L, 0)
              else if s = 1 then (({ d with r := r', q := qput d.q ⟨n, i, s⟩ } : Det).raise ⟨n, i, s⟩ fr, L, 0)
              else if s = 0 ∧ bHas d.r.live n = false then ({ d with r := r', q := qput d.q ⟨n, i, s⟩, d := d.d.filter fun z => z.n ≠ n, left := (joinP d.left n L).1 }, (joinP d.left n L).2, 0)
              else ({ d with r := r', q := qput d.q ⟨n, i, s⟩, d := d.d.filter fun z => z.n ≠ n }, L, 0)) := Lib.hid (by rw [HTE.out, if_neg hA, if_neg (by simp)])
          clear HTE hA n1 n60 e1 e60
          have CD3 := Lib.hid HD3.out.c0
          cases tk
          · have HF2 : Hid (res = (if r'.mine ≠ d.r.mine then { d with r := r', q := qput d.q r'.mine } else { d with r := r' }, L, 0)) := Lib.hid (by rw [HF.out, if_pos rfl])
            have HMY2 := Lib.hid (hear_own HO.out.r HRE.out)
            have HMW := Lib.hid (fun W (k : Keep (fun _ => False) w3 W) => mine_any (HD3.out.keep0 k).rol HO3.out.r)
            have HPW := Lib.hid (fun W (k : Keep (fun _ => False) w3 W) => qput_any (HD3.out.keep0 k).q HO3.out.q r'.mine HMY2.out)
            have hq := fun W => neq52 r'.mine ⟨mn, mi, ms⟩ W
            have HDQ : Hid (decide (r'.mine = ⟨mn, mi, ms⟩) = decide (r'.mine = d.r.mine)) := Lib.hid (by rw [HMY.out])
            clear HF
            unfold uV at hq HMW HPW
            simp only at HMW
            have QM := Lib.hid (in_keep (w1 := w3) HMW.out)
            cases hdq : decide (r'.mine = (⟨mn, mi, ms⟩ : Up))
            all_goals
              rw [hdq] at hq HDQ
              clear hdq
              generalize hmm : r'.mine = my2 at *
              clear hmm
              obtain ⟨ym, yi, ys⟩ := my2
              simp only at hq QM HMW HPW
              go_upto_region 11 with fail
              refine wp_region_quiet (C := fun W => Keep (fun _ => False) w3 W) (by kernel_rfl) (by kernel_rfl) (by first | exact (Keep.refl _ w3).drew | exact (Keep.refl _ w3).drew.drew | exact (Keep.refl _ w3).drew.drew.drew) ?_
              refine hq_start ?_
              repeat (refine hq_step (fun K hK => ?_); go_simp; first | (refine quiet_val (hK _ ?_); clear hK K) | (with_reducible refine quiet_call QM.out (hK _ ?_); clear hK K) | (refine hK _ ?_; clear hK K) | (apply Exists.intro; refine ⟨fun W hW => ?_, hK _ ?_⟩; (have q0 := hW.cell CD3.out; have q1 := hW.cell G0.out; have q2 := hW.cell G1.out; have q3 := hW.cell G2.out; go_simp; exact rfl); clear hK K))
              refine hq_nil ?_
              intro W hW
              have HW := Lib.hid hW
              clear hW hq
            · have HF3 : Hid (res = ({ d with r := r', q := qput d.q ⟨ym, yi, ys⟩ }, L, 0)) := Lib.hid (by rw [HF2.out, if_pos (of_decide_eq_false HDQ.out.symm)])
              clear HF2 HDQ
              go_upto_region 12 with fail
              go_region_held3 (fun V => V.cell? ⟨b, 0, none⟩ = some (.pointer (some ⟨p.rb, 0, none⟩))) (first | assumption | exact (HW.out.cell CD3.out)) (first | (go_at_call 48; refine (HMW.out _ HW.out.drew).mono ?_; rintro e w4 ⟨rfl, hk4⟩; have kw4 := HW.out.drew.step hk4; have sw4 := kw4.cell CD3.out) | (go_at_call 47; refine (HPW.out _ kw4).mono ?_; rintro e w5 ⟨x5, mb5, rfl, hq5, hN5, hk5⟩; have hp5 := (HD3.out.keep0 kw4).set_q hk5 hq5 hN5; have sw5 : w5.cell? ⟨b, 0, none⟩ = some (.pointer (some ⟨p.rb, 0, none⟩)) := hp5.c0))
              all_goals
                have HDF : Hid (DLSet w w5 b p xl { d with r := r', q := qput d.q ⟨ym, yi, ys⟩ } L) := Lib.hid (DLSet.next (fun k h => .inl h) ((K3.out.mono fun _ h _ => .inl h).step (kw4.mono fun _ h _ => h.elim)) ((DSet.of_q (HD3.out.keep0 kw4) hk5 hq5 hN5).dl (HD3.out.keep0 kw4) (HL3.out.keep0 kw4)))
                clear hp5 hq5 hN5 hk5 hk4 kw4 sw4 sw5
                go_wp2
                go_ret
                rw [HF3.out]
                exact ⟨rfl, HDF.out⟩
            · have HF3 : Hid (res = ({ d with r := r' }, L, 0)) := Lib.hid (by rw [HF2.out, if_neg (fun h => h (of_decide_eq_true HDQ.out.symm))])
              have HDF : Hid (DLSet w W b p xl { d with r := r' } L) := Lib.hid ⟨⟨p, HD3.out.keep0 HW.out, fun _ h => .inl h⟩, HL3.out.keep0 HW.out, (K3.out.mono fun _ h _ => .inl h).step (HW.out.mono fun _ h _ => h.elim)⟩
              clear HF2 HDQ
              go_wp2
              go_ret
              rw [HF3.out]
              exact ⟨rfl, HDF.out⟩
          · have HMU := Lib.hid (hear_may HRE.out)
            have HF2 : Hid (res = if s = 1 then (({ d with r := r', q := qput d.q ⟨n, i, s⟩ } : Det).raise ⟨n, i, s⟩ fr, L, 0)
                else if s = 0 ∧ bHas d.r.live n = false then ({ d with r := r', q := qput d.q ⟨n, i, s⟩, d := d.d.filter fun z => z.n ≠ n, left := (joinP d.left n L).1 }, (joinP d.left n L).2, 0)
                else ({ d with r := r', q := qput d.q ⟨n, i, s⟩, d := d.d.filter fun z => z.n ≠ n }, L, 0)) := Lib.hid (by rw [HF.out, if_neg (by simp)])
            have HPW := Lib.hid (fun W (k : Keep (fun _ => False) w3 W) => qput_any (HD3.out.keep0 k).q HO3.out.q ⟨n, i, s⟩ HMU.out)
            have NQ : Hid (∀ j, w.heap.size ≤ j → ¬ Q.QS (qL b p { d with r := r' }) p.qm j) := Lib.hid (fun j hj hq => by
              rcases hq with h | h
              · exact ND.out j hj ⟨.inl h⟩
              · exact ND.out j hj ⟨.inr (.inr (.inr (.inr (.inr (.inl h)))))⟩)
            unfold uV at HPW
            simp only at HPW
            clear HF
            have s0 := S0.out
            have s1 := S1.out
            have s2 := S2.out
            go_upto_region 14 with fail
            go_region_held3 (fun V => V.cell? ⟨w.heap.size, 0, none⟩ = some (.int .i64 n) ∧ V.cell? ⟨w.heap.size, 1, none⟩ = some (.int .u64 i) ∧ V.cell? ⟨w.heap.size, 2, none⟩ = some (.int .i64 s)) (first | assumption | exact ⟨s0, s1, s2⟩) (first | (go_at_call 47; refine (HPW.out _ (Keep.refl _ w3).drew).mono ?_; rintro e w5 ⟨x5, mb5, rfl, hq5, hN5, hk5⟩; have sw5 := And.intro (hk5.cellS s0 (NQ.out _ (Nat.le_refl _))) (And.intro (hk5.cellS s1 (NQ.out _ (Nat.le_refl _))) (hk5.cellS s2 (NQ.out _ (Nat.le_refl _))))))
            have hd3 := HD3.out.keep0 (Keep.refl _ w3).drew
            have hl3 := HL3.out.keep0 (Keep.refl _ w3).drew
            have hs5 := DSet.of_q hd3 hk5 hq5 hN5
            obtain ⟨p5, hp5, hsub5⟩ := hs5.ex
            have HD5 := Lib.hid hp5
            have HSUB : Hid (∀ k, p5.has b k → p.has b k ∨ w.heap.size ≤ k) := Lib.hid (fun k hk => by
              rcases hsub5 k hk with h | h
              · exact .inl h
              · exact .inr (by have := HSZ.out; simp at h; omega))
            have K5 : Hid (Keep (p.has b) w w5) := Lib.hid ((K3.out.step ((Keep.refl _ w3).drew)).step hs5.keep)
            have HL5 := Lib.hid (hd3.lots hl3 hs5.keep)
            have hpos : ¬ p.has b 0 := fun h0 => absurd (HW0.out.pos 0 h0) (by omega)
            have HT5 := Lib.hid (B.tab_keep HT3.out ((Keep.refl _ w3).drew.step hs5.keep) hpos)
            have HO5 : Hid (DetOk { d with r := r', q := qput d.q ⟨n, i, s⟩ }) := Lib.hid ⟨HO.out.left, HO3.out.r, qput_ok HO.out.q _, HO.out.d, HO.out.now, HO.out.seq⟩
            have K5X : Hid (Keep (fun k => p.has b k ∨ k = xl) w w5) := Lib.hid (K5.out.mono fun _ h _ => .inl h)
            obtain ⟨t0, t1, t2⟩ := sw5
            have N5 : Hid (¬ p5.has b w.heap.size) := Lib.hid (fun h => by
              have : w3.heap.size ≤ w.heap.size ∨ p.has b w.heap.size := by
                rcases hsub5 _ h with h | h
                · exact .inr h
                · exact .inl (by simpa using h)
              rcases this with h | h
              · have := HSZ.out; omega
              · exact ND.out _ (Nat.le_refl _) h)
            clear hd3 hl3 hs5 hp5 hsub5 hpos hq5 hN5 hk5 s0 s1 s2 HPW
            by_cases h1 : s = 1
            · have HF3 : Hid (res = (({ d with r := r', q := qput d.q ⟨n, i, s⟩ } : Det).raise ⟨n, i, s⟩ fr, L, 0)) := Lib.hid (by rw [HF2.out, if_pos h1])
              have es : (s == 1) = true := by rw [beq_iff_eq]; exact h1
              have HR := Lib.hid (draise_det HD5.out HO5.out HT5.out ⟨n, i, s⟩ fr)
              unfold uV at HR
              clear h1 HF2
              go_wp2_with fail
              refine HR.out.mono ?_
              rintro e w6 ⟨rfl, hd6⟩
              have HDF := Lib.hid (DLSet.next HSUB.out K5X.out (hd6.dl HD5.out HL5.out))
              clear hd6
              go_wp2
              go_ret
              rw [HF3.out]
              exact ⟨rfl, HDF.out⟩
            · have es : (s == 1) = false := by rw [beq_eq_false_iff_ne]; exact h1
              have HF3 : Hid (res = if s = 0 ∧ bHas d.r.live n = false then ({ d with r := r', q := qput d.q ⟨n, i, s⟩, d := d.d.filter fun z => z.n ≠ n, left := (joinP d.left n L).1 }, (joinP d.left n L).2, 0)
                else ({ d with r := r', q := qput d.q ⟨n, i, s⟩, d := d.d.filter fun z => z.n ≠ n }, L, 0)) := Lib.hid (by rw [HF2.out, if_neg h1])
              clear h1 HF2
              have HDR := Lib.hid (fun W (k : Keep (fun _ => False) w5 W) => D.drop_any (HD5.out.keep0 k).d n)
              have ND5 : Hid (¬ (fun k => p5.dm = some k) w.heap.size) := Lib.hid (fun h => N5.out ⟨.inr (.inr (.inr (.inr (.inr (.inr h)))))⟩)
              go_upto_region 15 with fail
              go_region_held3 (fun V => V.cell? ⟨w.heap.size, 0, none⟩ = some (.int .i64 n)) (first | assumption) (first | (go_at_call 75; refine (HDR.out _ (Keep.refl _ w5).drew).mono ?_; rintro e w6 ⟨x6, rfl, hd6⟩; have sw6 := hd6.keep.cellS t0 ND5.out))
              have hd5 := HD5.out.keep0 (Keep.refl _ w5).drew
              have hs6 := drop_set hd5 hd6
              have u0' := hd6.keep.cellS t0 ND5.out
              have u2' := hd6.keep.cellS t2 ND5.out
              have HL6 := Lib.hid (hd5.lots (HL5.out.keep0 (Keep.refl _ w5).drew) hs6.keep)
              obtain ⟨p6, hp6, hsub6⟩ := hs6.ex
              have HD6 := Lib.hid hp6
              have HSUB6 : Hid (∀ k, p6.has b k → p.has b k ∨ w.heap.size ≤ k) := Lib.hid (fun k hk => by
                rcases hsub6 k hk with h | h
                · exact HSUB.out k h
                · exact .inr (by have := K5.out.size; simp at h; omega))
              have K6X : Hid (Keep (fun k => p.has b k ∨ k = xl) w w6) := Lib.hid ((K5X.out.step (Keep.refl _ w5).drew).trans hs6.keep fun k hk hlt => by
                rcases HSUB.out k hk with h | h
                · exact .inl h
                · omega)
              have HLH := Lib.hid (fun W => has_all lv n (by rw [← HLE.out]; exact live_lt d.r) W)
              clear hd5 hs6 hp6 hsub6 hd6 HDR sw6 t0 t1 t2
              by_cases h2 : s = 0
              · have es0 : (s == 0) = true := by rw [beq_iff_eq]; exact h2
                cases hbl : bHas lv n
                · have HF4 : Hid (res = ({ d with r := r', q := qput d.q ⟨n, i, s⟩, d := d.d.filter fun z => z.n ≠ n, left := (joinP d.left n L).1 }, (joinP d.left n L).2, 0)) := Lib.hid (by rw [HF3.out, if_pos ⟨h2, by rw [HLE.out]; exact hbl⟩])
                  rw [hbl] at HLH
                  clear hbl h2 HF3
                  have HJ := Lib.hid (fun W (k : Keep (fun _ => False) w6 W) => join_round (q := lL b p6 { d with r := r', q := qput d.q ⟨n, i, s⟩, d := d.d.filter fun z => z.n ≠ n }) n ⟨(HD6.out.keep0 k).blk, rfl⟩ (HD6.out.keep0 k).left (HL6.out.keep0 k) (HD6.out.kb.ne HL6.out.kind (by decide)) ⟨by show (48 : Nat) ≠ 3; decide, by show (48 : Nat) ≠ 29; decide⟩ (by have := HO.out.left.len; show d.left.length ≤ _; omega))
                  have hxw : ¬ (w.heap.size = b ∨ w.heap.size = xl) := by
                    rintro (h | h)
                    · omega
                    · have : xl < w.heap.size := HXL.out
                      omega
                  go_wp2_with fail
                  refine (HLH.out _).mono ?_
                  rintro e w' ⟨rfl, rfl⟩
                  go_upto_region 17 with fail
                  go_region_held3 (fun V => V.cell? ⟨w.heap.size, 0, none⟩ = some (.int .i64 n)) (first | assumption) (first | (go_at_call 76; refine (HJ.out _ (Keep.refl _ w6).drew).mono ?_; rintro e w7 ⟨rfl, v7, ha7, hr7, ho7, hl7, hk7⟩; have sw7 := hk7.cellS u0' hxw))
                  have HDF := Lib.hid (DLSet.next HSUB6.out K6X.out.drew ((join_set (HD6.out.keep0 (Keep.refl _ w6).drew) (HL6.out.keep0 (Keep.refl _ w6).drew) ha7 hr7 ho7 hl7 hk7)))
                  clear ha7 hr7 ho7 hl7 hk7
                  go_wp2
                  go_ret
                  rw [HF4.out]
                  exact ⟨rfl, HDF.out⟩
                · have HF4 : Hid (res = ({ d with r := r', q := qput d.q ⟨n, i, s⟩, d := d.d.filter fun z => z.n ≠ n }, L, 0)) := Lib.hid (by rw [HF3.out, if_neg (fun h => by rw [HLE.out, hbl] at h; cases h.2)])
                  rw [hbl] at HLH
                  clear hbl h2 HF3
                  have HDF : Hid (DLSet w w6 b p xl { d with r := r', q := qput d.q ⟨n, i, s⟩, d := d.d.filter fun z => z.n ≠ n } L) := Lib.hid ⟨⟨p6, HD6.out, HSUB6.out⟩, HL6.out, K6X.out⟩
                  go_wp2_with fail
                  refine (HLH.out _).mono ?_
                  rintro e w' ⟨rfl, rfl⟩
                  go_wp2
                  go_ret
                  rw [HF4.out]
                  exact ⟨rfl, HDF.out⟩
              · have es0 : (s == 0) = false := by rw [beq_eq_false_iff_ne]; exact h2
                have HF4 : Hid (res = ({ d with r := r', q := qput d.q ⟨n, i, s⟩, d := d.d.filter fun z => z.n ≠ n }, L, 0)) := Lib.hid (by rw [HF3.out, if_neg (fun h => h2 h.1)])
                clear h2 HF3
                have HDF : Hid (DLSet w w6 b p xl { d with r := r', q := qput d.q ⟨n, i, s⟩, d := d.d.filter fun z => z.n ≠ n } L) := Lib.hid ⟨⟨p6, HD6.out, HSUB6.out⟩, HL6.out, K6X.out⟩
                go_wp2
                go_ret
                rw [HF4.out]
                exact ⟨rfl, HDF.out⟩
        · have e0 : (er == 0) = false := by rw [beq_eq_false_iff_ne]; exact h0
          have ne0 : (er != 0) = true := by rw [bne_iff_ne]; exact h0
          have HF : Hid (res = (if gb && decide ((⟨gn, gi, gs⟩ : Up) = ⟨n, i, s⟩) && decide (s = 1) then d.raise ⟨n, i, s⟩ fr else d, L, 0)) := Lib.hid (by rw [HTE.out, if_neg hA, if_pos h0]; simp only [HGE.out])
          have HRR : Hid (r' = d.r) := Lib.hid (by have := hear_err (r := d.r) (u := ⟨n, i, s⟩) (by rw [HRE.out]; exact h0); rw [HRE.out] at this; exact this)
          have HD4 : Hid (IsDet w3 b d p) := Lib.hid (by have := HD3.out; rw [HRR.out] at this; exact this)
          have HDD : Hid (DLSet w w3 b p xl d L) := Lib.hid ⟨⟨p, HD4.out, fun _ h => .inl h⟩, HL3.out, K3.out.mono fun _ h _ => .inl h⟩
          clear HTE hA h0
          have s0 := S0.out
          have s1 := S1.out
          have s2 := S2.out
          have f0 := F0.out
          have f1 := F1.out
          have f2 := F2.out
          cases gb
          · simp only [Bool.false_and, Bool.false_eq_true, if_false] at HF
            go_wp2
            go_ret
            rw [HF.out]
            exact ⟨rfl, HDD.out⟩
          · have hq := fun W => eql52 ⟨gn, gi, gs⟩ ⟨n, i, s⟩ W
            unfold uV at hq
            simp only at hq
            cases hdq : decide ((⟨gn, gi, gs⟩ : Up) = ⟨n, i, s⟩)
            · rw [hdq] at hq HF
              simp only [Bool.true_and, Bool.false_and, Bool.false_eq_true, if_false] at HF
              clear hdq
              go_wp2
              go_ret
              rw [HF.out]
              exact ⟨rfl, HDD.out⟩
            · rw [hdq] at hq HF
              clear hdq
              by_cases hs : s = 1
              · have HR := Lib.hid (draise_det HD4.out HO.out HT3.out ⟨n, i, s⟩ fr)
                have HFF : Hid (res = (d.raise ⟨n, i, s⟩ fr, L, 0)) := Lib.hid (by rw [HF.out, decide_eq_true hs]; simp)
                unfold uV at HR
                have es : (s == 1) = true := by rw [beq_iff_eq]; exact hs
                clear hs HF
                go_wp2_with fail
                refine HR.out.mono ?_
                rintro e w4 ⟨rfl, hd4⟩
                have HDF : Hid (DLSet w w4 b p xl (d.raise ⟨n, i, s⟩ fr) L) := Lib.hid (by
                  have h1 := hd4.dl HD4.out HL3.out
                  exact ⟨by
                    obtain ⟨p', h2, h3⟩ := h1.ex
                    exact ⟨p', h2, fun k hk => by
                      rcases h3 k hk with h | h
                      · exact .inl h
                      · exact .inr (by have := HSZ.out; omega)⟩, h1.lots, (K3.out.mono fun _ h _ => .inl h).step h1.keep⟩)
                clear hd4
                go_wp2
                go_ret
                rw [HFF.out]
                exact ⟨rfl, HDF.out⟩
              · have HFF : Hid (res = (d, L, 0)) := Lib.hid (by rw [HF.out, decide_eq_false hs]; simp)
                have es : (s == 1) = false := by rw [beq_eq_false_iff_ne]; exact hs
                clear hs HF
                go_wp2
                go_ret
                rw [HFF.out]
                exact ⟨rfl, HDD.out⟩
end Go.Proofs.YtofonfohaocclaaGreatDoor
