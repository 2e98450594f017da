/- Walk of Detector.say. -/
import Derived.Test.YtofonfohaocclaaGreatDoorG21
import Derived.Test.YtofonfohaocclaaGreatDoorG22
import Derived.IntWalk
namespace Go.Proofs.YtofonfohaocclaaGreatDoor
open Go.RowKit Sh
open Go.ChangeMaps (setBlock)
set_option linter.unusedVariables false
set_option linter.unusedSimpArgs false

def Det.sayB (d : Det) (dst : Int) : Bool := (d.r.get dst).2 && (decide ((d.r.get dst).1.s = 1) || decide ((d.r.get dst).1.s = 3))
def Det.sayN (d : Det) (dst : Int) : List Up := d.r.mine :: if d.sayB dst then [(d.r.get dst).1] else []
theorem say_eq (d : Det) (k fr dst seq fo : Int) (nw : List Up) : d.say ⟨k, fr, dst, seq, fo, nw⟩ = ({ d with q := qtakeM d.q (8 - (d.sayN dst).length) d.many }, ⟨k, d.r.me, dst, seq, fo, d.sayN dst ++ qtakeU d.q (8 - (d.sayN dst).length)⟩) := rfl
structure SayIs (w w' : World) (b : Nat) (p : Parts) (v : Value) (r : Det × Nt) : Prop where
  own : w'.ownsRow w.heap.size 52 3 v r.2.news.length (flat uC r.2.news)
  set : DSet w w' b p r.1
theorem own_alloc3 (W : World) (base : Nat) (u : Up) (hb : base ≤ W.heap.size) : (W.alloc (.cells #[.int .i64 u.n, .int .u64 u.i, .int .i64 u.s] 52)).ownsRow base 52 3 (.slice (some ⟨W.heap.size, 0, none⟩) 1 1) 1 (flat uC [u]) :=
  World.ownsRow_lit W #[.int .i64 u.n, .int .u64 u.i, .int .i64 u.s] 1 hb (by decide) rfl
structure CutS2 (w0 wx : World) (gn gi gs : Int) (gb : Bool) (v5 v6 : Value) : Prop where
  e6 : v6 = .bool gb
  ex : ∃ g1, v5 = .pointer (some ⟨g1, 0, none⟩) ∧ (wx.cell? ⟨g1, 0, none⟩ = some (.int .i64 gn) ∧ wx.cell? ⟨g1, 1, none⟩ = some (.int .u64 gi) ∧ wx.cell? ⟨g1, 2, none⟩ = some (.int .i64 gs)) ∧ w0.heap.size ≤ g1
  keep : Keep (fun _ => False) w0 wx
structure CutS3 (wq wx : World) (c : Bool) (v : Value) : Prop where
  e : v = .bool c
  w : wx = wq
theorem take_set {w w' : World} {b : Nat} {d : Det} {p : Parts} {v : Value} {n nodes : Int} (h : IsDet w b d p) (ht : Took w w' (qL b p d) p.qm v d.q n nodes) : IsDet w' b { d with q := qtakeM d.q n nodes } p := by
  have e : (qL b p d).to (Value.map p.qm) = qL b p d := Loc.to_self (q := qL b p d) (v := .map p.qm) rfl
  exact h.set_q (mb' := p.qm) ht.keep (by rw [e]; exact ht.que) ⟨.inl rfl⟩
theorem wrap8 (n : Nat) (h : n ≤ 8) : IntKind.i64.wrap (8 - (n : Int)) = 8 - (n : Int) := IntWalk.i64_in _ (by omega)
structure CutS1 (w0 wx : World) (g0 : Nat) (k me dst seq fo : Int) (my : Up) : Prop where
  ex : ∃ v, wx.heap[g0]? = some (.cells #[.int .i64 k, .int .i64 me, .int .i64 dst, .int .u64 seq, .int .i64 fo, v] 62 (0, 0)) ∧ wx.ownsRow w0.heap.size 52 3 v 1 (flat uC [my])
  keep : Keep (fun j => j = g0) w0 wx

structure CutS4 (w w0 wx : World) (k me dst seq fo : Int) (N : List Up) : Prop where
  ex : ∃ v, wx.heap[w.heap.size]? = some (.cells #[.int .i64 k, .int .i64 me, .int .i64 dst, .int .u64 seq, .int .i64 fo, v] 62 (0, 0)) ∧ wx.ownsRow w0.heap.size 52 3 v N.length (flat uC N)
  br : wx.heap[w.heap.size + 1]? = some (.cells #[.int .i64 0, .int .i64 0, .int .i64 0, .int .u64 0, .int .i64 0, .slice none 0 0] 62 (0, 0))
  keep : Keep (fun _ => False) w wx
  size : w0.heap.size ≤ wx.heap.size
  len : N.length ≤ 2

set_option maxRecDepth 100000 in
set_option maxHeartbeats 4000000 in
theorem say_det {w : World} {b : Nat} {d : Det} {p : Parts} (h : IsDet w b d p) (ho : DetOk d) (hT : TabAt 0 B.tabS w) (k fr0 dst seq fo : Int) (v0 : Value) :
    Calls Tryz.prog 35 #[.pointer (some ⟨b, 0, none⟩), .agg #[.int .i64 k, .int .i64 fr0, .int .i64 dst, .int .u64 seq, .int .i64 fo, v0]] w fun e w' => ∃ v, e = .returned (.agg #[.int .i64 k, .int .i64 d.r.me, .int .i64 dst, .int .u64 seq, .int .i64 fo, v]) ∧ SayIs w w' b p v (d.say ⟨k, fr0, dst, seq, fo, []⟩) := by
  have HMN := Lib.hid (fun W (k : Keep (fun _ => False) w W) => mine_any (h.keep0 k).rol ho.r)
  have HGT := Lib.hid (fun W (k : Keep (fun _ => False) w W) => get_any (h.keep0 k).rol ho.r dst)
  have HMY := Lib.hid (fun W (k : Keep (fun _ => False) w W) => dmany_any (h.keep0 k) ho (B.tab_keep hT k id))
  have HTQ := Lib.hid (fun W (k : Keep (fun _ => False) w W) (n : Int) => qtake_any (h.keep0 k).q ho.q n d.many (by have := many_bd d; omega) (by have := many_bd d; omega))
  have HS := Lib.hid (fun W (k : Keep (fun _ => False) w W) => h.keep0 k)
  have HLT : Hid (∀ j, w.heap.size ≤ j → ¬ p.has b j) := Lib.hid (fun j hj hp => absurd (h.lt hp) (by omega))
  have c0 := h.c0
  have c2 := h.c2
  have hb := h.lt (hb p b)
  have HSE := Lib.hid (say_eq d k fr0 dst seq fo [])
  clear h ho hT
  unfold uV at HMN HGT
  generalize hmy : d.r.mine = my at *
  have HME := Lib.hid hmy
  clear hmy
  obtain ⟨mn, mi, ms⟩ := my
  simp only at HMN
  go_enter Tryz.func35, Tryz.ntmps35
  go_upto_region 1 with fail
  obtain ⟨w0, hw0⟩ : ∃ w0, w0 = (w.alloc (.cells #[.int .i64 k, .int .i64 fr0, .int .i64 dst, .int .u64 seq, .int .i64 fo, v0] 62)).alloc (.cells #[.int .i64 0, .int .i64 0, .int .i64 0, .int .u64 0, .int .i64 0, .slice none 0 0] 62) := ⟨_, rfl⟩
  have hs0 : w0.heap.size = w.heap.size + 2 := by rw [hw0]; simp
  have k0 : Keep (fun _ => False) w w0 := by rw [hw0]; exact ((Keep.refl _ w).alloc _).alloc _
  have hbx : w0.heap[w.heap.size]? = some (.cells #[.int .i64 k, .int .i64 fr0, .int .i64 dst, .int .u64 seq, .int .i64 fo, v0] 62 (0, 0)) := by
    rw [hw0]
    exact ((Keep.refl (fun _ => False) _).alloc _).old (heap_alloc_new w _) id
  have hbr : w0.heap[w.heap.size + 1]? = some (.cells #[.int .i64 0, .int .i64 0, .int .i64 0, .int .u64 0, .int .i64 0, .slice none 0 0] 62 (0, 0)) := by
    rw [hw0]
    have := heap_alloc_new (w.alloc (.cells #[.int .i64 k, .int .i64 fr0, .int .i64 dst, .int .u64 seq, .int .i64 fo, v0] 62)) (.cells #[.int .i64 0, .int .i64 0, .int .i64 0, .int .u64 0, .int .i64 0, .slice none 0 0] 62)
    simpa using this
  rw [← hw0]
  clear hw0
  have d0 := k0.cell c0
  have d2 := k0.cell c2
  have HBX := Lib.hid hbx
  have HBR := Lib.hid hbr
  have u0 : w.heap.size + 2 ≤ w0.heap.size := by omega
  clear c0 c2 hbx hbr hs0
  go_cut [] (fun wx => CutS1 w0 wx w.heap.size k d.r.me dst seq fo ⟨mn, mi, ms⟩)
  case first =>
    go_region_held3 (fun W => W.cell? ⟨b, 0, none⟩ = some (.pointer (some ⟨p.rb, 0, none⟩)) ∧ W.cell? ⟨b, 2, none⟩ = some (.int .i64 d.r.me)) (first | assumption | exact ⟨d0, d2⟩ | go_keep | ((refine And.intro ?_ ?_) <;> ((repeat (first | assumption | refine set_ne (by omega) ?_ | refine al_some _ ?_ | refine dr_some ?_)); done))) (first | (go_at_call 48; refine (HMN.out _ k0.drew).mono ?_; rintro e w1 ⟨rfl, hk1⟩; have kv1 : Keep (fun _ => False) w0 w1 := (Keep.refl _ w0).drew.step hk1; have uv1 := kv1.size; have ul1 : w.heap.size < w1.heap.size := (by omega); have ub1 : b < w1.heap.size := (by omega); have x0 := kv1.cell d0; have x2 := kv1.cell d2; have s1 := And.intro x0 x2; have hb1 := kv1.old HBX.out id; have HB1 := Lib.hid hb1; have z1 : w1.cell? ⟨w.heap.size, 1, none⟩ = some (.int .i64 fr0) := (by simp [World.cell?, hb1]); have z5 : w1.cell? ⟨w.heap.size, 5, none⟩ = some v0 := (by simp [World.cell?, hb1]); have f1 : w1.frozen? ⟨w.heap.size, 1, none⟩ = false := (by simp [World.frozen?, hb1]); have f5 : w1.frozen? ⟨w.heap.size, 5, none⟩ = false := (by simp [World.frozen?, hb1]); clear hb1))
    all_goals
      have HF : Hid (CutS1 w0 (((w1.setCell ⟨w.heap.size, 1, none⟩ (.int .i64 d.r.me)).setCell ⟨w.heap.size, 5, none⟩ (.slice (some ⟨w1.heap.size, 0, none⟩) 1 1)).alloc (.cells #[.int .i64 mn, .int .u64 mi, .int .i64 ms] 52)) w.heap.size k d.r.me dst seq fo ⟨mn, mi, ms⟩) := Lib.hid (by
        have e1 := heap_setCell_at (heap_setCell_at HB1.out 1 (.int .i64 d.r.me)) 5 (.slice (some ⟨w1.heap.size, 0, none⟩) 1 1)
        have ks : Keep (fun j => j = w.heap.size) w1 ((w1.setCell ⟨w.heap.size, 1, none⟩ (.int .i64 d.r.me)).setCell ⟨w.heap.size, 5, none⟩ (.slice (some ⟨w1.heap.size, 0, none⟩) 1 1)) := ((Keep.refl _ w1).setAt _ _).setAt _ _
        have hsz : ((w1.setCell ⟨w.heap.size, 1, none⟩ (.int .i64 d.r.me)).setCell ⟨w.heap.size, 5, none⟩ (.slice (some ⟨w1.heap.size, 0, none⟩) 1 1)).heap.size = w1.heap.size := by simp [World.setCell]
        refine ⟨⟨_, ((Keep.refl (fun _ => False) _).alloc _).old e1 id, ?_⟩, ((kv1.mono fun _ h _ => h.elim).step ks).alloc _⟩
        have := own_alloc3 ((w1.setCell ⟨w.heap.size, 1, none⟩ (.int .i64 d.r.me)).setCell ⟨w.heap.size, 5, none⟩ (.slice (some ⟨w1.heap.size, 0, none⟩) 1 1)) w0.heap.size ⟨mn, mi, ms⟩ (by rw [hsz]; exact uv1)
        rw [hsz] at this
        exact this)
      clear s1 x0 x2 z1 z5 f1 f5 hk1 kv1 HB1
      go_wp2_with fail
      go_meet
      exact HF.out
  case rest =>
    obtain ⟨⟨v1, hx1, ho1⟩, kc⟩ := hcut
    obtain ⟨wp, hwp⟩ : ∃ wp, wp = wc := ⟨_, rfl⟩
    rw [← hwp] at hx1 ho1 kc ⊢
    clear hwp
    have kp : Keep (fun _ => False) w wp := k0.trans kc fun i hi hlt => by omega
    have HX1 := Lib.hid hx1
    have HO1 := Lib.hid ho1
    have HBR1 := Lib.hid (kc.old HBR.out (show ¬ w.heap.size + 1 = w.heap.size by omega))
    have e0 := (HS.out _ kp).c0
    have x2 : wp.cell? ⟨w.heap.size, 2, none⟩ = some (.int .i64 dst) := by simp [World.cell?, hx1]
    have up := kp.size
    have uc := kc.size
    clear d0 d2 hx1 ho1 HBX HBR kc
    generalize hgt : d.r.get dst = gt at *
    have HGE := Lib.hid hgt
    clear hgt
    obtain ⟨⟨gn, gi, gs⟩, gb⟩ := gt
    simp only at HGT
    go_upto_region 2 with fail
    go_cut [5, 6] (fun v5 v6 wx => CutS2 wp wx gn gi gs gb v5 v6)
    case first =>
      go_region_held3 (fun W => W.cell? ⟨b, 0, none⟩ = some (.pointer (some ⟨p.rb, 0, none⟩)) ∧ W.cell? ⟨w.heap.size, 2, none⟩ = some (.int .i64 dst)) (first | assumption | go_keep | ((refine And.intro ?_ ?_) <;> ((repeat (first | assumption | refine set_ne (by omega) ?_)); done))) (first | (go_at_call 31; refine (HGT.out _ (by repeat (first | assumption | refine Sh.Keep.drew ?_ | refine Sh.Keep.alloc ?_ _ | refine Sh.Keep.step ?_ (by assumption)))).mono ?_; rintro e w1 ⟨rfl, hk1⟩; have kv1 : Keep (fun _ => False) wp w1 := (by repeat (first | assumption | exact Sh.Keep.refl _ _ | refine Sh.Keep.drew ?_ | refine Sh.Keep.alloc ?_ _ | refine Sh.Keep.step ?_ (by assumption))); have uv1 := kv1.size; have kw1 := kp.step kv1; have sw1 := And.intro (HS.out _ kw1).c0 (kv1.cell x2); have sx1 := sw1.1; have sy1 := sw1.2; (first | (have z0 := hk1.cell (azd0 _); have f0 := hk1.fro (azd0 _) (alfd _ _ _ 0)) | (have z0 := hk1.cell (az0 _); have f0 := hk1.fro (az0 _) (alf _ _ _ 0)) | skip); (first | (have z1 := hk1.cell (azd1 _); have f1 := hk1.fro (azd1 _) (alfd _ _ _ 1)) | (have z1 := hk1.cell (az1 _); have f1 := hk1.fro (az1 _) (alf _ _ _ 1)) | skip); (first | (have z2 := hk1.cell (azd2 _); have f2 := hk1.fro (azd2 _) (alfd _ _ _ 2)) | (have z2 := hk1.cell (az2 _); have f2 := hk1.fro (az2 _) (alf _ _ _ 2)) | skip)))
      all_goals
        go_wp2_with fail
        go_meet
        first
          | exact ⟨rfl, ⟨_, rfl, alc3 _ _ _ _ _, by omega⟩, Sh.Keep.alloc (by assumption) _⟩
          | exact ⟨rfl, ⟨_, rfl, set3 (by assumption) (by assumption) (by assumption), by omega⟩, (((by assumption : Keep (fun _ => False) wp _).setNew _ (by omega)).setNew _ (by omega)).setNew _ (by omega)⟩
    case rest =>
      obtain ⟨rfl, ⟨g2, rfl, ⟨n0, n1, n2⟩, hg2⟩, kc2⟩ := hcut
      obtain ⟨wq, hwq⟩ : ∃ wq, wq = wc := ⟨_, rfl⟩
      rw [← hwq] at n0 n1 n2 kc2 ⊢
      clear hwq
      have kq := kp.step kc2
      have HX2 := Lib.hid (kc2.old HX1.out id)
      have HO2 := Lib.hid (own_keepB HO1.out kc2 (fun _ _ h => h))
      have HBR2 := Lib.hid (kc2.old HBR1.out id)
      have uq := kq.size
      have uq2 := kc2.size
      clear e0 x2 kp kc2 HX1 HO1 HBR1
      have HNW : Hid (d.sayN dst = ⟨mn, mi, ms⟩ :: if (gb && (decide (gs = 1) || decide (gs = 3))) then [⟨gn, gi, gs⟩] else []) := Lib.hid (by unfold Det.sayN Det.sayB; rw [HME.out, HGE.out])
      go_upto_region 3 with fail
      go_cut [39] (fun v39 wx => CutS3 wq wx (gb && (decide (gs = 1) || decide (gs = 3))) v39)
      case first =>
        cases gb
        · go_wp2_with fail
          go_meet
          exact ⟨rfl, rfl⟩
        · by_cases h1 : gs = 1
          · have e1 : (gs == 1) = true := by rw [beq_iff_eq]; exact h1
            have HC : Hid ((true && (decide (gs = 1) || decide (gs = 3))) = true) := Lib.hid (by rw [decide_eq_true h1]; rfl)
            clear h1
            go_wp2_with fail
            go_meet
            exact ⟨by rw [HC.out], rfl⟩
          · have e1 : (gs == 1) = false := by rw [beq_eq_false_iff_ne]; exact h1
            by_cases h3 : gs = 3
            · have e3 : (gs == 3) = true := by rw [beq_iff_eq]; exact h3
              have HC : Hid ((true && (decide (gs = 1) || decide (gs = 3))) = true) := Lib.hid (by rw [decide_eq_true h3, decide_eq_false h1]; rfl)
              clear h1 h3
              go_wp2_with fail
              go_meet
              exact ⟨by rw [HC.out], rfl⟩
            · have e3 : (gs == 3) = false := by rw [beq_eq_false_iff_ne]; exact h3
              have HC : Hid ((true && (decide (gs = 1) || decide (gs = 3))) = false) := Lib.hid (by rw [decide_eq_false h3, decide_eq_false h1]; rfl)
              clear h1 h3
              go_wp2_with fail
              go_meet
              exact ⟨by rw [HC.out], rfl⟩
      case rest =>
        obtain ⟨rfl, hw⟩ := hcut
        rw [hw]
        clear hw
        generalize (gb && (decide (gs = 1) || decide (gs = 3))) = cb at *
        obtain ⟨j0, hj0⟩ := info52
        have HJ := Lib.hid hj0
        clear hj0
        have HK2 := Lib.hid kq
        have HGE2 : Hid (w.heap.size + 2 ≤ w0.heap.size ∧ w0.heap.size ≤ g2 ∧ w0.heap.size ≤ wq.heap.size) := Lib.hid ⟨by omega, by omega, by omega⟩
        clear kq
        rename_i hKK
        refine hKK _ _ ?_
        go_cut [] (fun wx => CutS4 w w0 wx k d.r.me dst seq fo (d.sayN dst))
        case first =>
          cases cb
          · simp only [Bool.false_eq_true, if_false] at HNW
            have HF : Hid (CutS4 w w0 wq k d.r.me dst seq fo (d.sayN dst)) := Lib.hid ⟨⟨v1, HX2.out, by rw [HNW.out]; exact HO2.out⟩, HBR2.out, HK2.out, HGE2.out.2.2, by rw [HNW.out]; exact Nat.le_succ 1⟩
            go_wp2_with fail
            go_meet
            exact HF.out
          · simp only [if_true] at HNW
            obtain ⟨A1, c1, hsh⟩ := own_shape HO2.out
            subst hsh
            have z5 : wq.cell? ⟨w.heap.size, 5, none⟩ = some (.slice A1 1 c1) := by have := HX2.out; simp [World.cell?, this]
            have HNV : Hid (¬ (Value.slice A1 1 c1).ownBlock = some w.heap.size) := Lib.hid (fun h => by have := (own_block HO2.out h).1; have := HGE2.out.1; omega)
            go_upto_region 4 with fail
            go_wp2_with (at_builtin; refine wpList_append_own_at _ rfl _ _ 49 rfl w0.heap.size 52 j0 (.agg #[.int .i64 0, .int .u64 0, .int .i64 0]) 3 24 Tryz.underlying49 HJ.out.has HJ.out.zero HJ.out.size HJ.out.bytes rfl (by decide) _ _ _ rfl (HO2.out.alloc _) ⟨wq.heap.size, 0, none⟩ 1 1 (uC ⟨gn, gi, gs⟩) rfl rfl ?c1 ?c2 ?c3 ?c4 ?c5 ?_)
            case c1 => exact fun j u h => h
            case c2 => exact uC_one _
            case c3 => simp only [maxLen]; omega
            case c5 => have := HGE2.out.2.2; simp; omega
            intro v' w' hown hg2 _ _
            obtain ⟨A', c', rfl⟩ := own_shape hown
            have kg : Keep (fun k => (Value.slice A1 1 c1).ownBlock = some k) wq w' := ((Keep.refl _ wq).alloc _).grown hg2 (fun k hk _ => hk)
            have hx' := kg.old HX2.out HNV.out
            have f5 : w'.frozen? ⟨w.heap.size, 5, none⟩ = false := by simp [World.frozen?, hx']
            have z5' : w'.cell? ⟨w.heap.size, 5, none⟩ = some (.slice A1 1 c1) := by simp [World.cell?, hx']
            have HF : Hid (CutS4 w w0 (w'.setCell ⟨w.heap.size, 5, none⟩ (.slice A' 2 c')) k d.r.me dst seq fo (d.sayN dst)) := Lib.hid (by
              have e5 := heap_setCell_at hx' 5 (.slice A' 2 c')
              have k5 : Keep (fun j => j = w.heap.size) w' (w'.setCell ⟨w.heap.size, 5, none⟩ (.slice A' 2 c')) := (Keep.refl _ w').setAt _ _
              have hge := HGE2.out
              refine ⟨⟨_, e5, ?_⟩, k5.old (kg.old HBR2.out fun h => ?_) (show ¬ w.heap.size + 1 = w.heap.size by omega), (HK2.out.trans kg fun i hi hlt => ?_).trans k5 fun i hi hlt => ?_, ?_, ?_⟩
              · rw [HNW.out]
                refine own_keepB hown k5 fun g hg h => ?_
                have := (own_block hown hg).1
                omega
              · have := (own_block HO2.out h).1
                omega
              · have := (own_block HO2.out hi).1
                omega
              · omega
              · have := kg.size
                have := k5.size
                omega
              · rw [HNW.out]
                exact Nat.le_refl 2)
            clear hx' kg hown hg2
            go_wp2_with fail
            go_meet
            exact HF.out
        case rest =>
          obtain ⟨⟨vz, hxz, hoz⟩, hbrz, kz, uz, hl8⟩ := hcut
          obtain ⟨wz, hwz⟩ : ∃ wz, wz = wc := ⟨_, rfl⟩
          rw [← hwz] at hxz hoz hbrz kz uz ⊢
          have HOz := Lib.hid hoz
          have HXz := Lib.hid hxz
          have HBRz := Lib.hid hbrz
          have ug := HGE2.out.1
          clear hwz HNW HO2 HX2 HBR2 HK2 HGE2 n0 n1 n2 uq uq2 hxz hoz hbrz
          obtain ⟨N0, hN0⟩ : ∃ N0 : List Up, N0 = d.sayN dst := ⟨_, rfl⟩
          have HNE : Hid (d.sayN dst = N0) := Lib.hid hN0.symm
          rw [← hN0] at HOz hl8
          clear hN0
          have hlen := hl8
          have HLB : Hid (N0.length + (qtakeU d.q (8 - (N0.length : Int))).length ≤ maxLen ∧ (N0.length + (qtakeU d.q (8 - (N0.length : Int))).length) * 24 ≤ 140737488355328) := Lib.hid (by
            have : (qtakeU d.q (8 - (N0.length : Int))).length ≤ 8 := by
              unfold qtakeU qtakeK
              rw [List.length_map, List.length_take]
              omega
            unfold maxLen
            omega)
          clear hlen
          obtain ⟨A2, c2, hsh⟩ := own_shape HOz.out
          subst hsh
          have z5 : wz.cell? ⟨w.heap.size, 5, none⟩ = some (.slice A2 N0.length c2) := by have := HXz.out; simp [World.cell?, this]
          have HNQ : Hid (∀ j, w.heap.size ≤ j → ¬ Q.QS (qL b p d) p.qm j) := Lib.hid (fun j hj hq => by
            rcases hq with h | h
            · exact HLT.out j hj ⟨.inl h⟩
            · exact HLT.out j hj ⟨.inr (.inr (.inr (.inr (.inr (.inl h)))))⟩)
          have HNV : Hid (¬ (Value.slice A2 N0.length c2).ownBlock = some w.heap.size) := Lib.hid (fun h => by have := (own_block HOz.out h).1; omega)
          have wr : IntKind.i64.wrap (8 - (N0.length : Int)) = 8 - (N0.length : Int) := wrap8 _ (by omega)
          go_upto_region 5 with fail
          have S0 : (fun W : World => W.cell? ⟨w.heap.size, 5, none⟩ = some (.slice A2 N0.length c2)) wz.drew := z5
          refine Upto.start (fun W : World => W.cell? ⟨w.heap.size, 5, none⟩ = some (.slice A2 N0.length c2)) 14 (by kernel_rfl) ?_
          change Upto _ _ _ _ _ _ 15 _ _ _
          refine Upto.take (i := 0) (v := ?v0) rfl (by kernel_rfl) (by kernel_rfl) (by kernel_rfl) (by kernel_rfl) (fun _ _ _ h => h) S0 (Or.inl ⟨by rfl, ?hy0⟩) ?rest0
          case hy0 =>
            intro W hW
            have l0 : W.cell? ⟨w.heap.size, 5, none⟩ = some (.slice A2 N0.length c2) := hW
            go_simp
            try with_reducible rfl
          try simp only [Act.put, List.setIfInBounds_toArray, List.set_cons_zero, List.set_cons_succ]
          refine Upto.take (i := 1) (v := ?v1) rfl (by kernel_rfl) (by kernel_rfl) (by kernel_rfl) (by kernel_rfl) (fun _ _ _ h => h) S0 (Or.inl ⟨by rfl, ?hy1⟩) ?rest1
          case hy1 =>
            intro W hW
            have l0 : W.cell? ⟨w.heap.size, 5, none⟩ = some (.slice A2 N0.length c2) := hW
            go_simp
            try with_reducible rfl
          try simp only [Act.put, List.setIfInBounds_toArray, List.set_cons_zero, List.set_cons_succ]
          refine Upto.take (i := 2) (v := ?v2) rfl (by kernel_rfl) (by kernel_rfl) (by kernel_rfl) (by kernel_rfl) (fun _ _ _ h => h) S0 (Or.inl ⟨by rfl, ?hy2⟩) ?rest2
          case hy2 =>
            intro W hW
            have l0 : W.cell? ⟨w.heap.size, 5, none⟩ = some (.slice A2 N0.length c2) := hW
            go_simp
            try with_reducible rfl
          try simp only [Act.put, List.setIfInBounds_toArray, List.set_cons_zero, List.set_cons_succ]
          refine Upto.take (i := 3) (v := ?v3) rfl (by kernel_rfl) (by kernel_rfl) (by kernel_rfl) (by kernel_rfl) (fun _ _ _ h => h) S0 (Or.inl ⟨by rfl, ?hy3⟩) ?rest3
          case hy3 =>
            intro W hW
            have l0 : W.cell? ⟨w.heap.size, 5, none⟩ = some (.slice A2 N0.length c2) := hW
            go_simp
            try with_reducible rfl
          try simp only [Act.put, List.setIfInBounds_toArray, List.set_cons_zero, List.set_cons_succ]
          refine Upto.take (i := 4) (v := ?v4) rfl (by kernel_rfl) (by kernel_rfl) (by kernel_rfl) (by kernel_rfl) (fun _ _ _ h => h) S0 (Or.inl ⟨by rfl, ?hy4⟩) ?rest4
          case hy4 =>
            intro W hW
            have l0 : W.cell? ⟨w.heap.size, 5, none⟩ = some (.slice A2 N0.length c2) := hW
            go_simp
            try with_reducible rfl
          try simp only [Act.put, List.setIfInBounds_toArray, List.set_cons_zero, List.set_cons_succ]
          refine Upto.take (i := 5) (v := ?v5) rfl (by kernel_rfl) (by kernel_rfl) (by kernel_rfl) (by kernel_rfl) (fun _ _ _ h => h) S0 (Or.inl ⟨by rfl, ?hy5⟩) ?rest5
          case hy5 =>
            intro W hW
            have l0 : W.cell? ⟨w.heap.size, 5, none⟩ = some (.slice A2 N0.length c2) := hW
            go_simp
            try with_reducible rfl
          try simp only [Act.put, List.setIfInBounds_toArray, List.set_cons_zero, List.set_cons_succ]
          refine Upto.take (i := 6) (v := ?v6) rfl (by kernel_rfl) (by kernel_rfl) (by kernel_rfl) (by kernel_rfl) (fun _ _ _ h => h) S0 (Or.inl ⟨by rfl, ?hy6⟩) ?rest6
          case hy6 =>
            intro W hW
            have l0 : W.cell? ⟨w.heap.size, 5, none⟩ = some (.slice A2 N0.length c2) := hW
            go_simp
            try with_reducible rfl
          try simp only [Act.put, List.setIfInBounds_toArray, List.set_cons_zero, List.set_cons_succ]
          refine Upto.take (i := 7) (v := ?v7) rfl (by kernel_rfl) (by kernel_rfl) (by kernel_rfl) (by kernel_rfl) (fun _ _ _ h => h) S0 (Or.inl ⟨by rfl, ?hy7⟩) ?rest7
          case hy7 =>
            intro W hW
            have l0 : W.cell? ⟨w.heap.size, 5, none⟩ = some (.slice A2 N0.length c2) := hW
            go_simp
            try with_reducible rfl
          try simp only [Act.put, List.setIfInBounds_toArray, List.set_cons_zero, List.set_cons_succ]
          refine Upto.take (i := 8) (v := ?v8) rfl (by kernel_rfl) (by kernel_rfl) (by kernel_rfl) (by kernel_rfl) (fun _ _ _ h => h) S0 (Or.inl ⟨by rfl, ?hy8⟩) ?rest8
          case hy8 =>
            intro W hW
            have l0 : W.cell? ⟨w.heap.size, 5, none⟩ = some (.slice A2 N0.length c2) := hW
            go_simp
            try with_reducible rfl
          try simp only [Act.put, List.setIfInBounds_toArray, List.set_cons_zero, List.set_cons_succ]
          refine Upto.take (i := 9) (v := ?v9) rfl (by kernel_rfl) (by kernel_rfl) (by kernel_rfl) (by kernel_rfl) (fun _ _ _ h => h) S0 (Or.inl ⟨by rfl, ?hy9⟩) ?rest9
          case hy9 =>
            intro W hW
            have l0 : W.cell? ⟨w.heap.size, 5, none⟩ = some (.slice A2 N0.length c2) := hW
            go_simp
            try with_reducible rfl
          try simp only [Act.put, List.setIfInBounds_toArray, List.set_cons_zero, List.set_cons_succ]
          refine Upto.one (i := 10) (by kernel_rfl) rfl (fun K hK => ?_)
          go_simp
          refine (HMY.out _ kz.drew).mono ?_
          rintro e w1 ⟨rfl, hk1⟩
          have kw1 := kz.drew.step hk1
          have s1 := hk1.cell z5
          refine hK.out _ _ (.inr s1) ?_
          clear hK K
          try simp only [Act.put, List.setIfInBounds_toArray, List.set_cons_zero, List.set_cons_succ]
          refine Upto.one (i := 11) (by kernel_rfl) rfl (fun K hK => ?_)
          go_simp
          refine (HTQ.out _ kw1 (8 - (N0.length : Int))).mono ?_
          rintro e w2 ⟨v3, rfl, ht⟩
          obtain ⟨b3, hb3, ho3⟩ := ht.own
          have s2 := ht.keep.cellS s1 (HNQ.out _ (Nat.le_refl _))
          have HA2 := own_keepB (own_keepB HOz.out ((Keep.refl (fun _ => False) wz).drew.step hk1) (fun _ _ h => h)) ht.keep (fun g hg => HNQ.out g (by have := (own_block HOz.out hg).1; omega))
          have hbase : w0.heap.size ≤ w2.heap.size := by have := ht.keep.size; have := hk1.size; simp at this; omega
          refine hK.out _ _ (.inr s2) ?_
          clear hK K
          try simp only [Act.put, List.setIfInBounds_toArray, List.set_cons_zero, List.set_cons_succ]
          refine Upto.one (i := 12) (by kernel_rfl) rfl (fun K hK => ?_)
          refine step_append_rows (by rfl) _ _ _ (by rfl) w0.heap.size 52 j0 (.agg #[.int .i64 0, .int .u64 0, .int .i64 0]) 3 24 Tryz.underlying49 HJ.out.has HJ.out.zero HJ.out.size HJ.out.bytes rfl (by decide) (.slice A2 N0.length c2) N0.length (flat uC N0) (by rfl) HA2 v3 b3 (qtakeU d.q (8 - (N0.length : Int))).length (flat uC (qtakeU d.q (8 - (N0.length : Int)))) (by rfl) ho3 own_flat_one HLB.out.1 HLB.out.2 hbase ?_
          intro v4 w3 hown4 hg4
          obtain ⟨A4, c4, rfl⟩ := own_shape hown4
          have kg4 : Keep (fun k => (Value.slice A2 N0.length c2).ownBlock = some k) w2 w3 := (Keep.refl _ w2).grown hg4 (fun k hk _ => hk)
          have s3 := kg4.cellS s2 HNV.out
          have hx3 := kg4.old (ht.keep.old (hk1.old HXz.out id) (HNQ.out _ (Nat.le_refl _))) HNV.out
          have f3 : w3.frozen? ⟨w.heap.size, 5, none⟩ = false := by simp [World.frozen?, hx3]
          have HX3 := Lib.hid hx3
          clear hx3
          refine hK.out _ _ (.inr s3) ?_
          clear hK K
          try simp only [Act.put, List.setIfInBounds_toArray, List.set_cons_zero, List.set_cons_succ]
          refine Upto.one (i := 13) (by kernel_rfl) rfl (fun K hK => ?_)
          go_simp
          refine hK.out _ _ (.inr s3) ?_
          clear hK K
          try simp only [Act.put, List.setIfInBounds_toArray, List.set_cons_zero, List.set_cons_succ]
          refine Upto.one (i := 14) (by kernel_rfl) rfl (fun K hK => ?_)
          go_simp
          refine hK.out _ _ (.inl rfl) ?_
          clear hK K
          try simp only [Act.put, List.setIfInBounds_toArray, List.set_cons_zero, List.set_cons_succ]
          refine Upto.done (by kernel_rfl) ?_
          focus
            have HR3 : Hid (w3.heap[w.heap.size + 1]? = some (.cells #[.int .i64 0, .int .i64 0, .int .i64 0, .int .u64 0, .int .i64 0, .slice none 0 0] 62 (0, 0))) := Lib.hid (kg4.old (ht.keep.old (hk1.old HBRz.out id) (HNQ.out _ (by omega))) (fun h => by have := (own_block HOz.out h).1; omega))
            have KF3 : Hid (Keep (p.has b) w w3) := Lib.hid (((kw1.mono fun _ h _ => h.elim).step (ht.keep.mono fun j hj _ => by
              rcases hj with h | h
              · exact ⟨.inl h⟩
              · exact ⟨.inr (.inr (.inr (.inr (.inr (.inl h)))))⟩)).trans kg4 fun i hi hlt => by have := (own_block HOz.out hi).1; omega)
            have HD2 := Lib.hid (take_set (HS.out _ kw1) ht)
            have HD3 : Hid (IsDet w3 b { d with q := qtakeM d.q (8 - (N0.length : Int)) d.many } p) := Lib.hid (HD2.out.keep kg4 fun j hj h => HLT.out j (by have := (own_block HOz.out h).1; omega) hj)
            have HW4 := Lib.hid hown4
            have us3 : w0.heap.size ≤ w3.heap.size := by have := kg4.size; have := ht.keep.size; have := hk1.size; simp at this; omega
            clear hown4 hg4 kg4 ht ho3 hb3 HA2 s1 s2 s3 hk1 kw1 wr z5 f3
            obtain ⟨u4, hu4⟩ : ∃ u4, u4 = Value.slice A4 (N0.length + (qtakeU d.q (8 - (N0.length : Int))).length) c4 := ⟨_, rfl⟩
            rw [← hu4] at HW4 ⊢
            have hone : u4.oneCell' = true := by rw [hu4]; rfl
            clear hu4
            have e5 := heap_setCell_at HX3.out 5 u4
            have k5 : Keep (fun j => j = w.heap.size) w3 (w3.setCell ⟨w.heap.size, 5, none⟩ u4) := (Keep.refl _ w3).setAt _ _
            have r5 := k5.old HR3.out (show ¬ w.heap.size + 1 = w.heap.size by omega)
            obtain ⟨W5, hW5⟩ : ∃ W5, W5 = w3.setCell ⟨w.heap.size, 5, none⟩ u4 := ⟨_, rfl⟩
            rw [← hW5] at e5 k5 r5 ⊢
            clear hW5
            have hrg : W5.rangeAt w.heap.size 0 [.int .i64 k, .int .i64 d.r.me, .int .i64 dst, .int .u64 seq, .int .i64 fo, u4] := fun j v hv => by
              rw [Nat.zero_add]
              simp only [World.cell?, e5]
              simpa using hv
            have hth : W5.there (w.heap.size + 1) 0 6 := there_of_block r5 (by decide)
            have HRG := Lib.hid hrg
            have HTH := Lib.hid hth
            have K5 := Lib.hid k5
            clear hrg hth e5 r5 k5
            go_upto_region 6 with fail
            refine wp_region_lit ?_
            refine wpList_load_mid rfl 62 _ rfl w.heap.size 0 rfl [.int .i64 k, .int .i64 d.r.me, .int .i64 dst, .int .u64 seq, .int .i64 fo, u4] _ HRG.out Tryz.underlying62 rfl (by kernel_rfl) ?_
            refine wpList_store_mid rfl 62 _ _ rfl (w.heap.size + 1) 0 #[.int .i64 k, .int .i64 d.r.me, .int .i64 dst, .int .u64 seq, .int .i64 fo, u4] rfl rfl HTH.out (by kernel_rfl) (by simpa [Value.oneCell'] using hone) ?_
            have hsame := World.rangeAt_setCells_same W5 (w.heap.size + 1) 0 [.int .i64 k, .int .i64 d.r.me, .int .i64 dst, .int .u64 seq, .int .i64 fo, u4] HTH.out
            have K6 : Hid (Keep (fun j => j = w.heap.size + 1) W5 (W5.setCells (w.heap.size + 1) 0 [.int .i64 k, .int .i64 d.r.me, .int .i64 dst, .int .u64 seq, .int .i64 fo, u4])) := Lib.hid (keep_setCells (S := fun j => j = w.heap.size + 1) (fun _ => rfl) _ _ _ (Keep.refl _ W5))
            show wpList _ _ _ _ _ (W5.setCells (w.heap.size + 1) 0 [.int .i64 k, .int .i64 d.r.me, .int .i64 dst, .int .u64 seq, .int .i64 fo, u4])
            obtain ⟨W6, hW6⟩ : ∃ W6, W6 = W5.setCells (w.heap.size + 1) 0 [.int .i64 k, .int .i64 d.r.me, .int .i64 dst, .int .u64 seq, .int .i64 fo, u4] := ⟨_, rfl⟩
            rw [← hW6] at hsame K6 ⊢
            clear hW6
            have q0 := hsame 0 _ rfl
            have q1 := hsame 1 _ rfl
            have q2 := hsame 2 _ rfl
            have q3 := hsame 3 _ rfl
            have q4 := hsame 4 _ rfl
            have q5 := hsame 5 _ rfl
            simp only [Nat.zero_add] at q0 q1 q2 q3 q4 q5
            clear hsame
            have HFIN : Hid (SayIs w W6 b p u4 (d.say ⟨k, fr0, dst, seq, fo, []⟩)) := Lib.hid (by
              have hNV4 : ∀ g, u4.ownBlock = some g → w0.heap.size ≤ g := fun g hg => (own_block HW4.out hg).1
              have ow5 := own_keepB HW4.out K5.out fun g hg h => by have := hNV4 g hg; omega
              have ow6 := own_keepB ow5 K6.out fun g hg h => by have := hNV4 g hg; omega
              rw [HSE.out]
              simp only [HNE.out]
              refine ⟨?_, ⟨p, ?_, fun _ h => .inl h⟩, ?_⟩
              · rw [List.length_append, flat_append]
                exact own_mono ow6 (by omega)
              · exact (HD3.out.keep K5.out fun j hj h => HLT.out j (by omega) hj).keep K6.out fun j hj h => HLT.out j (by omega) hj
              · exact (KF3.out.trans K5.out fun i hi hlt => by omega).trans K6.out fun i hi hlt => by omega)
            go_wp2_with fail
            exact bodyPost_ret (v := .agg #[.int .i64 k, .int .i64 d.r.me, .int .i64 dst, .int .u64 seq, .int .i64 fo, u4]) (by simp [results, Tryz.results35, go_sem, q0, q1, q2, q3, q4, q5]) rfl ⟨u4, rfl, HFIN.out⟩
end Go.Proofs.YtofonfohaocclaaGreatDoor
