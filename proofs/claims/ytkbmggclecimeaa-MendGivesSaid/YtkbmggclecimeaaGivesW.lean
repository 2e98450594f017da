/- MendGives: the walk of the law, out of what Give hands back (HG: to be proved). -/
import Derived.Test.YtkbmggclecimeaaFill
import Derived.Test.YtkbmggclecimeaaLawD
import Derived.Test.YtkbmggclecimeaaKeepW
namespace Go.Proofs.Ytkbmggclecimeaa
open Go.RowKit Sh
set_option linter.unusedVariables false

/-- a slice of pieces as it lies in memory. -/
structure IsP (w : World) (v : Value) (L : List Ent) : Prop where
  ex : ∃ A c, v = .slice A L.length c ∧ (0 < L.length → ∃ g o, A = some ⟨g, o, none⟩ ∧ ∀ i, i < L.length → w.cell? ⟨g, o + i * 4, none⟩ = some (.int .u64 (en L i).k) ∧ w.cell? ⟨g, o + i * 4 + 1, none⟩ = some (.int .i64 (en L i).s) ∧ w.cell? ⟨g, o + i * 4 + 2, none⟩ = some (.int .u64 (en L i).m) ∧ w.cell? ⟨g, o + i * 4 + 3, none⟩ = some (.string ⟨#[]⟩))
theorem IsP.keep {w w' : World} {v : Value} {L : List Ent} (h : IsP w v L) (k : Keep (fun _ => False) w w') : IsP w' v L := by
  obtain ⟨A, c, e, hc⟩ := h.ex
  refine ⟨A, c, e, fun h0 => ?_⟩
  obtain ⟨g, o, e, hh⟩ := hc h0
  exact ⟨g, o, e, fun i hi => ⟨k.cell (hh i hi).1, k.cell (hh i hi).2.1, k.cell (hh i hi).2.2.1, k.cell (hh i hi).2.2.2⟩⟩
/-- what Give hands back. -/
structure Gives (most : Int) (K : Int → Bool) (st : St) (L : List Ent) : Prop where
  of : ∀ j, j < L.length → 1 ≤ (en L j).k ∧ (en L j).k ≤ 64 ∧ K (en L j).k = true ∧ hasB st (en L j).k = true ∧ st.ring ((en L j).k % 64).toNat = ⟨(en L j).k, (en L j).s, (en L j).m, ⟨#[]⟩⟩
  up : ∀ j, 0 < j → j < L.length → (en L (j - 1)).k < (en L j).k
  len : (L.length : Int) = min (cK (fun x => decide (1 ≤ x) && K x && hasB st x) 65) most
def GiveLaw : Prop := ∀ {w : World} {b : Nat} {st : St} {E : List Ent} {v : Value} {K : Int → Bool} (most : Int), Two w b st E → IsSet w v K → Small K → 0 ≤ most → most ≤ 255 →
  Calls Try.prog 45 #[.pointer (some ⟨b, 0, none⟩), v, .int .i64 most] w fun e w' => (∃ u L, e = .returned u ∧ IsP w' u L ∧ Gives most K st L) ∧ Keep (fun _ => False) w w'

theorem two_key {w : World} {b : Nat} {st : St} {E : List Ent} (h : Two w b st E) {n : Int} : hasB st n = true ↔ ∃ e ∈ E, e.k = n := by
  constructor
  · exact h.kps.conv n
  · rintro ⟨e, he, rfl⟩
    have hl := h.low
    rcases (h.kps.ent e he).2 with c | c
    · have := (h.kps.ent e he).1; omega
    · exact c.1
theorem two_msg {w : World} {b : Nat} {st : St} {E : List Ent} (h : Two w b st E) {x y : Ent} (hx : x ∈ E) (e : x.k = y.k) (hy : hasB st y.k = true) (hr : st.ring (y.k % 64).toNat = ⟨y.k, y.s, y.m, ⟨#[]⟩⟩) : x.s = y.s ∧ x.m = y.m := by
  have hl := h.low
  rcases (h.kps.ent x hx).2 with c | ⟨_, c⟩
  · have := (hasB_iff.1 hy).1; omega
  · rw [e] at c
    have := c.symm.trans hr
    injection this with a b c d
    exact ⟨b, c⟩

set_option maxRecDepth 100000 in
set_option maxHeartbeats 4000000 in
theorem gives_walk (HG : GiveLaw) {w : World} {va vb : Value} {a b : List Int} (ha : IsB w va a) (hb : IsB w vb b) (m : Int) (m0 : 0 ≤ m) (m1 : m ≤ 255) :
    Calls Try.prog 14 #[va, vb, .int .u8 m] w fun e w' => e = .returned (.bool true) ∧ Keep (fun _ => False) w w' := by
  have GV : Hid GiveLaw := @HG
  have HA := Lib.hid ha
  have HB := Lib.hid hb
  have RB := Lib.hid hb.rng
  obtain ⟨Aa, ca, rfl, _, _, _⟩ := ha.ex
  obtain ⟨Ab, cb, rfl, _, _, _⟩ := hb.ex
  have SB : Hid (Small (KB b)) := KB_small hb
  clear ha hb HG
  by_cases hs : a.length ≤ 100 ∧ b.length ≤ 100
  · obtain ⟨hs1, hs2⟩ := hs
    have d1 : decide ((100 : Int) < (a.length : Int)) = false := by simp; omega
    have d2 : ¬ (100 : Int) < (a.length : Int) := by omega
    have d3 : decide ((100 : Int) < (b.length : Int)) = false := by simp; omega
    have d4 : ¬ (100 : Int) < (b.length : Int) := by omega
    go_enter Try.func14, Try.ntmps14
    go_wp2_with fail
    refine (shown14 w).mono ?_
    rintro e w1 ⟨rfl, hk1⟩
    have HK1 := Lib.hid hk1
    clear hk1
    go_wp2_with fail
    refine (filled_any (HA.out.keep HK1.out) (by omega)).mono ?_
    rintro e w2 ⟨⟨st, E, rfl, hT, hEl⟩, hk2⟩
    have HK2 := Lib.hid (HK1.out.step hk2)
    have T2 := Lib.hid hT
    clear hk2 hT
    go_wp2_with fail
    go_loopg [9, 10] b.length (fun q v9 v10 wr => ∃ i : Nat, i + q = b.length ∧ v10 = .int .i64 i ∧ IsSet wr v9 (KB (b.take i)) ∧ Two wr w1.heap.size st E ∧ Keep (fun _ => False) w wr)
    case atStart => exact ⟨0, by omega, rfl, (IsSet.empty _ _ _).of (fun x => by simp [KB]), T2.out.keep ((Keep.refl (fun _ => False) w2).alloc _), HK2.out.alloc _⟩
    case round =>
      clear T2 HK2
      obtain ⟨i, hq, rfl, hs, hT, hK⟩ := hrel
      have HS := Lib.hid hs
      have HT := Lib.hid hT
      have HK := Lib.hid hK
      have HQ := Lib.hid hq
      have HI := HB.out.keep hK
      clear hs hK hq hT
      by_cases hlt : i < b.length
      · obtain ⟨A', cp', he, _, _, hA⟩ := HI.ex
        simp only [Value.slice.injEq, true_and] at he
        obtain ⟨rfl, rfl⟩ := he
        obtain ⟨g, o, rfl, hc⟩ := hA (by omega)
        have c0 := hc i hlt
        have hst := KB_step b i hlt
        have hr := RB.out i hlt
        obtain ⟨y, hy⟩ : ∃ y, y = b.getD i 0 := ⟨_, rfl⟩
        rw [← hy] at c0 hr hst
        have HST := Lib.hid hst
        obtain ⟨hy0, hy1⟩ := hr
        have e2 : IntKind.u64.wrap y = y := by rw [IntKind.wrap_u64]; omega
        have H1 := Lib.hid (one_set (heap_alloc_new wr (.cells #[.int .u64 y, .int .u64 y] 46)) hy0 (Int.le_refl y) (by omega))
        have HO : Hid (IsSet (wr.alloc (.cells #[.int .u64 y, .int .u64 y] 46)).drew (.slice (some ⟨wr.heap.size, 0, none⟩) 1 1) (fun x => decide (y ≤ x ∧ x ≤ y))) := H1.out.keep ((Keep.refl _ _).drew)
        have C0 : Hid (∀ x, (wr.alloc x).drew.cell? ⟨g, o + i, none⟩ = some (.int .u8 y)) := fun x => (((Keep.refl _ wr).alloc x).drew).cell c0
        clear hA hc HI hy hst
        go_upto_region 8 with fail
        go_region_held3 (fun w' => w'.cell? ⟨g, o + i, none⟩ = some (.int .u8 y)) (go_keep) (first | (go_at_call 22; refine (rjoin_set (HS.out.keep (((Keep.refl _ wr).alloc _).drew)) HO.out (KB_small2 RB.out i) (fun x hx => by simp at hx; omega)).mono ?_; rintro e w5 ⟨⟨u, rfl, hu⟩, hk1⟩; have c5 := hk1.cell (C0.out _)))
        have HU := Lib.hid (hu.of (fun x => (show (KB (b.take i) x || decide (y ≤ x ∧ x ≤ y)) = KB (b.take (i + 1)) x by rw [← HST.out]; congr 1; exact decide_eq_decide.2 (by omega))))
        have HK1 := Lib.hid (((HK.out.alloc _).drew).step hk1)
        have HT1 := Lib.hid (HT.out.keep ((((Keep.refl _ wr).alloc _).drew).step hk1))
        clear hu hk1
        go_wp2
        go_roundg (b.length - (i + 1))
        case measure => have := HQ.out; omega
        case rel => exact ⟨i + 1, by omega, by go_num, HU.out, HT1.out, HK1.out⟩
      · obtain rfl : b.length = i := by have := HQ.out; omega
        have HX := HS.out
        rw [List.take_length] at HX
        have HXb := Lib.hid HX
        clear HX HS HQ
        go_wp2_with fail
        refine (GV.out m HT.out HXb.out SB.out m0 m1).mono ?_
        rintro e w3 ⟨⟨u, L, rfl, hp, hg⟩, hk3⟩
        have PP := Lib.hid hp
        have GG := Lib.hid hg
        have T3 := Lib.hid (HT.out.keep hk3)
        have X3 := Lib.hid (HXb.out.keep hk3)
        have K3 := Lib.hid (HK.out.step hk3)
        have hlen := hg.len
        have hcr := cK_rng (fun x => decide (1 ≤ x) && KB b x && hasB st x) 65
        obtain ⟨C, hC⟩ : ∃ C, C = cK (fun x => decide (1 ≤ x) && KB b x && hasB st x) 65 := ⟨_, rfl⟩
        rw [← hC] at hlen hcr
        have HCC := Lib.hid hC
        have HLEN := Lib.hid hlen
        obtain ⟨AL, cL, rfl, hPc⟩ := hp.ex
        have PC := Lib.hid hPc
        have hLL : L.length ≤ 255 := by omega
        clear hp hg hk3 hC hlen hPc HT HXb HK
        go_wp2_with fail
        go_loopg [12] L.length (fun q v12 wr => ∃ j : Nat, j + q = L.length ∧ v12 = .int .i64 j ∧ Keep (fun _ => False) w3 wr)
        case atStart => exact ⟨0, by omega, rfl, Keep.refl _ w3⟩
        case round =>
          obtain ⟨j, hqj, rfl, hKj⟩ := hrel
          have HQJ := Lib.hid hqj
          have KJ := Lib.hid hKj
          clear hqj hKj
          by_cases hj : j < L.length
          · have hof := GG.out.of j hj
            have hup := GG.out.up j
            obtain ⟨gl, ol, rfl, hcl⟩ := PC.out (by omega)
            obtain ⟨x0, x1, x2, x3⟩ := hcl j hj
            have HCL := Lib.hid hcl
            have x0 := KJ.out.cell x0
            have X1 := Lib.hid (KJ.out.cell x1)
            have X2 := Lib.hid (KJ.out.cell x2)
            have X3' := Lib.hid (KJ.out.cell x3)
            obtain ⟨q1, q2, q3, q4, q5⟩ := hof
            have T4 := Lib.hid (T3.out.keep KJ.out)
            have GX := Lib.hid (rget_in T4.out.ref (en L j).k q1 (by omega) ((two_key T4.out).1 q4))
            have MS := Lib.hid (fun x (hx : x ∈ E) (e : x.k = (en L j).k) => two_msg (y := en L j) T4.out hx e q4 q5)
            have HH : Hid (∀ W, Keep (fun _ => False) wr W → Calls Try.prog 24 #[u9, .int .u64 (en L j).k] W fun e w' => e = .returned (.bool true) ∧ Keep (fun _ => False) wr w') := fun W k => (rhas_eq (X3.out.keep (KJ.out.step k)) _ true q3).mono fun e w' h => ⟨h.1, k.step h.2⟩
            obtain ⟨lk, hlk⟩ : ∃ k, k = (en L j).k := ⟨_, rfl⟩
            obtain ⟨ls, hls⟩ : ∃ k, k = (en L j).s := ⟨_, rfl⟩
            obtain ⟨lm, hlm⟩ : ∃ k, k = (en L j).m := ⟨_, rfl⟩
            rw [← hlk] at x0 GX MS HH
            rw [← hls] at X1 MS
            rw [← hlm] at X2 MS
            have XX := Lib.hid x0
            have HLK := Lib.hid hlk
            clear hcl x1 x2 x3 q1 q2 q3 q4 q5 hls hlm hlk
            go_wp2_with fail
            refine GX.out.mono ?_
            rintro e w4 ⟨⟨x, hx, hxk, rfl⟩, hk4⟩
            obtain ⟨hxs, hxm⟩ := MS.out x hx hxk
            rw [hxs, hxm]
            have K4 := Lib.hid hk4
            clear hx hxk hxs hxm hk4
            go_upto_region 14 with fail
            obtain ⟨w5, hw5⟩ : ∃ w5, w5 = w4.alloc (.cells #[.int .i64 ls, .int .u64 lm, .string ⟨#[]⟩] 27) := ⟨_, rfl⟩
            rw [← hw5]
            have k45 : Keep (fun _ => False) wr w5 := by rw [hw5]; exact K4.out.alloc _
            have bx : w5.heap[w4.heap.size]? = some (.cells #[.int .i64 ls, .int .u64 lm, .string ⟨#[]⟩] 27 (0, 0)) := by rw [hw5]; exact heap_alloc_new w4 _
            have D0 : Hid (w5.cell? ⟨w4.heap.size, 0, none⟩ = some (.int .i64 ls)) := by show w5.cell? _ = _; simp [World.cell?, bx]
            have D1 : Hid (w5.cell? ⟨w4.heap.size, 1, none⟩ = some (.int .u64 lm)) := by show w5.cell? _ = _; simp [World.cell?, bx]
            have D2 : Hid (w5.cell? ⟨w4.heap.size, 2, none⟩ = some (.string ⟨#[]⟩)) := by show w5.cell? _ = _; simp [World.cell?, bx]
            have Y0 := Lib.hid (k45.cell XX.out)
            have Y1 := Lib.hid (k45.cell X1.out)
            have Y2 := Lib.hid (k45.cell X2.out)
            have Y3 := Lib.hid (k45.cell X3'.out)
            have MF : Hid (∀ W, Keep (fun _ => False) w5 W → Calls Try.prog 24 #[u9, .int .u64 lk] W fun e w' => e = .returned (.bool true) ∧ Keep (fun _ => False) w5 w') := fun W k => by
              obtain ⟨kk, hkk⟩ : ∃ K', K' = KB b := ⟨_, rfl⟩
              exact (rhas_eq (X3.out.keep (KJ.out.step (k45.step k))) lk true (by rw [HLK.out]; exact (GG.out.of j hj).2.2.1)).mono fun e w' h => ⟨h.1, k.step h.2⟩
            have K5 := Lib.hid (KJ.out.step k45)
            have hne := fun W => ne27 W ls lm
            clear hw5 bx k45 x0
            by_cases hj0 : j = 0
            · have t1 : decide ((0 : Int) < (j : Int)) = false := decide_eq_false (by omega)
              have t2 : ¬ 0 < j := by omega
              have t3 : decide (0 < j) = false := decide_eq_false t2
              clear hj0 hup
              refine wp_region_quiet (C := fun W => Keep (fun _ => False) w5 W) (by kernel_rfl) (by kernel_rfl) ((Keep.refl _ w5).drew) ?_
              refine hq_start ?_
              repeat (refine hq_step (fun K hK => ?_); go_simp; first | (refine quiet_val (hK _ ?_); clear hK K) | (with_reducible refine quiet_call MF.out (hK _ ?_); clear hK K) | (refine hK _ ?_; clear hK K) | (apply Exists.intro; refine ⟨fun W hW => ?_, hK _ ?_⟩; (have c0 := hW.cell Y0.out; have c1 := hW.cell Y1.out; have c2 := hW.cell Y2.out; have c3 := hW.cell Y3.out; have c4 := hW.cell D0.out; have c5 := hW.cell D1.out; have c6 := hW.cell D2.out; go_simp; exact rfl); clear hK K))
              refine hq_nil ?_
              intro w6 hk6
              have K6 := Lib.hid (K5.out.step hk6)
              clear hk6
              go_wp2_with fail
              go_roundg (L.length - (j + 1))
              case measure => have := HQJ.out; omega
              case rel => exact ⟨j + 1, by have := HQJ.out; omega, by go_num, K6.out⟩
            · obtain ⟨jp, hjp⟩ : ∃ p, j = p + 1 := ⟨j - 1, by omega⟩
              have hpu := hup (by omega) hj
              rw [show j - 1 = jp by omega, ← HLK.out] at hpu
              obtain ⟨p0, _⟩ := HCL.out jp (by omega)
              have p0 := K5.out.cell p0
              obtain ⟨lp, hlp⟩ : ∃ k, k = (en L jp).k := ⟨_, rfl⟩
              rw [← hlp] at p0 hpu
              have PP0 := Lib.hid p0
              have t1 : decide ((0 : Int) < (j : Int)) = true := decide_eq_true (by omega)
              have t2 : 0 < j := by omega
              have t3 : decide (0 < j) = true := decide_eq_true t2
              have t4 : decide (lk ≤ lp) = false := decide_eq_false (by omega)
              have k3 : IntKind.i64.wrap ((j : Int) - 1) = (jp : Int) := (IntWalk.i64_in _ (by omega)).trans (by omega)
              have k4 : (jp : Int) < (L.length : Int) := by omega
              have k5 : 0 ≤ (jp : Int) := by omega
              have k6 : jp < L.length := by omega
              clear hj0 hup hjp hlp p0 hpu
              refine wp_region_quiet (C := fun W => Keep (fun _ => False) w5 W) (by kernel_rfl) (by kernel_rfl) ((Keep.refl _ w5).drew) ?_
              refine hq_start ?_
              repeat (refine hq_step (fun K hK => ?_); go_simp; first | (refine quiet_val (hK _ ?_); clear hK K) | (with_reducible refine quiet_call MF.out (hK _ ?_); clear hK K) | (refine hK _ ?_; clear hK K) | (apply Exists.intro; refine ⟨fun W hW => ?_, hK _ ?_⟩; (have c0 := hW.cell Y0.out; have c1 := hW.cell Y1.out; have c2 := hW.cell Y2.out; have c3 := hW.cell Y3.out; have c4 := hW.cell D0.out; have c5 := hW.cell D1.out; have c6 := hW.cell D2.out; have c7 := hW.cell PP0.out; go_simp; exact rfl); clear hK K))
              refine hq_nil ?_
              intro w6 hk6
              have K6 := Lib.hid (K5.out.step hk6)
              clear hk6
              go_wp2_with fail
              go_roundg (L.length - (j + 1))
              case measure => have := HQJ.out; omega
              case rel => exact ⟨j + 1, by have := HQJ.out; omega, by go_num, K6.out⟩
          · obtain rfl : L.length = j := by have := HQJ.out; omega
            go_wp2_with fail
            go_loopg [15, 16] 64 (fun q v15 v16 wr => ∃ k : Nat, 1 ≤ k ∧ k + q = 65 ∧ v16 = .int .u64 k ∧ v15 = .int .i64 (cK (fun x => decide (1 ≤ x) && KB b x && hasB st x) k) ∧ Keep (fun _ => False) w3 wr)
            case atStart => exact ⟨1, by omega, by omega, rfl, by simp [cK], KJ.out⟩
            case round =>
              clear KJ HQJ
              obtain ⟨k, k1, hqk, rfl, rfl, hKk⟩ := hrel
              have HQK := Lib.hid hqk
              have KK := Lib.hid hKk
              clear hqk hKk
              by_cases hk : k ≤ 64
              · have t1 : decide ((k : Int) ≤ 64) = true := decide_eq_true (by omega)
                have t2 : (k : Int) ≤ 64 := by omega
                have t3 : decide (k ≤ 64) = true := decide_eq_true hk
                have e1 : IntKind.u64.wrap ((k : Int) + 1) = (k : Int) + 1 := by rw [IntKind.wrap_u64]; omega
                have hrn := cK_rng (fun x => decide (1 ≤ x) && KB b x && hasB st x) k
                have hsu : cK (fun x => decide (1 ≤ x) && KB b x && hasB st x) (k + 1) = cK (fun x => decide (1 ≤ x) && KB b x && hasB st x) k + cond (KB b k && hasB st k) 1 0 := by
                  simp only [cK]
                  rw [decide_eq_true (show (1 : Int) ≤ (k : Int) by omega), Bool.true_and]
                obtain ⟨c, hc⟩ : ∃ c, c = cK (fun x => decide (1 ≤ x) && KB b x && hasB st x) k := ⟨_, rfl⟩
                rw [← hc] at hrn hsu ⊢
                obtain ⟨n0, n1⟩ := hrn
                have HSU := Lib.hid hsu
                have e2 : IntKind.i64.wrap (c + 1) = c + 1 := IntWalk.i64_in _ (by omega)
                clear hc hsu
                cases eb : KB b (k : Int)
                · have HEB := Lib.hid eb
                  clear eb
                  go_wp2_with fail
                  refine (rhas_eq (X3.out.keep KK.out) k false HEB.out).mono ?_
                  rintro e w5 ⟨rfl, hk5⟩
                  have KK5 := Lib.hid (KK.out.step hk5)
                  clear hk5
                  go_wp2_with fail
                  go_roundg (65 - (k + 1))
                  case measure => have := HQK.out; omega
                  case rel => exact ⟨k + 1, by omega, by omega, by go_num, by rw [HSU.out, HEB.out]; simp, KK5.out⟩
                · have HEB := Lib.hid eb
                  clear eb
                  go_wp2_with fail
                  refine (rhas_eq (X3.out.keep KK.out) k true HEB.out).mono ?_
                  rintro e w5 ⟨rfl, hk5⟩
                  have KK5 := Lib.hid (KK.out.step hk5)
                  clear hk5
                  go_wp2_with fail
                  refine (rhave_set (T3.out.keep KK5.out).ref T3.out.keys (by omega)).mono ?_
                  rintro e w6 ⟨⟨u6, rfl, hu6⟩, hk6⟩
                  have U6 := Lib.hid hu6
                  have KK6 := Lib.hid (KK5.out.step hk6)
                  clear hk6 hu6
                  have hkh : kE E (k : Int) = hasB st (k : Int) := by
                    rw [Bool.eq_iff_iff, kE_iff, two_key T3.out]
                  cases eh : hasB st (k : Int)
                  · rw [eh] at hkh
                    have HEH := Lib.hid eh
                    have HKH := Lib.hid hkh
                    clear eh hkh
                    go_wp2_with fail
                    refine (rhas_eq U6.out k false HKH.out).mono ?_
                    rintro e w7 ⟨rfl, hk7⟩
                    have KK7 := Lib.hid (KK6.out.step hk7)
                    clear hk7
                    go_wp2_with fail
                    go_roundg (65 - (k + 1))
                    case measure => have := HQK.out; omega
                    case rel => exact ⟨k + 1, by omega, by omega, by go_num, by rw [HSU.out, HEB.out, HEH.out]; simp, KK7.out⟩
                  · rw [eh] at hkh
                    have HEH := Lib.hid eh
                    have HKH := Lib.hid hkh
                    clear eh hkh
                    go_wp2_with fail
                    refine (rhas_eq U6.out k true HKH.out).mono ?_
                    rintro e w7 ⟨rfl, hk7⟩
                    have KK7 := Lib.hid (KK6.out.step hk7)
                    clear hk7
                    go_wp2_with fail
                    go_roundg (65 - (k + 1))
                    case measure => have := HQK.out; omega
                    case rel => exact ⟨k + 1, by omega, by omega, by go_num, by rw [HSU.out, HEB.out, HEH.out]; rfl, KK7.out⟩
              · obtain rfl : k = 65 := by have := HQK.out; omega
                rw [← HCC.out]
                have hlen := HLEN.out
                have e5 : IntKind.i64.wrap m = m := IntWalk.i64_in _ (by omega)
                have KKF := Lib.hid (K3.out.step KK.out)
                by_cases hmc : m < C
                · have t9 : ((L.length : Int) == m) = true := by rw [beq_iff_eq]; omega
                  have e6 : min C m = m := by omega
                  clear hlen
                  go_wp2_with fail
                  go_ret
                  refine ⟨?_, KKF.out⟩
                  first | rfl | (simp [t9, hmc, e6])
                · have t9 : ((L.length : Int) == C) = true := by rw [beq_iff_eq]; omega
                  have e6 : min C m = C := by omega
                  clear hlen
                  go_wp2_with fail
                  go_ret
                  refine ⟨?_, KKF.out⟩
                  first | rfl | (simp [t9, hmc, e6])
  · by_cases h1 : 100 < a.length
    · have d1 : decide ((100 : Int) < (a.length : Int)) = true := by simp; omega
      have d2 : (100 : Int) < (a.length : Int) := by omega
      clear hs
      go_enter Try.func14, Try.ntmps14
      go_wp2_with fail
      refine (shown14 w).mono ?_
      rintro e w1 ⟨rfl, hk1⟩
      have HK1 := Lib.hid hk1
      clear hk1
      go_wp2
      go_ret
      exact ⟨rfl, HK1.out⟩
    · have d1 : decide ((100 : Int) < (a.length : Int)) = false := by simp; omega
      have d2 : ¬ (100 : Int) < (a.length : Int) := by omega
      have d3 : decide ((100 : Int) < (b.length : Int)) = true := by simp; omega
      have d4 : (100 : Int) < (b.length : Int) := by omega
      clear hs
      go_enter Try.func14, Try.ntmps14
      go_wp2_with fail
      refine (shown14 w).mono ?_
      rintro e w1 ⟨rfl, hk1⟩
      have HK1 := Lib.hid hk1
      clear hk1
      go_wp2
      go_ret
      exact ⟨rfl, HK1.out⟩

end Go.Proofs.Ytkbmggclecimeaa
