/- The document's Raise, walked. -/
import Derived.Test.YtojnmbpicmgcpaaRefR
import Derived.Test.YtojnmbpicmgcpaaUntil
namespace Go.Proofs.Ytojnmbpicmgcpaa
open Go.RowKit Sh
set_option linter.unusedVariables false
set_option linter.unusedSimpArgs false

section
variable {P : Program}
theorem step_append_own2 {w : World} {ops : Array Oper} {o : Oper} {a : Act} {K : Act → World → Prop} {Q : Exit → Act → World → Prop} {E : Prop} (hgd : o.guard = none) (s x : Operand) (t : TypeId)
    (ho : o.op = .call { callee := .builtin .append, args := #[s, x], argTypes := #[t, t] })
    (base : Nat) (e : TypeId) (i : TypeInfo) (z : Value) (size bytes : Nat) (ht : P.underlying t = some (.slice e)) (hi : P.info? e = some i) (hz : i.zero = some z)
    (hsize : i.size = size) (hby : i.bytes = bytes) (hzs : z.cells.size = size) (hsz : 0 < size)
    (v : Value) (n : Nat) (xs : List Value) (hs : a.eval s = v) (hown : w.ownsRow base e size v n xs)
    (ad : Addr) (m c : Nat) (news : List Value) (hx : a.eval x = .slice (some ad) m c) (hl : news.length = m * size) (hnews : ∀ j u, news[j]? = some u → w.cell? (ad.add j) = some u) (h1 : ∀ u ∈ news, u.oneCell' = true)
    (h63 : n + m ≤ maxLen) (hbytes : (n + m) * bytes ≤ 140737488355328) (hbase : base ≤ w.heap.size)
    (h : ∀ v' w', w'.ownsRow base e size v' (n + m) (xs ++ news) → w.grownBy w' v.ownBlock → (v'.ownBlock = v.ownBlock ∨ v'.ownBlock = some w.heap.size) → K (a.put o.dst v') w') :
    if Region.wanted o (yielded ops a.tmps) = true then Oper.wp P o a w K Q else E := by
  have hw : Region.wanted o (yielded ops a.tmps) = true := by simp [Region.wanted, hgd]
  rw [if_pos hw]
  obtain ⟨v', w', hr, h2, h3, _, h4⟩ := run_append_own_at (P := P) w base t o.type e i z size bytes ht hi hz hsize hby hzs hsz v n xs hown ad m c news hl hnews h1 h63 hbytes hbase
  unfold Oper.wp execOp
  simp only [ho, resolve, invoke, builtin, Sem.run_bind, Sem.run_pure, Result.andThen_ok, List.map_toArray, List.map_cons, List.map_nil, hs, hx, hr]
  exact h _ _ h2 h3 h4
end
theorem set_far {w : World} {r b o : Nat} {u : Value} (h : b ≠ r) (hc : w.cell? ⟨b, o, none⟩ = some u) (v : Value) : (w.setCell ⟨r, 0, none⟩ v).cell? ⟨b, o, none⟩ = some u :=
  (World.cell?_setCell_other w ⟨r, 0, none⟩ ⟨b, o, none⟩ v (fun e => h (Addr.mk.inj e).1.symm)).trans hc
structure RREnd (e : Ending) (w w' : World) (r : Nat) (v : Value) (R : List Db) (n i : Int) (k : Nat) (now : Int) (u : Nat → Nat) : Prop where
  ex : ∃ b z R', e = .returned (.tuple #[.bool b, .int .i64 z]) ∧ ROut R n i k now u b z R' ∧ RRaiseIs w w' r v R'
set_option maxRecDepth 100000 in
set_option maxHeartbeats 4000000 in
theorem rraise_good {w : World} {r : Nat} {v : Value} {R : List Db} {base : Nat} {nodes : Int} {u : Nat → Nat} (h : IsRf w r v R) (hw : Waits2 base nodes u) (hok : ∀ x ∈ R, Dok x) (n i : Int) (k : Nat) (now : Int) (hn : 0 ≤ n ∧ n < 64) (hk : k ≤ 63) (hnow : 0 ≤ now ∧ now < 18446744073709551616) (hl : R.length ≤ 1000) :
    Calls Try.prog 10 #[.pointer (some ⟨r, 0, none⟩), updV n i 1, .int .i64 k, .int .u64 now, .int .i64 nodes, .float .f64 base] w fun e w' => RREnd e w w' r v R n i k now u := by
  unfold updV
  obtain ⟨j0, hj, hj2⟩ : ∃ i0, Try.prog.info? 65 = some i0 ∧ (i0.zero, i0.size, i0.bytes) = (some (.agg #[.int .i64 0, .int .u64 0, .int .i64 0, .int .u64 0, .int .u64 0, .int .u64 0, .int .u64 0]), 7, 56) := by
    have := info65
    rw [Option.map_eq_some_iff] at this
    exact this
  simp only [Prod.mk.injEq] at hj2
  obtain ⟨hy0, hy1, hy2⟩ := hj2
  have Hj := Lib.hid hj
  have Hy0 := Lib.hid hy0
  have Hy1 := Lib.hid hy1
  have Hy2 := Lib.hid hy2
  obtain ⟨A, c, rfl⟩ := own_shape h.own
  have H := Lib.hid h
  have HOK := Lib.hid hok
  have LR := Lib.hid hl
  have NOW := Lib.hid hnow
  have HLE := Lib.hid hw.prog.le
  obtain ⟨m, hm1, hm2⟩ := hw.ref
  have HM1 := Lib.hid hm1
  have HM2 := Lib.hid hm2
  have hu : mayU n 1 = true := by simp [mayU]; omega
  have d1 : decide ((k : Int) < 0) = false := decide_eq_false (by omega)
  have d2 : decide ((64 : Int) ≤ (k : Int)) = false := decide_eq_false (by omega)
  have d3 : ¬ (64 : Int) ≤ (k : Int) := by omega
  clear h hw hok hl hnow hm1 hm2 hj hy0 hy1 hy2
  go_enter Try.func10, Try.ntmps10
  go_wp2_with fail
  refine (rmay_any n i 1 _).mono ?_
  rintro e w1 ⟨rfl, hk1⟩
  rw [hu]
  have bu := hk1.old (heap_alloc_new w (.cells #[.int .i64 n, .int .u64 i, .int .i64 1] 34)) id
  have k1 := ((Keep.refl (fun _ => False) w).alloc (.cells #[.int .i64 n, .int .u64 i, .int .i64 1] 34)).step hk1
  have BU := Lib.hid bu
  have K1 := Lib.hid k1
  have c0 : w1.cell? ⟨w.heap.size, 0, none⟩ = some (.int .i64 n) := by simp [World.cell?, bu]
  have c1 : w1.cell? ⟨w.heap.size, 1, none⟩ = some (.int .u64 i) := by simp [World.cell?, bu]
  have c2 : w1.cell? ⟨w.heap.size, 2, none⟩ = some (.int .i64 1) := by simp [World.cell?, bu]
  clear hk1 bu k1
  go_wp2_with fail
  clear d1 d2 d3 c0 c1 c2
  go_loopg [14, 15] R.length (fun z v14 v15 wr => ∃ (j : Nat), j + z = R.length ∧ v14 = .int .i64 j ∧ (∀ q, q < j → (db R q).n = n → (db R q).i < i) ∧ Keep (fun _ => False) w1 wr)
  case atStart => exact ⟨0, by omega, rfl, fun q hq => by omega, Keep.refl _ _⟩
  case round =>
    obtain ⟨j, hz, rfl, hno, hk⟩ := hrel
    have K := Lib.hid hk
    have HZ := Lib.hid hz
    have HNO := Lib.hid hno
    have HI := Lib.hid (H.out.keep0 (K1.out.step hk))
    have BI := Lib.hid (hk.old BU.out id)
    have c0 := HI.out.c0
    have bi := BI.out
    have n0 : wr.cell? ⟨w.heap.size, 0, none⟩ = some (.int .i64 n) := by simp [World.cell?, bi]
    have n1 : wr.cell? ⟨w.heap.size, 1, none⟩ = some (.int .u64 i) := by simp [World.cell?, bi]
    clear hk hno bi
    by_cases hlt : j < R.length
    · have t1 : decide ((j : Int) < (R.length : Int)) = true := decide_eq_true (by omega)
      have t2 : (j : Int) < (R.length : Int) := by omega
      have t3 : (0 : Int) ≤ (j : Int) := by omega
      have ew : IntKind.i64.wrap ((j : Int) + 1) = ((j + 1 : Nat) : Int) := by have := LR.out; rw [IntKind.wrap_i64]; omega
      obtain ⟨g, rfl, _⟩ := own_at HI.out.own (by omega)
      have rc := rd_cells HI.out.own rfl j hlt
      have hdok := HOK.out _ (db_mem hlt)
      have HMEM := Lib.hid (db_mem hlt)
      obtain ⟨x, hx⟩ : ∃ x, x = db R j := ⟨_, rfl⟩
      rw [← hx] at rc hdok
      have HX := Lib.hid hx
      obtain ⟨xn, xi, xs, xf, xc, xt, xu⟩ := x
      obtain ⟨⟨F, hF, rfl⟩, ⟨t, ht2, rfl⟩, hc⟩ := hdok
      have r0 : wr.cell? ⟨g, j * 7, none⟩ = some (.int .i64 xn) := rc 0 (by omega)
      have r1 : wr.cell? ⟨g, j * 7 + 1, none⟩ = some (.int .u64 xi) := rc 1 (by omega)
      have r2 : wr.cell? ⟨g, j * 7 + 2, none⟩ = some (.int .i64 xs) := rc 2 (by omega)
      have r3 : wr.cell? ⟨g, j * 7 + 3, none⟩ = some (.int .u64 F) := rc 3 (by omega)
      have r4 : wr.cell? ⟨g, j * 7 + 4, none⟩ = some (.int .u64 xc) := rc 4 (by omega)
      have r5 : wr.cell? ⟨g, j * 7 + 5, none⟩ = some (.int .u64 t) := rc 5 (by omega)
      have r6 : wr.cell? ⟨g, j * 7 + 6, none⟩ = some (.int .u64 xu) := rc 6 (by omega)
      have HLT := Lib.hid hlt
      have HF := Lib.hid hF
      have HT2 := Lib.hid ht2
      have HC := Lib.hid hc
      clear rc hx hz hlt hF ht2 hc
      go_upto_region 6 with fail
      go_cut [15] (fun v15 wx => v15 = .pointer (some ⟨wr.heap.size, 0, none⟩) ∧ wx.heap[wr.heap.size]? = some (.cells (dbC ⟨xn, xi, xs, F, xc, t, xu⟩).toArray 65 (0, 0)) ∧ Keep (fun _ => False) wr wx)
      case first =>
        go_wp2_with fail
        go_meet
        refine ⟨rfl, ?_, ?_⟩
        · have := heap_alloc_new wr (.cells (dbC ⟨xn, xi, xs, F, xc, t, xu⟩).toArray 65)
          simpa [dbC] using this
        · exact (Keep.refl _ wr).alloc _
      case rest =>
        obtain ⟨rfl, hbx, hkx⟩ := hcut
        obtain ⟨wo, hwo⟩ : ∃ wo, wo = wc := ⟨_, rfl⟩
        rw [← hwo] at hbx hkx ⊢
        clear hwo
        have HBX := Lib.hid hbx
        have KX := Lib.hid hkx
        have p0 : wo.cell? ⟨wr.heap.size, 0, none⟩ = some (.int .i64 xn) := by simp [World.cell?, hbx, dbC]
        have p1 : wo.cell? ⟨wr.heap.size, 1, none⟩ = some (.int .u64 xi) := by simp [World.cell?, hbx, dbC]
        have p3 : wo.cell? ⟨wr.heap.size, 3, none⟩ = some (.int .u64 F) := by simp [World.cell?, hbx, dbC]
        have p5 : wo.cell? ⟨wr.heap.size, 5, none⟩ = some (.int .u64 t) := by simp [World.cell?, hbx, dbC]
        have n0 := hkx.cell n0
        have n1 := hkx.cell n1
        clear hbx hkx r0 r1 r2 r3 r4 r5 r6 c0
        by_cases hxn : xn = n
        · subst hxn
          have u1 : (xn != xn) = false := by simp
          by_cases hold : i < xi
          · have u2 : decide (i < xi) = true := decide_eq_true hold
            have RES : Hid (ROut R xn i k now u false 70 R ∧ RRaiseIs w wo r (.slice (some ⟨g, 0, none⟩) R.length c) R) := Lib.hid ⟨.old _ HMEM.out (by rw [← HX.out]) (by rw [← HX.out]; exact hold), ⟨_, HI.out.keep0 KX.out, fun g hg => .inl hg⟩, ((K1.out.step K.out).step KX.out).mono (fun _ h _ => absurd h id)⟩
            clear hold
            go_wp2
            exact bodyPost_ret (v := .tuple #[.bool false, .int .i64 70]) (by simp [results, Try.results10, go_sem]) rfl ⟨false, 70, R, rfl, RES.out.1, RES.out.2⟩
          · have u2 : decide (i < xi) = false := decide_eq_false hold
            by_cases hsame : xi = i
            · subst hsame
              have u3 : (xi == xi) = true := by simp
              have HQ := Lib.hid (fun W => rhas_bit F k HF.out hk W)
              have HW := Lib.hid (fun W => rwith_bit F k HF.out hk W)
              cases hb : F.testBit k with
              | true =>
                rw [hb] at HQ
                have RES : Hid (ROut R xn xi k now u false 0 R ∧ RRaiseIs w wo r (.slice (some ⟨g, 0, none⟩) R.length c) R) := Lib.hid ⟨.has _ HMEM.out (by rw [← HX.out]) (by rw [← HX.out]) F HF.out (by rw [← HX.out]) hb, ⟨_, HI.out.keep0 KX.out, fun g hg => .inl hg⟩, ((K1.out.step K.out).step KX.out).mono (fun _ h _ => absurd h id)⟩
                clear hold hb
                go_wp2_with fail
                refine (HQ.out _).mono ?_
                rintro e w2 ⟨rfl, rfl⟩
                go_wp2
                exact bodyPost_ret (v := .tuple #[.bool false, .int .i64 0]) (by simp [results, Try.results10, go_sem]) rfl ⟨false, 0, R, rfl, RES.out.1, RES.out.2⟩
              | false =>
                rw [hb] at HQ
                have HB := Lib.hid hb
                have et : IntKind.u64.wrap ((t : Int) + 1) = (t : Int) + 1 := by have := HT2.out; rw [IntKind.wrap_u64]; omega
                have et2 : IntKind.i64.wrap ((t : Int) + 1) = (t : Int) + 1 := by have := HT2.out; rw [IntKind.wrap_i64]; omega
                clear hold hb
                generalize hfn : ((F ||| 2 ^ k : Nat) : Int) = fn at *
                have FN := Lib.hid hfn
                clear hfn
                have f3 : wo.frozen? ⟨wr.heap.size, 3, none⟩ = false := by have := HBX.out; simp [World.frozen?, this]
                have f5 : ∀ v, (wo.setCell ⟨wr.heap.size, 3, none⟩ v).frozen? ⟨wr.heap.size, 5, none⟩ = false := fun v => by have := heap_setCell_at HBX.out 3 v; simp [World.frozen?, this]
                have z5 := fun v => set_other (w := wo) (v := v) (o := 3) (o' := 5) (by decide) p5
                go_wp2_with fail
                refine (HQ.out _).mono ?_
                rintro e w2 ⟨rfl, rfl⟩
                go_wp2_with fail
                refine (HW.out _).mono ?_
                rintro e w3 ⟨rfl, rfl⟩
                go_upto_region 15 with fail
                have hT0 : Hid (((wo.setCell ⟨wr.heap.size, 3, none⟩ (.int .u64 fn)).setCell ⟨wr.heap.size, 5, none⟩ (.int .u64 ((t : Int) + 1))).heap[wr.heap.size]? = some (.cells (dbC ⟨xn, xi, xs, fn, xc, (t : Int) + 1, xu⟩).toArray 65 (0, 0)) ∧ Keep (fun j => j = wr.heap.size) wo ((wo.setCell ⟨wr.heap.size, 3, none⟩ (.int .u64 fn)).setCell ⟨wr.heap.size, 5, none⟩ (.int .u64 ((t : Int) + 1)))) := Lib.hid ⟨by
                    have h5 := heap_setCell_at (heap_setCell_at HBX.out 3 (.int .u64 fn)) 5 (.int .u64 ((t : Int) + 1))
                    simpa [dbC] using h5, ((Keep.refl (fun j => j = wr.heap.size) wo).setAt 3 _).setAt 5 _⟩
                clear f3 f5 z5 p0 p1 p3 p5 n0 n1 HBX
                generalize (wo.setCell ⟨wr.heap.size, 3, none⟩ (.int .u64 fn)).setCell ⟨wr.heap.size, 5, none⟩ (.int .u64 ((t : Int) + 1)) = wt at hT0 ⊢
                have HBT := Lib.hid hT0.out.1
                have KT := Lib.hid hT0.out.2
                clear hT0
                obtain ⟨st, hst⟩ : ∃ st, st = sat xc (u (t + 1) : Nat) := ⟨_, rfl⟩
                have ST := Lib.hid hst
                have W29 : Hid (∀ W, Calls Try.prog 29 #[.float .f64 base, .int .i64 nodes, .int .i64 ((t : Int) + 1), .int .i64 3] W fun e w' => e = .returned (.float .f64 (m (t + 1))) ∧ W = w') := Lib.hid (fun W => HM1.out (t + 1) (by have := HT2.out; omega) W)
                have W28 := Lib.hid (HM2.out (t + 1))
                have W27 : Hid (∀ W, Calls Try.prog 27 #[.int .u64 xc, .int .u64 (u (t + 1) : Nat)] W fun e w' => e = .returned (.int .u64 st) ∧ W = w') := Lib.hid (fun W => by rw [hst]; exact later_any xc _ W HC.out (by have := HLE.out (t + 1); omega))
                clear hst
                go_cut [] (fun wx => wx.heap[wr.heap.size]? = some (.cells (dbC ⟨xn, xi, xs, fn, xc, (t : Int) + 1, st⟩).toArray 65 (0, 0)) ∧ Keep (fun j => j = wr.heap.size) wt wx)
                case first =>
                  have c4 : wt.cell? ⟨wr.heap.size, 4, none⟩ = some (.int .u64 xc) := by have := HBT.out; simp [World.cell?, this, dbC]
                  have c5 : wt.cell? ⟨wr.heap.size, 5, none⟩ = some (.int .u64 ((t : Int) + 1)) := by have := HBT.out; simp [World.cell?, this, dbC]
                  have c6 : wt.cell? ⟨wr.heap.size, 6, none⟩ = some (.int .u64 xu) := by have := HBT.out; simp [World.cell?, this, dbC]
                  have r6 : wt.frozen? ⟨wr.heap.size, 6, none⟩ = false := by have := HBT.out; simp [World.frozen?, this]
                  have z4 := fun v => set_other (w := wt) (v := v) (o := 6) (o' := 4) (by decide) c4
                  have z5 := fun v => set_other (w := wt) (v := v) (o := 6) (o' := 5) (by decide) c5
                  have FIN : Hid ((wt.setCell ⟨wr.heap.size, 6, none⟩ (.int .u64 st)).heap[wr.heap.size]? = some (.cells (dbC ⟨xn, xi, xs, fn, xc, (t : Int) + 1, st⟩).toArray 65 (0, 0)) ∧ Keep (fun j => j = wr.heap.size) wt (wt.setCell ⟨wr.heap.size, 6, none⟩ (.int .u64 st)).drew) := Lib.hid ⟨by
                    have h6 := heap_setCell_at HBT.out 6 (.int .u64 st)
                    simpa [dbC] using h6, ((Keep.refl (fun j => j = wr.heap.size) wt).setAt 6 _).drew⟩
                  generalize ((u (t + 1) : Nat) : Int) = ut at *
                  generalize m (t + 1) = mt at *
                  go_region_held3 (fun W => W.cell? ⟨wr.heap.size, 4, none⟩ = some (.int .u64 xc) ∧ W.cell? ⟨wr.heap.size, 5, none⟩ = some (.int .u64 ((t : Int) + 1))) (go_keep) (first
                    | (go_at_call 29; refine (W29.out _).mono ?_; rintro e w5 ⟨rfl, rfl⟩)
                    | (go_at_call 28; refine (W28.out _).mono ?_; rintro e w5 ⟨rfl, rfl⟩)
                    | (go_at_call 27; refine (W27.out _).mono ?_; rintro e w5 ⟨rfl, rfl⟩))
                  all_goals
                    go_wp2_with fail
                    go_meet
                    exact FIN.out
                case rest =>
                  obtain ⟨hbs, hks⟩ := hcut
                  obtain ⟨ws, hws⟩ : ∃ ws, ws = wc := ⟨_, rfl⟩
                  rw [← hws] at hbs hks ⊢
                  clear hws
                  have KS : Hid (Keep (fun _ => False) wr ws) := Lib.hid ((KX.out.trans KT.out (fun j hj h => by omega)).trans hks (fun j hj h => by omega))
                  have KW := Lib.hid ((K1.out.step K.out).step KS.out)
                  have HS := Lib.hid ((HI.out.keep0 KS.out).keep0 (Keep.refl _ ws).drew)
                  have b0 : ws.drew.cell? ⟨wr.heap.size, 0, none⟩ = some (.int .i64 xn) := by show ws.cell? _ = _; simp [World.cell?, hbs, dbC]
                  have b1 : ws.drew.cell? ⟨wr.heap.size, 1, none⟩ = some (.int .u64 xi) := by show ws.cell? _ = _; simp [World.cell?, hbs, dbC]
                  have b2 : ws.drew.cell? ⟨wr.heap.size, 2, none⟩ = some (.int .i64 xs) := by show ws.cell? _ = _; simp [World.cell?, hbs, dbC]
                  have b3 : ws.drew.cell? ⟨wr.heap.size, 3, none⟩ = some (.int .u64 fn) := by show ws.cell? _ = _; simp [World.cell?, hbs, dbC]
                  have b4 : ws.drew.cell? ⟨wr.heap.size, 4, none⟩ = some (.int .u64 xc) := by show ws.cell? _ = _; simp [World.cell?, hbs, dbC]
                  have b5 : ws.drew.cell? ⟨wr.heap.size, 5, none⟩ = some (.int .u64 ((t : Int) + 1)) := by show ws.cell? _ = _; simp [World.cell?, hbs, dbC]
                  have b6 : ws.drew.cell? ⟨wr.heap.size, 6, none⟩ = some (.int .u64 st) := by show ws.cell? _ = _; simp [World.cell?, hbs, dbC]
                  have c0 := HS.out.c0
                  have d1 : decide ((j : Int) < (R.length : Int)) = true := decide_eq_true (by have := HLT.out; omega)
                  have RES : Hid (ROut R xn xi k now u true 0 (R.set j ⟨xn, xi, xs, fn, xc, (t : Int) + 1, st⟩) ∧ RRaiseIs w (ws.drew.setCells g (j * 7) (dbC ⟨xn, xi, xs, fn, xc, (t : Int) + 1, st⟩)) r (.slice (some ⟨g, 0, none⟩) R.length c) (R.set j ⟨xn, xi, xs, fn, xc, (t : Int) + 1, st⟩)) := Lib.hid (by
                    have hxe := HX.out
                    refine ⟨?_, ⟨⟨.slice (some ⟨g, 0, none⟩) R.length c, ⟨?_, ?_⟩, fun g hg => .inl hg⟩, ?_⟩⟩
                    · have := ROut.told (R := R) (n := xn) (i := xi) (k := k) (now := now) (u := u) j HLT.out (by rw [← hxe]) (by rw [← hxe]) F HF.out (by rw [← hxe]) HB.out t (by rw [← hxe]) HT2.out
                      rw [← hxe] at this
                      simp only at this
                      rw [ST.out, ← FN.out]
                      exact this
                    · have hne : g ≠ r := by have := (HS.out.own.lt g rfl).1; omega
                      have kk := keep_setCells (S := fun q => q = g) (a := ws.drew) (fun _ => rfl) (dbC ⟨xn, xi, xs, fn, xc, (t : Int) + 1, st⟩) (j * 7) _ (Keep.refl _ ws.drew)
                      exact kk.old HS.out.cell (fun e => hne e.symm)
                    · rw [List.length_set]
                      exact own_set HS.out.own j HLT.out _
                    · exact keep_setCells (fun _ => .inr rfl) _ _ _ (KW.out.drew.mono (fun _ h _ => absurd h id)))
                  have TH := Lib.hid (own_there HS.out.own j HLT.out)
                  clear hbs hks
                  go_upto_region 16 with fail
                  refine still_tail 7 (by kernel_rfl) (by kernel_rfl) ?_
                  simp only [List.take_succ_cons, List.take_zero, List.drop_succ_cons, List.drop_zero]
                  repeat still_step
                  try refine wpStill_nil ?_
                  refine wpList_store_mid rfl 65 _ _ rfl g (j * 7) (dbC ⟨xn, xi, xs, fn, xc, (t : Int) + 1, st⟩).toArray rfl rfl TH.out size65 (all_oneCell_toArray (dbC_one _)) ?_
                  go_wp2
                  exact bodyPost_ret (v := .tuple #[.bool true, .int .i64 0]) (by simp [results, Try.results10, go_sem]) rfl ⟨true, 0, _, rfl, RES.out.1, RES.out.2⟩
            · have u3 : (xi == i) = false := by rw [beq_eq_false_iff_ne]; exact hsame
              have HN2 : Hid (∀ q, q < j + 1 → (db R q).n = xn → (db R q).i < i) := Lib.hid (fun q hq hqn => by
                by_cases e : q = j
                · subst e; rw [← HX.out]; show xi < i; omega
                · exact HNO.out q (by omega) hqn)
              clear hold hsame
              go_wp2_with fail
              go_roundg (R.length - (j + 1))
              case measure => have := HZ.out; have := HLT.out; omega
              case rel => exact ⟨j + 1, by have := HLT.out; omega, by go_num, HN2.out, K.out.step KX.out⟩
        · have u1 : (xn != n) = true := bne_iff_ne.2 hxn
          have HN2 : Hid (∀ q, q < j + 1 → (db R q).n = n → (db R q).i < i) := Lib.hid (fun q hq hqn => by
            by_cases e : q = j
            · subst e; rw [← HX.out] at hqn; exact absurd hqn hxn
            · exact HNO.out q (by omega) hqn)
          clear hxn
          go_wp2_with fail
          go_roundg (R.length - (j + 1))
          case measure => have := HZ.out; have := HLT.out; omega
          case rel => exact ⟨j + 1, by have := HLT.out; omega, by go_num, HN2.out, K.out.step KX.out⟩
    · obtain rfl : R.length = j := by omega
      have t1 : decide ((R.length : Int) < (R.length : Int)) = false := by simp
      have NEW : Hid (∀ x ∈ R, x.n = n → x.i < i) := Lib.hid (fun x hx hxn => by
        obtain ⟨q, hq, rfl⟩ := mem_db hx
        exact HNO.out q hq hxn)
      clear hz hlt
      go_wp2_with fail
      refine (rdrop_any HI.out n LR.out).mono ?_
      rintro e w3 ⟨b, rfl, _, ⟨v', hrf, hfresh⟩, hk3⟩
      have HRF := Lib.hid hrf
      have HFR := Lib.hid hfresh
      have K3 := Lib.hid hk3
      clear hrf hfresh hk3 c0 n0 n1
      go_upto_region 19 with fail
      obtain ⟨A', c', rfl⟩ := own_shape HRF.out.own
      have KW3 := Lib.hid (((K1.out.step K.out).mono (T := fun j => j = r) (fun _ h _ => absurd h id)).step K3.out)
      have hrlt := H.out.lt
      have bne : w.heap.size ≠ r := by omega
      have B3 := Lib.hid (K3.out.old BI.out bne)
      have b3 := B3.out
      have x0 : w3.cell? ⟨w.heap.size, 0, none⟩ = some (.int .i64 n) := by simp [World.cell?, b3]
      have x1 : w3.cell? ⟨w.heap.size, 1, none⟩ = some (.int .u64 i) := by simp [World.cell?, b3]
      have x2 : w3.cell? ⟨w.heap.size, 2, none⟩ = some (.int .i64 1) := by simp [World.cell?, b3]
      have x3 : w3.cell? ⟨r, 0, none⟩ = some (.slice A' (R.filter (nb n)).length c') := HRF.out.c0
      obtain ⟨st, hst⟩ : ∃ st, st = sat now (u 0 : Nat) := ⟨_, rfl⟩
      have ST := Lib.hid hst
      have W29 : Hid (∀ W, Calls Try.prog 29 #[.float .f64 base, .int .i64 nodes, .int .i64 0, .int .i64 3] W fun e w' => e = .returned (.float .f64 (m 0)) ∧ W = w') := Lib.hid (fun W => HM1.out 0 (by omega) W)
      have W28 := Lib.hid (HM2.out 0)
      have W27 : Hid (∀ W, Calls Try.prog 27 #[.int .u64 now, .int .u64 (u 0 : Nat)] W fun e w' => e = .returned (.int .u64 st) ∧ W = w') := Lib.hid (fun W => by rw [hst]; exact later_any now _ W NOW.out (by have := HLE.out 0; omega))
      have W26 : Hid (∀ W, Calls Try.prog 26 #[.int .u64 0, .int .i64 k] W fun e w' => e = .returned (.int .u64 ((2 : Int) ^ k)) ∧ W = w') := Lib.hid (fun W => by
        have := rwith_bit 0 k (by omega) hk W
        rw [Nat.zero_or] at this
        have e2 : ((2 ^ k : Nat) : Int) = (2 : Int) ^ k := by push_cast; rfl
        rw [e2] at this
        exact this)
      clear hst
      generalize hut : ((u 0 : Nat) : Int) = ut at *
      have HUT := Lib.hid hut
      clear hut
      generalize m 0 = mt at *
      obtain ⟨bt, hbt⟩ : ∃ bt, bt = (2 : Int) ^ k := ⟨_, rfl⟩
      rw [← hbt] at W26
      have BT := Lib.hid hbt
      clear hbt b3
      have NBK : Hid ((w3.alloc (.cells #[.int .i64 n, .int .u64 i, .int .i64 1, .int .u64 bt, .int .u64 now, .int .u64 0, .int .u64 st] 65)).drew.heap[w3.heap.size]? = some (.cells #[.int .i64 n, .int .u64 i, .int .i64 1, .int .u64 bt, .int .u64 now, .int .u64 0, .int .u64 st] 65 (0, 0))) := Lib.hid (heap_alloc_new w3 _)
      have KE : Hid (Keep (fun _ => False) w3 (w3.alloc (.cells #[.int .i64 n, .int .u64 i, .int .i64 1, .int .u64 bt, .int .u64 now, .int .u64 0, .int .u64 st] 65)).drew) := Lib.hid (((Keep.refl _ w3).alloc _).drew)
      have HOd : Hid ((w3.alloc (.cells #[.int .i64 n, .int .u64 i, .int .i64 1, .int .u64 bt, .int .u64 now, .int .u64 0, .int .u64 st] 65)).drew.ownsRow (r + 1) 65 7 (.slice A' (R.filter (nb n)).length c') (R.filter (nb n)).length (dbCells (R.filter (nb n)))) := Lib.hid (HRF.out.own.alloc _)
      have hfl : (R.filter (nb n)).length ≤ 1000 := Nat.le_trans (List.length_filter_le _ _) LR.out
      have hrl3 := HRF.out.lt
      have HBS : Hid (r + 1 ≤ (w3.alloc (.cells #[.int .i64 n, .int .u64 i, .int .i64 1, .int .u64 bt, .int .u64 now, .int .u64 0, .int .u64 st] 65)).drew.heap.size) := Lib.hid (Nat.le_trans (by omega) KE.out.size)
      have GNE : Hid (∀ q, (Value.slice A' (R.filter (nb n)).length c').ownBlock = some q → q ≠ r ∧ q ≠ w.heap.size ∧ w.heap.size ≤ q) := Lib.hid (fun q hq => by
        have h1 := HFR.out q hq
        have h2 := (Array.getElem?_eq_some_iff.1 BI.out).1
        have h3 := (K1.out.step K.out).size
        omega)
      have KSTEP : Hid (∀ w6, (w3.alloc (.cells #[.int .i64 n, .int .u64 i, .int .i64 1, .int .u64 bt, .int .u64 now, .int .u64 0, .int .u64 st] 65)).drew.grownBy w6 (Value.slice A' (R.filter (nb n)).length c').ownBlock → Keep (fun q => (Value.slice A' (R.filter (nb n)).length c').ownBlock = some q) w3 w6 ∧ w6.heap[w.heap.size]? = some (.cells #[.int .i64 n, .int .u64 i, .int .i64 1] 34 (0, 0)) ∧ w6.heap[r]? = some (.cells #[.slice A' (R.filter (nb n)).length c'] 31 (0, 0))) := Lib.hid (fun w6 hg => by
        have kk : Keep (fun q => (Value.slice A' (R.filter (nb n)).length c').ownBlock = some q) w3 w6 := (KE.out.mono (fun _ h _ => absurd h id)).grown hg (fun q hq _ => hq)
        exact ⟨kk, kk.old B3.out (fun h => (GNE.out _ h).2.1 rfl), kk.old HRF.out.cell (fun h => (GNE.out _ h).1 rfl)⟩)
      have FINR : Hid (∀ (w6 : World) A6 c6, w6.ownsRow (r + 1) 65 7 (.slice A6 ((R.filter (nb n)).length + 1) c6) ((R.filter (nb n)).length + 1) (dbCells (R.filter (nb n)) ++ dbCells [⟨n, i, 1, bt, now, 0, st⟩]) → (w3.alloc (.cells #[.int .i64 n, .int .u64 i, .int .i64 1, .int .u64 bt, .int .u64 now, .int .u64 0, .int .u64 st] 65)).drew.grownBy w6 (Value.slice A' (R.filter (nb n)).length c').ownBlock → ((Value.slice A6 ((R.filter (nb n)).length + 1) c6).ownBlock = (Value.slice A' (R.filter (nb n)).length c').ownBlock ∨ (Value.slice A6 ((R.filter (nb n)).length + 1) c6).ownBlock = some (w3.alloc (.cells #[.int .i64 n, .int .u64 i, .int .i64 1, .int .u64 bt, .int .u64 now, .int .u64 0, .int .u64 st] 65)).drew.heap.size) → ROut R n i k now u true 0 (R.filter (nb n) ++ [⟨n, i, 1, bt, now, 0, st⟩]) ∧ RRaiseIs w (w6.setCell ⟨r, 0, none⟩ (.slice A6 ((R.filter (nb n)).length + 1) c6)) r (.slice A R.length c) (R.filter (nb n) ++ [⟨n, i, 1, bt, now, 0, st⟩])) := Lib.hid (by
        intro w6 A6 c6 hown hg hob
        obtain ⟨kw6, hb6, hr6⟩ := KSTEP.out w6 hg
        refine ⟨by rw [ST.out, BT.out, ← HUT.out]; exact .new NEW.out, ⟨⟨.slice A6 ((R.filter (nb n)).length + 1) c6, ⟨?_, ?_⟩, fun q hq => ?_⟩, ?_⟩⟩
        · have := heap_setCell_at hr6 0 (.slice A6 ((R.filter (nb n)).length + 1) c6)
          simpa using this
        · rw [List.length_append, dbCells_append]
          exact own_keepV hown ((Keep.refl (fun q => q = r) w6).setAt 0 _) (fun q hq e => by have := (hown.lt q hq).1; omega)
        · right
          rcases hob with h | h
          · exact (GNE.out q (h ▸ hq)).2.2
          · rw [h] at hq
            injection hq with hq
            have := KE.out.size
            have := KW3.out.size
            omega
        · exact ((KW3.out.mono (T := RS r (.slice A R.length c)) (fun _ h _ => .inl h)).trans kw6 (fun q hq hlt => by have := (GNE.out q hq).2.2; omega)).setCell _ _ (fun _ => .inl rfl))
      have HFL := Lib.hid hfl
      clear hfl hrl3
      generalize (R.filter (nb n)).length = ln at *
      obtain ⟨S, hSdef⟩ : ∃ S : World → Prop, S = fun W => W.cell? ⟨r, 0, none⟩ = some (.slice A' ln c') ∧ W.cell? ⟨w.heap.size, 0, none⟩ = some (.int .i64 n) ∧ W.cell? ⟨w.heap.size, 1, none⟩ = some (.int .u64 i) ∧ W.cell? ⟨w.heap.size, 2, none⟩ = some (.int .i64 1) := ⟨_, rfl⟩
      have SOF : ∀ W, S W → W.cell? ⟨r, 0, none⟩ = some (.slice A' ln c') ∧ W.cell? ⟨w.heap.size, 0, none⟩ = some (.int .i64 n) ∧ W.cell? ⟨w.heap.size, 1, none⟩ = some (.int .u64 i) ∧ W.cell? ⟨w.heap.size, 2, none⟩ = some (.int .i64 1) := fun W h => by rwa [hSdef] at h
      have S0 : S w3.drew := by rw [hSdef]; exact ⟨x3, x0, x1, x2⟩
      have x3l : r < w3.heap.size := HRF.out.lt
      have bl : w.heap.size < w3.heap.size := (Array.getElem?_eq_some_iff.1 B3.out).1
      have S1 : S (w3.alloc (.cells #[.int .i64 n, .int .u64 i, .int .i64 1, .int .u64 bt, .int .u64 now, .int .u64 0, .int .u64 st] 65)).drew := by
        rw [hSdef]
        exact ⟨(World.cell?_alloc_lt _ _ _ x3l).trans x3, (World.cell?_alloc_lt _ _ _ bl).trans x0, (World.cell?_alloc_lt _ _ _ bl).trans x1, (World.cell?_alloc_lt _ _ _ bl).trans x2⟩
      have S6 : ∀ w6 : World, w6.heap[w.heap.size]? = some (.cells #[.int .i64 n, .int .u64 i, .int .i64 1] 34 (0, 0)) → w6.heap[r]? = some (.cells #[.slice A' ln c'] 31 (0, 0)) → S w6 := fun w6 h1 h2 => by
        rw [hSdef]
        exact ⟨by simp [World.cell?, h2], by simp [World.cell?, h1], by simp [World.cell?, h1], by simp [World.cell?, h1]⟩
      clear x3l bl hSdef x0 x1 x2 x3 H HOK NOW HLE HM1 HM2 BU K1 K HI BI HZ HNO t1 K3 HFR HRF KW3 B3 ST BT KE GNE hrlt hu hk hn NEW LR bne HUT
      refine Upto.start S 20 (by kernel_rfl) ?_
      change Upto _ _ _ _ _ _ 21 _ _ _
      refine Upto.take (i := 0) (v := ?v0) rfl (by kernel_rfl) (by kernel_rfl) (by kernel_rfl) (by kernel_rfl) (fun _ _ _ h => h) S0 (Or.inl ⟨by rfl, ?hy0⟩) ?rest0
      case hy0 =>
        intro W hW
        obtain ⟨l0, l1, l2, l3⟩ := SOF W hW
        go_simp
        try with_reducible rfl
      try simp only [Act.put, List.setIfInBounds_toArray, List.set_cons_zero, List.set_cons_succ]
      refine Upto.take (i := 1) (v := ?v1) rfl (by kernel_rfl) (by kernel_rfl) (by kernel_rfl) (by kernel_rfl) (fun _ _ _ h => h) S0 (Or.inl ⟨by rfl, ?hy1⟩) ?rest1
      case hy1 =>
        intro W hW
        obtain ⟨l0, l1, l2, l3⟩ := SOF W hW
        go_simp
        try with_reducible rfl
      try simp only [Act.put, List.setIfInBounds_toArray, List.set_cons_zero, List.set_cons_succ]
      refine Upto.take (i := 2) (v := ?v2) rfl (by kernel_rfl) (by kernel_rfl) (by kernel_rfl) (by kernel_rfl) (fun _ _ _ h => h) S0 (Or.inl ⟨by rfl, ?hy2⟩) ?rest2
      case hy2 =>
        intro W hW
        obtain ⟨l0, l1, l2, l3⟩ := SOF W hW
        go_simp
        try with_reducible rfl
      try simp only [Act.put, List.setIfInBounds_toArray, List.set_cons_zero, List.set_cons_succ]
      refine Upto.take (i := 3) (v := ?v3) rfl (by kernel_rfl) (by kernel_rfl) (by kernel_rfl) (by kernel_rfl) (fun _ _ _ h => h) S0 (Or.inl ⟨by rfl, ?hy3⟩) ?rest3
      case hy3 =>
        intro W hW
        obtain ⟨l0, l1, l2, l3⟩ := SOF W hW
        go_simp
        try with_reducible rfl
      try simp only [Act.put, List.setIfInBounds_toArray, List.set_cons_zero, List.set_cons_succ]
      refine Upto.take (i := 4) (v := ?v4) rfl (by kernel_rfl) (by kernel_rfl) (by kernel_rfl) (by kernel_rfl) (fun _ _ _ h => h) S0 (Or.inl ⟨by rfl, ?hy4⟩) ?rest4
      case hy4 =>
        intro W hW
        obtain ⟨l0, l1, l2, l3⟩ := SOF W hW
        go_simp
        try with_reducible rfl
      try simp only [Act.put, List.setIfInBounds_toArray, List.set_cons_zero, List.set_cons_succ]
      refine Upto.take (i := 5) (v := ?v5) rfl (by kernel_rfl) (by kernel_rfl) (by kernel_rfl) (by kernel_rfl) (fun _ _ _ h => h) S0 (Or.inl ⟨by rfl, ?hy5⟩) ?rest5
      case hy5 =>
        intro W hW
        obtain ⟨l0, l1, l2, l3⟩ := SOF W hW
        go_simp
        try with_reducible rfl
      try simp only [Act.put, List.setIfInBounds_toArray, List.set_cons_zero, List.set_cons_succ]
      refine Upto.take (i := 6) (v := ?v6) rfl (by kernel_rfl) (by kernel_rfl) (by kernel_rfl) (by kernel_rfl) (fun _ _ _ h => h) S0 (Or.inl ⟨by rfl, ?hy6⟩) ?rest6
      case hy6 =>
        intro W hW
        obtain ⟨l0, l1, l2, l3⟩ := SOF W hW
        go_simp
        try with_reducible rfl
      try simp only [Act.put, List.setIfInBounds_toArray, List.set_cons_zero, List.set_cons_succ]
      refine Upto.take (i := 8) (v := ?v8) rfl (by kernel_rfl) (by kernel_rfl) (by kernel_rfl) (by kernel_rfl) (fun _ _ _ h => h) S0 (Or.inl ⟨by rfl, ?hy8⟩) ?rest8
      case hy8 =>
        intro W hW
        obtain ⟨l0, l1, l2, l3⟩ := SOF W hW
        go_simp
        try with_reducible rfl
      try simp only [Act.put, List.setIfInBounds_toArray, List.set_cons_zero, List.set_cons_succ]
      refine Upto.take (i := 9) (v := ?v9) rfl (by kernel_rfl) (by kernel_rfl) (by kernel_rfl) (by kernel_rfl) (fun _ _ _ h => h) S0 (Or.inl ⟨by rfl, ?hy9⟩) ?rest9
      case hy9 =>
        intro W hW
        obtain ⟨l0, l1, l2, l3⟩ := SOF W hW
        go_simp
        try with_reducible rfl
      try simp only [Act.put, List.setIfInBounds_toArray, List.set_cons_zero, List.set_cons_succ]
      refine Upto.take (i := 10) (v := ?v10) rfl (by kernel_rfl) (by kernel_rfl) (by kernel_rfl) (by kernel_rfl) (fun _ _ _ h => h) S0 (Or.inl ⟨by rfl, ?hy10⟩) ?rest10
      case hy10 =>
        intro W hW
        obtain ⟨l0, l1, l2, l3⟩ := SOF W hW
        go_simp
        try with_reducible rfl
      try simp only [Act.put, List.setIfInBounds_toArray, List.set_cons_zero, List.set_cons_succ]
      refine Upto.take (i := 11) (v := ?v11) rfl (by kernel_rfl) (by kernel_rfl) (by kernel_rfl) (by kernel_rfl) (fun _ _ _ h => h) S0 (Or.inl ⟨by rfl, ?hy11⟩) ?rest11
      case hy11 =>
        intro W hW
        obtain ⟨l0, l1, l2, l3⟩ := SOF W hW
        go_simp
        try with_reducible rfl
      try simp only [Act.put, List.setIfInBounds_toArray, List.set_cons_zero, List.set_cons_succ]
      refine Upto.one (i := 7) (by kernel_rfl) rfl (fun K hK => ?_)
      go_simp
      refine (W26.out _).mono ?_
      rintro e w5 ⟨rfl, rfl⟩
      refine hK.out _ _ (.inr S0) ?_
      clear hK K
      try simp only [Act.put, List.setIfInBounds_toArray, List.set_cons_zero, List.set_cons_succ]
      refine Upto.one (i := 12) (by kernel_rfl) rfl (fun K hK => ?_)
      go_simp
      refine (W29.out _).mono ?_
      rintro e w5 ⟨rfl, rfl⟩
      refine hK.out _ _ (.inr S0) ?_
      clear hK K
      try simp only [Act.put, List.setIfInBounds_toArray, List.set_cons_zero, List.set_cons_succ]
      refine Upto.one (i := 13) (by kernel_rfl) rfl (fun K hK => ?_)
      go_simp
      refine (W28.out _).mono ?_
      rintro e w5 ⟨rfl, rfl⟩
      refine hK.out _ _ (.inr S0) ?_
      clear hK K
      try simp only [Act.put, List.setIfInBounds_toArray, List.set_cons_zero, List.set_cons_succ]
      refine Upto.one (i := 14) (by kernel_rfl) rfl (fun K hK => ?_)
      go_simp
      refine (W27.out _).mono ?_
      rintro e w5 ⟨rfl, rfl⟩
      refine hK.out _ _ (.inr S0) ?_
      clear hK K
      try simp only [Act.put, List.setIfInBounds_toArray, List.set_cons_zero, List.set_cons_succ]
      refine Upto.take (i := 15) (v := ?v15) rfl (by kernel_rfl) (by kernel_rfl) (by kernel_rfl) (by kernel_rfl) (fun _ _ _ h => h) S0 (Or.inl ⟨by rfl, ?hy15⟩) ?rest15
      case hy15 =>
        intro W hW
        obtain ⟨l0, l1, l2, l3⟩ := SOF W hW
        go_simp
        try with_reducible rfl
      try simp only [Act.put, List.setIfInBounds_toArray, List.set_cons_zero, List.set_cons_succ]
      refine Upto.one (i := 16) (by kernel_rfl) rfl (fun K hK => ?_)
      go_simp
      refine hK.out _ _ (.inr S1) ?_
      clear hK K
      try simp only [Act.put, List.setIfInBounds_toArray, List.set_cons_zero, List.set_cons_succ]
      refine Upto.one (i := 17) (by kernel_rfl) rfl (fun K hK => ?_)
      refine step_append_own2 (by rfl) _ _ _ (by rfl) (r + 1) 65 j0 (.agg #[.int .i64 0, .int .u64 0, .int .i64 0, .int .u64 0, .int .u64 0, .int .u64 0, .int .u64 0]) 7 56 Try.underlying29 Hj.out Hy0.out Hy1.out Hy2.out rfl (by decide) (.slice A' ln c') ln (dbCells (R.filter (nb n))) (by rfl) HOd.out ⟨w3.heap.size, 0, none⟩ 1 1 (dbCells [⟨n, i, 1, bt, now, 0, st⟩]) (by rfl) (by rfl) (World.news_of_block (cs := (#[.int .i64 n, .int .u64 i, .int .i64 1, .int .u64 bt, .int .u64 now, .int .u64 0, .int .u64 st] : Array Value)) (t := 65) (fr := (0, 0)) NBK.out) (dbCells_one _) (by have := HFL.out; simp only [maxLen]; omega) (by have := HFL.out; omega) HBS.out ?_
      intro v6 w6 hown6 hg6 hob6
      obtain ⟨kw6, hb6, hr6⟩ := KSTEP.out w6 hg6
      obtain ⟨A6, c6, rfl⟩ := own_shape hown6
      have s6 := S6 w6 hb6 hr6
      have cB6 : w6.cell? ⟨r, 0, none⟩ = some (.slice A' ln c') := by simp [World.cell?, hr6]
      have fB6 : w6.frozen? ⟨r, 0, none⟩ = false := by simp [World.frozen?, hr6]
      have hX := Lib.hid (FINR.out w6 A6 c6 hown6 hg6 hob6)
      refine hK.out _ _ (.inr s6) ?_
      clear hK K hown6 hg6 hob6 kw6 hb6 hr6
      try simp only [Act.put, List.setIfInBounds_toArray, List.set_cons_zero, List.set_cons_succ]
      refine Upto.one (i := 18) (by kernel_rfl) rfl (fun K hK => ?_)
      go_simp
      refine hK.out _ _ (.inr s6) ?_
      clear hK K
      try simp only [Act.put, List.setIfInBounds_toArray, List.set_cons_zero, List.set_cons_succ]
      refine Upto.one (i := 19) (by kernel_rfl) rfl (fun K hK => ?_)
      go_simp
      refine hK.out _ _ (.inr s6) ?_
      clear hK K
      try simp only [Act.put, List.setIfInBounds_toArray, List.set_cons_zero, List.set_cons_succ]
      refine Upto.one (i := 20) (by kernel_rfl) rfl (fun K hK => ?_)
      go_simp
      refine hK.out _ _ (.inl rfl) ?_
      clear hK K
      try simp only [Act.put, List.setIfInBounds_toArray, List.set_cons_zero, List.set_cons_succ]
      refine Upto.done (by kernel_rfl) ?_
      go_wp2
      exact bodyPost_ret (v := .tuple #[.bool true, .int .i64 0]) (by simp [results, Try.results10, go_sem]) rfl ⟨true, 0, _, rfl, hX.out.1, hX.out.2⟩
end Go.Proofs.Ytojnmbpicmgcpaa
