/- The test Once, step by step. -/
import Derived.Test.YtjihimapopbdpaaOrder
namespace Go.Proofs.Ytjihimapopbdpaa
open Go.RowKit Sh
open Go.ChangeMaps (setBlock)
set_option linter.unusedVariables false

def bV (b : Bool) : Value := .bool b
structure TSt where
  sent : Int × Mg → Option Bool
  last : Int × Int × Int → Option Int
  runs : Int → Option Int
structure TW (s : Nat) (w : World) (σ : TSt) : Prop where
  sent : IsFn wdV bV w s σ.sent
  sentb : w.cell? ⟨s + 1, 0, none⟩ = some (.map (some s))
  last : IsFn prV uV w (s + 2) σ.last
  lastb : w.cell? ⟨s + 3, 0, none⟩ = some (.map (some (s + 2)))
  runs : IsFn iV iV w (s + 4) σ.runs
  runsb : w.cell? ⟨s + 5, 0, none⟩ = some (.map (some (s + 4)))
theorem TW.keep {s : Nat} {w w' : World} {σ : TSt} (h : TW s w σ) (k : Keep (fun _ => False) w w') : TW s w' σ :=
  ⟨h.sent.keep k id, k.cell h.sentb, h.last.keep k id, k.cell h.lastb, h.runs.keep k id, k.cell h.runsb⟩
theorem TW.lt {s : Nat} {w : World} {σ : TSt} (h : TW s w σ) : s + 5 < w.heap.size := World.block_lt_of_cell? w _ h.runsb
abbrev S3 (s : Nat) : Nat → Prop := fun k => k = s ∨ k = s + 2 ∨ k = s + 4
theorem S3_of {s : Nat} {w w' : World} (k : Keep (fun _ => False) w w') : Keep (S3 s) w w' := k.mono fun _ h _ => absurd h id
theorem TW.putSent {s : Nat} {w : World} {σ : TSt} (h : TW s w σ) (a : Int × Mg) : ∃ w',
    (Instr.mapUpdate 67 (.map (some s)) (wdV a) (.bool true)).run Try.prog w = .ok () w' ∧ TW s w' ⟨upd σ.sent a true, σ.last, σ.runs⟩ ∧ Keep (S3 s) w w' := by
  obtain ⟨w', h1, h2, k⟩ := h.sent.put key71 Try.underlying67 a true
  exact ⟨w', h1, ⟨h2, k.cellS h.sentb (by show ¬ s + 1 = s; omega), h.last.keep k (by show ¬ s + 2 = s; omega), k.cellS h.lastb (by show ¬ s + 3 = s; omega), h.runs.keep k (by show ¬ s + 4 = s; omega), k.cellS h.runsb (by show ¬ s + 5 = s; omega)⟩, k.mono fun _ h _ => .inl h⟩
theorem TW.putLast {s : Nat} {w : World} {σ : TSt} (h : TW s w σ) (a : Int × Int × Int) (v : Int) : ∃ w',
    (Instr.mapUpdate 68 (.map (some (s + 2))) (prV a) (.int .u64 v)).run Try.prog w = .ok () w' ∧ TW s w' ⟨σ.sent, upd σ.last a v, σ.runs⟩ ∧ Keep (S3 s) w w' := by
  obtain ⟨w', h1, h2, k⟩ := h.last.put key73 Try.underlying68 a v
  exact ⟨w', h1, ⟨h.sent.keep k (by show ¬ s = s + 2; omega), k.cellS h.sentb (by show ¬ s + 1 = s + 2; omega), h2, k.cellS h.lastb (by show ¬ s + 3 = s + 2; omega), h.runs.keep k (by show ¬ s + 4 = s + 2; omega), k.cellS h.runsb (by show ¬ s + 5 = s + 2; omega)⟩, k.mono fun _ h _ => .inr (.inl h)⟩
theorem TW.putRuns {s : Nat} {w : World} {σ : TSt} (h : TW s w σ) (a v : Int) : ∃ w',
    (Instr.mapUpdate 69 (.map (some (s + 4))) (.int .i64 a) (.int .i64 v)).run Try.prog w = .ok () w' ∧ TW s w' ⟨σ.sent, σ.last, upd σ.runs a v⟩ ∧ Keep (S3 s) w w' := by
  obtain ⟨w', h1, h2, k⟩ := h.runs.put key3 Try.underlying69 a v
  exact ⟨w', h1, ⟨h.sent.keep k (by show ¬ s = s + 4; omega), k.cellS h.sentb (by show ¬ s + 1 = s + 4; omega), h.last.keep k (by show ¬ s + 2 = s + 4; omega), k.cellS h.lastb (by show ¬ s + 3 = s + 4; omega), h2, k.cellS h.runsb (by show ¬ s + 5 = s + 4; omega)⟩, k.mono fun _ h _ => .inr (.inr h)⟩

theorem look_67 {w : World} {B : Nat} {m : Int × Mg → Option Bool} (h : IsFn wdV bV w B m) (a : Int × Mg) : (Instr.lookup 67 (.map (some B)) (wdV a) false).run Try.prog w = .ok (.bool ((m a).getD false)) w := by
  have := h.look key71 Try.underlying67 (z := .bool false) (by go_simp) a false
  rw [show (.bool ((m a).getD false) : Value) = ((m a).map bV).getD (.bool false) by cases m a <;> rfl]
  exact this
theorem look_68 {w : World} {B : Nat} {m : Int × Int × Int → Option Int} (h : IsFn prV uV w B m) (a : Int × Int × Int) : (Instr.lookup 68 (.map (some B)) (prV a) true).run Try.prog w = .ok (.tuple #[.int .u64 ((m a).getD 0), .bool (m a).isSome]) w := by
  have := h.look key73 Try.underlying68 (z := .int .u64 0) (by go_simp) a true
  rw [show (.int .u64 ((m a).getD 0) : Value) = ((m a).map uV).getD (.int .u64 0) by cases m a <;> rfl]
  exact this
theorem look_69 {w : World} {B : Nat} {m : Int → Option Int} (h : IsFn iV iV w B m) (a : Int) : (Instr.lookup 69 (.map (some B)) (.int .i64 a) false).run Try.prog w = .ok (.int .i64 ((m a).getD 0)) w := by
  have := h.look key3 Try.underlying69 (z := .int .i64 0) (by go_simp) a false
  rw [show (.int .i64 ((m a).getD 0) : Value) = ((m a).map iV).getD (.int .i64 0) by cases m a <;> rfl]
  exact this

def nkey (σ : TSt) (e : Ent) : Int × Int × Int := (e.node, (σ.runs e.node).getD 0, e.snd)
def nstep (σ : TSt) (e : Ent) : Int × TSt :=
  if e.sent then (0, ⟨upd σ.sent (e.node, e.m) true, σ.last, σ.runs⟩)
  else if e.out then (0, ⟨σ.sent, σ.last, upd σ.runs e.node (wrap64 ((σ.runs e.node).getD 0 + 1))⟩)
  else if !e.dlv then (0, σ)
  else if !((σ.sent (e.snd, e.m)).getD false) || !hasP e.mem e.snd then (3, σ)
  else if (σ.last (nkey σ e)).isSome && decide (e.num ≤ (σ.last (nkey σ e)).getD 0) then (4, σ)
  else (0, ⟨σ.sent, upd σ.last (nkey σ e) e.num, σ.runs⟩)

theorem mg_cells {w : World} {b : Nat} {snd num : Int} {text : ByteArray} {fr : Nat × Nat} (h : w.heap[b]? = some (.cells #[.int .i64 snd, .int .u64 num, .string text] 38 fr)) :
    w.cell? ⟨b, 0, none⟩ = some (.int .i64 snd) ∧ w.cell? ⟨b, 1, none⟩ = some (.int .u64 num) ∧ w.cell? ⟨b, 2, none⟩ = some (.string text) := by
  simp [World.cell?, h]

set_option maxRecDepth 100000 in
set_option maxHeartbeats 1000000 in
theorem nstep_any {s : Nat} {w : World} {σ : TSt} (h : TW s w σ) (e : Ent) :
    Calls Try.prog 31 #[entV e, .pointer (some ⟨s + 1, 0, none⟩), .pointer (some ⟨s + 5, 0, none⟩), .pointer (some ⟨s + 3, 0, none⟩)] w fun r w' => r = .returned (.int .i64 (nstep σ e).1) ∧ ((nstep σ e).1 = 0 → TW s w' (nstep σ e).2) ∧ Keep (S3 s) w w' := by
  have H := Lib.hid h
  have HL := h.lt
  clear h
  obtain ⟨nd, st, kd, eid, mem, n, snd, num, text⟩ := e
  have HO := Lib.hid (fun w => out_any ⟨nd, st, kd, eid, mem, n, snd, num, text⟩ w)
  have HD := Lib.hid (fun w => dlv_any ⟨nd, st, kd, eid, mem, n, snd, num, text⟩ w)
  obtain ⟨res, hv⟩ : ∃ r, nstep σ ⟨nd, st, kd, eid, mem, n, snd, num, text⟩ = r := ⟨_, rfl⟩
  rw [hv]
  have HV := Lib.hid hv
  clear hv
  simp only [entV, entA] at HO HD ⊢
  have k0 : Keep (fun _ => False) w ((w.alloc (.cells #[.int .i64 nd, .bool st, .int .i64 kd, .int .u64 eid, .int .u64 mem, .int .u64 n, .int .i64 snd, .int .u64 num, .string text] 42)).alloc (.cells #[.int .i64 snd, .int .u64 num, .string text] 38)) := ((Keep.refl _ w).alloc _).alloc _
  have h0 := H.out.keep k0
  cases st
  · have hv := HV.out
    simp only [nstep, Bool.false_eq_true, if_false] at hv
    clear HV
    have HV := Lib.hid hv
    clear hv h0
    have K0 := Lib.hid k0
    clear k0
    go_enter Try.func31, Try.ntmps31
    go_wp2_with fail
    refine (HO.out _).mono ?_
    rintro r w1 ⟨rfl, hk1⟩
    have bx := hk1.old (((Keep.refl (fun _ => False) _).alloc _).old (heap_alloc_new w (.cells #[.int .i64 nd, .bool false, .int .i64 kd, .int .u64 eid, .int .u64 mem, .int .u64 n, .int .i64 snd, .int .u64 num, .string text] 42)) (fun h => h)) (fun h => h)
    have bm := hk1.old (heap_alloc_new (w.alloc (.cells #[.int .i64 nd, .bool false, .int .i64 kd, .int .u64 eid, .int .u64 mem, .int .u64 n, .int .i64 snd, .int .u64 num, .string text] 42)) (.cells #[.int .i64 snd, .int .u64 num, .string text] 38)) (fun h => h)
    rw [show (w.alloc (.cells #[.int .i64 nd, .bool false, .int .i64 kd, .int .u64 eid, .int .u64 mem, .int .u64 n, .int .i64 snd, .int .u64 num, .string text] 42)).heap.size = w.heap.size + 1 by simp] at bm
    have BX := Lib.hid bx
    have BM := Lib.hid bm
    have K1 := Lib.hid (K0.out.step hk1)
    obtain ⟨c0, c1, c2, c3, c4, c5, c6, c7, c8⟩ := ent_cells bx
    clear hk1 bx bm K0
    cases ho : Ent.out ⟨nd, false, kd, eid, mem, n, snd, num, text⟩
    · have hv := HV.out
      simp only [ho, Bool.false_eq_true, if_false] at hv
      clear HO HV
      have HV := Lib.hid hv
      clear hv
      go_wp2_with fail
      refine (HD.out _).mono ?_
      rintro r w2 ⟨rfl, hk2⟩
      have bx := hk2.old BX.out (fun h => h)
      have bm := hk2.old BM.out (fun h => h)
      have K2 := Lib.hid (K1.out.step hk2)
      clear c0 c1 c2 c3 c4 c5 c6 c7 c8 BX BM K1 hk2
      have BX := Lib.hid bx
      have BM := Lib.hid bm
      obtain ⟨c0, c1, c2, c3, c4, c5, c6, c7, c8⟩ := ent_cells bx
      clear bx bm
      cases hd : Ent.dlv ⟨nd, false, kd, eid, mem, n, snd, num, text⟩
      · have hv := HV.out
        simp only [hd, Bool.not_false, if_true] at hv
        clear HD HV
        have HV := Lib.hid hv
        clear hv
        go_wp2
        go_ret
        rw [← HV.out]
        exact ⟨rfl, fun _ => H.out.keep K2.out, S3_of K2.out⟩
      · have hv := HV.out
        simp only [hd, Bool.not_true, Bool.false_eq_true, if_false, nkey] at hv
        clear HD HV
        have HV := Lib.hid hv
        clear hv
        obtain ⟨m0, m1, m2⟩ := mg_cells BM.out
        have h2 := H.out.keep K2.out
        have a1 := h2.sentb
        have a2 := h2.runsb
        have a3 := h2.lastb
        have hl := look_67 h2.sent (snd, ⟨snd, num, text⟩)
        simp only [wdV] at hl
        clear h2
        have hv := HV.out
        simp only [Ent.m] at hv
        clear HV
        have HV := Lib.hid hv
        clear hv
        obtain ⟨is, his⟩ : ∃ b, (σ.sent (snd, ⟨snd, num, text⟩)).getD false = b := ⟨_, rfl⟩
        have hv := HV.out
        simp only [his] at hv hl
        clear HV
        have HV := Lib.hid hv
        clear hv his
        cases is
        · have hv := HV.out
          simp only [Bool.not_false, Bool.true_or, if_true] at hv
          clear HV
          have HV := Lib.hid hv
          clear hv
          go_wp2
          go_ret
          rw [← HV.out]
          exact ⟨rfl, fun h => by simp at h, S3_of K2.out⟩
        · go_wp2_with fail
          refine (has_any mem snd _).mono ?_
          rintro r w' ⟨rfl, hw⟩
          rw [hw]
          clear hw w'
          cases hh : hasP mem snd
          · have hv := HV.out
            simp only [hh, Bool.not_true, Bool.not_false, Bool.or_true, if_true] at hv
            clear HV
            have HV := Lib.hid hv
            clear hv hh
            go_wp2
            go_ret
            rw [← HV.out]
            exact ⟨rfl, fun h => by simp at h, S3_of K2.out⟩
          · have hv := HV.out
            simp only [hh, Bool.not_true, Bool.or_false, Bool.false_eq_true, if_false] at hv
            clear HV
            have HV := Lib.hid hv
            clear hv hh hl
            have h2 := H.out.keep K2.out
            have hl2 := look_69 h2.runs nd
            clear h2
            obtain ⟨rn, hrn⟩ : ∃ r, (σ.runs nd).getD 0 = r := ⟨_, rfl⟩
            rw [hrn] at hl2
            have hv := HV.out
            simp only [hrn] at hv
            clear HV hrn
            have HV := Lib.hid hv
            clear hv
            go_upto_region 12 with fail
            go_cut [7] (fun v wx => v = .pointer (some ⟨w2.heap.size, 0, none⟩) ∧ Keep (fun _ => False) w2 wx ∧ wx.heap[w2.heap.size]? = some (.cells #[.int .i64 nd, .int .i64 rn, .int .i64 snd] 73 (0, 0)))
            case first =>
              go_wp2_with fail
              go_meet
              exact ⟨rfl, (Keep.refl _ w2).alloc _, heap_alloc_new w2 _⟩
            case rest =>
            obtain ⟨rfl, kc, bk⟩ := hcut
            obtain ⟨w6, hw6⟩ : ∃ w6, w6 = wc := ⟨_, rfl⟩
            rw [← hw6] at kc bk ⊢
            clear hw6 c0 c1 c2 c3 c4 c5 c6 c7 c8 m0 m1 m2 a1 a2 a3 hl2
            obtain ⟨m0, m1, m2⟩ := mg_cells (kc.old BM.out (fun h => h))
            have k0 : w6.cell? ⟨w2.heap.size, 0, none⟩ = some (.int .i64 nd) := by simp [World.cell?, bk]
            have k1 : w6.cell? ⟨w2.heap.size, 1, none⟩ = some (.int .i64 rn) := by simp [World.cell?, bk]
            have k2 : w6.cell? ⟨w2.heap.size, 2, none⟩ = some (.int .i64 snd) := by simp [World.cell?, bk]
            have K6 := Lib.hid (K2.out.step kc)
            have h6 := H.out.keep K6.out
            have a3 := h6.lastb
            have hl := look_68 h6.last (nd, rn, snd)
            simp only [prV] at hl
            obtain ⟨w7, hr7, h7, k7⟩ := h6.putLast (nd, rn, snd) num
            simp only [prV] at hr7
            have H7 := Lib.hid h7
            have K7 := Lib.hid ((S3_of K6.out).step k7)
            clear h6 kc bk h7 k7
            obtain ⟨lv, hlv⟩ : ∃ r, (σ.last (nd, rn, snd)).getD 0 = r := ⟨_, rfl⟩
            obtain ⟨li, hli⟩ : ∃ r, (σ.last (nd, rn, snd)).isSome = r := ⟨_, rfl⟩
            rw [hlv, hli] at hl
            have hv := HV.out
            simp only [hlv, hli] at hv
            clear HV hlv hli
            have HV := Lib.hid hv
            clear hv
            cases li
            · have hv := HV.out
              simp only [Bool.false_and, Bool.false_eq_true, if_false] at hv
              clear HV
              have HV := Lib.hid hv
              clear hv
              go_wp2
              go_ret
              rw [← HV.out]
              exact ⟨rfl, fun _ => H7.out, K7.out⟩
            · by_cases q : num ≤ lv
              · have q1 : decide (num ≤ lv) = true := decide_eq_true q
                have hv := HV.out
                simp only [q1, Bool.and_true, if_true] at hv
                clear HV
                have HV := Lib.hid hv
                clear hv
                go_wp2
                go_ret
                rw [← HV.out]
                exact ⟨rfl, fun h => by simp at h, S3_of K6.out⟩
              · have q1 : decide (num ≤ lv) = false := decide_eq_false q
                have hv := HV.out
                simp only [q1, Bool.and_false, Bool.false_eq_true, if_false] at hv
                clear HV
                have HV := Lib.hid hv
                clear hv
                go_wp2
                go_ret
                rw [← HV.out]
                exact ⟨rfl, fun _ => H7.out, K7.out⟩
    · have hv := HV.out
      simp only [ho, if_true] at hv
      clear HO HV
      have HV := Lib.hid hv
      clear hv
      have h1 := H.out.keep K1.out
      have a1 := h1.runsb
      have hl := look_69 h1.runs nd
      obtain ⟨w2, hr2, h2, k2⟩ := h1.putRuns nd (wrap64 ((σ.runs nd).getD 0 + 1))
      have H2 := Lib.hid h2
      have K2 := Lib.hid ((S3_of K1.out).step k2)
      clear h1 h2 k2
      go_wp2
      go_ret
      rw [← HV.out]
      exact ⟨rfl, fun _ => H2.out, K2.out⟩
  · have hv := HV.out
    simp only [nstep, if_true] at hv
    clear HV
    have HV := Lib.hid hv
    clear hv
    have a1 := h0.sentb
    obtain ⟨w2, hr2, h2, k2⟩ := h0.putSent (nd, ⟨snd, num, text⟩)
    simp only [wdV] at hr2
    have H2 := Lib.hid h2
    have K2 := Lib.hid ((S3_of k0).step k2)
    clear h0 h2 k2 k0
    go_enter Try.func31, Try.ntmps31
    go_wp2
    go_ret
    rw [← HV.out]
    exact ⟨rfl, fun _ => H2.out, K2.out⟩

end Go.Proofs.Ytjihimapopbdpaa
