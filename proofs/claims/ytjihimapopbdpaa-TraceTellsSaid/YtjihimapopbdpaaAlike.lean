/- The test Alike, step by step. -/
import Derived.Test.YtjihimapopbdpaaOnce
namespace Go.Proofs.Ytjihimapopbdpaa
open Go.RowKit Sh
open Go.ChangeMaps (setBlock)
set_option linter.unusedVariables false

structure Pc where
  v : Vw
  n : Int
  inn : Bool
def pcV (p : Pc) : Value := .agg #[.int .u64 p.v.id, .int .u64 p.v.mem, .int .i64 p.n, .bool p.inn]
def noPc : Pc := ⟨⟨0, 0⟩, 0, false⟩
structure ASt where
  many : Vw × Vw → Option Int
  at_ : Int → Option Pc
structure AW (s : Nat) (w : World) (σ : ASt) : Prop where
  many : IsFn wyV iV w s σ.many
  manyb : w.cell? ⟨s + 1, 0, none⟩ = some (.map (some s))
  at_ : IsFn iV pcV w (s + 2) σ.at_
  atb : w.cell? ⟨s + 3, 0, none⟩ = some (.map (some (s + 2)))
theorem AW.keep {s : Nat} {w w' : World} {σ : ASt} (h : AW s w σ) (k : Keep (fun _ => False) w w') : AW s w' σ :=
  ⟨h.many.keep k id, k.cell h.manyb, h.at_.keep k id, k.cell h.atb⟩
theorem AW.lt {s : Nat} {w : World} {σ : ASt} (h : AW s w σ) : s + 3 < w.heap.size := World.block_lt_of_cell? w _ h.atb
theorem AW.putMany {s : Nat} {w : World} {σ : ASt} (h : AW s w σ) (a : Vw × Vw) (v : Int) : ∃ w',
    (Instr.mapUpdate 74 (.map (some s)) (wyV a) (.int .i64 v)).run Try.prog w = .ok () w' ∧ AW s w' ⟨upd σ.many a v, σ.at_⟩ ∧ Keep (S2 s) w w' := by
  obtain ⟨w', h1, h2, k⟩ := h.many.put key79 Try.underlying74 a v
  exact ⟨w', h1, ⟨h2, k.cellS h.manyb (by show ¬ s + 1 = s; omega), h.at_.keep k (by show ¬ s + 2 = s; omega), k.cellS h.atb (by show ¬ s + 3 = s; omega)⟩, k.mono fun _ h _ => .inl h⟩
theorem AW.putAt {s : Nat} {w : World} {σ : ASt} (h : AW s w σ) (nd : Int) (p : Pc) : ∃ w',
    (Instr.mapUpdate 75 (.map (some (s + 2))) (.int .i64 nd) (pcV p)).run Try.prog w = .ok () w' ∧ AW s w' ⟨σ.many, upd σ.at_ nd p⟩ ∧ Keep (S2 s) w w' := by
  obtain ⟨w', h1, h2, k⟩ := h.at_.put key3 Try.underlying75 nd p
  exact ⟨w', h1, ⟨h.many.keep k (by show ¬ s = s + 2; omega), k.cellS h.manyb (by show ¬ s + 1 = s + 2; omega), h2, k.cellS h.atb (by show ¬ s + 3 = s + 2; omega)⟩, k.mono fun _ h _ => .inr h⟩
theorem AW.remAt {s : Nat} {w : World} {σ : ASt} (h : AW s w σ) (nd : Int) : ∃ w',
    (Builtin.delete_ #[75, 3] 0 #[.map (some (s + 2)), .int .i64 nd]).run Try.prog w = .ok (.tuple #[]) w' ∧ AW s w' ⟨σ.many, del σ.at_ nd⟩ ∧ Keep (S2 s) w w' := by
  obtain ⟨w', h1, h2, k⟩ := h.at_.rem key3 Try.underlying75 nd 3 0
  exact ⟨w', h1, ⟨h.many.keep k (by show ¬ s = s + 2; omega), k.cellS h.manyb (by show ¬ s + 1 = s + 2; omega), h2, k.cellS h.atb (by show ¬ s + 3 = s + 2; omega)⟩, k.mono fun _ h _ => .inr h⟩
theorem look_75 {w : World} {B : Nat} {m : Int → Option Pc} (h : IsFn iV pcV w B m) (a : Int) : (Instr.lookup 75 (.map (some B)) (.int .i64 a) false).run Try.prog w = .ok (pcV ((m a).getD noPc)) w := by
  have := h.look key3 Try.underlying75 (z := pcV noPc) (by go_simp; rfl) a false
  rw [show (pcV ((m a).getD noPc) : Value) = ((m a).map pcV).getD (pcV noPc) by cases m a <;> rfl]
  exact this
theorem look_74 {w : World} {B : Nat} {m : Vw × Vw → Option Int} (h : IsFn wyV iV w B m) (a : Vw × Vw) : (Instr.lookup 74 (.map (some B)) (wyV a) true).run Try.prog w = .ok (.tuple #[.int .i64 ((m a).getD 0), .bool (m a).isSome]) w := by
  have := h.look key79 Try.underlying74 (z := .int .i64 0) (by go_simp) a true
  rw [show (.int .i64 ((m a).getD 0) : Value) = ((m a).map iV).getD (.int .i64 0) by cases m a <;> rfl]
  exact this

def astep (σ : ASt) (e : Ent) : Int × ASt :=
  if e.out then (0, ⟨σ.many, del σ.at_ e.node⟩)
  else if e.dlv then (0, ⟨σ.many, upd σ.at_ e.node ⟨((σ.at_ e.node).getD noPc).v, wrap64 (((σ.at_ e.node).getD noPc).n + 1), ((σ.at_ e.node).getD noPc).inn⟩⟩)
  else if !e.inst then (0, σ)
  else if !((σ.at_ e.node).getD noPc).inn then (0, ⟨σ.many, upd σ.at_ e.node ⟨e.v, 0, true⟩⟩)
  else if (σ.many (((σ.at_ e.node).getD noPc).v, e.v)).isSome && ((σ.many (((σ.at_ e.node).getD noPc).v, e.v)).getD 0 != ((σ.at_ e.node).getD noPc).n) then (5, σ)
  else (0, ⟨upd σ.many (((σ.at_ e.node).getD noPc).v, e.v) ((σ.at_ e.node).getD noPc).n, upd σ.at_ e.node ⟨e.v, 0, true⟩⟩)

theorem pc_cells {w : World} {b : Nat} {i m n : Int} {t : Bool} {fr : Nat × Nat} (h : w.heap[b]? = some (.cells #[.int .u64 i, .int .u64 m, .int .i64 n, .bool t] 77 fr)) :
    w.cell? ⟨b, 0, none⟩ = some (.int .u64 i) ∧ w.cell? ⟨b, 1, none⟩ = some (.int .u64 m) ∧ w.cell? ⟨b, 2, none⟩ = some (.int .i64 n) ∧ w.cell? ⟨b, 3, none⟩ = some (.bool t) := by
  simp [World.cell?, h]

set_option maxRecDepth 100000 in
set_option maxHeartbeats 1000000 in
theorem astep_any {s : Nat} {w : World} {σ : ASt} (h : AW s w σ) (e : Ent) :
    Calls Try.prog 33 #[entV e, .pointer (some ⟨s + 3, 0, none⟩), .pointer (some ⟨s + 1, 0, none⟩)] w fun r w' => r = .returned (.int .i64 (astep σ e).1) ∧ ((astep σ e).1 = 0 → AW s w' (astep σ e).2) ∧ Keep (S2 s) w w' := by
  have H := Lib.hid h
  have HL := h.lt
  clear h
  obtain ⟨nd, st, kd, eid, mem, n, snd, num, text⟩ := e
  have HI := Lib.hid (fun w => inst_any ⟨nd, st, kd, eid, mem, n, snd, num, text⟩ w)
  have HO := Lib.hid (fun w => out_any ⟨nd, st, kd, eid, mem, n, snd, num, text⟩ w)
  have HD := Lib.hid (fun w => dlv_any ⟨nd, st, kd, eid, mem, n, snd, num, text⟩ w)
  obtain ⟨res, hv⟩ : ∃ r, astep σ ⟨nd, st, kd, eid, mem, n, snd, num, text⟩ = r := ⟨_, rfl⟩
  rw [hv]
  obtain ⟨pp, hpp⟩ : ∃ p, (σ.at_ nd).getD noPc = p := ⟨_, rfl⟩
  simp only [astep, hpp] at hv
  have HV := Lib.hid hv
  clear hv
  have hb : w.heap.size < w.heap.size + 1 := by omega
  simp only [entV, entA] at HI HO HD ⊢
  have kx := (Keep.refl (fun _ => False) w).alloc (.cells #[.int .i64 nd, .bool st, .int .i64 kd, .int .u64 eid, .int .u64 mem, .int .u64 n, .int .i64 snd, .int .u64 num, .string text] 42)
  have hl := look_75 (H.out.keep kx).at_ nd
  have ax := (H.out.keep kx).atb
  rw [hpp] at hl
  obtain ⟨⟨pid, pmem⟩, pn, pin⟩ := pp
  simp only [pcV] at hl
  have K0 := Lib.hid (kx.alloc (.cells #[.int .u64 pid, .int .u64 pmem, .int .i64 pn, .bool pin] 77))
  clear kx
  go_enter Try.func33, Try.ntmps33
  go_wp2_with fail
  refine (HO.out _).mono ?_
  rintro r w1 ⟨rfl, hk1⟩
  clear hl ax
  have bx := hk1.old (((Keep.refl (fun _ => False) _).alloc _).old (heap_alloc_new w (.cells #[.int .i64 nd, .bool st, .int .i64 kd, .int .u64 eid, .int .u64 mem, .int .u64 n, .int .i64 snd, .int .u64 num, .string text] 42)) (fun h => h)) (fun h => h)
  have bp := hk1.old (heap_alloc_new (w.alloc (.cells #[.int .i64 nd, .bool st, .int .i64 kd, .int .u64 eid, .int .u64 mem, .int .u64 n, .int .i64 snd, .int .u64 num, .string text] 42)) (.cells #[.int .u64 pid, .int .u64 pmem, .int .i64 pn, .bool pin] 77)) (fun h => h)
  rw [show (w.alloc (.cells #[.int .i64 nd, .bool st, .int .i64 kd, .int .u64 eid, .int .u64 mem, .int .u64 n, .int .i64 snd, .int .u64 num, .string text] 42)).heap.size = w.heap.size + 1 by simp] at bp
  have BX := Lib.hid bx
  have BP := Lib.hid bp
  have K1 := Lib.hid (K0.out.step hk1)
  obtain ⟨c0, c1, c2, c3, c4, c5, c6, c7, c8⟩ := ent_cells bx
  clear hk1 bx bp K0
  cases ho : Ent.out ⟨nd, st, kd, eid, mem, n, snd, num, text⟩
  · have hv := HV.out
    simp only [ho, Bool.false_eq_true, if_false] at hv
    clear HO HV
    have HV := Lib.hid hv
    clear hv
    go_wp2_with fail
    refine (HD.out _).mono ?_
    rintro r w2 ⟨rfl, hk2⟩
    have bx := hk2.old BX.out (fun h => h)
    have bp := hk2.old BP.out (fun h => h)
    have K2 := Lib.hid (K1.out.step hk2)
    clear c0 c1 c2 c3 c4 c5 c6 c7 c8 BX BP K1 hk2
    have BX := Lib.hid bx
    have BP := Lib.hid bp
    obtain ⟨c0, c1, c2, c3, c4, c5, c6, c7, c8⟩ := ent_cells bx
    obtain ⟨p0, p1, p2, p3⟩ := pc_cells bp
    have fr : w2.frozen? ⟨w.heap.size + 1, 2, none⟩ = false := by simp [World.frozen?, bp]
    clear bx bp
    cases hd : Ent.dlv ⟨nd, st, kd, eid, mem, n, snd, num, text⟩
    · have hv := HV.out
      simp only [hd, Bool.false_eq_true, if_false] at hv
      clear HD HV
      have HV := Lib.hid hv
      clear hv
      go_wp2_with fail
      refine (HI.out _).mono ?_
      rintro r w3 ⟨rfl, hk3⟩
      have bx := hk3.old BX.out (fun h => h)
      have bp := hk3.old BP.out (fun h => h)
      have K3 := Lib.hid (K2.out.step hk3)
      clear c0 c1 c2 c3 c4 c5 c6 c7 c8 BX BP K2 hk3 p0 p1 p2 p3 fr
      have BX := Lib.hid bx
      have BP := Lib.hid bp
      obtain ⟨c0, c1, c2, c3, c4, c5, c6, c7, c8⟩ := ent_cells bx
      clear bx bp
      cases hi : Ent.inst ⟨nd, st, kd, eid, mem, n, snd, num, text⟩
      · have hv := HV.out
        simp only [hi, Bool.not_false, if_true] at hv
        clear HI HV
        have HV := Lib.hid hv
        clear hv
        go_wp2
        go_ret
        rw [← HV.out]
        exact ⟨rfl, fun _ => H.out.keep K3.out, S2_of K3.out⟩
      · have hv := HV.out
        simp only [hi, Bool.not_true, Bool.false_eq_true, if_false, Ent.v] at hv
        clear HI HV
        have HV := Lib.hid hv
        clear hv
        have h3 := H.out.keep K3.out
        have a3 := h3.atb
        obtain ⟨w4, hr4, h4, k4⟩ := h3.putAt nd ⟨⟨eid, mem⟩, 0, true⟩
        simp only [pcV] at hr4
        have H4 := Lib.hid h4
        have K4 := Lib.hid ((S2_of K3.out).step k4)
        obtain ⟨d0, d1, d2, d3, d4, d5, d6, d7, d8⟩ := ent_cells (k4.old BX.out (by show ¬ (w.heap.size = s ∨ w.heap.size = s + 2); omega))
        have bp4 := k4.old BP.out (by show ¬ (w.heap.size + 1 = s ∨ w.heap.size + 1 = s + 2); omega)
        obtain ⟨p0, p1, p2, p3⟩ := pc_cells bp4
        have BP4 := Lib.hid bp4
        clear h3 h4 k4 bp4
        cases pin
        · have hv := HV.out
          simp only [Bool.not_false, if_true] at hv
          clear HV
          have HV := Lib.hid hv
          clear hv
          go_wp2
          go_ret
          rw [← HV.out]
          exact ⟨rfl, fun _ => H4.out, K4.out⟩
        · have hv := HV.out
          simp only [Bool.not_true, Bool.false_eq_true, if_false] at hv
          clear HV
          have HV := Lib.hid hv
          clear hv
          go_upto_region 14 with fail
          go_cut [6] (fun v wx => v = .pointer (some ⟨w4.heap.size, 0, none⟩) ∧ Keep (fun _ => False) w4 wx ∧ wx.heap[w4.heap.size]? = some (.cells #[.int .u64 pid, .int .u64 pmem, .int .u64 eid, .int .u64 mem] 79 (0, 0)))
          case first =>
            go_wp2_with fail
            go_meet
            exact ⟨rfl, (Keep.refl _ w4).alloc _, heap_alloc_new w4 _⟩
          case rest =>
          obtain ⟨rfl, kc, bk⟩ := hcut
          obtain ⟨w6, hw6⟩ : ∃ w6, w6 = wc := ⟨_, rfl⟩
          rw [← hw6] at kc bk ⊢
          clear hw6 c0 c1 c2 c3 c4 c5 c6 c7 c8 d0 d1 d2 d3 d4 d5 d6 d7 d8 p0 p1 p2 p3 a3 hr4
          obtain ⟨p0, p1, p2, p3⟩ := pc_cells (kc.old BP4.out (fun h => h))
          have k0 : w6.cell? ⟨w4.heap.size, 0, none⟩ = some (.int .u64 pid) := by simp [World.cell?, bk]
          have k1 : w6.cell? ⟨w4.heap.size, 1, none⟩ = some (.int .u64 pmem) := by simp [World.cell?, bk]
          have k2 : w6.cell? ⟨w4.heap.size, 2, none⟩ = some (.int .u64 eid) := by simp [World.cell?, bk]
          have k3 : w6.cell? ⟨w4.heap.size, 3, none⟩ = some (.int .u64 mem) := by simp [World.cell?, bk]
          have K6 := Lib.hid (K4.out.step (S2_of kc))
          have h6 := H4.out.keep kc
          have a6 := h6.manyb
          have hl := look_74 h6.many (⟨pid, pmem⟩, ⟨eid, mem⟩)
          simp only [wyV] at hl
          obtain ⟨w7, hr7, h7, k7⟩ := h6.putMany (⟨pid, pmem⟩, ⟨eid, mem⟩) pn
          simp only [wyV] at hr7
          have H7 := Lib.hid h7
          have K7 := Lib.hid (K6.out.step k7)
          clear h6 kc bk h7 k7
          obtain ⟨lv, hlv⟩ : ∃ r, (σ.many (⟨pid, pmem⟩, ⟨eid, mem⟩)).getD 0 = r := ⟨_, rfl⟩
          obtain ⟨li, hli⟩ : ∃ r, (σ.many (⟨pid, pmem⟩, ⟨eid, mem⟩)).isSome = r := ⟨_, rfl⟩
          rw [hlv, hli] at hl
          have hv := HV.out
          simp only [hlv, hli] at hv
          clear HV hlv hli
          have HV := Lib.hid hv
          clear hv
          cases li
          · have hv := HV.out
            simp only [Bool.false_and, Bool.false_eq_true, if_false] at hv
            clear HV
            have HV := Lib.hid hv
            clear hv
            go_wp2
            go_ret
            rw [← HV.out]
            exact ⟨rfl, fun _ => H7.out, K7.out⟩
          · cases q : (lv != pn)
            · have q1 : (lv == pn) = true := by simpa using q
              have hv := HV.out
              simp only [q, Bool.and_false, Bool.false_eq_true, if_false] at hv
              clear HV
              have HV := Lib.hid hv
              clear hv
              go_wp2
              go_ret
              rw [← HV.out]
              exact ⟨rfl, fun _ => H7.out, K7.out⟩
            · have q1 : (lv == pn) = false := by simpa using q
              have hv := HV.out
              simp only [q, Bool.and_true, if_true] at hv
              clear HV
              have HV := Lib.hid hv
              clear hv
              go_wp2
              go_ret
              rw [← HV.out]
              exact ⟨rfl, fun h => by simp at h, K6.out⟩
    · have hv := HV.out
      simp only [hd, if_true] at hv
      clear HD HV
      have HV := Lib.hid hv
      clear hv
      go_upto_region 6 with fail
      go_cut [] (fun wx => Keep (fun k => k = w.heap.size + 1) w2 wx ∧ wx.heap[w.heap.size + 1]? = some (.cells #[.int .u64 pid, .int .u64 pmem, .int .i64 (wrap64 (pn + 1)), .bool pin] 77 (0, 0)))
      case first =>
        go_wp2_with fail
        go_meet
        exact ⟨(Keep.refl _ w2).setCell _ _ (fun _ => rfl), heap_setCell_at BP.out 2 _⟩
      case rest =>
      obtain ⟨kc, bp⟩ := hcut
      obtain ⟨w3, hw3⟩ : ∃ w3, w3 = wc := ⟨_, rfl⟩
      rw [← hw3] at kc bp ⊢
      clear hw3 c0 c1 c2 c3 c4 c5 c6 c7 c8 p0 p1 p2 p3 fr
      obtain ⟨p0, p1, p2, p3⟩ := pc_cells bp
      obtain ⟨c0, c1, c2, c3, c4, c5, c6, c7, c8⟩ := ent_cells (kc.old BX.out (by show ¬ w.heap.size = w.heap.size + 1; omega))
      have K3 : Hid (Keep (fun _ => False) w w3) := Lib.hid (K2.out.trans kc (fun i hi hl => by omega))
      have h3 := H.out.keep K3.out
      have a3 := h3.atb
      obtain ⟨w4, hr4, h4, k4⟩ := h3.putAt nd ⟨⟨pid, pmem⟩, wrap64 (pn + 1), pin⟩
      simp only [pcV] at hr4
      have H4 := Lib.hid h4
      have K4 := Lib.hid ((S2_of K3.out).step k4)
      clear h3 h4 k4 kc bp
      go_wp2
      go_ret
      rw [← HV.out]
      exact ⟨rfl, fun _ => H4.out, K4.out⟩
  · have hv := HV.out
    simp only [ho, if_true] at hv
    clear HO HV
    have HV := Lib.hid hv
    clear hv
    have h1 := H.out.keep K1.out
    have a1 := h1.atb
    obtain ⟨w2, hr2, h2, k2⟩ := h1.remAt nd
    have H2 := Lib.hid h2
    have K2 := Lib.hid ((S2_of K1.out).step k2)
    clear h1 h2 k2
    go_wp2
    go_ret
    rw [← HV.out]
    exact ⟨rfl, fun _ => H2.out, K2.out⟩

end Go.Proofs.Ytjihimapopbdpaa
