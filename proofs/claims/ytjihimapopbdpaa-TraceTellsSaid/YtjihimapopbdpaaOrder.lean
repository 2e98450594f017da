/- The test Order, step by step. -/
import Derived.Test.YtjihimapopbdpaaViews
namespace Go.Proofs.Ytjihimapopbdpaa
open Go.RowKit Sh
open Go.ChangeMaps (setBlock)
set_option linter.unusedVariables false

theorem IsFn.put {κ ν : Type} [DecidableEq κ] {K : κ → Value} {V : ν → Value} {t kt et : TypeId} {w : World} {B : Nat} {m : κ → Option ν} (h : IsFn K V w B m) (ko : KeyOk K Try.prog kt) (ht : Try.prog.underlying t = some (.map kt et)) (a : κ) (v : ν) :
    ∃ w', (Instr.mapUpdate t (.map (some B)) (K a) (V v)).run Try.prog w = .ok () w' ∧ IsFn K V w' B (_root_.Go.Proofs.Ytjihimapopbdpaa.upd m a v) ∧ Keep (fun k => k = B) w w' := by
  obtain ⟨o, h1, h2⟩ := h.upd ko ht a v
  exact ⟨_, h1, h2, keep_setBlock (Keep.refl _ w) _ _ (fun _ => rfl)⟩
theorem IsFn.rem {κ ν : Type} [DecidableEq κ] {K : κ → Value} {V : ν → Value} {t kt et : TypeId} {w : World} {B : Nat} {m : κ → Option ν} (h : IsFn K V w B m) (ko : KeyOk K Try.prog kt) (ht : Try.prog.underlying t = some (.map kt et)) (a : κ) (kt' ty : TypeId) :
    ∃ w', (Builtin.delete_ #[t, kt'] ty #[.map (some B), K a]).run Try.prog w = .ok (.tuple #[]) w' ∧ IsFn K V w' B (_root_.Go.Proofs.Ytjihimapopbdpaa.del m a) ∧ Keep (fun k => k = B) w w' := by
  obtain ⟨o, h1, h2⟩ := h.del ko ht a kt' ty
  exact ⟨_, h1, h2, keep_setBlock (Keep.refl _ w) _ _ (fun _ => rfl)⟩

theorem inst_only {e : Ent} (h : e.inst = true) : e.out = false ∧ e.dlv = false := by
  simp [Ent.inst, Ent.out, Ent.dlv] at h ⊢
  omega
theorem out_only {e : Ent} (h : e.out = true) : e.inst = false ∧ e.dlv = false := by
  simp [Ent.inst, Ent.out, Ent.dlv] at h ⊢
  omega
theorem dlv_only {e : Ent} (h : e.dlv = true) : e.inst = false ∧ e.out = false := by
  simp [Ent.inst, Ent.out, Ent.dlv] at h ⊢
  omega

def plEq (a b : Vw × Int) : Bool := decide (a = b)
def mgEq (a b : Mg) : Bool := decide (a = b)

structure OSt where
  at_ : Int → Option (Vw × Int)
  said : Int × Int → Option Mg
structure OW (s : Nat) (w : World) (σ : OSt) : Prop where
  said : IsFn nrV mgV w s σ.said
  saidb : w.cell? ⟨s + 1, 0, none⟩ = some (.map (some s))
  at_ : IsFn iV plV w (s + 2) σ.at_
  atb : w.cell? ⟨s + 3, 0, none⟩ = some (.map (some (s + 2)))
theorem OW.keep {s : Nat} {w w' : World} {σ : OSt} (h : OW s w σ) (k : Keep (fun _ => False) w w') : OW s w' σ :=
  ⟨h.said.keep k id, k.cell h.saidb, h.at_.keep k id, k.cell h.atb⟩
theorem OW.lt {s : Nat} {w : World} {σ : OSt} (h : OW s w σ) : s + 3 < w.heap.size := World.block_lt_of_cell? w _ h.atb
abbrev S2 (s : Nat) : Nat → Prop := fun k => k = s ∨ k = s + 2
theorem S2_of {s : Nat} {w w' : World} (k : Keep (fun _ => False) w w') : Keep (S2 s) w w' := k.mono fun _ h _ => absurd h id

theorem OW.putAt {s : Nat} {w : World} {σ : OSt} (h : OW s w σ) (nd : Int) (p : Vw × Int) : ∃ w',
    (Instr.mapUpdate 60 (.map (some (s + 2))) (.int .i64 nd) (plV p)).run Try.prog w = .ok () w' ∧ OW s w' ⟨upd σ.at_ nd p, σ.said⟩ ∧ Keep (S2 s) w w' := by
  obtain ⟨w', h1, h2, k⟩ := h.at_.put key3 Try.underlying60 nd p
  exact ⟨w', h1, ⟨h.said.keep k (by show ¬ s = s + 2; omega), k.cellS h.saidb (by show ¬ s + 1 = s + 2; omega), h2, k.cellS h.atb (by show ¬ s + 3 = s + 2; omega)⟩, k.mono fun _ h _ => .inr h⟩
theorem OW.remAt {s : Nat} {w : World} {σ : OSt} (h : OW s w σ) (nd : Int) : ∃ w',
    (Builtin.delete_ #[60, 3] 0 #[.map (some (s + 2)), .int .i64 nd]).run Try.prog w = .ok (.tuple #[]) w' ∧ OW s w' ⟨del σ.at_ nd, σ.said⟩ ∧ Keep (S2 s) w w' := by
  obtain ⟨w', h1, h2, k⟩ := h.at_.rem key3 Try.underlying60 nd 3 0
  exact ⟨w', h1, ⟨h.said.keep k (by show ¬ s = s + 2; omega), k.cellS h.saidb (by show ¬ s + 1 = s + 2; omega), h2, k.cellS h.atb (by show ¬ s + 3 = s + 2; omega)⟩, k.mono fun _ h _ => .inr h⟩
theorem OW.putSaid {s : Nat} {w : World} {σ : OSt} (h : OW s w σ) (a : Int × Int) (m : Mg) : ∃ w',
    (Instr.mapUpdate 59 (.map (some s)) (nrV a) (mgV m)).run Try.prog w = .ok () w' ∧ OW s w' ⟨σ.at_, upd σ.said a m⟩ ∧ Keep (S2 s) w w' := by
  obtain ⟨w', h1, h2, k⟩ := h.said.put key65 Try.underlying59 a m
  exact ⟨w', h1, ⟨h2, k.cellS h.saidb (by show ¬ s + 1 = s; omega), h.at_.keep k (by show ¬ s + 2 = s; omega), k.cellS h.atb (by show ¬ s + 3 = s; omega)⟩, k.mono fun _ h _ => .inl h⟩

def ostep (σ : OSt) (e : Ent) : Int × OSt :=
  if e.inst then (0, ⟨upd σ.at_ e.node (e.v, 0), σ.said⟩)
  else if e.out then (0, ⟨del σ.at_ e.node, σ.said⟩)
  else if !e.dlv then (0, σ)
  else if !(σ.at_ e.node).isSome || !plEq (((σ.at_ e.node).getD (⟨0, 0⟩, 0)).1, IntKind.u64.wrap (((σ.at_ e.node).getD (⟨0, 0⟩, 0)).2 + 1)) (e.v, e.n) then (5, σ)
  else if (σ.said (e.id, e.n)).isSome && !mgEq ((σ.said (e.id, e.n)).getD ⟨0, 0, ⟨#[]⟩⟩) e.m then (4, σ)
  else (0, ⟨upd σ.at_ e.node (e.v, e.n), upd σ.said (e.id, e.n) e.m⟩)

theorem look_60 {w : World} {B : Nat} {m : Int → Option (Vw × Int)} (h : IsFn iV plV w B m) (n : Int) : (Instr.lookup 60 (.map (some B)) (.int .i64 n) true).run Try.prog w = .ok (.tuple #[plV ((m n).getD (⟨0, 0⟩, 0)), .bool (m n).isSome]) w := by
  have := h.look key3 Try.underlying60 (z := plV (⟨0, 0⟩, 0)) (by go_simp; rfl) n true
  rw [show (plV ((m n).getD (⟨0, 0⟩, 0)) : Value) = ((m n).map plV).getD (plV (⟨0, 0⟩, 0)) by cases m n <;> rfl]
  exact this
theorem look_59 {w : World} {B : Nat} {m : Int × Int → Option Mg} (h : IsFn nrV mgV w B m) (a : Int × Int) : (Instr.lookup 59 (.map (some B)) (nrV a) true).run Try.prog w = .ok (.tuple #[mgV ((m a).getD ⟨0, 0, ⟨#[]⟩⟩), .bool (m a).isSome]) w := by
  have := h.look key65 Try.underlying59 (z := mgV ⟨0, 0, ⟨#[]⟩⟩) (by go_simp; rfl) a true
  rw [show (mgV ((m a).getD ⟨0, 0, ⟨#[]⟩⟩) : Value) = ((m a).map mgV).getD (mgV ⟨0, 0, ⟨#[]⟩⟩) by cases m a <;> rfl]
  exact this

set_option maxRecDepth 100000 in
set_option maxHeartbeats 1000000 in
theorem ostep_any {s : Nat} {w : World} {σ : OSt} (h : OW s w σ) (e : Ent) :
    Calls Try.prog 27 #[entV e, .pointer (some ⟨s + 3, 0, none⟩), .pointer (some ⟨s + 1, 0, none⟩)] w fun r w' => r = .returned (.int .i64 (ostep σ e).1) ∧ ((ostep σ e).1 = 0 → OW s w' (ostep σ e).2) ∧ Keep (S2 s) w w' := by
  have H := Lib.hid h
  have HL := h.lt
  clear h
  obtain ⟨nd, st, kd, eid, mem, n, snd, num, text⟩ := e
  have HI := Lib.hid (fun w => inst_any ⟨nd, st, kd, eid, mem, n, snd, num, text⟩ w)
  have HO := Lib.hid (fun w => out_any ⟨nd, st, kd, eid, mem, n, snd, num, text⟩ w)
  have HD := Lib.hid (fun w => dlv_any ⟨nd, st, kd, eid, mem, n, snd, num, text⟩ w)
  obtain ⟨res, hv⟩ : ∃ r, ostep σ ⟨nd, st, kd, eid, mem, n, snd, num, text⟩ = r := ⟨_, rfl⟩
  rw [hv]
  have HV := Lib.hid hv
  clear hv
  simp only [entV, entA] at HI HO HD ⊢
  go_enter Try.func27, Try.ntmps27
  go_wp2_with fail
  refine (HI.out _).mono ?_
  rintro r w1 ⟨rfl, hk1⟩
  have bx := hk1.old (heap_alloc_new w (.cells #[.int .i64 nd, .bool st, .int .i64 kd, .int .u64 eid, .int .u64 mem, .int .u64 n, .int .i64 snd, .int .u64 num, .string text] 42)) (fun h => h)
  have BX := Lib.hid bx
  obtain ⟨c0, c1, c2, c3, c4, c5, c6, c7, c8⟩ := ent_cells bx
  have K1 := Lib.hid (((Keep.refl (fun _ => False) w).alloc (.cells #[.int .i64 nd, .bool st, .int .i64 kd, .int .u64 eid, .int .u64 mem, .int .u64 n, .int .i64 snd, .int .u64 num, .string text] 42)).step hk1)
  clear hk1 bx
  cases hi : Ent.inst ⟨nd, st, kd, eid, mem, n, snd, num, text⟩
  · have hv := HV.out
    simp only [ostep, hi, Bool.false_eq_true, if_false] at hv
    clear HI HV
    have HV := Lib.hid hv
    clear hv
    go_wp2_with fail
    refine (HO.out _).mono ?_
    rintro r w2 ⟨rfl, hk2⟩
    have bx := hk2.old BX.out (fun h => h)
    have K2 := Lib.hid (K1.out.step hk2)
    clear c0 c1 c2 c3 c4 c5 c6 c7 c8 BX K1 hk2
    have BX := Lib.hid bx
    obtain ⟨c0, c1, c2, c3, c4, c5, c6, c7, c8⟩ := ent_cells bx
    clear bx
    cases ho : Ent.out ⟨nd, st, kd, eid, mem, n, snd, num, text⟩
    · have hv := HV.out
      simp only [ho, Bool.false_eq_true, if_false] at hv
      clear HO HV
      have HV := Lib.hid hv
      clear hv
      go_wp2_with fail
      refine (HD.out _).mono ?_
      rintro r w3 ⟨rfl, hk3⟩
      have bx := hk3.old BX.out (fun h => h)
      have K3 := Lib.hid (K2.out.step hk3)
      clear c0 c1 c2 c3 c4 c5 c6 c7 c8 BX K2 hk3
      have BX := Lib.hid bx
      obtain ⟨c0, c1, c2, c3, c4, c5, c6, c7, c8⟩ := ent_cells bx
      clear bx
      cases hd : Ent.dlv ⟨nd, st, kd, eid, mem, n, snd, num, text⟩
      · have hv := HV.out
        simp only [hd, Bool.not_false, if_true] at hv
        clear HD HV
        have HV := Lib.hid hv
        clear hv
        go_wp2
        go_ret
        rw [← HV.out]
        exact ⟨rfl, fun _ => H.out.keep K3.out, S2_of K3.out⟩
      · have hv := HV.out
        simp only [hd, Bool.not_true, Bool.false_eq_true, if_false] at hv
        clear HD HV
        have HV := Lib.hid hv
        clear hv
        have h3 := H.out.keep K3.out
        have a1 := h3.atb
        have hl := look_60 h3.at_ nd
        have sz3 : w.heap.size ≤ w3.heap.size := K3.out.size
        have szx : w.heap.size < w3.heap.size := (Array.getElem?_eq_some_iff.1 BX.out).1
        clear h3
        generalize hpp : (σ.at_ nd).getD (⟨0, 0⟩, 0) = pp at HV hl
        generalize his : (σ.at_ nd).isSome = is at HV hl
        obtain ⟨⟨pid, pmem⟩, pn⟩ := pp
        simp only [plV] at hl
        go_upto_region 8 with fail
        go_cut [] (fun wx => Keep (fun _ => False) w3 wx ∧ wx.heap[w3.heap.size]? = some (.cells #[.int .u64 pid, .int .u64 pmem, .int .u64 (IntKind.u64.wrap (pn + 1))] 62 (0, 0)))
        case first =>
          go_wp2_with fail
          go_meet
          exact ⟨(Keep.refl _ w3).alloc _, heap_alloc_new w3 _⟩
        case rest =>
        obtain ⟨kc, bp⟩ := hcut
        obtain ⟨w4, hw4⟩ : ∃ w4, w4 = wc := ⟨_, rfl⟩
        rw [← hw4] at kc bp ⊢
        clear hw4 a1 hl c0 c1 c2 c3 c4 c5 c6 c7 c8 hpp his
        have bx := kc.old BX.out (fun h => h)
        have BX4 := Lib.hid bx
        obtain ⟨c0, c1, c2, c3, c4, c5, c6, c7, c8⟩ := ent_cells bx
        have K4 := Lib.hid (K3.out.step kc)
        have p0 : w4.cell? ⟨w3.heap.size, 0, none⟩ = some (.int .u64 pid) := by simp [World.cell?, bp]
        have p1 : w4.cell? ⟨w3.heap.size, 1, none⟩ = some (.int .u64 pmem) := by simp [World.cell?, bp]
        have p2 : w4.cell? ⟨w3.heap.size, 2, none⟩ = some (.int .u64 (IntKind.u64.wrap (pn + 1))) := by simp [World.cell?, bp]
        have hne : (binOp .neq 62 (plV (⟨pid, pmem⟩, IntKind.u64.wrap (pn + 1))) (plV (⟨eid, mem⟩, n))).run Try.prog w4 = .ok (.bool !plEq (⟨pid, pmem⟩, IntKind.u64.wrap (pn + 1)) (⟨eid, mem⟩, n)) w4 := neq62 w4 (⟨pid, pmem⟩, IntKind.u64.wrap (pn + 1)) (⟨eid, mem⟩, n)
        simp only [plV] at hne
        clear bx kc BX K3
        cases is
        · have hv := HV.out
          simp only [Bool.not_false, Bool.true_or, if_true] at hv
          clear HV hne
          have HV := Lib.hid hv
          clear hv
          go_wp2
          go_ret
          rw [← HV.out]
          exact ⟨rfl, fun h => by simp at h, S2_of K4.out⟩
        · by_cases q1 : pid = eid
          · subst q1
            by_cases q2 : pmem = mem
            · subst q2
              by_cases q3 : IntKind.u64.wrap (pn + 1) = n
              · subst q3
                have hdd : plEq (⟨pid, pmem⟩, IntKind.u64.wrap (pn + 1)) (⟨pid, pmem⟩, IntKind.u64.wrap (pn + 1)) = true := by simp [plEq]
                have hv := HV.out
                simp only [Ent.v, Ent.m, hdd, Bool.not_true, Bool.or_false, Bool.false_eq_true, if_false] at hv
                clear HV hdd hne
                have HV := Lib.hid hv
                clear hv
                have h4 := H.out.keep K4.out
                have a4 := h4.atb
                obtain ⟨w5, hr5, h5, k5⟩ := h4.putAt nd (⟨pid, pmem⟩, IntKind.u64.wrap (pn + 1))
                simp only [plV] at hr5
                have bx := k5.old BX4.out (by show ¬ (w.heap.size = s ∨ w.heap.size = s + 2); omega)
                obtain ⟨d0, d1, d2, d3, d4, d5, d6, d7, d8⟩ := ent_cells bx
                have BX5 := Lib.hid bx
                have H5 := Lib.hid h5
                have K5 := Lib.hid ((S2_of K4.out).step k5)
                clear h4 h5 k5 bx
                go_upto_region 12 with fail
                go_cut [7] (fun v wx => v = .pointer (some ⟨w5.heap.size, 0, none⟩) ∧ Keep (fun _ => False) w5 wx ∧ wx.heap[w5.heap.size]? = some (.cells #[.int .u64 pid, .int .u64 (IntKind.u64.wrap (pn + 1))] 65 (0, 0)))
                case first =>
                  go_wp2_with fail
                  go_meet
                  exact ⟨rfl, (Keep.refl _ w5).alloc _, heap_alloc_new w5 _⟩
                case rest =>
                obtain ⟨rfl, kc, bk⟩ := hcut
                obtain ⟨w6, hw6⟩ : ∃ w6, w6 = wc := ⟨_, rfl⟩
                rw [← hw6] at kc bk ⊢
                clear hw6 d0 d1 d2 d3 d4 d5 d6 d7 d8 c0 c1 c2 c3 c4 c5 c6 c7 c8 hr5 a4 p0 p1 p2
                have k0 : w6.cell? ⟨w5.heap.size, 0, none⟩ = some (.int .u64 pid) := by simp [World.cell?, bk]
                have k1 : w6.cell? ⟨w5.heap.size, 1, none⟩ = some (.int .u64 (IntKind.u64.wrap (pn + 1))) := by simp [World.cell?, bk]
                have h6 := H5.out.keep kc
                have b6 := h6.saidb
                have hl := look_59 h6.said (pid, IntKind.u64.wrap (pn + 1))
                have K6 := Lib.hid (K5.out.step (S2_of kc))
                have bx := kc.old BX5.out (fun h => h)
                generalize hmm : (σ.said (pid, IntKind.u64.wrap (pn + 1))).getD ⟨0, 0, ⟨#[]⟩⟩ = mm at HV hl
                generalize hww : (σ.said (pid, IntKind.u64.wrap (pn + 1))).isSome = was at HV hl
                obtain ⟨ms, mn, mt⟩ := mm
                clear hmm hww
                simp only [mgV, nrV] at hl
                have km := (Keep.refl (fun _ => False) w6).alloc (.cells #[.int .i64 ms, .int .u64 mn, .string mt] 38)
                have h7 := h6.keep km
                have b7 := h7.saidb
                have K7 := Lib.hid (K6.out.step (S2_of km))
                obtain ⟨d0, d1, d2, d3, d4, d5, d6, d7, d8⟩ := ent_cells (km.old bx (fun h => h))
                have k0a := km.cell k0
                have k1a := km.cell k1
                obtain ⟨w8, hr8, h8, k8⟩ := h7.putSaid (pid, IntKind.u64.wrap (pn + 1)) ⟨snd, num, text⟩
                simp only [mgV, nrV] at hr8
                have H8 := Lib.hid h8
                have K8 := Lib.hid (K7.out.step k8)
                clear h6 kc km h7 h8 k8 bx
                cases was
                · have hv := HV.out
                  simp only [Bool.false_and, Bool.false_eq_true, if_false] at hv
                  clear HV
                  have HV := Lib.hid hv
                  clear hv
                  go_wp2
                  go_ret
                  rw [← HV.out]
                  exact ⟨rfl, fun _ => H8.out, K8.out⟩
                · by_cases r1 : ms = snd
                  · subst r1
                    by_cases r2 : mn = num
                    · subst r2
                      by_cases r3 : mt = text
                      · subst r3
                        have hee : mgEq ⟨ms, mn, mt⟩ ⟨ms, mn, mt⟩ = true := by simp [mgEq]
                        have hv := HV.out
                        simp only [hee, Bool.not_true, Bool.and_false, Bool.false_eq_true, if_false] at hv
                        clear HV hee
                        have HV := Lib.hid hv
                        clear hv
                        go_wp2
                        go_ret
                        rw [← HV.out]
                        exact ⟨rfl, fun _ => H8.out, K8.out⟩
                      · have hee : mgEq ⟨ms, mn, mt⟩ ⟨ms, mn, text⟩ = false := by simp [mgEq, r3]
                        have r4 : (mt.toList == text.toList) = false := by rw [← beq_toListBytes, ba_beq]; exact decide_eq_false r3
                        have hv := HV.out
                        simp only [hee, Bool.not_false, Bool.and_true, if_true] at hv
                        clear HV hee r3
                        have HV := Lib.hid hv
                        clear hv
                        go_wp2
                        go_ret
                        rw [← HV.out]
                        exact ⟨rfl, fun h => by simp at h, K7.out⟩
                    · have hee : mgEq ⟨ms, mn, mt⟩ ⟨ms, num, text⟩ = false := by simp [mgEq, r2]
                      have r4 : (mn == num) = false := by simpa using r2
                      have hv := HV.out
                      simp only [hee, Bool.not_false, Bool.and_true, if_true] at hv
                      clear HV hee
                      have HV := Lib.hid hv
                      clear hv
                      go_wp2
                      go_ret
                      rw [← HV.out]
                      exact ⟨rfl, fun h => by simp at h, K7.out⟩
                  · have hee : mgEq ⟨ms, mn, mt⟩ ⟨snd, num, text⟩ = false := by simp [mgEq, r1]
                    have r4 : (ms == snd) = false := by simpa using r1
                    have hv := HV.out
                    simp only [hee, Bool.not_false, Bool.and_true, if_true] at hv
                    clear HV hee
                    have HV := Lib.hid hv
                    clear hv
                    go_wp2
                    go_ret
                    rw [← HV.out]
                    exact ⟨rfl, fun h => by simp at h, K7.out⟩
              · have hdd : plEq (⟨pid, pmem⟩, IntKind.u64.wrap (pn + 1)) (⟨pid, pmem⟩, n) = false := by simp [plEq, q3]
                have q4 : (IntKind.u64.wrap (pn + 1) == n) = false := by simpa using q3
                clear hne
                have hv := HV.out
                simp only [Ent.v, hdd, Bool.not_false, Bool.or_true, if_true] at hv
                clear HV hdd
                have HV := Lib.hid hv
                clear hv
                go_wp2
                go_ret
                rw [← HV.out]
                exact ⟨rfl, fun h => by simp at h, S2_of K4.out⟩
            · have hdd : plEq (⟨pid, pmem⟩, IntKind.u64.wrap (pn + 1)) (⟨pid, mem⟩, n) = false := by simp [plEq, q2]
              have q4 : (pmem == mem) = false := by simpa using q2
              clear hne
              have hv := HV.out
              simp only [Ent.v, hdd, Bool.not_false, Bool.or_true, if_true] at hv
              clear HV hdd
              have HV := Lib.hid hv
              clear hv
              go_wp2
              go_ret
              rw [← HV.out]
              exact ⟨rfl, fun h => by simp at h, S2_of K4.out⟩
          · have hdd : plEq (⟨pid, pmem⟩, IntKind.u64.wrap (pn + 1)) (⟨eid, mem⟩, n) = false := by simp [plEq, q1]
            have q4 : (pid == eid) = false := by simpa using q1
            clear hne
            have hv := HV.out
            simp only [Ent.v, hdd, Bool.not_false, Bool.or_true, if_true] at hv
            clear HV hdd
            have HV := Lib.hid hv
            clear hv
            go_wp2
            go_ret
            rw [← HV.out]
            exact ⟨rfl, fun h => by simp at h, S2_of K4.out⟩
    · have hv := HV.out
      simp only [ho, if_true] at hv
      clear HO HV
      have HV := Lib.hid hv
      clear hv
      have h2 := H.out.keep K2.out
      have a2 := h2.atb
      obtain ⟨w3, hr3, h3, k3⟩ := h2.remAt nd
      have bx := k3.old BX.out (by show ¬ (w.heap.size = s ∨ w.heap.size = s + 2); omega)
      have H3 := Lib.hid h3
      have K3 := Lib.hid ((S2_of K2.out).step k3)
      obtain ⟨d0, d1, d2, d3, d4, d5, d6, d7, d8⟩ := ent_cells bx
      clear h2 h3 k3 bx
      go_wp2_with fail
      refine (HD.out _).mono ?_
      rintro r w4 ⟨rfl, hk4⟩
      rw [(out_only ho).2]
      have H4 := Lib.hid (H3.out.keep hk4)
      have K4 := Lib.hid (K3.out.step (S2_of hk4))
      clear hk4
      go_wp2
      go_ret
      rw [← HV.out]
      exact ⟨rfl, fun _ => H4.out, K4.out⟩
  · have hv := HV.out
    simp only [ostep, hi, if_true] at hv
    clear HI HV
    have HV := Lib.hid hv
    clear hv
    have h1 := H.out.keep K1.out
    have a1 := h1.atb
    obtain ⟨w2, hr2, h2, k2⟩ := h1.putAt nd (⟨eid, mem⟩, 0)
    simp only [plV] at hr2
    have bx := k2.old BX.out (by show ¬ (w.heap.size = s ∨ w.heap.size = s + 2); omega)
    have H2 := Lib.hid h2
    have K2 := Lib.hid ((S2_of K1.out).step k2)
    obtain ⟨d0, d1, d2, d3, d4, d5, d6, d7, d8⟩ := ent_cells bx
    have BX2 := Lib.hid bx
    clear h1 h2 k2 bx BX
    go_wp2_with fail
    refine (HO.out _).mono ?_
    rintro r w3 ⟨rfl, hk3⟩
    rw [(inst_only hi).1]
    have bx := hk3.old BX2.out (fun h => h)
    obtain ⟨e0, e1, e2, e3, e4, e5, e6, e7, e8⟩ := ent_cells bx
    have H3 := Lib.hid (H2.out.keep hk3)
    have K3 := Lib.hid (K2.out.step (S2_of hk3))
    clear hk3 bx BX2
    go_wp2_with fail
    refine (HD.out _).mono ?_
    rintro r w4 ⟨rfl, hk4⟩
    rw [(inst_only hi).2]
    have H4 := Lib.hid (H3.out.keep hk4)
    have K4 := Lib.hid (K3.out.step (S2_of hk4))
    clear hk4
    go_wp2
    go_ret
    rw [← HV.out]
    exact ⟨rfl, fun _ => H4.out, K4.out⟩

end Go.Proofs.Ytjihimapopbdpaa
