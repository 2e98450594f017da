/- The test Views, step by step. -/
import Derived.Test.YtjihimapopbdpaaLeaf
namespace Go.Proofs.Ytjihimapopbdpaa
open Go.RowKit Sh
open Go.ChangeMaps (setBlock)
set_option linter.unusedVariables false

def iV (n : Int) : Value := .int .i64 n
def uV (n : Int) : Value := .int .u64 n
def upd {κ ν : Type} [DecidableEq κ] (m : κ → Option ν) (a : κ) (v : ν) : κ → Option ν := fun b => if b = a then some v else m b
def del {κ ν : Type} [DecidableEq κ] (m : κ → Option ν) (a : κ) : κ → Option ν := fun b => if b = a then none else m b

def majorV (m : Int → Option Int) (id : Int) : Bool :=
  id == 0 || !(m (IntKind.u64.wrap (id - 1))).isSome || !(m id).isSome || majorP ((m id).getD 0) ((m (IntKind.u64.wrap (id - 1))).getD 0)

theorem Sh.Keep.cellS {S : Nat → Prop} {w w' : World} (k : Keep S w w') {a : Addr} {v : Value} (h : w.cell? a = some v) (hn : ¬ S a.block) : w'.cell? a = some v :=
  (World.cell?_of_block (k.block a.block (World.block_lt_of_cell? w a h) hn)).trans h
theorem look_u {w : World} {B : Nat} {m : Int → Option Int} (h : IsFn uV uV w B m) (n : Int) : (Instr.lookup 49 (.map (some B)) (.int .u64 n) true).run Try.prog w = .ok (.tuple #[.int .u64 ((m n).getD 0), .bool (m n).isSome]) w := by
  have := h.look key34 Try.underlying49 (z := .int .u64 0) (by go_simp) n true
  rw [show (.int .u64 ((m n).getD 0) : Value) = ((m n).map uV).getD (.int .u64 0) by cases m n <;> rfl]
  exact this

theorem major1_any {w : World} {B k : Nat} {m : Int → Option Int} (h : IsFn uV uV w B m) (hb : w.cell? ⟨k, 0, none⟩ = some (.map (some B))) (id : Int) :
    Calls Try.prog 20 #[.int .u64 id, .pointer (some ⟨k, 0, none⟩)] w fun r w' => r = .returned (.bool (majorV m id)) ∧ w' = w := by
  have h1 := look_u h (IntKind.u64.wrap (id - 1))
  have h2 := look_u h id
  unfold majorV
  generalize (m (IntKind.u64.wrap (id - 1))).getD 0 = p at h1 ⊢
  generalize (m id).getD 0 = q at h2 ⊢
  generalize (m (IntKind.u64.wrap (id - 1))).isSome = a at h1 ⊢
  generalize (m id).isSome = b at h2 ⊢
  by_cases c : id = 0
  · have e : (id == 0) = true := by simp [c]
    rw [e]
    clear c
    go_enter Try.func20, Try.ntmps20
    go_wp2
    go_ret
    exact ⟨by simp, rfl⟩
  · have e : (id == 0) = false := by simp [c]
    rw [e]
    clear c
    cases a
    · go_enter Try.func20, Try.ntmps20
      go_wp2
      go_ret
      exact ⟨rfl, rfl⟩
    · cases b
      · go_enter Try.func20, Try.ntmps20
        go_wp2
        go_ret
        exact ⟨rfl, rfl⟩
      · go_enter Try.func20, Try.ntmps20
        go_wp2_with fail
        refine (major_any q p _).mono ?_
        rintro r w' ⟨rfl, rfl⟩
        go_wp2
        go_ret
        exact ⟨by simp, rfl⟩

structure VSt where
  of : Int → Option Int
  at_ : Int → Option Vw
structure VW (s : Nat) (w : World) (σ : VSt) : Prop where
  of : IsFn uV uV w s σ.of
  ofb : w.cell? ⟨s + 1, 0, none⟩ = some (.map (some s))
  at_ : IsFn iV vwV w (s + 2) σ.at_
  atb : w.cell? ⟨s + 3, 0, none⟩ = some (.map (some (s + 2)))
  fb : w.cell? ⟨s + 4, 0, none⟩ = some (.func (.func 20) #[] #[.pointer (some ⟨s + 1, 0, none⟩)])
theorem VW.keep {s : Nat} {w w' : World} {σ : VSt} (h : VW s w σ) (k : Keep (fun _ => False) w w') : VW s w' σ :=
  ⟨h.of.keep k id, k.cell h.ofb, h.at_.keep k id, k.cell h.atb, k.cell h.fb⟩
theorem VW.lt {s : Nat} {w : World} {σ : VSt} (h : VW s w σ) : s + 4 < w.heap.size := World.block_lt_of_cell? w _ h.fb

def vbad (σ : VSt) (e : Ent) : Bool := !hasP e.mem e.node || ((σ.at_ e.node).isSome && decide (e.id ≤ ((σ.at_ e.node).getD ⟨0, 0⟩).id)) || ((σ.of e.id).isSome && ((σ.of e.id).getD 0 != e.mem))
def vnext (σ : VSt) (e : Ent) : VSt := ⟨upd σ.of e.id e.mem, upd σ.at_ e.node e.v⟩
def vmin (σ : VSt) (e : Ent) : Bool := !majorV σ.of e.id || (IntKind.u64.wrap (e.id + 1) != 0 && !majorV σ.of (IntKind.u64.wrap (e.id + 1)))
def vstep (σ : VSt) (e : Ent) : Int × VSt :=
  if !e.inst then (0, σ) else if vbad σ e then (170, σ) else if vmin (vnext σ e) e then (161, vnext σ e) else (0, vnext σ e)

theorem look_50 {w : World} {B : Nat} {m : Int → Option Vw} (h : IsFn iV vwV w B m) (n : Int) : (Instr.lookup 50 (.map (some B)) (.int .i64 n) true).run Try.prog w = .ok (.tuple #[vwV ((m n).getD ⟨0, 0⟩), .bool (m n).isSome]) w := by
  have := h.look key3 Try.underlying50 (z := vwV ⟨0, 0⟩) (by go_simp; rfl) n true
  rw [show (vwV ((m n).getD ⟨0, 0⟩) : Value) = ((m n).map vwV).getD (vwV ⟨0, 0⟩) by cases m n <;> rfl]
  exact this

structure VPut (s : Nat) (w : World) (σ : VSt) (nd eid mem : Int) (wa wb w4 : World) : Prop where
  st : VW s w4 ⟨upd σ.of eid mem, upd σ.at_ nd ⟨eid, mem⟩⟩
  ka : Keep (fun k => k = s ∨ k = s + 2) w wa
  k4 : Keep (fun k => k = s ∨ k = s + 2) w w4
theorem vput {s : Nat} {w : World} {σ : VSt} (h : VW s w σ) (nd eid mem : Int) : ∃ w3 w4,
    (Instr.mapUpdate 50 (.map (some (s + 2))) (.int .i64 nd) (.agg #[.int .u64 eid, .int .u64 mem])).run Try.prog w = .ok () w3 ∧
    (Instr.mapUpdate 49 (.map (some s)) (.int .u64 eid) (.int .u64 mem)).run Try.prog w3 = .ok () w4 ∧ VPut s w σ nd eid mem w3 w4 w4 := by
  obtain ⟨o1, hr1, hi1⟩ := h.at_.upd key3 Try.underlying50 nd ⟨eid, mem⟩
  have k1 : Keep (fun k => k = s + 2) w (setBlock w (s + 2) o1) := keep_setBlock (Keep.refl _ w) _ _ (fun _ => rfl)
  obtain ⟨o2, hr2, hi2⟩ := (h.of.keep k1 (by omega)).upd key34 Try.underlying49 eid mem
  have k2 : Keep (fun k => k = s) (setBlock w (s + 2) o1) (setBlock (setBlock w (s + 2) o1) s o2) := keep_setBlock (Keep.refl _ _) _ _ (fun _ => rfl)
  have KA : Keep (fun k => k = s ∨ k = s + 2) w (setBlock w (s + 2) o1) := (k1.mono fun _ h _ => .inr h)
  have K : Keep (fun k => k = s ∨ k = s + 2) w (setBlock (setBlock w (s + 2) o1) s o2) := KA.trans k2 fun _ h _ => .inl h
  exact ⟨_, _, hr1, hr2, ⟨hi2, K.cellS h.ofb (by show ¬ (s + 1 = s ∨ s + 1 = s + 2); omega), hi1.keep k2 (by omega), K.cellS h.atb (by show ¬ (s + 3 = s ∨ s + 3 = s + 2); omega), K.cellS h.fb (by show ¬ (s + 4 = s ∨ s + 4 = s + 2); omega)⟩, KA, K⟩
theorem vput' {s : Nat} {w : World} {σ : VSt} (h : VW s w σ) (nd eid mem : Int) : ∃ w3 w4,
    (Instr.mapUpdate 49 (.map (some s)) (.int .u64 eid) (.int .u64 mem)).run Try.prog w = .ok () w3 ∧
    (Instr.mapUpdate 50 (.map (some (s + 2))) (.int .i64 nd) (.agg #[.int .u64 eid, .int .u64 mem])).run Try.prog w3 = .ok () w4 ∧ VPut s w σ nd eid mem w3 w4 w4 := by
  obtain ⟨o1, hr1, hi1⟩ := h.of.upd key34 Try.underlying49 eid mem
  have k1 : Keep (fun k => k = s) w (setBlock w s o1) := keep_setBlock (Keep.refl _ w) _ _ (fun _ => rfl)
  obtain ⟨o2, hr2, hi2⟩ := (h.at_.keep k1 (by omega)).upd key3 Try.underlying50 nd ⟨eid, mem⟩
  have k2 : Keep (fun k => k = s + 2) (setBlock w s o1) (setBlock (setBlock w s o1) (s + 2) o2) := keep_setBlock (Keep.refl _ _) _ _ (fun _ => rfl)
  have KA : Keep (fun k => k = s ∨ k = s + 2) w (setBlock w s o1) := (k1.mono fun _ h _ => .inl h)
  have K : Keep (fun k => k = s ∨ k = s + 2) w (setBlock (setBlock w s o1) (s + 2) o2) := KA.trans k2 fun _ h _ => .inr h
  exact ⟨_, _, hr1, hr2, ⟨hi1.keep k2 (by omega), K.cellS h.ofb (by show ¬ (s + 1 = s ∨ s + 1 = s + 2); omega), hi2, K.cellS h.atb (by show ¬ (s + 3 = s ∨ s + 3 = s + 2); omega), K.cellS h.fb (by show ¬ (s + 4 = s ∨ s + 4 = s + 2); omega)⟩, KA, K⟩

set_option maxRecDepth 100000 in
set_option maxHeartbeats 1000000 in
theorem vstep_any {s : Nat} {w : World} {σ : VSt} (h : VW s w σ) (e : Ent) :
    Calls Try.prog 23 #[entV e, .pointer (some ⟨s + 3, 0, none⟩), .pointer (some ⟨s + 1, 0, none⟩), .pointer (some ⟨s + 4, 0, none⟩)] w fun r w' => r = .returned (.int .i64 (vstep σ e).1) ∧ ((vstep σ e).1 = 0 → VW s w' (vstep σ e).2) ∧ Keep (fun k => k = s ∨ k = s + 2) w w' := by
  have H := Lib.hid h
  have HL := h.lt
  clear h
  obtain ⟨nd, st, kd, eid, mem, n, snd, num, text⟩ := e
  have HI := Lib.hid (fun w => inst_any ⟨nd, st, kd, eid, mem, n, snd, num, text⟩ w)
  obtain ⟨res, hv⟩ : ∃ r, vstep σ ⟨nd, st, kd, eid, mem, n, snd, num, text⟩ = r := ⟨_, rfl⟩
  rw [hv]
  have HV := Lib.hid hv
  clear hv
  simp only [entV, entA] at HI ⊢
  go_enter Try.func23, Try.ntmps23
  go_wp2_with fail
  refine (HI.out _).mono ?_
  rintro r w1 ⟨rfl, hk1⟩
  have bx := hk1.old (heap_alloc_new w (.cells #[.int .i64 nd, .bool st, .int .i64 kd, .int .u64 eid, .int .u64 mem, .int .u64 n, .int .i64 snd, .int .u64 num, .string text] 42)) (fun h => h)
  obtain ⟨c0, c1, c2, c3, c4, c5, c6, c7, c8⟩ := ent_cells bx
  have K1 := Lib.hid (((Keep.refl (fun _ => False) w).alloc (.cells #[.int .i64 nd, .bool st, .int .i64 kd, .int .u64 eid, .int .u64 mem, .int .u64 n, .int .i64 snd, .int .u64 num, .string text] 42)).step hk1)
  have BX := Lib.hid bx
  clear hk1 bx
  cases hi : Ent.inst ⟨nd, st, kd, eid, mem, n, snd, num, text⟩
  · have HV2 := HV.out
    simp only [vstep, hi, Bool.not_false, if_true] at HV2
    clear HV
    have HV := Lib.hid HV2
    clear HV2
    go_wp2
    go_ret
    rw [← HV.out]
    exact ⟨rfl, fun _ => H.out.keep K1.out, K1.out.mono fun _ h _ => absurd h id⟩
  · have hv := HV.out
    simp only [vstep, hi, Bool.not_true, Bool.false_eq_true, if_false] at hv
    have HV := Lib.hid hv
    clear hv
    have h1 := H.out.keep K1.out
    have A0 : ∀ o, Keep (fun _ => False) w1 (w1.alloc o) := fun o => (Keep.refl _ _).alloc o
    have A1 : ∀ o o', Keep (fun _ => False) w1 ((w1.alloc o).alloc o') := fun o o' => ((Keep.refl _ _).alloc o).alloc o'
    have a1 := fun o => (h1.keep (A0 o)).atb
    have a2 := fun o o' => (h1.keep (A1 o o')).ofb
    have hl1 := fun o => look_50 (h1.keep (A0 o)).at_ nd
    have hl2 := fun o o' => look_u (h1.keep (A1 o o')).of eid
    have c0a := fun o => (A0 o).cell c0
    have c0b := fun o o' => (A1 o o').cell c0
    clear h1 A0 A1
    have HV' : Hid (vbad σ ⟨nd, st, kd, eid, mem, n, snd, num, text⟩ = (!hasP mem nd || ((σ.at_ nd).isSome && decide (eid ≤ ((σ.at_ nd).getD ⟨0, 0⟩).id)) || ((σ.of eid).isSome && ((σ.of eid).getD 0 != mem)))) := rfl
    simp only [vwV] at hl1
    generalize (σ.at_ nd).getD ⟨0, 0⟩ = mine at HV' hl1
    generalize (σ.at_ nd).isSome = has at HV' hl1
    generalize (σ.of eid).getD 0 = mems at HV' hl2
    generalize (σ.of eid).isSome = is at HV' hl2
    obtain ⟨mid, mmem⟩ := mine
    simp only at HV' hl1
    go_upto_region 6 with fail
    go_cut [55] (fun v wx => v = .bool (vbad σ ⟨nd, st, kd, eid, mem, n, snd, num, text⟩) ∧ Keep (fun _ => False) w1 wx ∧ wx.heap[w1.heap.size]? = some (.cells #[.int .u64 eid, .int .u64 mem] 36 (0, 0)))
    case first =>
      go_wp2_with fail
      refine (has_any mem nd _).mono ?_
      rintro r w2 ⟨rfl, rfl⟩
      have FIN : Hid (Keep (fun _ => False) w1 ((w1.alloc (.cells #[.int .u64 eid, .int .u64 mem] 36)).alloc (.cells #[.int .u64 mid, .int .u64 mmem] 36)) ∧ ((w1.alloc (.cells #[.int .u64 eid, .int .u64 mem] 36)).alloc (.cells #[.int .u64 mid, .int .u64 mmem] 36)).heap[w1.heap.size]? = some (.cells #[.int .u64 eid, .int .u64 mem] 36 (0, 0))) :=
        ⟨((Keep.refl _ w1).alloc _).alloc _, ((Keep.refl (fun _ => False) _).alloc _).old (heap_alloc_new w1 _) (fun h => h)⟩
      cases hp : hasP mem nd
      · cases is
        · go_wp2_with fail
          go_meet
          exact ⟨by rw [HV'.out]; simp [hp], FIN.out⟩
        · cases hd2 : (mems != mem)
          all_goals
            go_wp2_with fail
            go_meet
            exact ⟨by rw [HV'.out]; simp [hp], FIN.out⟩
      · cases has
        · cases is
          · go_wp2_with fail
            go_meet
            exact ⟨by rw [HV'.out]; simp [hp], FIN.out⟩
          · cases hd2 : (mems != mem)
            all_goals
              go_wp2_with fail
              go_meet
              exact ⟨by rw [HV'.out]; simp [hp, hd2], FIN.out⟩
        · cases hd1 : decide (eid ≤ mid)
          all_goals
            cases is
            · go_wp2_with fail
              go_meet
              exact ⟨by rw [HV'.out]; simp [hp, hd1], FIN.out⟩
            · cases hd2 : (mems != mem)
              all_goals
                go_wp2_with fail
                go_meet
                exact ⟨by rw [HV'.out]; simp [hp, hd1, hd2], FIN.out⟩
    case rest =>
      obtain ⟨rfl, kc, bv⟩ := hcut
      obtain ⟨w2, hw2⟩ : ∃ w2, w2 = wc := ⟨_, rfl⟩
      rw [← hw2] at kc bv ⊢
      clear hw2 a1 a2 hl1 hl2 c0a c0b c0 c1 c2 c3 c4 c5 c6 c7 c8 HV'
      obtain ⟨c0, c1, c2, c3, c4, c5, c6, c7, c8⟩ := ent_cells (kc.old BX.out (fun h => h))
      have v0 : w2.cell? ⟨w1.heap.size, 0, none⟩ = some (.int .u64 eid) := by simp [World.cell?, bv]
      have v1 : w2.cell? ⟨w1.heap.size, 1, none⟩ = some (.int .u64 mem) := by simp [World.cell?, bv]
      have K2 := Lib.hid (K1.out.step kc)
      have sz1 : w.heap.size ≤ w1.heap.size := K1.out.size
      clear kc bv
      have hv := HV.out
      clear HV
      cases hb : vbad σ ⟨nd, st, kd, eid, mem, n, snd, num, text⟩
      · rw [hb, if_neg (by simp)] at hv
        have HV := Lib.hid hv
        clear hv hb
        have h2 := H.out.keep K2.out
        have a1 := h2.atb
        have a2 := h2.ofb
        obtain ⟨wa, wb, hr1, hr2, h4⟩ := vput (h2.keep ((Keep.refl _ w2).drew)) nd eid mem
        obtain ⟨wa', wb', hr1', hr2', h4'⟩ := vput' (h2.keep ((Keep.refl _ w2).drew)) nd eid mem
        have H4 := Lib.hid h4
        have H4' := Lib.hid h4'
        have D0 : w2.drew.cell? ⟨s + 3, 0, none⟩ = some (.map (some (s + 2))) := a1
        have D1 : w2.drew.cell? ⟨s + 1, 0, none⟩ = some (.map (some s)) := a2
        have D2 : w2.drew.cell? ⟨w.heap.size, 0, none⟩ = some (.int .i64 nd) := c0
        have D3 : w2.drew.cell? ⟨w1.heap.size, 0, none⟩ = some (.int .u64 eid) := v0
        have D4 : w2.drew.cell? ⟨w1.heap.size, 1, none⟩ = some (.int .u64 mem) := v1
        have E0 := h4.ka.cellS D0 (by show ¬ (s + 3 = s ∨ s + 3 = s + 2); omega)
        have E1 := h4.ka.cellS D1 (by show ¬ (s + 1 = s ∨ s + 1 = s + 2); omega)
        have E2 := h4.ka.cellS D2 (by show ¬ (w.heap.size = s ∨ w.heap.size = s + 2); omega)
        have E3 := h4.ka.cellS D3 (by show ¬ (w1.heap.size = s ∨ w1.heap.size = s + 2); omega)
        have E4 := h4.ka.cellS D4 (by show ¬ (w1.heap.size = s ∨ w1.heap.size = s + 2); omega)
        have F0 := h4'.ka.cellS D0 (by show ¬ (s + 3 = s ∨ s + 3 = s + 2); omega)
        have F1 := h4'.ka.cellS D1 (by show ¬ (s + 1 = s ∨ s + 1 = s + 2); omega)
        have F2 := h4'.ka.cellS D2 (by show ¬ (w.heap.size = s ∨ w.heap.size = s + 2); omega)
        have F3 := h4'.ka.cellS D3 (by show ¬ (w1.heap.size = s ∨ w1.heap.size = s + 2); omega)
        have F4 := h4'.ka.cellS D4 (by show ¬ (w1.heap.size = s ∨ w1.heap.size = s + 2); omega)
        have G0 := h4.k4.cellS D0 (by show ¬ (s + 3 = s ∨ s + 3 = s + 2); omega)
        have G1 := h4.k4.cellS D1 (by show ¬ (s + 1 = s ∨ s + 1 = s + 2); omega)
        have G2 := h4.k4.cellS D2 (by show ¬ (w.heap.size = s ∨ w.heap.size = s + 2); omega)
        have G3 := h4.k4.cellS D3 (by show ¬ (w1.heap.size = s ∨ w1.heap.size = s + 2); omega)
        have G4 := h4.k4.cellS D4 (by show ¬ (w1.heap.size = s ∨ w1.heap.size = s + 2); omega)
        have I0 := h4'.k4.cellS D0 (by show ¬ (s + 3 = s ∨ s + 3 = s + 2); omega)
        have I1 := h4'.k4.cellS D1 (by show ¬ (s + 1 = s ∨ s + 1 = s + 2); omega)
        have I2 := h4'.k4.cellS D2 (by show ¬ (w.heap.size = s ∨ w.heap.size = s + 2); omega)
        have I3 := h4'.k4.cellS D3 (by show ¬ (w1.heap.size = s ∨ w1.heap.size = s + 2); omega)
        have I4 := h4'.k4.cellS D4 (by show ¬ (w1.heap.size = s ∨ w1.heap.size = s + 2); omega)
        have KD : Hid (Keep (fun k => k = s ∨ k = s + 2) w w2.drew) := Lib.hid (K2.out.mono fun _ h _ => absurd h (fun h => h)).drew
        clear h2 h4 h4'
        go_upto_region 8 with fail
        go_cut [] (fun wx => VW s wx (vnext σ ⟨nd, st, kd, eid, mem, n, snd, num, text⟩) ∧ Keep (fun k => k = s ∨ k = s + 2) w2.drew wx)
        case first =>
          go_region_held3 (fun W => W.cell? ⟨s + 3, 0, none⟩ = some (.map (some (s + 2))) ∧ W.cell? ⟨s + 1, 0, none⟩ = some (.map (some s)) ∧ W.cell? ⟨w.heap.size, 0, none⟩ = some (.int .i64 nd) ∧ W.cell? ⟨w1.heap.size, 0, none⟩ = some (.int .u64 eid) ∧ W.cell? ⟨w1.heap.size, 1, none⟩ = some (.int .u64 mem)) (first | exact ⟨D0, D1, D2, D3, D4⟩ | exact ⟨E0, E1, E2, E3, E4⟩ | exact ⟨F0, F1, F2, F3, F4⟩ | exact ⟨G0, G1, G2, G3, G4⟩ | exact ⟨I0, I1, I2, I3, I4⟩) (fail)
          all_goals
            go_wp2_with fail
            go_meet
            first | exact ⟨H4.out.st, H4.out.k4⟩ | exact ⟨H4'.out.st, H4'.out.k4⟩
        case rest =>
        obtain ⟨h5, k5⟩ := hcut
        obtain ⟨w4, hw4⟩ : ∃ w4, w4 = wc := ⟨_, rfl⟩
        rw [← hw4] at h5 k5 ⊢
        clear hw4 H4 H4' E0 E1 E2 E3 E4 F0 F1 F2 F3 F4 G0 G1 G2 G3 G4 I0 I1 I2 I3 I4 hr1 hr2 hr1' hr2'
        have H4 := Lib.hid h5
        have K4 := Lib.hid (KD.out.step k5)
        have v0' : w4.cell? ⟨w1.heap.size, 0, none⟩ = some (.int .u64 eid) := k5.cellS (w := w2.drew) v0 (by show ¬ (w1.heap.size = s ∨ w1.heap.size = s + 2); omega)
        have f4 := h5.fb
        have o4 := h5.ofb
        have i4 : IsFn uV uV w4 s (upd σ.of eid mem) := h5.of
        clear h5 k5
        go_wp2_with fail
        refine (major1_any i4 o4 eid).mono ?_
        rintro r w5 ⟨rfl, rfl⟩
        have hm : vmin (vnext σ ⟨nd, st, kd, eid, mem, n, snd, num, text⟩) ⟨nd, st, kd, eid, mem, n, snd, num, text⟩ = (!majorV (upd σ.of eid mem) eid || (IntKind.u64.wrap (eid + 1) != 0 && !majorV (upd σ.of eid mem) (IntKind.u64.wrap (eid + 1)))) := rfl
        cases h1 : majorV (upd σ.of eid mem) eid
        · have hv := HV.out
          rw [hm, h1, if_pos (by simp)] at hv
          clear HV hm
          have HV := Lib.hid hv
          clear hv
          go_wp2
          go_ret
          rw [← HV.out]
          exact ⟨rfl, fun h => by simp at h, K4.out⟩
        · cases h2 : (IntKind.u64.wrap (eid + 1) != 0)
          · have h2a : (IntKind.u64.wrap (eid + 1) == 0) = true := by simpa using h2
            have hv := HV.out
            rw [hm, h1, h2, if_neg (by simp)] at hv
            clear HV hm
            have HV := Lib.hid hv
            clear hv
            go_wp2
            go_ret
            rw [← HV.out]
            exact ⟨rfl, fun h => H4.out, K4.out⟩
          · have h2a : (IntKind.u64.wrap (eid + 1) == 0) = false := by simpa using h2
            have h2b : ¬ IntKind.u64.wrap (eid + 1) = 0 := by simpa using h2
            have HM := Lib.hid hm
            clear hm
            go_wp2_with fail
            refine (major1_any i4 o4 (IntKind.u64.wrap (eid + 1))).mono ?_
            rintro r w5 ⟨rfl, rfl⟩
            cases h3 : majorV (upd σ.of eid mem) (IntKind.u64.wrap (eid + 1))
            · have hv := HV.out
              rw [HM.out, h1, h2, h3, if_pos (by simp)] at hv
              clear HV HM
              have HV := Lib.hid hv
              clear hv
              go_wp2
              go_ret
              rw [← HV.out]
              exact ⟨rfl, fun h => by simp at h, K4.out⟩
            · have hv := HV.out
              rw [HM.out, h1, h2, h3, if_neg (by simp)] at hv
              clear HV HM
              have HV := Lib.hid hv
              clear hv
              go_wp2
              go_ret
              rw [← HV.out]
              exact ⟨rfl, fun h => H4.out, K4.out⟩
      · rw [hb, if_pos rfl] at hv
        have HV := Lib.hid hv
        clear hv
        go_wp2
        go_ret
        rw [← HV.out]
        exact ⟨rfl, fun h => by simp at h, K2.out.mono fun _ h _ => absurd h (fun h => h)⟩

end Go.Proofs.Ytjihimapopbdpaa
