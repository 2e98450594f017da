/- The closure that Detector.Hear defers. Walk of Detector.Tick: what its pieces lean on. A region that draws its order, S holding behind each of its operations. Walks of Detector.Know and detect.New. -/
import Derived.Test.YtofonfohaocclaaGreatDoorHelp
import Derived.Test.YtofonfohaocclaaGreatDoorG25
import Derived.Defers
import Derived.Recover
import Derived.Test.YtofonfohaocclaaGreatDoorG22
namespace Go.Proofs.YtofonfohaocclaaGreatDoor
open Go.RowKit Sh
open Go.ChangeMaps (setBlock)
set_option linter.unusedVariables false

set_option maxRecDepth 100000 in
set_option maxHeartbeats 1000000 in
theorem catch_idle (p q : Addr) (w : World) :
    CallsD Tryz.prog 53 #[.pointer (some p), .pointer (some q)] .returning w fun e u' w' => e = .returned (.tuple #[]) ∧ u' = .returning ∧ w' = w := by
  refine callsD_of_wpS Tryz.func53 rfl fun c₀ cs hu => ?_
  apply wpS_seq
  apply wpS_region
  simp [wpOpsS, go_sem, recoverD, hu, Tryz.ntmps53, Exit.thenS]
  refine wpS_of_wp ?_
  go_wp2_with fail
  cases c₀
  simp_all [bodyPostS, results, Tryz.results53]
set_option maxRecDepth 100000 in
set_option maxHeartbeats 1000000 in
theorem catch_panicking (p q : Addr) (k : Int) (v : Value) (old : Int) (older : List PanicEntry) (w : World) (hp : w.cell? p = some v) (hpf : w.frozen? p = false) (hq : w.cell? q = some (.int .i64 old)) (hqf : w.frozen? q = false) (hne : q.block ≠ p.block) :
    CallsD Tryz.prog 53 #[.pointer (some p), .pointer (some q)] (.panicking ({ v := .iface 56 (.int .i64 k), recovered := false } :: older)) w fun e u' w' => e = .returned (.tuple #[]) ∧ u' = .panicking ({ v := .iface 56 (.int .i64 k), recovered := true } :: older) ∧ w' = (w.setCell p (.slice none 0 0)).setCell q (.int .i64 k) := by
  have hta : ∀ w, (Instr.typeAssert (.iface 56 (.int .i64 k)) 20 56 true).run Tryz.prog w = .ok (.tuple #[.int .i64 k, .bool true]) w := fun _ => by kernel_rfl
  have hq2 : (w.setCell p (.slice none 0 0)).cell? q = some (.int .i64 old) := by rw [World.cell?_setCell_other _ _ _ _ (fun h => hne (by rw [h]))]; exact hq
  have hqf2 : (w.setCell p (.slice none 0 0)).frozen? q = false := by simpa using hqf
  refine callsD_of_wpS Tryz.func53 rfl fun c₀ cs hu => ?_
  apply wpS_seq
  apply wpS_region
  simp [wpOpsS, go_sem, recoverD, hu, Tryz.ntmps53, Exit.thenS]
  refine wpS_of_wp ?_
  go_wp2_with fail
  simp_all [bodyPostS, results, Tryz.results53]
end Go.Proofs.YtofonfohaocclaaGreatDoor

namespace Go.Proofs.YtofonfohaocclaaGreatDoor
open Go.RowKit Sh
open Go.ChangeMaps (setBlock)
set_option linter.unusedVariables false

structure TSet (w w' : World) (b : Nat) (p : Parts) (xl : Nat) (v : Value) (d' : Det) (L' : List Int) (N : List Nt) : Prop where
  own : OwnNts w' w.heap.size v N
  set : DLSet w w' b p xl d' L'
def tickF (c : Det × List Int) (N : List Nt) : Option (Int × List Int × List Int) → Det × List Int × List Nt
  | none => (c.1, c.2, N)
  | some (n, left, L') => ((c.1.tickD n left).1, L', N ++ [(c.1.tickD n left).2])
theorem tick_eq2 (d : Det) (L : List Int) (hg : d.gone = false) : d.tick L = tickF ((d.tickA L).1.tickC (d.tickA L).2.1) (d.tickA L).2.2 (nextP ((d.tickA L).1.tickC (d.tickA L).2.1).1.r.others ((d.tickA L).1.tickC (d.tickA L).2.1).1.left ((d.tickA L).1.tickC (d.tickA L).2.1).2) := by
  rw [tick_eq, if_neg (by rw [hg]; simp)]
  cases nextP ((d.tickA L).1.tickC (d.tickA L).2.1).1.r.others ((d.tickA L).1.tickC (d.tickA L).2.1).1.left ((d.tickA L).1.tickC (d.tickA L).2.1).2 with
  | none => rfl
  | some x => rfl
/-- The clock is set on, the watches are taken out. -/
structure Cleared (w w1 : World) (b : Nat) (d : Det) (p : Parts) (g : Nat) : Prop where
  det : IsDet w1 b { { d with now := inc64 d.now } with ws := [] } { p with vw := .slice none 0 0 }
  sub : ∀ k, ({ p with vw := .slice none 0 0 } : Parts).has b k → p.has b k ∨ w.heap.size ≤ k
  keep : Keep (p.has b) w w1
  box : w1.cell? ⟨g, 0, none⟩ = some (.pointer (some ⟨b, 0, none⟩))
  old : Row w1 96 4 p.vw d.ws.length (flat wtC d.ws)
theorem cleared {w w0 : World} {b : Nat} {d : Det} {p : Parts} (h : IsDet w b d p) (k0 : Keep (fun _ => False) w w0) (hx : w0.cell? ⟨w.heap.size, 0, none⟩ = some (.pointer (some ⟨b, 0, none⟩))) :
    Cleared w ((w0.setCell ⟨b, 8, none⟩ (.int .u64 (inc64 d.now))).setCell ⟨b, 5, none⟩ (.slice none 0 0)) b d p w.heap.size := by
  have h0 := h.keep0 k0
  have hb := h.lt (hb p b)
  have h8 := h0.set8 (inc64 d.now)
  obtain ⟨hd, hs, hk⟩ := h8.set_ws (w1 := w0.setCell ⟨b, 8, none⟩ (.int .u64 (inc64 d.now))) (Keep.refl _ _) (v' := .slice none 0 0) (l' := []) (Row.nil _ 96 4) (fun g hg => by cases hg)
  have hk8 := h0.keep_set 8 (.int .u64 (inc64 d.now))
  have kt : Keep (p.has b) w ((w0.setCell ⟨b, 8, none⟩ (.int .u64 (inc64 d.now))).setCell ⟨b, 5, none⟩ (.slice none 0 0)) := (k0.mono fun _ h _ => h.elim).step (hk8.step hk)
  refine ⟨hd, fun k hk => ?_, kt, ?_, ?_⟩
  · rcases hs k hk with h1 | h1
    · exact .inl h1
    · refine .inr ?_
      have := k0.size
      have h2 : (w0.setCell ⟨b, 8, none⟩ (.int .u64 (inc64 d.now))).heap.size = w0.heap.size := by simp [World.setCell]
      omega
  · exact set_ne (by simp; omega) (set_ne (by simp; omega) hx)
  · refine (h.ws.keep0 k0).keep ((((Keep.refl (fun j => j = b) w0).setAt 8 (.int .u64 (inc64 d.now))).setAt 5 (.slice none 0 0))) fun g hg e => ?_
    exact (h.kw hg).ne h.kb (by decide) e
/-- Ahead of a round of the watches. -/
structure TLoop (w1 wr : World) (b : Nat) (p1 : Parts) (xl : Nat) (d0 : Det) (L : List Int) (old : List Wt) (base i : Nat) (v4 : Value) : Prop where
  ex : ∃ di Li Ni, DLSet w1 wr b p1 xl di Li ∧ OwnNts wr base v4 Ni ∧ KO i di ∧ d0.watches L old = ((di.watches Li (old.drop i)).1, (di.watches Li (old.drop i)).2.1, Ni ++ (di.watches Li (old.drop i)).2.2)
/-- A piece of a body: each 0, 1: the left one, the right one (of a loop, a block: what is in it). -/
def cSub : List Nat → Code → Code
  | [], c => c
  | k :: l, .seq a b => cSub l (if k = 0 then a else b)
  | k :: l, .cond _ a b => cSub l (if k = 0 then a else b)
  | _ :: l, .block _ c => cSub l c
  | _ :: l, .loop c => cSub l c
  | _ :: _, c => c
def fSub (f : Func) (l : List Nat) : Code := match f.body with
  | some c => cSub l c
  | none => .skip
end Go.Proofs.YtofonfohaocclaaGreatDoor

namespace Go.Proofs.YtofonfohaocclaaGreatDoor
open Go Go.RowKit
set_option linter.unusedVariables false
section
variable {P : Program} {ops : Array Oper} {Q : Exit → Act → World → Prop} {md : Region.Mode} {S : World → Prop} {s : Nat}
theorem never_last {L : Array Bool} (h : ops[s]? = none) : s ∉ Region.ready md ops L := by
  intro hs
  obtain ⟨_, o, ho, _⟩ := mem_ready.1 hs
  rw [h] at ho
  cases ho
theorem Upto.firstS {i : Nat} {oi : Oper} {v : Value} (hi : ops[i]? = some oi) (hsel : ∀ (j : Nat) (o : Oper) cs b, ops[j]? = some o → o.op ≠ .select cs b)
    (hQ : ∀ c a w, Q (.panic c) (a.put oi.dst v) w → Q (.panic c) a w) (hw : ops[s]? = none) (f : Nat) :
    ∀ (L : Array Bool) (a : Act) (w : World),
      (∀ j oj, ops[j]? = some oj → j ≠ i → L.getD j true = false → (∀ e ∈ oj.after, Region.binds md e = true → e.on ≠ i) → oi.apart ops oj = true) →
      i ∈ Region.ready md ops L → YieldsIf P ops S oi v a → S w → Upto P md ops Q S s f (L.setIfInBounds i true) (a.put oi.dst v) w → Upto P md ops Q S s (f + 1) L a w := by
  induction f with
  | zero =>
    intro L a w _ hr hy hS H
    refine ⟨fun h => absurd hr (by rw [h]; exact List.not_mem_nil), fun j hj => ?_⟩
    by_cases e : j = i
    · subst e; exact hy.wpOp hi hS ⟨.inr hS, H⟩
    · exact absurd (ready_mono hj e) (by rw [H.1]; exact List.not_mem_nil)
  | succ f ih =>
    intro L a w hfree hr hy hS H
    have hun := (mem_ready.1 hr).1
    refine ⟨fun h => absurd hr (by rw [h]; exact List.not_mem_nil), fun j hj => ?_⟩
    by_cases e : j = i
    · subst e; exact hy.wpOp hi hS ⟨.inr hS, H⟩
    · have hjs : j ≠ s := fun h => never_last hw (h ▸ hj)
      obtain ⟨hju, oj, hoj, hall⟩ := mem_ready.1 hj
      have hnot : ∀ g ∈ oj.after, Region.binds md g = true → g.on ≠ i := fun g hg hb heq => by
        have h1 := hall g hg hb
        rw [heq] at h1
        rcases Nat.lt_or_ge i L.size with c | c
        · simp [c] at hun h1; rw [hun] at h1; cases h1
        · simp [Array.getElem?_eq_none c] at h1
      refine wpOp_mono (fun a' w' g => ?_) (wpOp_putIf hoj (hfree j oj hoj e hju hnot) (fun cs b => hsel i oi cs b hi) (fun cs b => hsel j oj cs b hoj) hQ hy (H.2 j (ready_mono hj e)))
      have hS' : S w' := g.2.1.resolve_left hjs
      refine ⟨.inr hS', ih _ a' w' (fun k ok hk hki hku hno => hfree k ok hk hki ?_ hno) (ready_mono hr (Ne.symm e)) g.1 hS' ?_⟩
      · by_cases c : j = k
        · subst c; exact hju
        · rwa [getD_set_ne true c] at hku
      · rw [Array.setIfInBounds_comm _ _ e]
        exact g.2.2
theorem Upto.takeS {i : Nat} {oi : Oper} {v : Value} {f : Nat} {L : Array Bool} {a : Act} {w : World} (hi : ops[i]? = some oi)
    (hs : Region.noSelect ops = true) (hf : Region.free md ops L i = true) (hr : (Region.ready md ops L).contains i = true) (hw : ops[s]? = none)
    (hQ : ∀ c a w, Q (.panic c) (a.put oi.dst v) w → Q (.panic c) a w) (hS : S w) (hy : YieldsIf P ops S oi v a)
    (h : Upto P md ops Q S s f (L.setIfInBounds i true) (a.put oi.dst v) w) : Upto P md ops Q S s (f + 1) L a w :=
  Upto.firstS hi (Region.noSelect_spec hs) hQ hw f L a w (Region.free_spec hi hf) (by simpa using hr) hy hS h
end
end Go.Proofs.YtofonfohaocclaaGreatDoor

namespace Go.Proofs.YtofonfohaocclaaGreatDoor
open Go.RowKit Sh
open Go.ChangeMaps (setBlock)
set_option linter.unusedVariables false
set_option linter.unusedSimpArgs false

set_option maxRecDepth 100000 in
set_option maxHeartbeats 2000000 in
theorem know_det {w : World} {b xl : Nat} {d : Det} {p : Parts} {L : List Int} (h : IsDet w b d p) (ho : DetOk d) (hT : TabAt 0 B.tabS w) (hL : IsLots w xl L) (u : Up) (hu : inU u.i) :
    Calls Tryz.prog 18 #[.pointer (some ⟨b, 0, none⟩), uV u, .pointer (some ⟨xl, 0, none⟩)] w fun e w' => e = .returned (.int .i64 (d.take L u d.r.me).2.2) ∧ DLSet w w' b p xl (d.take L u d.r.me).1 (d.take L u d.r.me).2.1 := by
  obtain ⟨un, ui, us⟩ := u
  obtain ⟨w0, hw0⟩ : ∃ w0, w0 = w.alloc (.cells #[.int .i64 un, .int .u64 ui, .int .i64 us] 52) := ⟨_, rfl⟩
  have k0 : Keep (fun _ => False) w w0 := by rw [hw0]; exact (Keep.refl _ w).alloc _
  have x0 : w0.cell? ⟨w.heap.size, 0, none⟩ = some (.int .i64 un) := by rw [hw0]; exact alc _ _ _ _ _ rfl
  have x1 : w0.cell? ⟨w.heap.size, 1, none⟩ = some (.int .u64 ui) := by rw [hw0]; exact alc _ _ _ _ _ rfl
  have x2 : w0.cell? ⟨w.heap.size, 2, none⟩ = some (.int .i64 us) := by rw [hw0]; exact alc _ _ _ _ _ rfl
  have c2 := (h.keep0 k0).c2
  have kd : Keep (fun _ => False) w w0.drew := k0.drew
  have HTK := Lib.hid (take_det (h.keep0 kd) ho (B.tab_keep hT kd id) (hL.keep0 kd) ⟨un, ui, us⟩ hu d.r.me)
  have HK := Lib.hid kd
  have hb := h.lt (hb p b)
  clear h ho hT hL kd k0
  unfold uV
  go_enter Tryz.func18, Tryz.ntmps18
  go_upto_region 1 with fail
  rw [← hw0]
  clear hw0
  go_still_tail 7, (by kernel_rfl)
  go_wp2_with fail
  refine HTK.out.mono ?_
  rintro e w1 ⟨rfl, hs⟩
  have HF := Lib.hid (DLSet.next (fun k hk => .inl hk) (HK.out.mono fun _ h _ => h.elim) hs)
  clear hs HTK
  go_wp2_with fail
  go_ret
  exact ⟨rfl, HF.out⟩
/-- A new detector. -/
structure NewIs (w w' : World) (me : Int) (b : Nat) : Prop where
  ex : ∃ p, IsDet w' b (Det.new me) p ∧ ∀ k, p.has b k → w.heap.size ≤ k
  keep : Keep (fun _ => False) w w'
def det0 (me : Int) : Det := ⟨Rol.new me, [], [], [], [], [], 0, 0, false⟩
theorem isdet0 {w1 : World} {rb base : Nat} {me : Int} (hr : IsRoll w1 rb (Rol.new me)) (hb : base ≤ rb) (hbp : 0 < base) (hbs : base ≤ w1.heap.size) :
    IsDet (w1.alloc (.cells #[.pointer (some ⟨rb, 0, none⟩), .slice none 0 0, .int .i64 me, .map none, .map none, .slice none 0 0, .slice none 0 0, .int .u64 0, .int .u64 0, .bool false] 48)) w1.heap.size (det0 me) ⟨rb, .slice none 0 0, .slice none 0 0, .slice none 0 0, none, none⟩ ∧
    ∀ k, (⟨rb, .slice none 0 0, .slice none 0 0, .slice none 0 0, none, none⟩ : Parts).has w1.heap.size k → base ≤ k := by
  have hp : ∀ k, (⟨rb, .slice none 0 0, .slice none 0 0, .slice none 0 0, none, none⟩ : Parts).has w1.heap.size k → base ≤ k := fun k hk => by
    rcases hk.or with h | h | h | h | h | h | h
    · omega
    · have h' : k = rb := h
      omega
    all_goals cases h
  have hn := heap_alloc_new w1 (.cells #[.pointer (some ⟨rb, 0, none⟩), .slice none 0 0, .int .i64 me, .map none, .map none, .slice none 0 0, .slice none 0 0, .int .u64 0, .int .u64 0, .bool false] 48)
  refine ⟨⟨hn, hr.keep ((Keep.refl (fun _ => False) w1).alloc _) id, Row.nil _ _ _, Row.nil _ _ _, Row.nil _ _ _, ⟨hn, rfl, (fun B hB => by cases hB), fun _ => rfl⟩, ⟨hn, rfl, (fun B hB => by cases hB), fun _ => rfl⟩, fun k hk => (by cases hk), fun k hk => ?_⟩, hp⟩
  have := hp k hk
  omega
set_option maxRecDepth 100000 in
set_option maxHeartbeats 2000000 in
theorem new_det {w : World} (me : Int) (hm : 0 ≤ me ∧ me < 64) (hw : 0 < w.heap.size) : Calls Tryz.prog 19 #[.int .i64 me] w fun e w' => ∃ b, e = .returned (.pointer (some ⟨b, 0, none⟩)) ∧ w.heap.size ≤ b ∧ NewIs w w' me b := by
  have hr := rolnew_any (w := w) me hm
  have HM := Lib.hid hm
  clear hm
  go_enter Tryz.func19, Tryz.ntmps19
  go_wp2_with fail
  refine hr.mono ?_
  rintro e w1 ⟨rb, rfl, hrb, hro, hk1⟩
  obtain ⟨hd, hp⟩ := isdet0 hro hrb hw hk1.size
  obtain ⟨w2, hw2⟩ : ∃ w2, w2 = w1.alloc (.cells #[.pointer (some ⟨rb, 0, none⟩), .slice none 0 0, .int .i64 me, .map none, .map none, .slice none 0 0, .slice none 0 0, .int .u64 0, .int .u64 0, .bool false] 48) := ⟨_, rfl⟩
  have HK2 : Hid (Keep (fun _ => False) w w2) := Lib.hid (by rw [hw2]; exact hk1.alloc _)
  rw [← hw2] at hd
  have HD := Lib.hid hd
  have HP := Lib.hid hp
  have us := hk1.size
  clear hr hro hk1 hd hp
  go_upto_region 5 with fail
  rw [← hw2]
  clear hw2
  refine Upto.start (fun _ => True) 1000 (by kernel_rfl) ?_
  change Upto _ _ _ _ _ _ 6 _ _ _
  refine Upto.takeS (i := 0) (v := ?v0) rfl (by kernel_rfl) (by kernel_rfl) (by kernel_rfl) (by kernel_rfl) (fun _ _ _ h => h) trivial (Or.inl ⟨by rfl, ?hy0⟩) ?rest0
  case hy0 =>
    intro W' hW
    skip
    go_simp
    try with_reducible rfl
  try simp only [Act.put, List.setIfInBounds_toArray, List.set_cons_zero, List.set_cons_succ]
  refine Upto.takeS (i := 1) (v := ?v1) rfl (by kernel_rfl) (by kernel_rfl) (by kernel_rfl) (by kernel_rfl) (fun _ _ _ h => h) trivial (Or.inl ⟨by rfl, ?hy1⟩) ?rest1
  case hy1 =>
    intro W' hW
    skip
    go_simp
    try with_reducible rfl
  try simp only [Act.put, List.setIfInBounds_toArray, List.set_cons_zero, List.set_cons_succ]
  refine Upto.takeS (i := 2) (v := ?v2) rfl (by kernel_rfl) (by kernel_rfl) (by kernel_rfl) (by kernel_rfl) (fun _ _ _ h => h) trivial (Or.inl ⟨by rfl, ?hy2⟩) ?rest2
  case hy2 =>
    intro W' hW
    skip
    go_simp
    try with_reducible rfl
  try simp only [Act.put, List.setIfInBounds_toArray, List.set_cons_zero, List.set_cons_succ]
  refine Upto.takeS (i := 3) (v := ?v3) rfl (by kernel_rfl) (by kernel_rfl) (by kernel_rfl) (by kernel_rfl) (fun _ _ _ h => h) trivial (Or.inl ⟨by rfl, ?hy3⟩) ?rest3
  case hy3 =>
    intro W' hW
    skip
    go_simp
    try with_reducible rfl
  try simp only [Act.put, List.setIfInBounds_toArray, List.set_cons_zero, List.set_cons_succ]
  refine Upto.one (i := 4) (by kernel_rfl) rfl (fun K hK => ?_)
  go_simp
  refine (mine_any (HD.out.keep0 ((Keep.refl _ w2).drew)).rol ⟨HM.out, bWith_lt (by show (0 : Nat) < _; omega) _⟩).mono ?_
  rintro e w3 ⟨rfl, hk3⟩
  have HD3 := Lib.hid ((HD.out.keep0 ((Keep.refl _ w2).drew)).keep0 hk3)
  have HK3 := Lib.hid (HK2.out.step (((Keep.refl (fun _ => False) w2).drew).step hk3))
  have hmy : (det0 me).r.mine = ⟨me, 0, 0⟩ := by
    show (if me.toNat = me.toNat then (⟨me, 0, 0⟩ : Up) else zUp) = _
    rw [if_pos rfl]
  rw [hmy]
  have HQP := Lib.hid (qput_any HD3.out.q ⟨by simp [det0], by simp [det0], fun _ hx => by cases hx⟩ ⟨me, 0, 0⟩ (by
    have := HM.out
    unfold Q.mayU
    exact decide_eq_true ⟨this.1, this.2, by show (0 : Int) ≤ 0; omega, by show (0 : Int) ≤ 3; omega⟩))
  have HQN : Hid (Det.new me = { det0 me with q := qput [] ⟨me, 0, 0⟩ }) := Lib.hid (by
    unfold Det.new
    rw [← hmy]
    rfl)
  have us3 := hk3.size
  refine hK.out _ _ (.inr trivial) ?_
  clear hK K hk3 hmy
  try simp only [Act.put, List.setIfInBounds_toArray, List.set_cons_zero, List.set_cons_succ]
  refine Upto.one (i := 5) (by kernel_rfl) rfl (fun K hK => ?_)
  go_simp
  refine HQP.out.mono ?_
  rintro e w4 ⟨x, mb', rfl, hq4, hN4, hk4⟩
  have HF : Hid (w.heap.size ≤ w1.heap.size ∧ NewIs w w4 me w1.heap.size) := Lib.hid (by
    refine ⟨us, ⟨_, by rw [HQN.out]; exact HD3.out.set_q hk4 hq4 hN4, fun k hk => ?_⟩, ?_⟩
    · rcases hN4.has_q hk with h1 | h1
      · exact HP.out k h1
      · have := HK3.out.size; omega
    · exact HK3.out.trans hk4 fun i hi hl => by
        rcases hi with hi | hi
        · have e : i = w1.heap.size := hi
          omega
        · cases hi)
  refine hK.out _ _ (.inr trivial) ?_
  clear hK K hq4 hN4 hk4 HQP
  try simp only [Act.put, List.setIfInBounds_toArray, List.set_cons_zero, List.set_cons_succ]
  refine Upto.done (by kernel_rfl) ?_
  go_wp2_with fail
  go_ret
  exact ⟨_, rfl, HF.out⟩
end Go.Proofs.YtofonfohaocclaaGreatDoor
