/- The four tests as a whole. -/
import Derived.Test.YtjihimapopbdpaaFirst
namespace Go.Proofs.Ytjihimapopbdpaa
open Go.RowKit Sh
open Go.ChangeMaps (setBlock)
set_option linter.unusedVariables false

theorem made_at {κ ν : Type} [DecidableEq κ] {K : κ → Value} {V : ν → Value} {w : World} {n : Nat} (hn : n = w.heap.size) : IsFn K V (w.alloc (.map #[] 0)) n (fun _ => none) := by
  subst hn; exact IsFn.made w
def v0 : VSt := ⟨fun _ => none, fun _ => none⟩
def o0 : OSt := ⟨fun _ => none, fun _ => none⟩
def t0 : TSt := ⟨fun _ => none, fun _ => none, fun _ => none⟩
def a0 : ASt := ⟨fun _ => none, fun _ => none⟩
abbrev bx (b : Nat) (t : TypeId) : Obj := .cells #[.map (some b)] t

set_option maxHeartbeats 1000000 in
theorem views_any {w : World} {v : Value} {L : List Ent} (hL : IsEs w v L) :
    Calls Try.prog 11 #[v] w fun r w' => r = .returned (.int .i64 (runT vstep v0 L)) ∧ Keep (fun _ => False) w w' := by
  have HL := Lib.hid hL
  have hmm := @run_makeMap Try.prog
  have k1 := (Keep.refl (fun _ => False) w).alloc (.map #[] 0)
  have k2 := k1.alloc (bx w.heap.size 49)
  have k3 := k2.alloc (.map #[] 0)
  have k4 := k3.alloc (bx (w.heap.size + 2) 50)
  have k5 := k4.alloc (.cells #[.func (.func 20) #[] #[.pointer (some ⟨w.heap.size + 1, 0, none⟩)]] 53)
  have a1 := (((((Keep.refl (fun _ => False) (w.alloc (.map #[] 0))).alloc (bx w.heap.size 49)).alloc (.map #[] 0)).alloc (bx (w.heap.size + 2) 50)).alloc (.cells #[.func (.func 20) #[] #[.pointer (some ⟨w.heap.size + 1, 0, none⟩)]] 53))
  have a2 := ((((Keep.refl (fun _ => False) ((w.alloc (.map #[] 0)).alloc (bx w.heap.size 49))).alloc (.map #[] 0)).alloc (bx (w.heap.size + 2) 50)).alloc (.cells #[.func (.func 20) #[] #[.pointer (some ⟨w.heap.size + 1, 0, none⟩)]] 53))
  have a3 := (((Keep.refl (fun _ => False) (((w.alloc (.map #[] 0)).alloc (bx w.heap.size 49)).alloc (.map #[] 0))).alloc (bx (w.heap.size + 2) 50)).alloc (.cells #[.func (.func 20) #[] #[.pointer (some ⟨w.heap.size + 1, 0, none⟩)]] 53))
  have a4 := ((Keep.refl (fun _ => False) ((((w.alloc (.map #[] 0)).alloc (bx w.heap.size 49)).alloc (.map #[] 0)).alloc (bx (w.heap.size + 2) 50))).alloc (.cells #[.func (.func 20) #[] #[.pointer (some ⟨w.heap.size + 1, 0, none⟩)]] 53))
  have H0 : Hid (VW w.heap.size _ v0) := Lib.hid ⟨(IsFn.made w).keep a1 id, a2.cell (cell_new (by simp) rfl), (made_at (by simp)).keep a3 id, a4.cell (cell_new (by simp) rfl), cell_new (by simp) rfl⟩
  have K5 := Lib.hid k5
  clear k1 k2 k3 k4 k5 a1 a2 a3 a4 hL
  have hsf : ∀ (a : Addr) (x : Fn) (y z : Array Value) (w : World), (store a (.func x y z) .plain).run Try.prog w = stored Try.prog w a (.func x y z) .plain := fun a x y z w => run_store Try.prog w a (.func x y z) .plain rfl
  go_enter Try.func11, Try.ntmps11
  go_wp2_with fail
  refine (first_23 (VW w.heap.size) vstep (fun k => k = w.heap.size ∨ k = w.heap.size + 2) w (.pointer (some ⟨w.heap.size + 3, 0, none⟩)) (.pointer (some ⟨w.heap.size + 1, 0, none⟩)) (.pointer (some ⟨w.heap.size + 4, 0, none⟩)) (fun _ _ _ h k => h.keep k) (by omega) (fun _ _ e h => vstep_any h e) HL.out K5.out H0.out).mono ?_
  rintro r w' ⟨rfl, hk⟩
  have HK := Lib.hid hk
  clear hk
  go_wp2
  go_ret
  exact ⟨rfl, HK.out⟩

set_option maxHeartbeats 1000000 in
theorem order_any {w : World} {v : Value} {L : List Ent} (hL : IsEs w v L) :
    Calls Try.prog 13 #[v] w fun r w' => r = .returned (.int .i64 (runT ostep o0 L)) ∧ Keep (fun _ => False) w w' := by
  have HL := Lib.hid hL
  have hmm := @run_makeMap Try.prog
  have k1 := (Keep.refl (fun _ => False) w).alloc (.map #[] 0)
  have k2 := k1.alloc (bx w.heap.size 59)
  have k3 := k2.alloc (.map #[] 0)
  have k4 := k3.alloc (bx (w.heap.size + 2) 60)
  have a1 := ((((Keep.refl (fun _ => False) (w.alloc (.map #[] 0))).alloc (bx w.heap.size 59)).alloc (.map #[] 0)).alloc (bx (w.heap.size + 2) 60))
  have a2 := (((Keep.refl (fun _ => False) ((w.alloc (.map #[] 0)).alloc (bx w.heap.size 59))).alloc (.map #[] 0)).alloc (bx (w.heap.size + 2) 60))
  have a3 := ((Keep.refl (fun _ => False) (((w.alloc (.map #[] 0)).alloc (bx w.heap.size 59)).alloc (.map #[] 0))).alloc (bx (w.heap.size + 2) 60))
  have H0 : Hid (OW w.heap.size _ o0) := Lib.hid ⟨(IsFn.made w).keep a1 id, a2.cell (cell_new (by simp) rfl), (made_at (by simp)).keep a3 id, cell_new (by simp) rfl⟩
  have K5 := Lib.hid k4
  clear k1 k2 k3 k4 a1 a2 a3 hL
  go_enter Try.func13, Try.ntmps13
  go_wp2_with fail
  refine (first_27 (OW w.heap.size) ostep (S2 w.heap.size) w (.pointer (some ⟨w.heap.size + 3, 0, none⟩)) (.pointer (some ⟨w.heap.size + 1, 0, none⟩)) (fun _ _ _ h k => h.keep k) (by unfold S2; omega) (fun _ _ e h => ostep_any h e) HL.out K5.out H0.out).mono ?_
  rintro r w' ⟨rfl, hk⟩
  have HK := Lib.hid hk
  clear hk
  go_wp2
  go_ret
  exact ⟨rfl, HK.out⟩

set_option maxHeartbeats 1000000 in
theorem alike_any {w : World} {v : Value} {L : List Ent} (hL : IsEs w v L) :
    Calls Try.prog 17 #[v] w fun r w' => r = .returned (.int .i64 (runT astep a0 L)) ∧ Keep (fun _ => False) w w' := by
  have HL := Lib.hid hL
  have hmm := @run_makeMap Try.prog
  have k1 := (Keep.refl (fun _ => False) w).alloc (.map #[] 0)
  have k2 := k1.alloc (bx w.heap.size 74)
  have k3 := k2.alloc (.map #[] 0)
  have k4 := k3.alloc (bx (w.heap.size + 2) 75)
  have a1 := ((((Keep.refl (fun _ => False) (w.alloc (.map #[] 0))).alloc (bx w.heap.size 74)).alloc (.map #[] 0)).alloc (bx (w.heap.size + 2) 75))
  have a2 := (((Keep.refl (fun _ => False) ((w.alloc (.map #[] 0)).alloc (bx w.heap.size 74))).alloc (.map #[] 0)).alloc (bx (w.heap.size + 2) 75))
  have a3 := ((Keep.refl (fun _ => False) (((w.alloc (.map #[] 0)).alloc (bx w.heap.size 74)).alloc (.map #[] 0))).alloc (bx (w.heap.size + 2) 75))
  have H0 : Hid (AW w.heap.size _ a0) := Lib.hid ⟨(IsFn.made w).keep a1 id, a2.cell (cell_new (by simp) rfl), (made_at (by simp)).keep a3 id, cell_new (by simp) rfl⟩
  have K5 := Lib.hid k4
  clear k1 k2 k3 k4 a1 a2 a3 hL
  go_enter Try.func17, Try.ntmps17
  go_wp2_with fail
  refine (first_33 (AW w.heap.size) astep (S2 w.heap.size) w (.pointer (some ⟨w.heap.size + 3, 0, none⟩)) (.pointer (some ⟨w.heap.size + 1, 0, none⟩)) (fun _ _ _ h k => h.keep k) (by unfold S2; omega) (fun _ _ e h => astep_any h e) HL.out K5.out H0.out).mono ?_
  rintro r w' ⟨rfl, hk⟩
  have HK := Lib.hid hk
  clear hk
  go_wp2
  go_ret
  exact ⟨rfl, HK.out⟩

set_option maxHeartbeats 1000000 in
theorem once_any {w : World} {v : Value} {L : List Ent} (hL : IsEs w v L) :
    Calls Try.prog 15 #[v] w fun r w' => r = .returned (.int .i64 (runT nstep t0 L)) ∧ Keep (fun _ => False) w w' := by
  have HL := Lib.hid hL
  have hmm := @run_makeMap Try.prog
  have k1 := (Keep.refl (fun _ => False) w).alloc (.map #[] 0)
  have k2 := k1.alloc (bx w.heap.size 67)
  have k3 := k2.alloc (.map #[] 0)
  have k4 := k3.alloc (bx (w.heap.size + 2) 68)
  have k5 := k4.alloc (.map #[] 0)
  have k6 := k5.alloc (bx (w.heap.size + 4) 69)
  have a1 := ((((((Keep.refl (fun _ => False) (w.alloc (.map #[] 0))).alloc (bx w.heap.size 67)).alloc (.map #[] 0)).alloc (bx (w.heap.size + 2) 68)).alloc (.map #[] 0)).alloc (bx (w.heap.size + 4) 69))
  have a2 := (((((Keep.refl (fun _ => False) ((w.alloc (.map #[] 0)).alloc (bx w.heap.size 67))).alloc (.map #[] 0)).alloc (bx (w.heap.size + 2) 68)).alloc (.map #[] 0)).alloc (bx (w.heap.size + 4) 69))
  have a3 := ((((Keep.refl (fun _ => False) (((w.alloc (.map #[] 0)).alloc (bx w.heap.size 67)).alloc (.map #[] 0))).alloc (bx (w.heap.size + 2) 68)).alloc (.map #[] 0)).alloc (bx (w.heap.size + 4) 69))
  have a4 := (((Keep.refl (fun _ => False) ((((w.alloc (.map #[] 0)).alloc (bx w.heap.size 67)).alloc (.map #[] 0)).alloc (bx (w.heap.size + 2) 68))).alloc (.map #[] 0)).alloc (bx (w.heap.size + 4) 69))
  have a5 := ((Keep.refl (fun _ => False) (((((w.alloc (.map #[] 0)).alloc (bx w.heap.size 67)).alloc (.map #[] 0)).alloc (bx (w.heap.size + 2) 68)).alloc (.map #[] 0))).alloc (bx (w.heap.size + 4) 69))
  have H0 : Hid (TW w.heap.size _ t0) := Lib.hid ⟨(IsFn.made w).keep a1 id, a2.cell (cell_new (by simp) rfl), (made_at (by simp)).keep a3 id, a4.cell (cell_new (by simp) rfl), (made_at (by simp)).keep a5 id, cell_new (by simp) rfl⟩
  have K5 := Lib.hid k6
  clear k1 k2 k3 k4 k5 k6 a1 a2 a3 a4 a5 hL
  go_enter Try.func15, Try.ntmps15
  go_wp2_with fail
  refine (first_31 (TW w.heap.size) nstep (S3 w.heap.size) w (.pointer (some ⟨w.heap.size + 1, 0, none⟩)) (.pointer (some ⟨w.heap.size + 5, 0, none⟩)) (.pointer (some ⟨w.heap.size + 3, 0, none⟩)) (fun _ _ _ h k => h.keep k) (by unfold S3; omega) (fun _ _ e h => nstep_any h e) HL.out K5.out H0.out).mono ?_
  rintro r w' ⟨rfl, hk⟩
  have HK := Lib.hid hk
  clear hk
  go_wp2
  go_ret
  exact ⟨rfl, HK.out⟩

end Go.Proofs.Ytjihimapopbdpaa
