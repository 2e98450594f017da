/- The document's small functions of entries (ref19). -/
import Derived.Test.YtjihimapopbdpaaMajor
import Derived.Test.YtjihimapopbdpaaRowE
namespace Go.Proofs.Ytjihimapopbdpaa
open Go.RowKit Sh
open Go.ChangeMaps (setBlock)
set_option linter.unusedVariables false

theorem rinst_any (e : Ent) (w : World) : Calls Try.prog 38 #[entV e] w fun r w' => r = .returned (.bool e.inst) ∧ Keep (fun _ => False) w w' := by
  obtain ⟨nd, st, kd, id, mem, n, snd, num, text⟩ := e
  simp only [entV, entA, Ent.inst]
  cases st
  all_goals (go_enter Try.func38, Try.ntmps38; go_wp2; go_ret; exact ⟨rfl, (Keep.refl _ w).alloc _⟩)
theorem rdlv_any (e : Ent) (w : World) : Calls Try.prog 42 #[entV e] w fun r w' => r = .returned (.bool e.dlv) ∧ Keep (fun _ => False) w w' := by
  obtain ⟨nd, st, kd, id, mem, n, snd, num, text⟩ := e
  simp only [entV, entA, Ent.dlv]
  cases st
  all_goals (go_enter Try.func42, Try.ntmps42; go_wp2; go_ret; exact ⟨rfl, (Keep.refl _ w).alloc _⟩)
theorem rout_any (e : Ent) (w : World) : Calls Try.prog 44 #[entV e] w fun r w' => r = .returned (.bool e.out) ∧ Keep (fun _ => False) w w' := by
  obtain ⟨nd, st, kd, id, mem, n, snd, num, text⟩ := e
  simp only [entV, entA, Ent.out]
  cases st
  all_goals (go_enter Try.func44, Try.ntmps44; go_wp2; go_ret; exact ⟨rfl, (Keep.refl _ w).alloc _⟩)

def minorP (a b : Vw) : Bool := decide (0 < b.id) && (a.id == IntKind.u64.wrap (b.id - 1)) && !majorP b.mem a.mem
structure VOk (v : Vw) : Prop where
  id : 0 ≤ v.id ∧ v.id < 18446744073709551616
  mem : 0 ≤ v.mem ∧ v.mem < 18446744073709551616
theorem rminor_any (a b : Vw) (w : World) (ha : VOk a) (hb : VOk b) : Calls Try.prog 41 #[vwV a, vwV b] w fun r w' => r = .returned (.bool (minorP a b)) ∧ Keep (fun _ => False) w w' := by
  have HM := Lib.hid (rmajor_any b.mem a.mem · hb.mem.1 hb.mem.2 ha.mem.1 ha.mem.2)
  obtain ⟨ai, am⟩ := a
  obtain ⟨bi, bm⟩ := b
  unfold minorP vwV
  simp only at HM ⊢
  generalize majorP bm am = mj at HM ⊢
  clear ha hb
  cases h1 : decide (0 < bi)
  · go_enter Try.func41, Try.ntmps41
    go_wp2
    go_ret
    exact ⟨by simp, ((Keep.refl _ w).alloc _).alloc _⟩
  · cases h2 : (ai == IntKind.u64.wrap (bi - 1))
    · go_enter Try.func41, Try.ntmps41
      go_wp2
      go_ret
      exact ⟨by simp, ((Keep.refl _ w).alloc _).alloc _⟩
    · go_enter Try.func41, Try.ntmps41
      go_wp2_with fail
      refine (HM.out _).mono ?_
      rintro r w1 ⟨rfl, hk1⟩
      have HK1 := Lib.hid ((((Keep.refl (fun _ => False) w).alloc _).alloc _).step hk1)
      clear hk1
      go_wp2
      go_ret
      exact ⟨by simp, HK1.out⟩

/-- Seat and view of a node, ahead of an entry: places. -/
def seatP (L : List Ent) (nd : Int) : Nat → Int
  | 0 => -1
  | k + 1 => if (L.getD k default).node = nd then (if (L.getD k default).out then -1 else if (L.getD k default).inst then k else seatP L nd k) else seatP L nd k
def viewP (L : List Ent) (nd : Int) : Nat → Int
  | 0 => -1
  | k + 1 => if (L.getD k default).inst && ((L.getD k default).node == nd) then k else viewP L nd k
theorem IsEs.cells {w : World} {g o n c : Nat} {L : List Ent} (h : IsEs w (.slice (some ⟨g, o, none⟩) n c) L) (i : Nat) (hi : i < L.length) (j : Nat) (hj : j < 9) : w.cell? ⟨g, o + i * 9 + j, none⟩ = (entA (L.getD i default))[j]? := by
  obtain ⟨A, c', e, h1, h2, h3⟩ := h.ex
  obtain ⟨g', o', e2, h5⟩ := h3 (by omega)
  injection e with e1
  rw [e2] at e1
  injection e1 with e1
  injection e1 with e1 e3
  subst e1; subst e3
  rw [h5 i hi j hj]
  simp [hi]
theorem IsEs.form {w : World} {v : Value} {L : List Ent} (h : IsEs w v L) (hl : 0 < L.length) : ∃ g o c, v = .slice (some ⟨g, o, none⟩) L.length c ∧ L.length ≤ c := by
  obtain ⟨A, c', e, h1, h2, h3⟩ := h.ex
  obtain ⟨g', o', e2, h5⟩ := h3 hl
  subst e2
  exact ⟨g', o', c', e, h1⟩
theorem IsEs.le {w : World} {v : Value} {L : List Ent} (h : IsEs w v L) : L.length ≤ 17592186044416 := by
  obtain ⟨A, c', e, h1, h2, h3⟩ := h.ex
  exact h2
end Go.Proofs.Ytjihimapopbdpaa
