/- The document's seat and view of a node (ref19). -/
import Derived.Test.YtjihimapopbdpaaRLeaf
namespace Go.Proofs.Ytjihimapopbdpaa
open Go.RowKit Sh
open Go.ChangeMaps (setBlock)
set_option linter.unusedVariables false

/-- The nine cells of an entry, as a walk reads them. -/
structure EC (w : World) (g o : Nat) (e : Ent) : Prop where
  c0 : w.cell? ⟨g, o, none⟩ = some (.int .i64 e.node)
  c1 : w.cell? ⟨g, o + 1, none⟩ = some (.bool e.sent)
  c2 : w.cell? ⟨g, o + 2, none⟩ = some (.int .i64 e.kind)
  c3 : w.cell? ⟨g, o + 3, none⟩ = some (.int .u64 e.id)
  c4 : w.cell? ⟨g, o + 4, none⟩ = some (.int .u64 e.mem)
  c5 : w.cell? ⟨g, o + 5, none⟩ = some (.int .u64 e.n)
  c6 : w.cell? ⟨g, o + 6, none⟩ = some (.int .i64 e.snd)
  c7 : w.cell? ⟨g, o + 7, none⟩ = some (.int .u64 e.num)
  c8 : w.cell? ⟨g, o + 8, none⟩ = some (.string e.text)
theorem EC.keep {w w' : World} {g o : Nat} {e : Ent} (h : EC w g o e) (k : Keep (fun _ => False) w w') : EC w' g o e :=
  ⟨k.cell h.c0, k.cell h.c1, k.cell h.c2, k.cell h.c3, k.cell h.c4, k.cell h.c5, k.cell h.c6, k.cell h.c7, k.cell h.c8⟩
theorem IsEs.ec {w : World} {g o n c : Nat} {L : List Ent} (h : IsEs w (.slice (some ⟨g, o, none⟩) n c) L) (i : Nat) (hi : i < L.length) : EC w g (o + i * 9) (L.getD i default) :=
  ⟨h.cells i hi 0 (by omega), h.cells i hi 1 (by omega), h.cells i hi 2 (by omega), h.cells i hi 3 (by omega), h.cells i hi 4 (by omega), h.cells i hi 5 (by omega), h.cells i hi 6 (by omega), h.cells i hi 7 (by omega), h.cells i hi 8 (by omega)⟩
theorem entV_eq (e : Ent) : entV e = .agg #[.int .i64 e.node, .bool e.sent, .int .i64 e.kind, .int .u64 e.id, .int .u64 e.mem, .int .u64 e.n, .int .i64 e.snd, .int .u64 e.num, .string e.text] := rfl
theorem inst_in {e : Ent} {b : Bool} {w0 : World} (h : e.inst = b) : ∀ W, Keep (fun _ => False) w0 W → Calls Try.prog 38 #[entV e] W (fun r W' => r = .returned (.bool b) ∧ Keep (fun _ => False) w0 W') :=
  fun W hW => (rinst_any e W).mono fun _ _ ⟨h1, k⟩ => ⟨by rw [h1, h], hW.step k⟩
theorem dlv_in {e : Ent} {b : Bool} {w0 : World} (h : e.dlv = b) : ∀ W, Keep (fun _ => False) w0 W → Calls Try.prog 42 #[entV e] W (fun r W' => r = .returned (.bool b) ∧ Keep (fun _ => False) w0 W') :=
  fun W hW => (rdlv_any e W).mono fun _ _ ⟨h1, k⟩ => ⟨by rw [h1, h], hW.step k⟩
theorem out_in {e : Ent} {b : Bool} {w0 : World} (h : e.out = b) : ∀ W, Keep (fun _ => False) w0 W → Calls Try.prog 44 #[entV e] W (fun r W' => r = .returned (.bool b) ∧ Keep (fun _ => False) w0 W') :=
  fun W hW => (rout_any e W).mono fun _ _ ⟨h1, k⟩ => ⟨by rw [h1, h], hW.step k⟩
theorem viewP_succ (L : List Ent) (nd : Int) (k : Nat) : viewP L nd (k + 1) = if (L.getD k default).inst && ((L.getD k default).node == nd) then (k : Int) else viewP L nd k := rfl
theorem seatP_succ (L : List Ent) (nd : Int) (k : Nat) : seatP L nd (k + 1) = if (L.getD k default).node = nd then (if (L.getD k default).out then -1 else if (L.getD k default).inst then (k : Int) else seatP L nd k) else seatP L nd k := rfl
theorem not_out_inst {e : Ent} (h : e.inst = true) : e.out = false := by
  obtain ⟨nd, st, kd, id, mem, n, snd, num, text⟩ := e
  simp only [Ent.inst, Ent.out, Bool.and_eq_true, beq_iff_eq] at h ⊢
  obtain ⟨h1, rfl⟩ := h
  simp

set_option maxRecDepth 100000 in
set_option maxHeartbeats 2000000 in
theorem rview_any {w : World} {v : Value} {L : List Ent} (hL : IsEs w v L) (i : Nat) (hi : i < L.length) :
    Calls Try.prog 39 #[v, .int .i64 i] w fun r w' => r = .returned (.int .i64 (viewP L (L.getD i default).node i)) ∧ Keep (fun _ => False) w w' := by
  obtain ⟨g, o, c, rfl, hc⟩ := hL.form (by omega)
  have hle := hL.le
  have HL := Lib.hid hL
  clear hL
  obtain ⟨nd, hnd⟩ : ∃ nd, nd = (L.getD i default).node := ⟨_, rfl⟩
  rw [← hnd]
  have HN := Lib.hid hnd
  clear hnd
  go_enter Try.func39, Try.ntmps39
  go_wp2_with fail
  go_loopg [5, 6] i (fun q v5 v6 wr => ∃ (k : Nat), k + q = i ∧ v6 = .int .i64 k ∧ v5 = .int .i64 (viewP L nd k) ∧ Keep (fun _ => False) w wr)
  case atStart => exact ⟨0, by omega, rfl, rfl, Keep.refl _ _⟩
  case round =>
    obtain ⟨k, hq, rfl, rfl, hK⟩ := hrel
    have HQ := Lib.hid hq
    have HK := Lib.hid hK
    clear hq hK
    by_cases hlt : k < i
    · have d1 : decide ((k : Int) < (i : Int)) = true := decide_eq_true (by omega)
      have d2 : (k : Int) < (i : Int) := by omega
      have wk1 : IntKind.i64.wrap ((k : Int) + 1) = (k : Int) + 1 := IntWalk.i64_in _ (by omega)
      have kl : k < L.length := by omega
      have kl2 : (k : Int) < (L.length : Int) := by omega
      have il2 : (i : Int) < (L.length : Int) := by omega
      have k0 : (0 : Int) ≤ (k : Int) := by omega
      have i0 : (0 : Int) ≤ (i : Int) := by omega
      have HEK := Lib.hid ((HL.out.keep HK.out).ec k kl)
      have HEI := Lib.hid ((HL.out.keep HK.out).ec i hi)
      have HS := Lib.hid (viewP_succ L nd k)
      have HI0 : Hid (wr.cell? ⟨g, o + i * 9, none⟩ = some (.int .i64 nd)) := Lib.hid (by rw [HN.out]; exact HEI.out.c0)
      clear HEI
      generalize L.getD k default = e at HEK HS
      cases hin : e.inst
      · have HU : Hid (viewP L nd (k + 1) = viewP L nd k) := Lib.hid (by rw [HS.out, hin]; simp)
        have MF := Lib.hid (inst_in (w0 := wr) hin)
        simp only [entV_eq] at MF
        clear HS hin
        go_wp2_with fail
        refine wp_region_quiet (C := fun W => Keep (fun _ => False) wr W) (by kernel_rfl) (by kernel_rfl) ((Keep.refl _ wr).drew) ?_
        refine hq_start ?_
        repeat (refine hq_step (fun K hK => ?_); go_simp; first | (refine quiet_val (hK _ ?_); clear hK K) | (with_reducible refine quiet_call MF.out (hK _ ?_); clear hK K) | (refine hK _ ?_; clear hK K) | (apply Exists.intro; refine ⟨fun W hW => ?_, hK _ ?_⟩; (have q0 := (HEK.out.keep hW).c0; have q1 := (HEK.out.keep hW).c1; have q2 := (HEK.out.keep hW).c2; have q3 := (HEK.out.keep hW).c3; have q4 := (HEK.out.keep hW).c4; have q5 := (HEK.out.keep hW).c5; have q6 := (HEK.out.keep hW).c6; have q7 := (HEK.out.keep hW).c7; have q8 := (HEK.out.keep hW).c8; have q9 := hW.cell HI0.out; go_simp; exact rfl); clear hK K))
        refine hq_nil ?_
        intro W hW
        have HW := Lib.hid (HK.out.step hW)
        clear hW
        go_wp2_with fail
        go_roundg (i - (k + 1))
        case measure => have := HQ.out; omega
        case rel => exact ⟨k + 1, by omega, by go_num, by rw [HU.out], HW.out⟩
      · have MF := Lib.hid (inst_in (w0 := wr) hin)
        simp only [entV_eq] at MF
        cases hnd : (e.node == nd)
        · have HU : Hid (viewP L nd (k + 1) = viewP L nd k) := Lib.hid (by rw [HS.out, hin, hnd]; simp)
          clear HS hin
          go_wp2_with fail
          refine wp_region_quiet (C := fun W => Keep (fun _ => False) wr W) (by kernel_rfl) (by kernel_rfl) ((Keep.refl _ wr).drew) ?_
          refine hq_start ?_
          repeat (refine hq_step (fun K hK => ?_); go_simp; first | (refine quiet_val (hK _ ?_); clear hK K) | (with_reducible refine quiet_call MF.out (hK _ ?_); clear hK K) | (refine hK _ ?_; clear hK K) | (apply Exists.intro; refine ⟨fun W hW => ?_, hK _ ?_⟩; (have q0 := (HEK.out.keep hW).c0; have q1 := (HEK.out.keep hW).c1; have q2 := (HEK.out.keep hW).c2; have q3 := (HEK.out.keep hW).c3; have q4 := (HEK.out.keep hW).c4; have q5 := (HEK.out.keep hW).c5; have q6 := (HEK.out.keep hW).c6; have q7 := (HEK.out.keep hW).c7; have q8 := (HEK.out.keep hW).c8; have q9 := hW.cell HI0.out; go_simp; exact rfl); clear hK K))
          refine hq_nil ?_
          intro W hW
          have HW := Lib.hid (HK.out.step hW)
          clear hW
          go_wp2_with fail
          go_roundg (i - (k + 1))
          case measure => have := HQ.out; omega
          case rel => exact ⟨k + 1, by omega, by go_num, by rw [HU.out], HW.out⟩
        · have HU : Hid (viewP L nd (k + 1) = k) := Lib.hid (by rw [HS.out, hin, hnd]; simp)
          clear HS hin
          go_wp2_with fail
          refine wp_region_quiet (C := fun W => Keep (fun _ => False) wr W) (by kernel_rfl) (by kernel_rfl) ((Keep.refl _ wr).drew) ?_
          refine hq_start ?_
          repeat (refine hq_step (fun K hK => ?_); go_simp; first | (refine quiet_val (hK _ ?_); clear hK K) | (with_reducible refine quiet_call MF.out (hK _ ?_); clear hK K) | (refine hK _ ?_; clear hK K) | (apply Exists.intro; refine ⟨fun W hW => ?_, hK _ ?_⟩; (have q0 := (HEK.out.keep hW).c0; have q1 := (HEK.out.keep hW).c1; have q2 := (HEK.out.keep hW).c2; have q3 := (HEK.out.keep hW).c3; have q4 := (HEK.out.keep hW).c4; have q5 := (HEK.out.keep hW).c5; have q6 := (HEK.out.keep hW).c6; have q7 := (HEK.out.keep hW).c7; have q8 := (HEK.out.keep hW).c8; have q9 := hW.cell HI0.out; go_simp; exact rfl); clear hK K))
          refine hq_nil ?_
          intro W hW
          have HW := Lib.hid (HK.out.step hW)
          clear hW
          go_wp2_with fail
          go_roundg (i - (k + 1))
          case measure => have := HQ.out; omega
          case rel => exact ⟨k + 1, by omega, by go_num, by rw [HU.out], HW.out⟩
    · have hk : k = i := by have := HQ.out; omega
      subst hk
      go_wp2_with fail
      go_ret
      exact ⟨rfl, HK.out⟩
end Go.Proofs.Ytjihimapopbdpaa
