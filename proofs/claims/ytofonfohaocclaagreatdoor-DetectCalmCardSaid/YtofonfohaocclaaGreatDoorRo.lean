/- A roll in memory; walks of Mine, Get, put, New, rank's Live, Up and Refute. -/
import Derived.Test.YtofonfohaocclaaGreatDoorG18
import Derived.Test.YtofonfohaocclaaGreatDoorG13
import Derived.Deep.MidRow
namespace Go.Proofs.YtofonfohaocclaaGreatDoor
open Go.RowKit Sh
open Go.ChangeMaps (setBlock)
set_option linter.unusedVariables false

theorem Sh.Keep.setNew {S : Nat → Prop} {a b : World} (h : Keep S a b) {n o : Nat} (v : Value) (hn : a.heap.size ≤ n) : Keep S a (b.setCell ⟨n, o, none⟩ v) :=
  h.setCell ⟨n, o, none⟩ v fun hlt => absurd hlt (by show ¬ n < _; omega)
theorem in_same {f : Nat} {args : Array Value} {u : Value} {w1 : World} (h : ∀ W, Calls Tryz.prog f args W fun e w' => e = .returned u ∧ W = w') : ∀ W, Keep (fun _ => False) w1 W → Calls Tryz.prog f args W fun e W' => e = .returned u ∧ Keep (fun _ => False) w1 W' :=
  fun W hW => (h W).mono fun _ _ ⟨h1, h2⟩ => ⟨h1, h2 ▸ hW⟩
theorem in_keep {f : Nat} {args : Array Value} {u : Value} {w1 : World} (h : ∀ W, Keep (fun _ => False) w1 W → Calls Tryz.prog f args W fun e w' => e = .returned u ∧ Keep (fun _ => False) W w') : ∀ W, Keep (fun _ => False) w1 W → Calls Tryz.prog f args W fun e W' => e = .returned u ∧ Keep (fun _ => False) w1 W' :=
  fun W hW => (h W hW).mono fun _ _ ⟨h1, h2⟩ => ⟨h1, hW.step h2⟩
theorem field_n (n i s : Int) (W : World) : (Instr.field 52 (.agg #[.int .i64 n, .int .u64 i, .int .i64 s]) 0).run Tryz.prog W = .ok (.int .i64 n) W := by kernel_rfl
theorem field_i (n i s : Int) (W : World) : (Instr.field 52 (.agg #[.int .i64 n, .int .u64 i, .int .i64 s]) 1).run Tryz.prog W = .ok (.int .u64 i) W := by kernel_rfl
theorem field_s (n i s : Int) (W : World) : (Instr.field 52 (.agg #[.int .i64 n, .int .u64 i, .int .i64 s]) 2).run Tryz.prog W = .ok (.int .i64 s) W := by kernel_rfl
structure IsRoll (w : World) (b : Nat) (r : Rol) : Prop where
  ex : ∃ cs, w.heap[b]? = some (.cells cs 114 (0, 0)) ∧ cs.size = 194 ∧ cs[0]? = some (.int .i64 r.me) ∧ (∀ k, k < 64 → ∀ t u, (uC (r.kn k))[t]? = some u → cs[1 + k * 3 + t]? = some u) ∧ cs[193]? = some (.int .u64 (r.has : Int))
structure RolOk (r : Rol) : Prop where
  me : 0 ≤ r.me ∧ r.me < 64
  has : r.has < 18446744073709551616
theorem IsRoll.keep {S : Nat → Prop} {w w' : World} {b : Nat} {r : Rol} (h : IsRoll w b r) (k : Keep S w w') (hn : ¬ S b) : IsRoll w' b r := by
  obtain ⟨cs, h1, h2⟩ := h.ex
  exact ⟨⟨cs, k.old h1 hn, h2⟩⟩
theorem IsRoll.keep0 {w w' : World} {b : Nat} {r : Rol} (h : IsRoll w b r) (k : Keep (fun _ => False) w w') : IsRoll w' b r := h.keep k id
theorem IsRoll.lt {w : World} {b : Nat} {r : Rol} (h : IsRoll w b r) : b < w.heap.size := by
  obtain ⟨cs, h1, _⟩ := h.ex
  exact (Array.getElem?_eq_some_iff.1 h1).1
theorem IsRoll.cme {w : World} {b : Nat} {r : Rol} (h : IsRoll w b r) : w.cell? ⟨b, 0, none⟩ = some (.int .i64 r.me) := by
  obtain ⟨cs, h1, h2, h3, _⟩ := h.ex
  simp only [World.cell?, h1]
  exact h3
theorem IsRoll.chas {w : World} {b : Nat} {r : Rol} (h : IsRoll w b r) : w.cell? ⟨b, 193, none⟩ = some (.int .u64 (r.has : Int)) := by
  obtain ⟨cs, h1, h2, h3, h4, h5⟩ := h.ex
  simp only [World.cell?, h1]
  exact h5
theorem IsRoll.ckn {w : World} {b : Nat} {r : Rol} (h : IsRoll w b r) (k : Nat) (hk : k < 64) : w.cell? ⟨b, 1 + k * 3, none⟩ = some (.int .i64 (r.kn k).n) ∧ w.cell? ⟨b, 1 + k * 3 + 1, none⟩ = some (.int .u64 (r.kn k).i) ∧ w.cell? ⟨b, 1 + k * 3 + 2, none⟩ = some (.int .i64 (r.kn k).s) := by
  obtain ⟨cs, h1, h2, h3, h4, _⟩ := h.ex
  have := h4 k hk
  simp only [World.cell?, h1]
  exact ⟨this 0 _ rfl, this 1 _ rfl, this 2 _ rfl⟩
theorem IsRoll.there {w : World} {b : Nat} {r : Rol} (h : IsRoll w b r) (k : Nat) (hk : k < 64) : w.there b (1 + k * 3) 3 := by
  obtain ⟨cs, h1, h2, _⟩ := h.ex
  intro j hj
  have : 1 + k * 3 + j < cs.size := by omega
  constructor
  · simp [World.cell?, h1, this]
  · simp [World.frozen?, h1]
theorem IsRoll.fr {w : World} {b : Nat} {r : Rol} (h : IsRoll w b r) (o : Nat) : w.frozen? ⟨b, o, none⟩ = false := by
  obtain ⟨cs, h1, h2, _⟩ := h.ex
  simp [World.frozen?, h1]
theorem IsRoll.put {w : World} {b : Nat} {r : Rol} (h : IsRoll w b r) (k : Nat) (hk : k < 64) (u : Up) : IsRoll (w.setCells b (1 + k * 3) (uC u)) b { r with kn := fun m => if m = k then u else r.kn m } := by
  obtain ⟨cs, h1, h2, h3, h4, h5⟩ := h.ex
  have hl : (uC u).length = 3 := rfl
  have out : ∀ i, i < 1 + k * 3 ∨ 1 + k * 3 + 3 ≤ i → (setL cs (1 + k * 3) (uC u))[i]? = cs[i]? := fun i hi => by
    by_cases c : i < cs.size
    · rw [setL_get _ cs _ i c, if_neg (by rw [hl]; omega)]
    · rw [Array.getElem?_eq_none (xs := cs) (by omega), Array.getElem?_eq_none (by rw [setL_size]; omega)]
  refine ⟨⟨_, heap_setCells (w := w) _ _ _ _ h1, by rw [setL_size]; exact h2, ?_, ?_, ?_⟩⟩
  · rw [out 0 (by omega)]; exact h3
  · intro m hm t v hv
    have ht : t < 3 := (List.getElem?_eq_some_iff.1 hv).1
    by_cases c : m = k
    · subst c
      simp only [if_true] at hv
      rw [setL_get _ cs _ _ (by omega), if_pos (by rw [hl]; omega), show 1 + m * 3 + t - (1 + m * 3) = t by omega]
      exact hv
    · simp only [if_neg c] at hv
      rw [out _ (by omega)]
      exact h4 m hm t v hv
  · rw [out 193 (by omega)]; exact h5
theorem IsRoll.sethas {w : World} {b : Nat} {r : Rol} (h : IsRoll w b r) (x : Nat) : IsRoll (w.setCell ⟨b, 193, none⟩ (.int .u64 (x : Int))) b { r with has := x } := by
  obtain ⟨cs, h1, h2, h3, h4, h5⟩ := h.ex
  refine ⟨⟨_, heap_setCell_at h1 193 _, by simpa using h2, ?_, ?_, ?_⟩⟩
  · rw [Array.getElem?_setIfInBounds_ne (by omega)]; exact h3
  · intro m hm t v hv
    have ht : t < 3 := (List.getElem?_eq_some_iff.1 hv).1
    rw [Array.getElem?_setIfInBounds_ne (by omega)]
    exact h4 m hm t v hv
  · simp [h2]
theorem IsRoll.drew {w : World} {b : Nat} {r : Rol} (h : IsRoll w b r) : IsRoll w.drew b r := ⟨h.ex⟩

set_option maxRecDepth 100000 in
set_option maxHeartbeats 1000000 in
theorem mine_any {w : World} {b : Nat} {r : Rol} (h : IsRoll w b r) (hr : RolOk r) : Calls Tryz.prog 48 #[.pointer (some ⟨b, 0, none⟩)] w fun e w' => e = .returned (uV r.mine) ∧ Keep (fun _ => False) w w' := by
  obtain ⟨hm0, hm1⟩ := hr.me
  obtain ⟨k, hk⟩ : ∃ k : Nat, r.me = (k : Int) := ⟨r.me.toNat, by omega⟩
  have hk2 : k < 64 := by omega
  have hmine : r.mine = r.kn k := by unfold Rol.mine Rol.at; rw [hk]; rfl
  obtain ⟨c0, c1, c2⟩ := h.ckn k hk2
  have cm := h.cme
  rw [hmine]
  rw [hk] at cm
  generalize r.kn k = y at c0 c1 c2
  obtain ⟨yn, yi, ys⟩ := y
  simp only at c0 c1 c2
  have HB := h.lt
  clear hmine hk hm0 hm1 hr h
  unfold uV
  have k0 := (Keep.refl (fun _ => False) w).alloc (.cells #[.int .i64 0, .int .u64 0, .int .i64 0] 52)
  have a0 := k0.cell c0
  have a1 := k0.cell c1
  have a2 := k0.cell c2
  have am := k0.cell cm
  clear k0
  have hk3 : (k : Int) < 64 := by omega
  go_enter Tryz.func48, Tryz.ntmps48
  go_upto_region 1 with fail
  refine still_tail 9 (by kernel_rfl) (by kernel_rfl) ?_
  simp only [List.take_succ_cons, List.take_zero, List.drop_succ_cons, List.drop_zero]
  repeat still_step
  try refine wpStill_nil ?_
  go_wp2
  exact bodyPost_ret (v := .agg #[.int .i64 yn, .int .u64 yi, .int .i64 ys]) (by simp [results, Tryz.results48, go_sem]) rfl ⟨rfl, ((Keep.refl _ w).alloc _).drew⟩
set_option maxRecDepth 100000 in
set_option maxHeartbeats 1000000 in
theorem get_any {w : World} {b : Nat} {r : Rol} (h : IsRoll w b r) (hr : RolOk r) (n : Int) : Calls Tryz.prog 31 #[.pointer (some ⟨b, 0, none⟩), .int .i64 n] w fun e w' => e = .returned (.tuple #[uV (r.get n).1, .bool (r.get n).2]) ∧ Keep (fun _ => False) w w' := by
  have HH := Lib.hid (has_all r.has n hr.has)
  have ch := h.chas
  have k0 := (Keep.refl (fun _ => False) w).alloc (.cells #[.int .i64 0, .int .u64 0, .int .i64 0] 52)
  have ach := k0.cell ch
  by_cases hb : bHas r.has n = true
  · have hn : 0 ≤ n ∧ n < 64 := by
      unfold bHas at hb
      simp only [Bool.and_eq_true, decide_eq_true_eq] at hb
      exact hb.1
    obtain ⟨k, rfl⟩ : ∃ k : Nat, n = (k : Int) := ⟨n.toNat, by omega⟩
    have hg : r.get (k : Int) = (r.kn k, true) := by unfold Rol.get Rol.at; rw [if_pos hb]; rfl
    rw [hg]
    rw [hb] at HH
    obtain ⟨c0, c1, c2⟩ := h.ckn k (by omega)
    generalize r.kn k = y at c0 c1 c2
    obtain ⟨yn, yi, ys⟩ := y
    have a0 := k0.cell c0
    have a1 := k0.cell c1
    have a2 := k0.cell c2
    have hk3 : (k : Int) < 64 := hn.2
    have HB := h.lt
    clear k0 hg hb h hr hn
    unfold uV
    go_enter Tryz.func31, Tryz.ntmps31
    go_wp2_with fail
    refine (HH.out _).mono ?_
    rintro e w' ⟨rfl, rfl⟩
    go_wp2
    exact bodyPost_ret (v := .tuple #[.agg #[.int .i64 yn, .int .u64 yi, .int .i64 ys], .bool true]) (by simp [results, Tryz.results31, go_sem]) rfl ⟨rfl, (Keep.refl _ w).alloc _⟩
  · have hb : bHas r.has n = false := by simpa using hb
    have hg : r.get n = (zUp, false) := by unfold Rol.get; rw [if_neg (by rw [hb]; simp)]
    rw [hg]
    rw [hb] at HH
    have HB := h.lt
    clear k0 hg hb h hr
    unfold uV zUp
    go_enter Tryz.func31, Tryz.ntmps31
    go_wp2_with fail
    refine (HH.out _).mono ?_
    rintro e w' ⟨rfl, rfl⟩
    go_wp2
    exact bodyPost_ret (v := .tuple #[.agg #[.int .i64 0, .int .u64 0, .int .i64 0], .bool false]) (by simp [results, Tryz.results31, go_sem]) rfl ⟨rfl, (Keep.refl _ w).alloc _⟩

theorem live_up (u : Up) (w : World) : Calls Tryz.prog 42 #[uV u] w fun e w' => e = .returned (.bool (liveS u.s)) ∧ Keep (fun _ => False) w w' := by
  obtain ⟨n, i, s⟩ := u
  unfold uV
  by_cases h1 : 0 ≤ s
  · have t1 : decide (0 ≤ s) = true := decide_eq_true h1
    by_cases h2 : s ≤ 1
    · have t2 : decide (s ≤ 1) = true := decide_eq_true h2
      rw [show liveS s = true by simp [liveS, h1, h2]]
      go_enter Tryz.func42, Tryz.ntmps42
      go_wp2
      go_ret
      exact ⟨rfl, (Keep.refl _ w).alloc _⟩
    · have t2 : decide (s ≤ 1) = false := decide_eq_false h2
      rw [show liveS s = false by simp [liveS, h2]]
      go_enter Tryz.func42, Tryz.ntmps42
      go_wp2
      go_ret
      exact ⟨rfl, (Keep.refl _ w).alloc _⟩
  · have t1 : decide (0 ≤ s) = false := decide_eq_false h1
    rw [show liveS s = false by simp [liveS, h1]]
    go_enter Tryz.func42, Tryz.ntmps42
    go_wp2
    go_ret
    exact ⟨rfl, (Keep.refl _ w).alloc _⟩

set_option maxRecDepth 100000 in
set_option maxHeartbeats 1000000 in
theorem put_any {w : World} {b : Nat} {r : Rol} (h : IsRoll w b r) (hr : RolOk r) (u : Up) (hu : 0 ≤ u.n ∧ u.n < 64) : Calls Tryz.prog 92 #[.pointer (some ⟨b, 0, none⟩), uV u] w fun e w' => e = .returned (.tuple #[]) ∧ IsRoll w' b (r.put u) ∧ Keep (fun k => k = b) w w' := by
  obtain ⟨n, i, s⟩ := u
  simp only at hu
  obtain ⟨k, rfl⟩ : ∃ k : Nat, n = (k : Int) := ⟨n.toNat, by omega⟩
  have hk2 : k < 64 := by omega
  have hk3 : (k : Int) < 64 := by omega
  unfold uV
  have k0 := (Keep.refl (fun _ => False) w).alloc (.cells #[.int .i64 (k : Int), .int .u64 i, .int .i64 s] 52)
  have hT := Lib.hid ((h.keep0 k0).drew.there k hk2)
  have HR := Lib.hid ((h.keep0 k0).drew.put k hk2 ⟨(k : Int), i, s⟩)
  have HW := Lib.hid (with_all r.has (k : Int) hr.has)
  have HE : Hid (r.put ⟨(k : Int), i, s⟩ = { r with kn := fun m => if m = k then ⟨(k : Int), i, s⟩ else r.kn m, has := bWith r.has (k : Int) }) := Lib.hid (by simp [Rol.put])
  have hlt := h.lt
  have HK : Hid (Keep (fun j => j = b) w ((w.alloc (.cells #[.int .i64 (k : Int), .int .u64 i, .int .i64 s] 52)).drew.setCells b (1 + k * 3) [.int .i64 (k : Int), .int .u64 i, .int .i64 s])) := Lib.hid (keep_setCells (S := fun j => j = b) (fun _ => rfl) _ _ _ (k0.mono fun _ h _ => h.elim).drew)
  have hbox : ((w.alloc (.cells #[.int .i64 (k : Int), .int .u64 i, .int .i64 s] 52)).drew.setCells b (1 + k * 3) [.int .i64 (k : Int), .int .u64 i, .int .i64 s]).cell? ⟨w.heap.size, 0, none⟩ = some (.int .i64 (k : Int)) := by
    have kk : Keep (fun j => j = b) (w.alloc (.cells #[.int .i64 (k : Int), .int .u64 i, .int .i64 s] 52)) ((w.alloc (.cells #[.int .i64 (k : Int), .int .u64 i, .int .i64 s] 52)).drew.setCells b (1 + k * 3) [.int .i64 (k : Int), .int .u64 i, .int .i64 s]) := keep_setCells (S := fun j => j = b) (fun _ => rfl) _ _ _ (Keep.refl _ _).drew
    have := kk.old (heap_alloc_new w _) (show ¬ w.heap.size = b by omega)
    simp only [World.cell?, this]
    try rfl
  clear k0 h hr hu
  go_enter Tryz.func92, Tryz.ntmps92
  go_upto_region 1 with fail
  refine still_tail 7 (by kernel_rfl) (by kernel_rfl) ?_
  simp only [List.take_succ_cons, List.take_zero, List.drop_succ_cons, List.drop_zero]
  repeat still_step
  try refine wpStill_nil ?_
  refine wpList_store_mid rfl 52 _ _ rfl b (1 + k * 3) #[.int .i64 (k : Int), .int .u64 i, .int .i64 s] rfl rfl hT.out (by kernel_rfl) (by simp [Value.oneCell']) ?_
  show wpList _ _ _ _ _ ((w.alloc (.cells #[.int .i64 (k : Int), .int .u64 i, .int .i64 s] 52)).drew.setCells b (1 + k * 3) [.int .i64 (k : Int), .int .u64 i, .int .i64 s])
  simp only [uC] at HR
  obtain ⟨W2, hW2⟩ : ∃ W2, W2 = (w.alloc (.cells #[.int .i64 (k : Int), .int .u64 i, .int .i64 s] 52)).drew.setCells b (1 + k * 3) [.int .i64 (k : Int), .int .u64 i, .int .i64 s] := ⟨_, rfl⟩
  rw [← hW2] at HR HK hbox ⊢
  clear hW2 hT
  have ch := HR.out.chas
  simp only at ch
  have HF := Lib.hid (HR.out.sethas (bWith r.has (k : Int))).drew
  have fr := HR.out.fr 193
  go_upto_region 2 with fail
  refine still_tail 10 (by kernel_rfl) (by kernel_rfl) ?_
  simp only [List.take_succ_cons, List.take_zero, List.drop_succ_cons, List.drop_zero]
  repeat still_step
  still_call (to_still (HW.out _))
  repeat still_step
  try refine wpStill_nil ?_
  go_wp2
  go_end0
  exact ⟨rfl, by rw [HE.out]; exact HF.out, (HK.out.setCell _ _ fun _ => rfl).drew⟩

theorem up_any (i : Int) (hi : 0 ≤ i ∧ i < 18446744073709551616) (w : World) : Calls Tryz.prog 147 #[.int .u64 i] w fun e w' => e = .returned (if i = 18446744073709551615 then .tuple #[.int .u64 0, .int .i64 60] else .tuple #[.int .u64 (i + 1), .int .i64 0]) ∧ w = w' := by
  by_cases h : i = 18446744073709551615
  · rw [if_pos h]
    have t1 : (i == 18446744073709551615) = true := by simp [h]
    clear h
    go_enter Tryz.func147, Tryz.ntmps147
    go_wp2
    go_ret2
    exact ⟨rfl, rfl⟩
  · rw [if_neg h]
    have t1 : (i == 18446744073709551615) = false := by rw [beq_eq_false_iff_ne]; exact h
    have t2 : IntKind.u64.wrap (i + 1) = i + 1 := by rw [IntKind.wrap_u64]; omega
    clear h hi
    go_enter Tryz.func147, Tryz.ntmps147
    go_wp2
    go_ret2
    exact ⟨rfl, rfl⟩
end Go.Proofs.YtofonfohaocclaaGreatDoor
