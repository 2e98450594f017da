/- What a queue of rumors, and doubts, come to, as plain functions. -/
import Derived.Test.YtofonfohaocclaaGreatDoorG16
import Derived.Test.YtofonfohaocclaaGreatDoorG04
import Derived.Test.YtofonfohaocclaaGreatDoorG18
namespace Go.Proofs.YtofonfohaocclaaGreatDoor
open Go.RowKit Sh
open Go.ChangeMaps (setBlock)
set_option linter.unusedVariables false

theorem waits_two (nodes : Int) (h0 : -9223372036854775808 ≤ nodes) (h1 : nodes < 9223372036854775808) : D.Waits TWO nodes (ut nodes) := by
  have hy : TWO ≤ D.K1000 := by decide
  have hb64 := D.bits_le nodes h1
  have a1 := fun t ht w => D.wait_word TWO TWO nodes (D.bitsI nodes) t h0 h1 ht hy D.clean_two rfl w
  have a2 := fun t w => D.ticks_word (D.wait_le hy hb64 t) w
  have a3 := fun t => D.tick_le (D.wait_le hy hb64 t)
  have a4 := fun t => D.tick_mono (D.wait_anti hy hb64 t) (D.wait_le hy hb64 t)
  have hu : ∀ t, ut nodes t = D.tickW (D.waitW TWO (D.bitsI nodes) t) := fun _ => rfl
  obtain ⟨m, hm⟩ : ∃ m : Nat → Nat, m = fun t => D.waitW TWO (D.bitsI nodes) t := ⟨_, rfl⟩
  have hm2 : ∀ t, D.waitW TWO (D.bitsI nodes) t = m t := fun t => by rw [hm]
  simp only [hm2] at a1 a2 a3 a4 hu
  obtain ⟨v, hv⟩ : ∃ v : Nat → Nat, v = D.tickW := ⟨_, rfl⟩
  rw [← hv] at a2 a3 a4 hu
  have hue : ut nodes = fun t => v (m t) := funext hu
  rw [hue]
  clear hm hm2 hv hu hue
  exact ⟨⟨m, a1, a2⟩, a3, a4⟩
theorem ut_le (nodes : Int) (h0 : -9223372036854775808 ≤ nodes) (h1 : nodes < 9223372036854775808) (t : Nat) : ut nodes t ≤ 64000 := (waits_two nodes h0 h1).le t

-- rumors
structure QOk (M : List Q.It) : Prop where
  nod : (M.map Q.It.n).Nodup
  len : M.length ≤ 32
  rng : ∀ x ∈ M, 0 ≤ x.t ∧ x.t < 192
structure NewMap (w : World) (mb mb' : Option Nat) : Prop where
  or : mb' = mb ∨ (mb = none ∧ ∃ B, mb' = some B ∧ w.heap.size ≤ B)
theorem qput_any {w : World} {q : Loc} {mb : Option Nat} {M : List Q.It} (h : Q.IsQ w q mb M) (hM : QOk M) (u : Up) (hu : Q.mayU u.n u.s = true) :
    Calls Tryz.prog 47 #[.pointer (some ⟨q.b, q.o, none⟩), uV u] w fun e w' => ∃ x mb', e = .returned (.int .i64 x) ∧ Q.IsQ w' (q.to (.map mb')) mb' (qput M u) ∧ NewMap w mb mb' ∧ Keep (Q.QS q mb) w w' := by
  obtain ⟨n, i, s⟩ := u
  by_cases hx : ∃ x ∈ M, x.n = n ∧ Q.newI i s x.i x.s = false
  · obtain ⟨x, hx, hn, hnew⟩ := hx
    have e : qput M ⟨n, i, s⟩ = M := by
      unfold qput
      rw [if_pos]
      rw [List.any_eq_true]
      exact ⟨x, hx, by simp [hn, hnew]⟩
    rw [e]
    refine (Q.put_old h n i s hu x hx hn hnew).mono ?_
    rintro e w' ⟨rfl, hk⟩
    exact ⟨_, mb, rfl, by rw [Loc.to_self h.here_]; exact h.keep0 hk, ⟨.inl rfl⟩, hk.mono fun _ h _ => h.elim⟩
  · have e : qput M ⟨n, i, s⟩ = (sortQ (Q.putL M ⟨n, i, s, 0⟩)).take 32 := by
      unfold qput
      rw [if_neg]
      rw [List.any_eq_true]
      rintro ⟨x, hxm, hc⟩
      simp only [Bool.and_eq_true, decide_eq_true_eq, Bool.not_eq_true'] at hc
      exact hx ⟨x, hxm, hc.1, hc.2⟩
    rw [e]
    refine (Q.put_new h hM.len n i s hu (fun x hxm hxn => by
      cases hc : Q.newI i s x.i x.s
      · exact absurd ⟨x, hxm, hxn, hc⟩ hx
      · rfl)).mono ?_
    rintro e w' ⟨rfl, ⟨L, B, hp, hs, hq, hB⟩, hk⟩
    have hnod : ((Q.putL M ⟨n, i, s, 0⟩).map Q.It.n).Nodup := by
      unfold Q.putL
      rw [List.map_append, List.nodup_append]
      refine ⟨(h.nod.sublist ((List.filter_sublist).map _)), by simp, ?_⟩
      intro a ha b hb
      obtain ⟨z, hz, rfl⟩ := List.mem_map.1 ha
      simp only [List.map_cons, List.map_nil, List.mem_singleton] at hb
      subst hb
      simp only [List.mem_filter, decide_eq_true_eq] at hz
      exact hz.2
    have hL : L = sortQ (Q.putL M ⟨n, i, s, 0⟩) := sortQ_eq hnod hp hs
    subst hL
    refine ⟨_, some B, rfl, hq, ⟨?_⟩, hk⟩
    rcases hB with rfl | ⟨rfl, hB⟩
    · exact .inl rfl
    · exact .inr ⟨rfl, B, rfl, hB⟩
theorem upCells_flat : ∀ L : List Q.It, Q.upCells L = flat uC (L.map upIt)
  | [] => rfl
  | x :: L => by
    rw [Q.upCells, upCells_flat L]
    rfl
structure Took (w w' : World) (q : Loc) (mb : Option Nat) (v : Value) (M : List Q.It) (n nodes : Int) : Prop where
  own : ∃ base, w.heap.size ≤ base ∧ w'.ownsRow base 52 3 v (qtakeU M n).length (flat uC (qtakeU M n))
  que : Q.IsQ w' q mb (qtakeM M n nodes)
  keep : Keep (Q.QS q mb) w w'
theorem qtake_any {w : World} {q : Loc} {mb : Option Nat} {M : List Q.It} (h : Q.IsQ w q mb M) (hM : QOk M) (n nodes : Int) (n0 : -9223372036854775808 ≤ nodes) (n1 : nodes < 9223372036854775808) :
    Calls Tryz.prog 82 #[.pointer (some ⟨q.b, q.o, none⟩), .int .i64 n, .int .i64 nodes] w fun e w' => ∃ v, e = .returned v ∧ Took w w' q mb v M n nodes := by
  refine (Q.take_any h (by have := hM.len; omega) (fun x hx => by have := hM.rng x hx; omega) n nodes n0 n1).mono ?_
  rintro e w' ⟨v, L, k, rfl, hp, hs, hk, ⟨base, hb, hu⟩, hq, hkp⟩
  have hL := sortQ_eq h.nod hp hs
  subst hL
  have hl : (sortQ M).length = M.length := (sortB_perm leIt M).length_eq
  have hk2 : k = (max 0 (min n M.length)).toNat := by rw [← hl]; omega
  subst hk2
  rw [upCells_flat] at hu
  exact ⟨v, rfl, ⟨base, hb, by unfold qtakeU; rw [List.length_map]; exact hu⟩, hq, hkp⟩

-- doubts
structure DbOk (x : D.Db) : Prop where
  f : ∃ F : Nat, x.f = (F : Int) ∧ F < 18446744073709551616 ∧ x.t + 1 = ((bNat F).length : Nat)
  c : 0 ≤ x.c ∧ x.c < 18446744073709551616
  t : 0 ≤ x.t
structure DOk (M : List D.Db) : Prop where
  nod : (M.map D.Db.n).Nodup
  rng : ∀ x ∈ M, 0 ≤ x.n ∧ x.n < 64
  len : M.length ≤ 64
  ok : ∀ x ∈ M, DbOk x
theorem dfind_some {M : List D.Db} {n : Int} {x : D.Db} (h : dfind M n = some x) : x ∈ M ∧ x.n = n := by
  unfold dfind at h
  have := List.find?_some h
  exact ⟨List.mem_of_find?_eq_some h, by simpa using this⟩
theorem dfind_none {M : List D.Db} {n : Int} (h : dfind M n = none) : ∀ x ∈ M, x.n ≠ n := by
  unfold dfind at h
  intro x hx
  have := List.find?_eq_none.1 h x hx
  simpa using this
theorem nod_one {M : List D.Db} (h : (M.map D.Db.n).Nodup) {x y : D.Db} (hx : x ∈ M) (hy : y ∈ M) (e : x.n = y.n) : x = y := nodup_one h hx hy e
structure Raised (w w' : World) (q : Loc) (mb : Option Nat) (M : List D.Db) : Prop where
  ex : ∃ mb', D.IsQ w' (q.to (.map mb')) mb' M ∧ NewMap w mb mb'
  keep : Keep (D.QS q mb) w w'
theorem draise_any {w : World} {q : Loc} {mb : Option Nat} {M : List D.Db} (h : D.IsQ w q mb M) (hM : DOk M) (u : Up) (fr now nodes : Int) (hn : 0 ≤ now ∧ now < 18446744073709551616) (n0 : -9223372036854775808 ≤ nodes) (n1 : nodes < 9223372036854775808) :
    Calls Tryz.prog 119 #[.pointer (some ⟨q.b, q.o, none⟩), uV u, .int .i64 fr, .int .u64 now, .int .i64 nodes, .float .f64 TWO] w fun e w' => ∃ b x, e = .returned (.tuple #[.bool b, .int .i64 x]) ∧ Raised w w' q mb (draise M u fr now nodes) := by
  obtain ⟨n, i, s⟩ := u
  have same : ∀ {w'}, Keep (fun _ => False) w w' → Raised w w' q mb M := fun hk => ⟨⟨mb, by rw [Loc.to_self h.here_]; exact h.keep0 hk, ⟨.inl rfl⟩⟩, hk.mono fun _ h _ => h.elim⟩
  by_cases hc : 0 ≤ n ∧ n < 64 ∧ s = 1 ∧ 0 ≤ fr ∧ fr < 64
  · obtain ⟨h0, h64, rfl, f0, f64⟩ := hc
    obtain ⟨k, rfl⟩ : ∃ k : Nat, fr = (k : Int) := ⟨fr.toNat, by omega⟩
    have hW := waits_two nodes n0 n1
    have hnew : (∀ x ∈ M, x.n = n → x.i < i) → Calls Tryz.prog 119 #[.pointer (some ⟨q.b, q.o, none⟩), uV ⟨n, i, 1⟩, .int .i64 (k : Int), .int .u64 now, .int .i64 nodes, .float .f64 TWO] w fun e w' => ∃ b x, e = .returned (.tuple #[.bool b, .int .i64 x]) ∧ Raised w w' q mb (D.putL M ⟨n, i, 1, (2 : Int) ^ k, now, 0, D.sat now (ut nodes 0)⟩) := by
      intro hl
      refine (D.raise_new h hW.is n i k now ⟨h0, h64⟩ (by omega) hn hl).mono ?_
      rintro e w' ⟨rfl, ⟨B, t, ⟨rfl, _, _⟩, hq, hB⟩, hk⟩
      refine ⟨_, _, rfl, ⟨⟨some B, hq, ⟨?_⟩⟩, hk⟩⟩
      rcases hB with rfl | ⟨rfl, hB⟩
      · exact .inl rfl
      · exact .inr ⟨rfl, B, rfl, hB⟩
    unfold draise
    rw [if_pos ⟨h0, h64, rfl, f0, f64⟩]
    cases hf : dfind M n with
    | none =>
      simp only [Int.toNat_natCast]
      exact hnew fun x hx hxn => absurd hxn (dfind_none hf x hx)
    | some x =>
      obtain ⟨hx, hxn⟩ := dfind_some hf
      simp only [Int.toNat_natCast]
      by_cases c1 : i < x.i
      · rw [if_pos c1]
        refine (D.raise_old h n i k now ⟨h0, h64⟩ (by omega) x hx hxn c1).mono ?_
        rintro e w' ⟨rfl, hk⟩
        exact ⟨_, _, rfl, same hk⟩
      · rw [if_neg c1]
        by_cases c2 : x.i < i
        · rw [if_pos c2]
          exact hnew fun y hy hyn => by rw [nod_one h.nod hy hx (hyn.trans hxn.symm)]; exact c2
        · rw [if_neg c2]
          obtain ⟨⟨F, hF, hF2, hFt⟩, hxc, hxt⟩ := hM.ok x hx
          have e : x.i = i := by omega
          rw [hF, Int.toNat_natCast]
          cases hb : F.testBit k
          · simp only [Bool.false_eq_true, if_false]
            have h64b : (bNat F).length ≤ 64 := bMany_le F
            obtain ⟨t, ht⟩ : ∃ t : Nat, x.t = (t : Int) := ⟨x.t.toNat, by omega⟩
            refine (D.raise_told h hW n i k now ⟨h0, h64⟩ (by omega) x hx hxn e F hF2 hF hb t ht (by omega) hxc).mono ?_
            rintro e w' ⟨rfl, B, rfl, hq, hk⟩
            rw [ht, Int.toNat_natCast]
            exact ⟨_, _, rfl, ⟨⟨some B, by rw [Loc.to_self h.here_]; exact hq, ⟨.inl rfl⟩⟩, hk⟩⟩
          · simp only [if_true]
            refine (D.raise_has h n i k now ⟨h0, h64⟩ (by omega) x hx hxn e F hF2 hF hb).mono ?_
            rintro e w' ⟨rfl, hk⟩
            exact ⟨_, _, rfl, same hk⟩
  · unfold draise
    rw [if_neg hc]
    refine (D.raise_bad q n i s fr now nodes TWO hc).mono ?_
    rintro e w' ⟨rfl, hk⟩
    exact ⟨_, _, rfl, same hk⟩
structure Overed (w w' : World) (q : Loc) (mb : Option Nat) (v : Value) (M : List D.Db) (now : Int) : Prop where
  que : D.IsQ w' q mb (doverM M now)
  row : ∃ A c, v = .slice A (doverU M now).length c ∧ (0 < (doverU M now).length → ∃ g, A = some ⟨g, 0, none⟩ ∧ w.heap.size ≤ g ∧ ∀ i (hi : i < (doverU M now).length), w'.cell? ⟨g, i * 3, none⟩ = some (.int .i64 (doverU M now)[i].n) ∧ w'.cell? ⟨g, i * 3 + 1, none⟩ = some (.int .u64 (doverU M now)[i].i) ∧ w'.cell? ⟨g, i * 3 + 2, none⟩ = some (.int .i64 (doverU M now)[i].s))
  keep : Keep (fun k => mb = some k) w w'
theorem dover_any {w : World} {q : Loc} {mb : Option Nat} {M : List D.Db} (h : D.IsQ w q mb M) (hM : DOk M) (now : Int) :
    Calls Tryz.prog 38 #[.pointer (some ⟨q.b, q.o, none⟩), .int .u64 now] w fun e w' => ∃ v, e = .returned v ∧ Overed w w' q mb v M now := by
  refine (D.over_any h (by have := hM.len; omega) now).mono ?_
  rintro e w' ⟨v, L, rfl, hp, hs, hq, ⟨A, c, rfl, hr⟩, hk⟩
  have hL := sortD_eq h.nod hp hs
  subst hL
  have hl : (doverU M now).length = ((sortD M).filter (D.goneB now)).length := by unfold doverU; rw [List.length_map]
  refine ⟨_, rfl, hq, ⟨A, c, by rw [hl], fun h0 => ?_⟩, hk⟩
  obtain ⟨g, hA, hg, hrow⟩ := hr (by rw [← hl]; exact h0)
  refine ⟨g, hA, hg, fun i hi => ?_⟩
  have hi2 : i < ((sortD M).filter (D.goneB now)).length := by rw [← hl]; exact hi
  have hv : (doverU M now)[i] = ⟨(D.db ((sortD M).filter (D.goneB now)) i).n, (D.db ((sortD M).filter (D.goneB now)) i).i, 3⟩ := by
    unfold doverU D.db
    simp only [List.getD_eq_getElem?_getD, List.getElem?_eq_getElem hi2, Option.getD_some]
    exact List.getElem_map _
  rw [hv]
  have := fun c hc => hrow i hi2 c hc
  exact ⟨this 0 (by omega), this 1 (by omega), this 2 (by omega)⟩
end Go.Proofs.YtofonfohaocclaaGreatDoor
