/- Take, in plain words; the walk of the statements' anchor. -/
import Derived.Test.YtacfigociobgmaaTake
namespace Go.Proofs.Ytacfigociobgmaa
open Go.RowKit Sh
open Go.ChangeMaps (setBlock)
set_option linter.unusedVariables false

def tl (cap : Int) (x : It) : Option It := if x.t + 1 < cap then some ⟨x.n, x.i, x.s, x.t + 1⟩ else none
theorem filter_mid {A D : List It} {x : It} (hn : ((A ++ x :: D).map It.n).Nodup) : (A ++ x :: D).filter (fun z => z.n ≠ x.n) = A ++ D := by
  rw [List.map_append, List.map_cons, List.nodup_append] at hn
  obtain ⟨h1, h2, h3⟩ := hn
  rw [List.nodup_cons] at h2
  rw [List.filter_append, List.filter_cons, if_neg (by simp)]
  congr 1
  · exact List.filter_eq_self.2 (fun z hz => by
      have := h3 z.n (List.mem_map.2 ⟨z, hz, rfl⟩) x.n (by simp)
      simpa using this)
  · exact List.filter_eq_self.2 (fun z hz => by
      have : z.n ≠ x.n := fun he => h2.1 (List.mem_map.2 ⟨z, hz, he⟩)
      simpa using this)
theorem tellL_perm {cap : Int} {M A D : List It} {x : It} (hp : M.Perm (A ++ x :: D)) (hn : ((A ++ x :: D).map It.n).Nodup) : (tellL cap M x).Perm (A ++ (tl cap x).toList ++ D) := by
  have hf : (M.filter (fun z => z.n ≠ x.n)).Perm (A ++ D) := by
    rw [← filter_mid hn]
    exact hp.filter _
  unfold tellL tl
  split
  · rename_i h
    unfold putL
    refine (hf.append_right _).trans ?_
    simp only [Option.toList_some, List.append_assoc]
    exact List.Perm.append_left A List.perm_append_comm
  · simpa using hf
theorem fold_tell {cap : Int} : ∀ (U : List It) {M A D : List It}, M.Perm (A ++ (U ++ D)) → ((A ++ (U ++ D)).map It.n).Nodup → (U.foldl (tellL cap) M).Perm (A ++ (U.filterMap (tl cap) ++ D))
  | [], M, A, D, hp, hn => by simpa using hp
  | x :: U, M, A, D, hp, hn => by
    rw [List.foldl_cons]
    have h1 := tellL_perm (cap := cap) (M := M) (A := A) (D := U ++ D) (x := x) (by simpa using hp) (by simpa using hn)
    have h2 := fold_tell (cap := cap) U (M := tellL cap M x) (A := A ++ (tl cap x).toList) (D := D) h1 (by
      rw [List.append_assoc]
      simp only [List.map_append] at hn ⊢
      refine List.Nodup.sublist (List.Sublist.append (List.Sublist.refl _) ?_) hn
      rw [List.map_cons, List.cons_append]
      unfold tl
      split
      · simp
      · simp)
    refine h2.trans ?_
    rw [List.filterMap_cons]
    cases htl : tl cap x with
    | none => simp
    | some y => simp
theorem take_perm {cap : Int} {M L : List It} (hp : L.Perm M) (hn : (M.map It.n).Nodup) (k : Nat) : ((L.take k).foldl (tellL cap) M).Perm ((L.take k).filterMap (tl cap) ++ L.drop k) := by
  have := fold_tell (cap := cap) (L.take k) (M := M) (A := []) (D := L.drop k) (by rw [List.nil_append, List.take_append_drop]; exact hp.symm) (by
    rw [List.nil_append, List.take_append_drop]
    exact (hp.map It.n).nodup_iff.2 hn)
  simpa using this

theorem Keep.drop {w w1 w2 : World} {q : Nat} {mb : Option Nat} (k1 : Keep (fun _ => False) w w1) (k2 : Keep (QS q mb) w1 w2) (hq : w.heap.size ≤ q) (hB : ∀ B, mb = some B → w.heap.size ≤ B) : Keep (fun _ => False) w w2 :=
  k1.trans k2 (by
    rintro i (h | h) hi
    · omega
    · have := hB i h
      omega)
theorem IsQ.fresh (w : World) : IsQ (w.alloc (.cells #[.map none] 27)) w.heap.size none [] :=
  ⟨heap_alloc_new w _, fun B hB => (by cases hB), fun _ => rfl⟩

set_option maxRecDepth 100000 in
set_option maxHeartbeats 1000000 in
theorem shown8 (w : World) : Calls Try.prog 8 #[] w fun e w' => e = .returned (.bool true) ∧ Keep (fun _ => False) w w' := by
  go_enter Try.func8, Try.ntmps8
  go_wp2_with fail
  refine (put_new (IsQ.fresh w) (by simp) 3 0 0 (by decide) (by simp)).mono ?_
  rintro e w1 ⟨rfl, ⟨L, B, hL, hs, hq, hB⟩, hk⟩
  have e1 : L = [⟨3, 0, 0, 0⟩] := by
    rw [show putL [] ⟨3, 0, 0, 0⟩ = [(⟨3, 0, 0, 0⟩ : It)] from rfl, List.perm_singleton] at hL
    exact hL
  subst e1
  have HQ := Lib.hid hq
  have hBs : w.heap.size ≤ B := by
    rcases hB with h | ⟨_, h⟩
    · cases h
    · simp at h; omega
  have K1 := Lib.hid (Keep.drop ((Keep.refl _ w).alloc _) hk (Nat.le_refl _) (fun B h => by cases h))
  clear hq hk hL hs hB
  go_wp2_with fail
  refine (take_any HQ.out (by simp) (by simp) 1 1 (by omega) (by omega)).mono ?_
  rintro e w2 ⟨v, L, k, rfl, hp, hs, hk, hu, hq2, hkp⟩
  have e1 : L = [⟨3, 0, 0, 0⟩] := by
    rw [show ([(⟨3, 0, 0, 0⟩ : It)].take 32) = [(⟨3, 0, 0, 0⟩ : It)] from rfl, List.perm_singleton] at hp
    exact hp
  subst e1
  have e2 : k = 1 := by simp at hk; omega
  subst e2
  obtain ⟨A, c, rfl, hA⟩ := hu
  obtain ⟨g, rfl, hc⟩ := hA (by simp)
  have c0 := (hc 0 (by simp)).1
  simp only [it, List.take_succ_cons, List.take_zero, List.getD_cons_zero, Nat.zero_mul] at c0
  have K2 := Lib.hid (Keep.drop K1.out hkp (Nat.le_refl _) (fun B' h => by injection h with h; omega))
  have hcap : capI 64 = 21 := by decide
  have CAP : Hid (∀ W, Calls Try.prog 10 #[.int .i64 64] W fun e w' => e = .returned (.int .i64 21) ∧ W = w') := Lib.hid (fun W => by rw [← hcap]; exact cap_any 64 W (by omega) (by omega))
  clear hp hs hk hc hkp hq2 hA
  go_wp2_with fail
  refine (CAP.out _).mono ?_
  rintro e w3 ⟨rfl, rfl⟩
  go_wp2
  go_ret
  exact ⟨rfl, K2.out⟩

end Go.Proofs.Ytacfigociobgmaa
