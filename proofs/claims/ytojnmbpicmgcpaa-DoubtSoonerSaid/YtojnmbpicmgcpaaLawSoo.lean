/- DoubtSooner: where it stands; one more tells. -/
import Derived.Test.YtojnmbpicmgcpaaLawOncB
import Derived.Test.YtojnmbpicmgcpaaRaisU
namespace Go.Proofs.Ytojnmbpicmgcpaa
open Go.RowKit Sh
open Go.ChangeMaps (setBlock)
set_option linter.unusedVariables false

/-- the doubt that those of W told; F: their bits. -/
def dOf (W : List Int) (F : Nat) (since : Int) (u : Nat → Nat) : Db := ⟨9, 4, 1, (F : Int), since, ((W.length - 1 : Nat) : Int), sat since (u (W.length - 1) : Nat)⟩
def stM (W : List Int) (F : Nat) (since : Int) (u : Nat → Nat) : List Db := if W = [] then [] else [dOf W F since u]
def unW (W : List Int) (since : Int) (u : Nat → Nat) : Int := if W = [] then 18446744073709551615 else sat since (u (W.length - 1) : Nat)
def more (W : List Int) (n : Int) : List Int := if n ∈ W then W else W ++ [n]
structure BitsOf (F : Nat) (W : List Int) : Prop where
  lt : F < 18446744073709551616
  bit : ∀ k : Nat, k ≤ 63 → (F.testBit k = true ↔ (k : Int) ∈ W)
theorem BitsOf.one (k : Nat) (hk : k ≤ 63) : BitsOf (2 ^ k) [(k : Int)] := by
  have h1 : (2 : Nat) ^ k ≤ 2 ^ 63 := Nat.pow_le_pow_right (by omega) hk
  refine ⟨by omega, fun j hj => ?_⟩
  rw [Nat.testBit_two_pow, List.mem_singleton, decide_eq_true_eq]
  omega
theorem BitsOf.more {F : Nat} {W : List Int} (h : BitsOf F W) (k : Nat) (hk : k ≤ 63) : BitsOf (F ||| 2 ^ k) (W ++ [(k : Int)]) := by
  have h1 : (2 : Nat) ^ k < 2 ^ 64 := Nat.pow_lt_pow_right (by omega) (by omega)
  refine ⟨Nat.or_lt_two_pow (n := 64) h.lt h1, fun j hj => ?_⟩
  rw [Nat.testBit_or, Nat.testBit_two_pow, Bool.or_eq_true, decide_eq_true_eq, h.bit j hj, List.mem_append, List.mem_singleton]
  have e : k = j ↔ (j : Int) = (k : Int) := by omega
  rw [e]
structure SW (w wr : World) (q V m : Nat) (mb : Option Nat) (since : Int) (u : Nat → Nat) (W : List Int) (F : Nat) : Prop where
  que : IsQ wr q mb (stM W F since u)
  map : IsMp nk nv wr V W
  bits : BitsOf F W
  len : W.length ≤ m
  hq : w.heap.size ≤ q
  hV : V = q + 1
  hB : ∀ B, mb = some B → q + 2 ≤ B
  keep : Keep (fun _ => False) w wr
/-- behind a raising, ahead of the map's turn. -/
structure SA (w wr : World) (q V m : Nat) (mb : Option Nat) (since : Int) (u : Nat → Nat) (W W' : List Int) (F : Nat) : Prop where
  que : IsQ wr q mb [dOf W' F since u]
  map : IsMp nk nv wr V W
  bits : BitsOf F W'
  hq : w.heap.size ≤ q
  hV : V = q + 1
  hB : ∀ B, mb = some B → q + 2 ≤ B
  keep : Keep (fun _ => False) w wr
section
variable {w wr : World} {q V m : Nat} {mb : Option Nat} {since : Int} {u : Nat → Nat} {W : List Int} {F : Nat}
theorem SW.nqs (h : SW w wr q V m mb since u W F) : ¬ QS q mb V := by
  have := h.hV
  rintro (h1 | h1)
  · omega
  · have := h.hB V h1
    omega
theorem SW.hB' (h : SW w wr q V m mb since u W F) : ∀ B, mb = some B → w.heap.size ≤ B := fun B hB => by
  have := h.hB B hB
  have := h.hq
  omega
theorem sooner_raise {base : Nat} {nodes : Int} (h : SW w wr q V m mb since u W F) (hw : Waits base nodes u) (n i : Nat) (hn : n ≤ 63) (hi : W = [] → i = 0) (hm : m ≤ 100) (hs : 0 ≤ since ∧ since ≤ 4294967295) :
    Calls Try.prog 9 #[.pointer (some ⟨q, 0, none⟩), updV 9 4 1, .int .i64 (n : Int), .int .u64 (since + i), .int .i64 nodes, .float .f64 base] wr fun e w' => e = .returned (.tuple #[.bool (decide ((n : Int) ∉ W)), .int .i64 0]) ∧ ∃ mb' F', SA w w' q V m mb' since u W (more W n) F' := by
  have hlen := h.len
  by_cases h0 : W = []
  · subst h0
    obtain rfl := hi rfl
    have hq : IsQ wr q mb [] := h.que
    refine (raise_new hq hw.is 9 4 n (since + (0 : Nat)) (by omega) hn (by omega) (fun x hx => nomatch hx)).mono ?_
    rintro e w' ⟨rfl, r⟩
    obtain ⟨B, t, ⟨rfl, ht0, ht1⟩, hq2, hB⟩ := r.ex
    have e1 : more [] (n : Int) = [(n : Int)] := rfl
    have e2 : putL [] (⟨9, 4, 1, (2 : Int) ^ n, since + (0 : Nat), 0, sat (since + (0 : Nat)) (u 0 : Nat)⟩ : Db) = [dOf [(n : Int)] (2 ^ n) since u] := by
      unfold dOf
      simp [putL]
    rw [e2] at hq2
    refine ⟨by simp, some B, 2 ^ n, hq2, h.map.keep r.keep h.nqs, BitsOf.one n hn, h.hq, h.hV, fun B' hb => ?_, Keep.drop h.keep r.keep h.hq h.hB'⟩
    injection hb with hb
    subst hb
    rcases hB with hb | ⟨_, hb⟩
    · exact h.hB _ hb
    · have := h.map.lt
      have := h.hV
      omega
  · have hq : IsQ wr q mb [dOf W F since u] := by
      have := h.que
      unfold stM at this
      rwa [if_neg h0] at this
    by_cases hin : (n : Int) ∈ W
    · refine (raise_has hq 9 4 n (since + i) (by omega) hn _ (List.mem_singleton.2 rfl) rfl rfl F h.bits.lt rfl ((h.bits.bit n hn).2 hin)).mono ?_
      rintro e w' ⟨rfl, hk⟩
      have e1 : more W n = W := if_pos hin
      rw [e1]
      exact ⟨by simp [hin], mb, F, hq.keep0 hk, h.map.keep hk id, h.bits, h.hq, h.hV, h.hB, h.keep.step hk⟩
    · have hb : F.testBit n = false := by
        cases hc : F.testBit n with
        | false => rfl
        | true => exact absurd ((h.bits.bit n hn).1 hc) hin
      refine (raise_told hq hw 9 4 n (since + i) (by omega) hn _ (List.mem_singleton.2 rfl) rfl rfl F h.bits.lt rfl hb (W.length - 1) rfl (by omega) (show 0 ≤ since ∧ since < 18446744073709551616 by omega)).mono ?_
      rintro e w' ⟨rfl, B, hB, hq2, hk⟩
      have e1 : more W n = W ++ [(n : Int)] := if_neg hin
      have hl : W.length ≠ 0 := fun h => h0 (List.length_eq_zero_iff.1 h)
      have e2 : putL [dOf W F since u] (⟨9, 4, (dOf W F since u).s, ((F ||| 2 ^ n : Nat) : Int), (dOf W F since u).c, ((W.length - 1 : Nat) : Int) + 1, sat (dOf W F since u).c (u (W.length - 1 + 1) : Nat)⟩ : Db) = [dOf (W ++ [(n : Int)]) (F ||| 2 ^ n) since u] := by
        have l1 : (W ++ [(n : Int)]).length - 1 = W.length - 1 + 1 := by simp; omega
        unfold dOf
        rw [l1]
        simp [putL]
      rw [e2] at hq2
      rw [e1]
      exact ⟨by simp [hin], some B, F ||| 2 ^ n, hq2, h.map.keep hk h.nqs, h.bits.more n hn, h.hq, h.hV, fun B' hb => by injection hb with hb; subst hb; exact h.hB _ hB, Keep.drop h.keep hk h.hq h.hB'⟩
/-- the map's turn. -/
theorem SA.put {W' : List Int} {n : Int} (h : SA w wr q V m mb since u W W' F) (hW : W' = more W n) (hm : W.length ≤ m) (hne : W' ≠ []) :
    ∃ o, (Instr.mapUpdate 53 (.map (some V)) (.int .i64 n) (.bool true)).run Try.prog wr = .ok () (setBlock wr V o) ∧ SW w (setBlock wr V o) q V (m + 1) mb since u W' F ∧ Keep (fun k => k = V) wr (setBlock wr V o) := by
  have k : ∀ o, Keep (fun b => b = V) wr (setBlock wr V o) := fun o => keep_setBlock (Keep.refl _ wr) V o (fun _ => rfl)
  have hnq : ∀ j, QS q mb j → ¬ j = V := by
    rintro j (hj | hj) rfl
    · have := h.hV; omega
    · have := h.hB _ hj; have := h.hV; omega
  have hst : stM W' F since u = [dOf W' F since u] := if_neg hne
  have fin : ∀ o, IsMp nk nv (setBlock wr V o) V W' → SW w (setBlock wr V o) q V (m + 1) mb since u W' F := fun o hi => by
    refine ⟨?_, hi, h.bits, ?_, h.hq, h.hV, h.hB, h.keep.trans (k o) (fun i hi hlt => ?_)⟩
    · rw [hst]; exact h.que.keep (k o) hnq
    · rw [hW]; unfold more; split
      · omega
      · simp; omega
    · have := h.hV; have := h.hq; omega
  by_cases hin : n ∈ W
  · obtain ⟨o, hr, hi⟩ := h.map.upd_in (P := Try.prog) Try.underlying53 Try.underlying3 n ⟨n, hin, rfl⟩ (.bool true) rfl n rfl
    have e : (W.map fun z => if nk z = nk n then n else z) = W := by
      conv => rhs; rw [← List.map_id W]
      refine List.map_congr_left (fun z _ => ?_)
      by_cases c : nk z = nk n
      · rw [if_pos c]; exact c.symm
      · rw [if_neg c]; rfl
    rw [e] at hi
    have e1 : W' = W := hW.trans (if_pos hin)
    exact ⟨o, hr, fin o (by rw [e1]; exact hi), k o⟩
  · obtain ⟨o, hr, hi⟩ := h.map.upd_out (P := Try.prog) Try.underlying53 Try.underlying3 n (fun x hx he => hin (by rw [← show x = n from he]; exact hx)) (.bool true) rfl n rfl
    have e1 : W' = W ++ [n] := hW.trans (if_neg hin)
    exact ⟨o, hr, fin o (by rw [e1]; exact hi), k o⟩
theorem sat_mono {a b c : Int} (h : b ≤ c) : sat a b ≤ sat a c := by unfold sat; split <;> split <;> omega
theorem sat_ge {a b : Int} (hb : 0 ≤ b) (ha : a < 18446744073709551616) : a ≤ sat a b := by unfold sat; split <;> omega
theorem sat_le (a b : Int) : sat a b ≤ 18446744073709551615 := by unfold sat; split <;> omega
theorem un_le (hu : ∀ t, u (t + 1) ≤ u t) (n : Int) : sat since (u ((more W n).length - 1) : Nat) ≤ unW W since u := by
  unfold unW
  by_cases h0 : W = []
  · rw [if_pos h0]; exact sat_le _ _
  · rw [if_neg h0]
    refine sat_mono ?_
    unfold more
    split
    · omega
    · have hl : W.length ≠ 0 := fun h => h0 (List.length_eq_zero_iff.1 h)
      have l1 : (W ++ [n]).length - 1 = W.length - 1 + 1 := by simp; omega
      rw [l1]
      have := hu (W.length - 1)
      omega
end
end Go.Proofs.Ytojnmbpicmgcpaa
