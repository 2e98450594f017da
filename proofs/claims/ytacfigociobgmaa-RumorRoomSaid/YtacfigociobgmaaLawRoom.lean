/- RumorRoom, walked. -/
import Derived.Test.YtacfigociobgmaaShown
namespace Go.Proofs.Ytacfigociobgmaa
open Go.RowKit Sh
set_option linter.unusedVariables false

def ev (t : Int) (j : Nat) : It := ⟨j, 1, 0, t⟩
def baseL (i : Nat) : List It := (List.range i).map (ev 0)
theorem putL_new {M : List It} {y : It} (h : ∀ x ∈ M, x.n ≠ y.n) : putL M y = M ++ [y] := put_out M y h
theorem baseL_mem {i : Nat} {x : It} (h : x ∈ baseL i) : ∃ j : Nat, j < i ∧ x = ev 0 j := by
  simp only [baseL, List.mem_map, List.mem_range] at h
  obtain ⟨j, hj, rfl⟩ := h
  exact ⟨j, hj, rfl⟩
theorem baseL_succ (i : Nat) : putL (baseL i) (ev 0 i) = baseL (i + 1) := by
  rw [putL_new]
  · simp [baseL, List.range_succ]
  · intro x hx
    obtain ⟨j, hj, rfl⟩ := baseL_mem hx
    simp only [ev]
    omega
theorem baseL_len (i : Nat) : (baseL i).length = i := by simp [baseL]
theorem baseL_srt (i : Nat) : Srt (baseL i) := by
  unfold Srt baseL
  rw [List.pairwise_map]
  exact List.pairwise_lt_range.imp (fun {a b} h => .inr ⟨rfl, by simp only [ev]; omega⟩)
theorem Srt.last {L : List It} (h : Srt L) {m : Nat} (hl : L.length = m + 1) {x : It} (hx : x ∈ L) (hm : ∀ y ∈ L, ¬ Lt x y) : it L m = x := by
  obtain ⟨i, hi, rfl⟩ := List.getElem_of_mem hx
  by_cases c : i = m
  · subst c
    exact it_of hi
  · have := h.at (i := i) (j := m) (by omega) (by omega)
    rw [it_of hi] at this
    exact absurd this (hm _ (it_mem (by omega)))
/-- how the queue stands behind the k taken. -/
def roomL (k : Nat) : List It := (List.range k).map (ev 1) ++ ((List.range 32).drop k).map (ev 0)
theorem room_take {M L : List It} (hM : M.Perm (baseL 32)) (hL : L.Perm M) (hs : Srt L) (k : Nat) (hk : k ≤ 32) : ((L.take k).foldl (tellL 21) M).Perm (roomL k) := by
  have e : L = baseL 32 := hs.unique (baseL_srt 32) (hL.trans hM)
  subst e
  have hn : (M.map It.n).Nodup := by
    refine (hL.map It.n).nodup_iff.1 ?_
    have : ((baseL 32).map It.n).Pairwise (· < ·) := by
      unfold baseL
      rw [List.map_map, List.pairwise_map]
      exact List.pairwise_lt_range.imp (fun {a b} h => by simp only [Function.comp, ev]; omega)
    exact this.imp (fun {a b} h => by omega)
  have := take_perm (cap := 21) hL hn k
  refine this.trans ?_
  have e1 : ((baseL 32).take k).filterMap (tl 21) = (List.range k).map (ev 1) := by
    unfold baseL
    rw [← List.map_take, List.take_range, Nat.min_eq_left hk, List.filterMap_map]
    have e0 : tl 21 ∘ ev 0 = some ∘ ev 1 := by
      funext j
      simp [tl, ev]
    rw [e0, List.filterMap_eq_map]
  have e2 : (baseL 32).drop k = ((List.range 32).drop k).map (ev 0) := by
    unfold baseL
    rw [← List.map_drop]
  rw [e1, e2]
  exact List.Perm.refl _
theorem room_mem {k : Nat} (hk : k ≤ 32) {x : It} (h : x ∈ roomL k) : ∃ j : Nat, j < 32 ∧ x = ev (if j < k then 1 else 0) j := by
  rcases List.mem_append.1 h with h | h
  · obtain ⟨j, hj, rfl⟩ := List.mem_map.1 h
    have := List.mem_range.1 hj
    exact ⟨j, by omega, by rw [if_pos this]⟩
  · obtain ⟨j, hj, rfl⟩ := List.mem_map.1 h
    obtain ⟨i, hi, rfl⟩ := List.getElem_of_mem hj
    simp only [List.length_drop, List.length_range] at hi
    have e : ((List.range 32).drop k)[i]'(by simpa using hi) = k + i := by simp
    rw [e]
    exact ⟨k + i, by omega, by rw [if_neg (by omega)]⟩
theorem room_len {k : Nat} (hk : k ≤ 32) : (roomL k).length = 32 := by simp [roomL]; omega
theorem room_nodes {k : Nat} (hk : k ≤ 32) : (roomL k).map It.n = (List.range 32).map (fun j : Nat => (j : Int)) := by
  unfold roomL
  rw [List.map_append, List.map_map, List.map_map]
  have e : (It.n ∘ ev 1) = (fun j : Nat => (j : Int)) := rfl
  have e' : (It.n ∘ ev 0) = (fun j : Nat => (j : Int)) := rfl
  rw [e, e', ← List.map_append]
  have e3 := List.take_append_drop k (List.range 32)
  rw [List.take_range, Nat.min_eq_left hk] at e3
  rw [e3]
def goneN (k : Nat) : Int := if k = 0 then 40 else (k : Int) - 1
/-- who goes. -/
theorem room_gone {k : Nat} (hk : k ≤ 32) {L : List It} (hp : L.Perm (putL (roomL k) (ev 0 40))) (hs : Srt L) : L.length = 33 ∧ ∀ x ∈ L.take 32, x.n ≠ goneN k := by
  have hp2 : L.Perm (roomL k ++ [ev 0 40]) := by
    rw [putL_new] at hp
    · exact hp
    · intro x hx
      obtain ⟨j, hj, rfl⟩ := room_mem hk hx
      simp only [ev]
      omega
  have hl : L.length = 33 := by rw [hp2.length_eq, List.length_append, room_len hk]; rfl
  have hmem : ∀ y ∈ L, y = ev 0 40 ∨ ∃ j : Nat, j < 32 ∧ y = ev (if j < k then 1 else 0) j := fun y hy => by
    rcases List.mem_append.1 (hp2.mem_iff.1 hy) with h | h
    · exact .inr (room_mem hk h)
    · exact .inl (by simpa using h)
  have hlast : (it L 32).n = goneN k := by
    by_cases c : k = 0
    · subst c
      have hx : ev 0 40 ∈ L := hp2.mem_iff.2 (by simp)
      rw [hs.last hl hx (fun y hy => ?_)]
      · rfl
      · rcases hmem y hy with rfl | ⟨j, hj, rfl⟩
        · exact Lt.irrefl _
        · simp only [Lt, ev]
          split <;> omega
    · have hx : ev 1 (k - 1) ∈ L := hp2.mem_iff.2 (List.mem_append.2 (.inl (List.mem_append.2 (.inl (List.mem_map.2 ⟨k - 1, List.mem_range.2 (by omega), rfl⟩)))))
      rw [hs.last hl hx (fun y hy => ?_)]
      · simp only [ev, goneN, if_neg c]
        omega
      · rcases hmem y hy with rfl | ⟨j, hj, rfl⟩
        · simp only [Lt, ev]
          omega
        · simp only [Lt, ev]
          split <;> omega
  refine ⟨hl, fun x hx => ?_⟩
  rw [← hlast]
  have hn : (L.map It.n).Nodup := by
    refine (hp2.map It.n).nodup_iff.2 ?_
    rw [List.map_append, room_nodes hk]
    decide
  have hd := drop_last hl hn
  rw [← hd] at hx
  simpa using (List.mem_filter.1 hx).2

theorem drop2 {w w1 w2 : World} {q : Nat} {mb : Option Nat} (k1 : Keep (fun _ => False) w w1) (k2 : Keep (QS q mb) w1 w2) (hq : w.heap.size ≤ q) (hB : ∀ B, mb = some B → w.heap.size ≤ B) : Keep (fun _ => False) w w2 := Keep.drop k1 k2 hq hB
theorem cap64' : capI 64 = 21 := by decide

set_option maxRecDepth 100000 in
set_option maxHeartbeats 2000000 in
theorem room_law (takes : Int) (ht : 0 ≤ takes ∧ takes ≤ 255) (w : World) :
    Calls Try.prog 5 #[.int .u8 takes] w fun e w' => e = .returned (.bool true) ∧ Keep (fun _ => False) w w' := by
  have w4 : IntKind.i64.wrap takes = takes := by rw [IntKind.wrap_i64]; omega
  obtain ⟨k, hkk⟩ : ∃ k : Nat, (k : Int) = takes.tmod 33 := ⟨(takes.tmod 33).toNat, by rw [Int.tmod_eq_emod_of_nonneg ht.1]; omega⟩
  have n5 : takes.tmod 33 = (k : Int) := hkk.symm
  rw [Int.tmod_eq_emod_of_nonneg ht.1] at hkk
  have hk32 : k ≤ 32 := by omega
  have wk : IntKind.i64.wrap (k : Int) = k := by rw [IntKind.wrap_i64]; omega
  clear hkk
  go_enter Try.func5, Try.ntmps5
  go_wp2_with fail
  go_loopg [4] 32 (fun z v4 wr => ∃ (i : Nat) (mb : Option Nat), i + z = 32 ∧ v4 = .int .i64 i ∧ IsQ wr w.heap.size mb (baseL i) ∧ (∀ B, mb = some B → w.heap.size ≤ B) ∧ Keep (fun _ => False) w wr)
  case atStart => exact ⟨0, none, rfl, rfl, IsQ.fresh w, fun B h => (by cases h), (Keep.refl _ w).alloc _⟩
  case round =>
    obtain ⟨i, mb, hz, rfl, hq, hB, hk⟩ := hrel
    have Q := Lib.hid hq
    have HB := Lib.hid hB
    have K := Lib.hid hk
    have HZ := Lib.hid hz
    clear hq hB hk hz
    have hzz := HZ.out
    by_cases hlt : i < 32
    · have t1 : decide ((i : Int) < 32) = true := by simp; omega
      have e1 : IntKind.i64.wrap ((i : Int) + 1) = (i + 1 : Nat) := by rw [IntKind.wrap_i64]; omega
      have hmay : mayU (i : Int) 0 = true := by simp [mayU]; omega
      have HMAY := Lib.hid hmay
      clear hzz hmay
      go_wp2_with fail
      refine (put_new Q.out (by rw [baseL_len]; omega) (i : Int) 1 0 HMAY.out (fun x hx he => by
        obtain ⟨j, hj, rfl⟩ := baseL_mem hx
        simp only [ev] at he
        omega)).mono ?_
      rintro e W2 ⟨rfl, ⟨L, B, hL, hs, hq, hB⟩, hk⟩
      have hL2 : L.Perm (baseL (i + 1)) := by rw [← baseL_succ]; exact hL
      have hl : L.length = i + 1 := by rw [hL2.length_eq, baseL_len]
      rw [List.take_of_length_le (by omega)] at hq
      have Q2 := Lib.hid (hq.perm hL2)
      have hB2 : w.heap.size ≤ B := by
        rcases hB with h | ⟨_, h⟩
        · exact HB.out B h
        · exact Nat.le_trans K.out.size h
      have K2 := Lib.hid (Keep.drop K.out hk (Nat.le_refl _) HB.out)
      clear hq hL hL2 hl hs hB hk
      go_wp2
      go_roundg (32 - (i + 1))
      case measure => have := HZ.out; omega
      case rel => exact ⟨i + 1, some B, by omega, by go_num, Q2.out, fun B' h => by injection h with h; omega, K2.out⟩
    · obtain rfl : i = 32 := by omega
      have t1 : decide (((32 : Nat) : Int) < 32) = false := by decide
      clear hzz hlt
      go_wp2_with fail
      refine (take_any Q.out (by rw [baseL_len]; omega) (fun x hx => by obtain ⟨j, hj, rfl⟩ := baseL_mem hx; simp [ev]) (k : Int) 64 (by omega) (by omega)).mono ?_
      rintro e W2 ⟨v, L, k2, rfl, hp, hs, hk2, hu, hq, hkp⟩
      have e2 : k2 = k := by have := hp.length_eq; rw [baseL_len] at this; rw [this] at hk2; omega
      subst e2
      rw [cap64'] at hq
      have Q2 := Lib.hid (hq.perm (room_take (List.Perm.refl _) hp hs k2 hk32))
      have K2 := Lib.hid (Keep.drop K.out hkp (Nat.le_refl _) HB.out)
      clear hp hs hk2 hu hq hkp Q K
      go_wp2_with fail
      refine (put_new Q2.out (by rw [room_len hk32]; omega) 40 1 0 (by decide) (fun x hx he => by
        obtain ⟨j, hj, rfl⟩ := room_mem hk32 hx
        simp only [ev] at he
        omega)).mono ?_
      rintro e W3 ⟨rfl, ⟨L3, B, hL, hs, hq, hB⟩, hk⟩
      obtain ⟨hl3, hgone⟩ := room_gone hk32 hL hs
      have Q3 := Lib.hid hq
      have GONE := Lib.hid hgone
      have K3 := Lib.hid (Keep.drop K2.out hk (Nat.le_refl _) HB.out)
      have hl4 : (L3.take 32).length = 32 := by simp; omega
      have HL4 := Lib.hid hl4
      clear hq hL hs hB hk hgone hl3 hl4 Q2 K2
      go_wp2_with fail
      refine (items_any Q3.out (by rw [HL4.out]; omega)).mono ?_
      rintro e W7 ⟨v, L, rfl, hI⟩
      obtain ⟨hIp, hIs, ⟨g, c, rfl, hg, hc, hrow⟩, hk7⟩ := hI
      have hl5 : L.length = 32 := by rw [hIp.length_eq, HL4.out]
      rw [hl5]
      have G5 : Hid (∀ i, i < 32 → (it L i).n ≠ goneN k2) := Lib.hid (fun i hi => GONE.out _ (hIp.mem_iff.1 (it_mem (by omega))))
      have ROW := Lib.hid hrow
      have K7 := Lib.hid (K3.out.step hk7)
      have HL5 := Lib.hid hl5
      clear hIp hIs hg hrow hk7 hl5
      go_wp2_with fail
      refine (shown8 _).mono ?_
      rintro e W8 ⟨rfl, hk8⟩
      have ROW8 := Lib.hid (ROW.out.keep hk8 id)
      have K8 := Lib.hid (K7.out.step hk8)
      clear hk8 ROW K7
      by_cases c0 : k2 = 0
      · subst c0
        have e9 : IntKind.i64.wrap (-1) = -1 := by rw [IntKind.wrap_i64]; omega
        have G6 : Hid (∀ i, i < 32 → (it L i).n ≠ 40) := Lib.hid (fun i hi => by have := G5.out i hi; unfold goneN at this; rw [if_pos rfl] at this; exact this)
        clear G5 GONE
        go_wp2_with fail
        go_loopg [9] 32 (fun z v9 wr => ∃ i : Nat, i + z = 32 ∧ v9 = .int .i64 i ∧ W8 = wr)
        case atStart => exact ⟨0, rfl, rfl, rfl⟩
        case round =>
          obtain ⟨i, hz, rfl, rfl⟩ := hrel
          by_cases hlt : i < 32
          · have t1 : decide ((i : Int) < 32) = true := by simp; omega
            have e1 : IntKind.i64.wrap ((i : Int) + 1) = (i + 1 : Nat) := by rw [IntKind.wrap_i64]; omega
            have r0 := (ROW8.out i (by rw [HL5.out]; exact hlt)).1
            have hne := G6.out i hlt
            generalize (it L i).n = z at r0 hne
            have t2 : (z == 40) = false := by rw [beq_eq_false_iff_ne]; exact hne
            have HZ2 := Lib.hid hz
            clear hz hne
            go_wp2
            go_roundg (32 - (i + 1))
            case measure => have := HZ2.out; omega
            case rel => exact ⟨i + 1, by have := HZ2.out; omega, by go_num, rfl⟩
          · obtain rfl : i = 32 := by omega
            have t1 : decide (((32 : Nat) : Int) < 32) = false := by decide
            clear hz hlt
            go_wp2
            go_ret
            exact ⟨rfl, K8.out⟩
      · have e9 : IntKind.i64.wrap ((k2 : Int) - 1) = (k2 : Int) - 1 := by rw [IntKind.wrap_i64]; omega
        have t0 : ((k2 : Int) == 0) = false := by rw [beq_eq_false_iff_ne]; omega
        have t00 : ¬ (k2 : Int) = 0 := by omega
        have G6 : Hid (∀ i, i < 32 → (it L i).n ≠ ((k2 : Int) - 1)) := Lib.hid (fun i hi => by have := G5.out i hi; unfold goneN at this; rw [if_neg c0] at this; exact this)
        clear G5 GONE
        go_wp2_with fail
        go_loopg [9] 32 (fun z v9 wr => ∃ i : Nat, i + z = 32 ∧ v9 = .int .i64 i ∧ W8 = wr)
        case atStart => exact ⟨0, rfl, rfl, rfl⟩
        case round =>
          obtain ⟨i, hz, rfl, rfl⟩ := hrel
          by_cases hlt : i < 32
          · have t1 : decide ((i : Int) < 32) = true := by simp; omega
            have e1 : IntKind.i64.wrap ((i : Int) + 1) = (i + 1 : Nat) := by rw [IntKind.wrap_i64]; omega
            have r0 := (ROW8.out i (by rw [HL5.out]; exact hlt)).1
            have hne := G6.out i hlt
            generalize (it L i).n = z at r0 hne
            have t2 : (z == ((k2 : Int) - 1)) = false := by rw [beq_eq_false_iff_ne]; exact hne
            have HZ2 := Lib.hid hz
            clear hz hne
            go_wp2
            go_roundg (32 - (i + 1))
            case measure => have := HZ2.out; omega
            case rel => exact ⟨i + 1, by have := HZ2.out; omega, by go_num, rfl⟩
          · obtain rfl : i = 32 := by omega
            have t1 : decide (((32 : Nat) : Int) < 32) = false := by decide
            clear hz hlt
            go_wp2
            go_ret
            exact ⟨rfl, K8.out⟩

theorem wf_u8' {n : Int} (h : (Lit.int .u8 n).wf = true) : 0 ≤ n ∧ n ≤ 255 := by
  simp [Lit.wf] at h
  exact h
theorem room_row (a0 : Int) (w0 : (Lit.int .u8 a0).wf = true) (w : World) :
    Calls Try.prog 5 #[.int .u8 a0] w fun e w' => e = .returned (.bool true) ∧ Below w.heap.size w w' :=
  (room_law a0 (wf_u8' w0) w).mono fun _ _ ⟨h1, h2⟩ => ⟨h1, h2.below⟩

end Go.Proofs.Ytacfigociobgmaa
