/- A group of detectors in memory. Walk of the law's began. A queue of notes: its head, what is behind it, notes behind it. -/
import Derived.Test.YtofonfohaocclaaGreatDoorH01
import Derived.Test.YtofonfohaocclaaGreatDoorG26
import Derived.Test.YtofonfohaocclaaGreatDoorG34
import Derived.Test.YtofonfohaocclaaGreatDoorHelp
import Derived.Deep.Upon
namespace Go.Proofs.YtofonfohaocclaaGreatDoor
open Go.RowKit Sh
open Go.ChangeMaps (setBlock)
set_option linter.unusedVariables false

theorem IsDet.khas31 {w : World} {b : Nat} {d : Det} {p : Parts} (h : IsDet w b d p) {k : Nat} (hk : p.has b k) : ¬ Kind w k (some 31) := fun hh => by
  rcases hk.or with rfl | rfl | hk | hk | hk | hk | hk
  · exact hh.ne h.kb (by decide) rfl
  · exact hh.ne h.krb (by decide) rfl
  · exact hh.ne (h.kl hk) (by decide) rfl
  · exact hh.ne (h.kw hk) (by decide) rfl
  · exact hh.ne (h.ke hk) (by decide) rfl
  · exact hh.ne (h.kq hk) (by decide) rfl
  · exact hh.ne (h.kd hk) (by decide) rfl
/-- Detectors that lie apart, all from base on. -/
structure Grp (w : World) (base : Nat) (bs : List Nat) (ds : List Det) : Prop where
  len : bs.length = ds.length
  ex : ∃ ps : Nat → Parts, (∀ i b d, bs[i]? = some b → ds[i]? = some d → IsDet w b d (ps i) ∧ ∀ k, (ps i).has b k → base ≤ k) ∧
    ∀ i j b c, bs[i]? = some b → bs[j]? = some c → i ≠ j → ∀ k, (ps i).has b k → ¬ (ps j).has c k
theorem Grp.keep {S : Nat → Prop} {w w' : World} {base : Nat} {bs : List Nat} {ds : List Det} (h : Grp w base bs ds) (k : Keep S w w') (hS : ∀ t j, Kind w j t → base ≤ j → t ≠ some 29 → t ≠ some 95 → t ≠ some 52 → t ≠ some 62 → t ≠ some 31 → ¬ S j) : Grp w' base bs ds := by
  obtain ⟨ps, h1, h2⟩ := h.ex
  refine ⟨h.len, ps, fun i b d hb hd => ?_, h2⟩
  obtain ⟨hi, hbase⟩ := h1 i b d hb hd
  refine ⟨hi.keep k fun j hj => ?_, hbase⟩
  obtain ⟨t, ht, q1, q2, q3, q4⟩ := hi.khas hj
  exact hS t j ht (hbase j hj) q1 q2 q3 q4 (fun e => hi.khas31 hj (e ▸ ht))
theorem Grp.keep0 {w w' : World} {base : Nat} {bs : List Nat} {ds : List Det} (h : Grp w base bs ds) (k : Keep (fun _ => False) w w') : Grp w' base bs ds := h.keep k fun _ _ _ _ _ _ _ _ _ h => h
/-- One of a group, and what becomes of the group with it. -/
structure GAt (w : World) (base xl : Nat) (bs : List Nat) (ds : List Det) (i b : Nat) (d : Det) (p : Parts) : Prop where
  det : IsDet w b d p
  base_ : ∀ k, p.has b k → base ≤ k
  next : ∀ w1 w' d' L', Keep (fun _ => False) w w1 → DLSet w1 w' b p xl d' L' → Grp w' base bs (ds.set i d')
theorem Grp.at {w : World} {base xl : Nat} {bs : List Nat} {ds : List Det} {L : List Int} (h : Grp w base bs ds) (hl : IsLots w xl L) (hb : base ≤ w.heap.size) {i : Nat} {d : Det} (hd : ds[i]? = some d) : ∃ b p, bs[i]? = some b ∧ GAt w base xl bs ds i b d p := by
  obtain ⟨ps, h1, h2⟩ := h.ex
  have hi : i < ds.length := (List.getElem?_eq_some_iff.1 hd).1
  obtain ⟨b, hbi⟩ : ∃ b, bs[i]? = some b := ⟨bs[i]'(by rw [h.len]; exact hi), List.getElem?_eq_getElem _⟩
  obtain ⟨hdet, hbase⟩ := h1 i b d hbi hd
  refine ⟨b, ps i, hbi, hdet, hbase, fun w1 w' d' L' k1 hs => ?_⟩
  obtain ⟨p', hd', hsub⟩ := hs.ex
  refine ⟨by rw [List.length_set]; exact h.len, fun j => if j = i then p' else ps j, fun j c e hc he => ?_, fun j m c c' hc hc' hne k hk hk' => ?_⟩
  · show IsDet w' c e (if j = i then p' else ps j) ∧ ∀ k, (if j = i then p' else ps j).has c k → base ≤ k
    by_cases hji : j = i
    · subst hji
      rw [if_pos rfl]
      rw [hbi] at hc
      cases hc
      rw [List.getElem?_set_self hi] at he
      cases he
      refine ⟨hd', fun k hk => ?_⟩
      rcases hsub k hk with h | h
      · exact hbase k h
      · have := k1.size; omega
    · rw [if_neg hji]
      rw [List.getElem?_set_ne (Ne.symm hji)] at he
      obtain ⟨hj, hjb⟩ := h1 j c e hc he
      refine ⟨(hj.keep0 k1).keep hs.keep fun k hk hh => ?_, hjb⟩
      rcases hh with hh | hh
      · exact h2 j i c b hc hbi hji k hk hh
      · obtain ⟨t, ht, q1, q2, q3, q4⟩ := (hj.keep0 k1).khas hk
        subst hh
        exact ht.ne (hl.keep0 k1).kind q2 rfl
  · replace hk : (if j = i then p' else ps j).has c k := hk
    replace hk' : (if m = i then p' else ps m).has c' k := hk'
    have lt : ∀ j c e, bs[j]? = some c → ds[j]? = some e → ∀ k, (ps j).has c k → k < w.heap.size := fun j c e hc he k hk => (h1 j c e hc he).1.lt hk
    have some_d : ∀ j c, bs[j]? = some c → ∃ e, ds[j]? = some e := fun j c hc => by
      have hj : j < bs.length := (List.getElem?_eq_some_iff.1 hc).1
      exact ⟨ds[j]'(by rw [← h.len]; exact hj), List.getElem?_eq_getElem _⟩
    by_cases hji : j = i
    · subst hji
      rw [hbi] at hc
      cases hc
      rw [if_pos rfl] at hk
      rw [if_neg (Ne.symm hne)] at hk'
      obtain ⟨e, he⟩ := some_d m c' hc'
      rcases hsub k hk with h | h
      · exact h2 j m b c' hbi hc' hne k h hk'
      · have := lt m c' e hc' he k hk'
        have := k1.size; omega
    · rw [if_neg hji] at hk
      by_cases hmi : m = i
      · subst hmi
        rw [hbi] at hc'
        cases hc'
        rw [if_pos rfl] at hk'
        obtain ⟨e, he⟩ := some_d j c hc
        rcases hsub k hk' with h | h
        · exact h2 j m c b hc hbi hne k hk h
        · have := lt j c e hc he k hk
          have := k1.size; omega
      · rw [if_neg hmi] at hk'
        exact h2 j m c c' hc hc' hne k hk hk'
/-- One more. -/
theorem Grp.push {w w' : World} {base b : Nat} {bs : List Nat} {ds : List Det} {d : Det} {p : Parts} (h : Grp w base bs ds) (hb : base ≤ w.heap.size) (kk : Keep (fun _ => False) w w') (hd : IsDet w' b d p) (hp : ∀ j, p.has b j → w.heap.size ≤ j) : Grp w' base (bs ++ [b]) (ds ++ [d]) := by
  obtain ⟨ps, h1, h2⟩ := h.ex
  have some_d : ∀ j c, bs[j]? = some c → ∃ e, ds[j]? = some e := fun j c hc => by
    have hj : j < bs.length := (List.getElem?_eq_some_iff.1 hc).1
    exact ⟨ds[j]'(by rw [← h.len]; exact hj), List.getElem?_eq_getElem _⟩
  have lt : ∀ j c, bs[j]? = some c → ∀ k, (ps j).has c k → k < w.heap.size := fun j c hc k hk => by
    obtain ⟨e, he⟩ := some_d j c hc
    exact (h1 j c e hc he).1.lt hk
  have get : ∀ j c, (bs ++ [b])[j]? = some c → (j < bs.length ∧ bs[j]? = some c) ∨ (j = bs.length ∧ c = b) := fun j c hc => by
    by_cases hj : j < bs.length
    · rw [List.getElem?_append_left hj] at hc
      exact .inl ⟨hj, hc⟩
    · rw [List.getElem?_append_right (by omega)] at hc
      by_cases hj2 : j - bs.length = 0
      · rw [hj2] at hc
        simp at hc
        exact .inr ⟨by omega, hc.symm⟩
      · rw [List.getElem?_eq_none (by simp; omega)] at hc
        cases hc
  refine ⟨by rw [List.length_append, List.length_append, h.len]; rfl, fun j => if j = bs.length then p else ps j, fun j c e hc he => ?_, fun j m c c' hc hc' hne k hk hk' => ?_⟩
  · show IsDet w' c e (if j = bs.length then p else ps j) ∧ ∀ k, (if j = bs.length then p else ps j).has c k → base ≤ k
    rcases get j c hc with ⟨hj, hc⟩ | ⟨hj, rfl⟩
    · rw [if_neg (by omega)]
      rw [List.getElem?_append_left (by rw [← h.len]; exact hj)] at he
      obtain ⟨q1, q2⟩ := h1 j c e hc he
      exact ⟨q1.keep0 kk, q2⟩
    · rw [if_pos hj]
      rw [hj, h.len, List.getElem?_append_right (Nat.le_refl _), Nat.sub_self] at he
      cases he
      exact ⟨hd, fun k hk => Nat.le_trans hb (hp k hk)⟩
  · replace hk : (if j = bs.length then p else ps j).has c k := hk
    replace hk' : (if m = bs.length then p else ps m).has c' k := hk'
    rcases get j c hc with ⟨hj, hcj⟩ | ⟨hj, hcb⟩
    · rw [if_neg (by omega)] at hk
      rcases get m c' hc' with ⟨hm, hcm⟩ | ⟨hm, hcm⟩
      · rw [if_neg (by omega)] at hk'
        exact h2 j m c c' hcj hcm hne k hk hk'
      · rw [if_pos hm] at hk'
        have := lt j c hcj k hk
        have := hp k (hcm ▸ hk')
        omega
    · rw [if_pos hj] at hk
      rcases get m c' hc' with ⟨hm, hcm⟩ | ⟨hm, hcm⟩
      · rw [if_neg (by omega)] at hk'
        have := lt m c' hcm k hk'
        have := hp k (hcb ▸ hk)
        omega
      · omega
theorem Grp.nil (w : World) (base : Nat) : Grp w base [] [] := ⟨rfl, fun _ => ⟨0, .slice none 0 0, .slice none 0 0, .slice none 0 0, none, none⟩, fun i b d hb => by simp at hb, fun i j b c hb => by simp at hb⟩
end Go.Proofs.YtofonfohaocclaaGreatDoor

namespace Go.Proofs.YtofonfohaocclaaGreatDoor
open Go.RowKit Sh
open Go.ChangeMaps (setBlock)
set_option linter.unusedVariables false
set_option linter.unusedSimpArgs false

theorem info31 : ∃ i, Info 31 (.pointer none) 1 8 i := Info.of (by kernel_rfl)
/-- Pointers in a row. -/
structure PtrR (w : World) (base : Nat) (v : Value) (bs : List Nat) : Prop where
  ex : ∃ A c, v = .slice A bs.length c ∧ (0 < bs.length → ∃ g o, A = some ⟨g, o, none⟩ ∧ base ≤ g ∧ Kind w g (some 31) ∧ ∀ i b, bs[i]? = some b → w.cell? ⟨g, o + i, none⟩ = some (.pointer (some ⟨b, 0, none⟩)))
theorem PtrR.keep {S : Nat → Prop} {w w' : World} {base : Nat} {v : Value} {bs : List Nat} (h : PtrR w base v bs) (k : Keep S w w') (hS : ∀ j, base ≤ j → Kind w j (some 31) → ¬ S j) : PtrR w' base v bs := by
  obtain ⟨A, c, hv, hc⟩ := h.ex
  refine ⟨A, c, hv, fun h0 => ?_⟩
  obtain ⟨g, o, hA, hg, hk, hcell⟩ := hc h0
  refine ⟨g, o, hA, hg, ?_, fun i b hb => k.cellS (hcell i b hb) (hS g hg hk)⟩
  obtain ⟨cs, hh⟩ := hk.is
  exact ⟨⟨cs, k.old hh (hS g hg ⟨cs, hh⟩)⟩⟩
theorem PtrR.keep0 {w w' : World} {base : Nat} {v : Value} {bs : List Nat} (h : PtrR w base v bs) (k : Keep (fun _ => False) w w') : PtrR w' base v bs := h.keep k fun _ _ _ h => h
def ptC (b : Nat) : List Value := [.pointer (some ⟨b, 0, none⟩)]
theorem PtrR.of_own {w : World} {base : Nat} {v : Value} {bs : List Nat} (h : w.ownsRow base 31 1 v bs.length (flat ptC bs)) : PtrR w base v bs := by
  obtain ⟨A, c, rfl⟩ := own_shape h
  refine ⟨A, c, rfl, fun h0 => ?_⟩
  obtain ⟨g, o, c', cs, hv, _⟩ := (Row.of_own h).pos h0
  cases hv
  refine ⟨g, o, rfl, (own_typed h rfl).1, (own_typed h rfl).2, fun i b hb => ?_⟩
  have hi : i < bs.length := (List.getElem?_eq_some_iff.1 hb).1
  have hb' : bs[i] = b := (List.getElem?_eq_some_iff.1 hb).2
  have h1 := (Row.of_own h).cell (flat_at (k := 1) ptC (fun _ => rfl) hi (t := 0) (by rw [hb']; rfl))
  simpa using h1
theorem begK_append : ∀ (l m : List Nat) (d : Det), begK d (l ++ m) = begK (begK d l) m
  | [], _, _ => rfl
  | k :: l, m, d => begK_append l m _
theorem begK_succ (d : Det) (k : Nat) : begK d (List.range (k + 1)) = ((begK d (List.range k)).take [] ⟨(k : Int), 0, 0⟩ (begK d (List.range k)).r.me).1 := by
  rw [List.range_succ, begK_append]
  rfl
theorem range_beg (n i : Nat) : (List.range (i + 1)).map (begP n) = (List.range i).map (begP n) ++ [begP n i] := by
  rw [List.range_succ, List.map_append]
  rfl
/-- The detectors made so far. -/
structure BOut (w w1 wr : World) (n i : Nat) (v3 : Value) : Prop where
  ex : ∃ bs : List Nat, bs.length = i ∧ (∃ A c, v3 = .slice A i c) ∧ wr.ownsRow w1.heap.size 31 1 v3 i (flat ptC bs) ∧ Grp wr w1.heap.size bs ((List.range i).map (begP n))
  keep : Keep (fun _ => False) w1 wr
/-- One that is told of all. -/
structure BIn (wr wk : World) (b i k : Nat) : Prop where
  ex : ∃ p, IsDet wk b (begK (Det.new i) (List.range k)) p ∧ ∀ j, p.has b j → wr.heap.size ≤ j
  ok : DetOk (begK (Det.new i) (List.range k))
  keep : Keep (fun _ => False) wr wk
theorem BIn.next {wr wk wl w2 : World} {b xl i k : Nat} {p : Parts} {L' : List Int} (h : BIn wr wk b i k) (hp : ∀ j, p.has b j → wr.heap.size ≤ j) (kl : Keep (fun _ => False) wk wl) (hx : wk.heap.size ≤ xl)
    (hs : DLSet wl w2 b p xl ((begK (Det.new i) (List.range k)).take [] ⟨(k : Int), 0, 0⟩ (begK (Det.new i) (List.range k)).r.me).1 L') : BIn wr w2 b i (k + 1) := by
  obtain ⟨p', hd', hsub⟩ := hs.ex
  have hk := h.keep.step kl
  refine ⟨⟨p', by rw [begK_succ]; exact hd', fun j hj => ?_⟩, by rw [begK_succ]; exact take_ok h.ok _ _ _, hk.trans hs.keep fun j hj hl => ?_⟩
  · rcases hsub j hj with h1 | h1
    · exact hp j h1
    · have := hk.size; omega
  · rcases hj with hj | hj
    · have := hp j hj; omega
    · have := h.keep.size; omega
theorem BOut.next {w wr w' : World} {n i b : Nat} {bs : List Nat} {v3 v' : Value} {cs : Array Value} (hi : bs.length = i) (hk : Keep (fun _ => False) w wr) (hg : Grp wr w.heap.size (bs ++ [b]) ((List.range (i + 1)).map (begP n))) (ho : wr.ownsRow w.heap.size 31 1 v3 i (flat ptC bs)) (hg2 : (wr.alloc (.cells cs 31)).grownBy w' v3.ownBlock) (hown : w'.ownsRow w.heap.size 31 1 v' (i + 1) (flat ptC bs ++ ptC b)) : BOut w w w' n (i + 1) v' := by
  have k1 : Keep (fun j => v3.ownBlock = some j) wr w' := ((Keep.refl _ wr).alloc _).grown hg2 (fun k hk _ => hk)
  refine ⟨⟨bs ++ [b], by rw [List.length_append, hi]; rfl, own_shape hown, by rw [flat_append, flat_one]; exact hown, hg.keep k1 fun t j ht hb q1 q2 q3 q4 q5 e => ht.ne (own_typed ho e).2 q5 rfl⟩, hk.trans k1 fun j hj hl => ?_⟩
  have := (own_typed ho hj).1
  omega
theorem bg_rel {i n : Nat} (hi : i < n) : i + 1 + (n - (i + 1)) = n := by omega
theorem bg_meas {i z n : Nat} (h : i + z = n) (hi : i < n) : n - (i + 1) < z := by omega
theorem bg_next {i : Nat} (h : wrap64 ((i : Int) + 1) = (i : Int) + 1) : Value.int .i64 (wrap64 ((i : Int) + 1)) = Value.int .i64 ((i + 1 : Nat) : Int) := by rw [h]; rfl
set_option maxRecDepth 100000 in
set_option maxHeartbeats 4000000 in
theorem began_any {w : World} (n : Nat) (hn : n ≤ 64) (hT : TabAt 0 B.tabS w) (hw : 0 < w.heap.size) :
    Calls Tryz.prog 9 #[.int .i64 (n : Int)] w fun e w' => ∃ v bs, e = .returned v ∧ PtrR w' w.heap.size v bs ∧ Grp w' w.heap.size bs ((List.range n).map (begP n)) ∧ Keep (fun _ => False) w w' := by
  obtain ⟨j0, hj⟩ := info31
  have HJ := Lib.hid hj
  have HT := Lib.hid hT
  have HN := Lib.hid hn
  have HW := Lib.hid hw
  clear hj hT hn hw
  go_enter Tryz.func9, Tryz.ntmps9
  go_wp2_with fail
  go_loopg [3, 4, 5, 6] n (fun z v3 v4 v5 v6 wr => ∃ i : Nat, i + z = n ∧ v4 = .int .i64 (i : Int) ∧ BOut w w wr n i v3)
  case atStart =>
    refine ⟨0, by omega, rfl, ⟨[], rfl, ⟨_, _, rfl⟩, ⟨rfl, .inr ⟨w.heap.size, 0, #[], rfl, Nat.le_refl _, heap_alloc_new w _, by omega, by simp [maxLen], rfl, rfl⟩⟩, Grp.nil _ _⟩, (Keep.refl _ w).alloc _⟩
  case round =>
    obtain ⟨i, hz, rfl, hbo⟩ := hrel
    obtain ⟨wq, hwq⟩ : ∃ wq, wq = wr := ⟨_, rfl⟩
    rw [← hwq] at hbo ⊢
    clear hwq
    obtain ⟨bs, hbl, ⟨A3, c3, rfl⟩, hown, hgrp⟩ := hbo.ex
    have HK := Lib.hid hbo.keep
    have HOW := Lib.hid hown
    have HG := Lib.hid hgrp
    have HBL := Lib.hid hbl
    have HZ := Lib.hid hz
    have hi1 : i ≤ n := by omega
    have w1i := wrap_succ i (by have := HN.out; omega)
    clear hbo hown hgrp hz hbl
    by_cases hlt : i < n
    · have HLT := Lib.hid hlt
      have t1 : decide ((i : Int) < (n : Int)) = true := decide_eq_true (by omega)
      have HNW := Lib.hid (new_det (w := wq) (i : Int) (by have := HN.out; omega) (by have := HK.out.size; have := HW.out; omega))
      clear hlt hi1
      go_wp2_with fail
      refine HNW.out.mono ?_
      rintro e wn ⟨b, rfl, hb, hnw⟩
      have HBI : Hid (BIn wq wn b i 0) := Lib.hid ⟨hnw.ex, (new_ko (by have := HN.out; have := HLT.out; omega)).ok, hnw.keep⟩
      clear hb hnw HNW
      go_wp2_with fail
      go_loopg [6] n (fun z v6 wr => ∃ k : Nat, k + z = n ∧ v6 = .int .i64 (k : Int) ∧ BIn wq wr b i k)
      case atStart => exact ⟨0, Nat.zero_add _, rfl, HBI.out⟩
      case round =>
        obtain ⟨k, hz, rfl, hbi⟩ := hrel
        have HBK := Lib.hid hbi
        have HZK := Lib.hid hz
        have hk1 : k ≤ n := by omega
        have w1k := wrap_succ k (by have := HN.out; omega)
        clear hbi hz HBI
        by_cases hltk : k < n
        · have HLK := Lib.hid hltk
          have t2 : decide ((k : Int) < (n : Int)) = true := decide_eq_true (by omega)
          have HLA := Lib.hid (lotnew_any (w := wr) (v := .slice none 0 0) (L := []) (Row.nil _ _ _) (fun _ h => by cases h) (by simp))
          clear hltk hk1
          go_wp2_with fail
          refine HLA.out.mono ?_
          rintro e wl ⟨xl, rfl, hxl, hla, hkl⟩
          obtain ⟨p, hd, hp⟩ := HBK.out.ex
          have HKN := Lib.hid (know_det (hd.keep0 hkl) HBK.out.ok (B.tab_keep HT.out ((HK.out.step HBK.out.keep).step hkl) id) hla ⟨(k : Int), 0, 0⟩ in0)
          have HNX : Hid (∀ w2, DLSet wl w2 b p xl ((begK (Det.new i) (List.range k)).take [] ⟨(k : Int), 0, 0⟩ (begK (Det.new i) (List.range k)).r.me).1 ((begK (Det.new i) (List.range k)).take [] ⟨(k : Int), 0, 0⟩ (begK (Det.new i) (List.range k)).r.me).2.1 → BIn wq w2 b i (k + 1)) := Lib.hid (fun w2 hs => HBK.out.next hp hkl hxl hs)
          clear hd hp hla hkl HLA
          generalize (begK (Det.new i) (List.range k)).take [] ⟨(k : Int), 0, 0⟩ (begK (Det.new i) (List.range k)).r.me = r at *
          unfold uV at HKN
          go_wp2_with fail
          refine HKN.out.mono ?_
          rintro e w2 ⟨rfl, hs⟩
          have HF := Lib.hid (HNX.out w2 hs)
          clear hs HKN HNX
          go_wp2_with fail
          go_roundg (n - (k + 1))
          case measure => exact bg_meas HZK.out HLK.out
          case rel => exact ⟨k + 1, bg_rel HLK.out, bg_next w1k, HF.out⟩
        · obtain rfl : k = n := by omega
          have t2 : decide ((k : Int) < (k : Int)) = false := decide_eq_false (by omega)
          obtain ⟨p, hd, hp⟩ := HBK.out.ex
          have HKK := Lib.hid (HK.out.step HBK.out.keep)
          have HG2 : Hid (Grp wr w.heap.size (bs ++ [b]) ((List.range (i + 1)).map (begP k))) := Lib.hid (by
            rw [range_beg]
            exact HG.out.push HK.out.size HBK.out.keep hd hp)
          have HO2 := Lib.hid (own_keepS HOW.out HBK.out.keep (fun _ _ h => h))
          clear hltk hk1 hd hp
          go_wp2_with (at_builtin; refine wpList_append_own_at _ rfl _ _ 24 rfl w.heap.size 31 j0 (.pointer none) 1 8 Tryz.underlying24 HJ.out.has HJ.out.zero HJ.out.size HJ.out.bytes rfl (by decide) _ _ _ rfl (HO2.out.alloc _) ⟨wr.heap.size, 0, none⟩ 1 1 (ptC b) rfl rfl ?c1 ?c2 ?c3 ?c4 ?c5 ?_)
          case c1 =>
            refine World.news_of_block (cs := (ptC b).toArray) (t := 31) (fr := (0, 0)) ?_
            exact heap_alloc_new wr (.cells (ptC b).toArray 31)
          case c2 => intro u hu; simp only [ptC, List.mem_singleton] at hu; subst hu; rfl
          case c3 => have := HN.out; have := HLT.out; simp only [maxLen]; omega
          case c4 => have := HN.out; have := HLT.out; omega
          case c5 => have := HKK.out.size; simp; omega
          intro v' w' hown hg2 _ _
          have HF := Lib.hid (BOut.next HBL.out HKK.out HG2.out HO2.out hg2 hown)
          clear hown hg2
          go_wp2_with fail
          go_roundg (k - (i + 1))
          case measure => exact bg_meas HZ.out HLT.out
          case rel => exact ⟨i + 1, bg_rel HLT.out, bg_next w1i, HF.out⟩
    · obtain rfl : i = n := by omega
      have t1 : decide ((i : Int) < (i : Int)) = false := decide_eq_false (by omega)
      have HF : Hid (∃ bs', PtrR wq w.heap.size (.slice A3 i c3) bs' ∧ Grp wq w.heap.size bs' ((List.range i).map (begP i)) ∧ Keep (fun _ => False) w wq) := Lib.hid ⟨bs, PtrR.of_own (by rw [HBL.out]; exact HOW.out), HG.out, HK.out⟩
      clear hlt hi1
      go_wp2_with fail
      go_ret
      obtain ⟨bs', h1, h2, h3⟩ := HF.out
      exact ⟨_, bs', rfl, h1, h2, h3⟩
end Go.Proofs.YtofonfohaocclaaGreatDoor

namespace Go.Proofs.YtofonfohaocclaaGreatDoor
open Go.RowKit Sh
open Go.ChangeMaps (setBlock)
set_option linter.unusedVariables false

structure QNts (w : World) (base : Nat) (v : Value) (N : List Nt) : Prop where
  ex : ∃ ps : List (Nt × Value), ps.map Prod.fst = N ∧ Row w 62 6 v ps.length (flat ntC ps) ∧ (∀ x ∈ ps, NewsAt w base x) ∧ ∀ g, v.ownBlock = some g → base ≤ g
theorem QNts.of_own {w : World} {base base' : Nat} {v : Value} {N : List Nt} (h : OwnNts w base' v N) (hb : base ≤ base') : QNts w base v N := by
  obtain ⟨ps, h1, h2, h3⟩ := h.ex
  exact ⟨ps, h1, Row.of_own h2, fun x hx => (h3 x hx).mono hb, fun g hg => Nat.le_trans hb (own_typed h2 hg).1⟩
theorem QNts.keep {S : Nat → Prop} {w w' : World} {base : Nat} {v : Value} {N : List Nt} (h : QNts w base v N) (k : Keep S w w') (hS : ∀ j t, base ≤ j → Kind w j (some t) → t = 52 ∨ t = 62 → ¬ S j) : QNts w' base v N := by
  obtain ⟨ps, h1, h2, h3, h4⟩ := h.ex
  exact ⟨ps, h1, h2.keep k fun g hg => hS g 62 (h4 g hg) ⟨h2.typed hg⟩ (.inr rfl), fun x hx => (h3 x hx).keep k fun j hj hk => hS j 52 hj hk (.inl rfl), h4⟩
theorem QNts.keep0 {w w' : World} {base : Nat} {v : Value} {N : List Nt} (h : QNts w base v N) (k : Keep (fun _ => False) w w') : QNts w' base v N := h.keep k fun _ _ _ _ _ h => h
theorem QNts.keepDL {w w' : World} {base b xl : Nat} {d : Det} {p : Parts} {v : Value} {N : List Nt} {X : List Int} (h : QNts w base v N) (hd : IsDet w b d p) (hl : IsLots w xl X) (k : Keep (fun k => p.has b k ∨ k = xl) w w') : QNts w' base v N :=
  h.keep k fun j t hj hk ht hp => by
    rcases hp with hp | hp
    · obtain ⟨t', h1, h2, h3, h4, h5⟩ := hd.khas hp
      rcases ht with rfl | rfl
      · exact h1.ne hk h4 rfl
      · exact h1.ne hk h5 rfl
    · subst hp
      rcases ht with rfl | rfl
      · exact hk.ne hl.kind (by decide) rfl
      · exact hk.ne hl.kind (by decide) rfl
theorem QNts.shape {w : World} {base : Nat} {v : Value} {N : List Nt} (h : QNts w base v N) : ∃ A c, v = .slice A N.length c := by
  obtain ⟨ps, h1, h2, _⟩ := h.ex
  obtain ⟨A, c, hv⟩ := h2.shape
  exact ⟨A, c, by rw [hv, ← h1, List.length_map]⟩
/-- The head, and what is behind it. -/
structure QHead (w : World) (base : Nat) (v : Value) (n : Nt) (N : List Nt) (g o : Nat) (vn v' : Value) : Prop where
  at_ : ∃ c, v = .slice (some ⟨g, o, none⟩) (N.length + 1) c
  cells : NtCells w g o n vn
  news : Row w 52 3 vn n.news.length (flat uC n.news)
  run : ∀ W, (Instr.slice 30 v (some (.int .i64 1)) none none).run Tryz.prog W = .ok v' W
  tail : QNts w base v' N
theorem QNts.head {w : World} {base : Nat} {v : Value} {n : Nt} {N : List Nt} (h : QNts w base v (n :: N)) : ∃ g o vn v', QHead w base v n N g o vn v' := by
  obtain ⟨ps, h1, h2, h3, h4⟩ := h.ex
  match ps, h1, h2, h3 with
  | x :: ps, h1, h2, h3 =>
    simp only [List.map_cons, List.cons.injEq] at h1
    obtain ⟨rfl, rfl⟩ := h1
    obtain ⟨g, o, c, cs, hv, _⟩ := h2.pos (by simp)
    have hlen : (x :: ps).length = ps.length + 1 := rfl
    rw [hv] at h2
    have ht := h2.tail (i := 1) (by simp)
    have hfl : (flat ntC (x :: ps)).drop (1 * 6) = flat ntC ps := by
      rw [show flat ntC (x :: ps) = ntC x ++ flat ntC ps from rfl, List.drop_append_of_le_length (by simp [ntC])]
      simp [ntC]
    rw [hfl] at ht
    have hs := slice_from 30 62 Tryz.underlying30 6 Tryz.sizeOf62 (some ⟨g, o, none⟩) (x :: ps).length c 1 (by omega) (by rw [hlen]; omega)
    have cell : ∀ (t : Nat) (u : Value), (ntC x)[t]? = some u → w.cell? ⟨g, o + t, none⟩ = some u := fun t u hu => h2.cell (by
      rw [show flat ntC (x :: ps) = ntC x ++ flat ntC ps from rfl, List.getElem?_append_left (List.getElem?_eq_some_iff.1 hu).1]
      exact hu)
    refine ⟨g, o, x.2, _, ⟨⟨c, by rw [hv, hlen, List.length_map]⟩, ⟨?_, ?_, ?_, ?_, ?_, ?_⟩, Row.of_own (h3 x (by simp)).own, fun W => by rw [hv]; exact hs W, ⟨ps, rfl, ?_, fun y hy => h3 y (by simp [hy]), fun k hk => h4 k ?_⟩⟩⟩
    · have := cell 0 _ rfl; simpa using this
    · exact cell 1 _ rfl
    · exact cell 2 _ rfl
    · exact cell 3 _ rfl
    · exact cell 4 _ rfl
    · exact cell 5 _ rfl
    · have e : (x :: ps).length - 1 = ps.length := by simp
      rw [e] at ht
      exact ht
    · rw [hv]
      unfold sliced at hk
      by_cases hc : c = (1 : Int).toNat
      · rw [if_pos hc] at hk
        exact hk
      · rw [if_neg hc] at hk
        simpa [Value.ownBlock, Addr.add_mid] using hk
theorem run_append_nts {w : World} {base base2 : Nat} {v vm : Value} {N M : List Nt} (ty : TypeId) (h : QNts w base v N) (hm : OwnNts w base2 vm M) (hb2 : base ≤ base2) (hbs : base ≤ w.heap.size) (hlen : N.length + M.length ≤ 1099511627776) :
    ∃ v' w', (Builtin.append_ #[30, 30] ty #[v, vm]).run Tryz.prog w = .ok v' w' ∧ QNts w' base v' (N ++ M) ∧ Keep (fun j => v.ownBlock = some j) w w' := by
  obtain ⟨ps, h1, h2, h3, h4⟩ := h.ex
  obtain ⟨qs, q1, q2, q3⟩ := hm.ex
  obtain ⟨j0, hj0⟩ := info62
  have hpl : ps.length = N.length := by rw [← h1, List.length_map]
  have hql : qs.length = M.length := by rw [← q1, List.length_map]
  by_cases h0 : qs.length = 0
  · have hq : qs = [] := List.eq_nil_of_length_eq_zero h0
    subst hq
    have hM : M = [] := by rw [← q1]; rfl
    subst hM
    obtain ⟨A, c, hv⟩ := h2.shape
    obtain ⟨Am, cm, hvm⟩ := own_shape q2
    have hle : ps.length ≤ c := by
      rcases h2.2 with ⟨e1, e2⟩ | ⟨g, o, cap, cs, e1, hh, hn, _⟩
      · omega
      · rw [hv] at e1
        injection e1 with _ _ e3
        omega
    have hsrc : Src Tryz.prog j0.size 30 vm 0 [] w := by
      rw [hvm]
      cases Am with
      | none => exact Src.ofNil w Tryz.underlying30 cm
      | some a => exact Src.ofSlice w Tryz.underlying30 a 0 cm [] (by simp) (fun j u hu => by simp at hu) (fun u hu => by cases hu)
    have hr := run_append_nothing (P := Tryz.prog) w 30 30 ty 62 j0 Tryz.underlying30 hj0.has A ps.length c hle vm hsrc
    rw [← hv] at hr
    exact ⟨v, w, hr, by rw [List.append_nil]; exact h, Keep.refl _ _⟩
  · obtain ⟨g, o, c, cs, hvm, _⟩ := (Row.of_own q2).pos (by omega)
    have hrow := Row.of_own q2
    rw [hvm] at hrow
    obtain ⟨v', w', hr, hA⟩ := run_append_row (P := Tryz.prog) (w := w) 30 ty 62 j0 (.agg #[.int .i64 0, .int .i64 0, .int .i64 0, .int .u64 0, .int .i64 0, .slice none 0 0]) 6 64 Tryz.underlying30 hj0.has hj0.zero hj0.size hj0.bytes rfl (by decide) v ps.length (flat ntC ps) h2 ⟨g, o, none⟩ qs.length c (flat ntC qs) (flat_len ntC (k := 6) (fun _ => rfl) qs) (fun j u hu => by
      rw [Addr.add_mid]
      exact hrow.cell hu) (fun u hu => by
      obtain ⟨y, hy, hu⟩ := List.mem_flatMap.1 hu
      exact ntC_one (q3 y hy) u hu) (by omega) (by simp only [maxLen]; omega) (by omega)
    rw [← hvm] at hr
    have hS : ∀ j, base ≤ j → Kind w j (some 52) → ¬ v.ownBlock = some j := fun j _ hk e => hk.ne (⟨h2.typed e⟩ : Kind w j (some 62)) (by decide) rfl
    refine ⟨v', w', hr, ⟨ps ++ qs, by rw [List.map_append, h1, q1], by rw [List.length_append, flat_append]; exact hA.row, fun x hx => ?_, fun k hk => ?_⟩, hA.keep⟩
    · rcases List.mem_append.1 hx with hx | hx
      · exact (h3 x hx).keep hA.keep hS
      · exact ((q3 x hx).mono hb2).keep hA.keep hS
    · rcases hA.blk with e | ⟨k', e1, e2⟩
      · exact h4 k (e ▸ hk)
      · rw [e1] at hk
        cases hk
        omega
theorem wpList_append_nts {w : World} {ops : Array Oper} {rest : List Oper} {o : Oper} {a : Act} {Q : Exit → Act → World → Prop} (hgd : o.guard = none) (s x : Operand) (ho : o.op = .call { callee := .builtin .append, args := #[s, x], argTypes := #[30, 30] })
    {base base2 : Nat} {v vm : Value} {N M : List Nt} (hs : a.eval s = v) (hx : a.eval x = vm) (h : QNts w base v N) (hm : OwnNts w base2 vm M) (hb2 : base ≤ base2) (hbs : base ≤ w.heap.size) (hlen : N.length + M.length ≤ 1099511627776)
    (hK : ∀ v' w', QNts w' base v' (N ++ M) → Keep (fun j => v.ownBlock = some j) w w' → wpList Tryz.prog ops Q rest (a.put o.dst v') w') : wpList Tryz.prog ops Q (o :: rest) a w := by
  refine wpList_plain hgd fun K hK' => ?_
  obtain ⟨v', w', hr, hq, hk⟩ := run_append_nts (ty := o.type) h hm hb2 hbs hlen
  unfold Oper.wp execOp
  simp only [ho, resolve, invoke, builtin, Sem.run_bind, Sem.run_pure, Result.andThen_ok, List.map_toArray, List.map_cons, List.map_nil, hs, hx, hr]
  exact hK' _ _ (hK v' w' hq hk)
end Go.Proofs.YtofonfohaocclaaGreatDoor
