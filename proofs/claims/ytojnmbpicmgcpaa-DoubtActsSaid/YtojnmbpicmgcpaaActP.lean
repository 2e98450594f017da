/- Doubts, the program's and the document's, side by side: what each act does to them. -/
import Derived.Test.YtojnmbpicmgcpaaRefQ
namespace Go.Proofs.Ytojnmbpicmgcpaa
open Go.RowKit Sh
open Go.ChangeMaps (setBlock)
set_option linter.unusedVariables false

theorem set_map {R : List Db} (hn : (R.map Db.n).Nodup) {j : Nat} (hj : j < R.length) {y : Db} (hy : y.n = (db R j).n) : R.set j y = R.map fun z => if z.n = y.n then y else z := by
  refine List.ext_getElem (by simp) fun k h1 h2 => ?_
  rw [List.getElem_set, List.getElem_map]
  by_cases c : j = k
  · subst c
    have e : (R[j]'hj).n = y.n := by rw [← db_of hj]; exact hy.symm
    rw [if_pos rfl, if_pos e]
  · have hk : k < R.length := by simpa using h2
    have : (R[k]'hk).n ≠ y.n := fun e => by
      have h3 := List.pairwise_map.1 hn
      have h4 : (R[k]'hk).n = (R[j]'hj).n := e.trans (by rw [hy, db_of hj])
      rcases Nat.lt_or_gt_of_ne c with h | h
      · exact (List.pairwise_iff_getElem.1 h3 j k hj hk h) h4.symm
      · exact (List.pairwise_iff_getElem.1 h3 k j hk hj h) h4
    rw [if_neg c, if_neg this]
/-- What Raise comes to is one. -/
theorem rout_unique {R : List Db} {n i : Int} {k : Nat} {now : Int} {u : Nat → Nat} (hn : (R.map Db.n).Nodup) {b b' : Bool} {z z' : Int} {R1 R2 : List Db} (h1 : ROut R n i k now u b z R1) (h2 : ROut R n i k now u b' z' R2) : b = b' ∧ z = z' ∧ R1 = R2 := by
  have one : ∀ {x y : Db}, x ∈ R → y ∈ R → x.n = n → y.n = n → x = y := fun hx hy e1 e2 => nodup_one hn hx hy (e1.trans e2.symm)
  cases h1 with
  | old x hx hxn hi =>
    cases h2 with
    | old y hy hyn hj => exact ⟨rfl, rfl, rfl⟩
    | has y hy hyn hj F hF hf hb => have := one hx hy hxn hyn; subst this; omega
    | told j hj hjn hji F hF hf hb t ht ht2 => have := one hx (db_mem hj) hxn hjn; rw [this] at hi; omega
    | new h => have := h x hx hxn; omega
  | has x hx hxn hi F hF hf hb =>
    cases h2 with
    | old y hy hyn hj => have := one hx hy hxn hyn; subst this; omega
    | has y hy hyn hj F hF hf hb => exact ⟨rfl, rfl, rfl⟩
    | told j hj hjn hji F2 hF2 hf2 hb2 t ht ht2 =>
      have := one hx (db_mem hj) hxn hjn
      rw [this, hf2] at hf
      have e : F2 = F := by omega
      subst e
      rw [hb] at hb2
      cases hb2
    | new h => have := h x hx hxn; omega
  | told j hj hjn hji F hF hf hb t ht ht2 =>
    cases h2 with
    | old y hy hyn hk => have := one hy (db_mem hj) hyn hjn; rw [this] at hk; omega
    | has y hy hyn hk F2 hF2 hf2 hb2 =>
      have := one hy (db_mem hj) hyn hjn
      rw [this, hf] at hf2
      have e : F = F2 := by omega
      subst e
      rw [hb] at hb2
      cases hb2
    | told j2 hj2 hjn2 hji2 F2 hF2 hf2 hb2 t2 ht2' ht22 =>
      have e1 := one (db_mem hj) (db_mem hj2) hjn hjn2
      have e2 : j = j2 := by
        rcases Nat.lt_trichotomy j j2 with c | c | c
        · have := (List.pairwise_iff_getElem.1 (List.pairwise_map.1 hn)) j j2 hj hj2 c
          rw [← db_of hj, ← db_of hj2, e1] at this
          exact absurd rfl this
        · exact c
        · have := (List.pairwise_iff_getElem.1 (List.pairwise_map.1 hn)) j2 j hj2 hj c
          rw [← db_of hj, ← db_of hj2, e1] at this
          exact absurd rfl this
      subst e2
      have e3 : F = F2 := by omega
      have e4 : t = t2 := by omega
      subst e3 e4
      exact ⟨rfl, rfl, rfl⟩
    | new h => have := h _ (db_mem hj) hjn; omega
  | new h =>
    cases h2 with
    | old y hy hyn hj => have := h y hy hyn; omega
    | has y hy hyn hj F hF hf hb => have := h y hy hyn; omega
    | told j hj hjn hji F hF hf hb t ht ht2 => have := h _ (db_mem hj) hjn; omega
    | new h => exact ⟨rfl, rfl, rfl⟩
/-- the program's Raise, in the document's words. -/
structure PREnd (e : Ending) (w w' : World) (q : Nat) (mb : Option Nat) (R : List Db) (n i : Int) (k : Nat) (now : Int) (u : Nat → Nat) : Prop where
  ex : ∃ b z R', e = .returned (.tuple #[.bool b, .int .i64 z]) ∧ ROut R n i k now u b z R' ∧ ∃ mb', IsQ w' q mb' R' ∧ ∀ B, mb' = some B → mb = some B ∨ w.heap.size ≤ B
  keep : Keep (QS q mb) w w'
theorem praise_good {w : World} {q : Nat} {mb : Option Nat} {R : List Db} {base : Nat} {nodes : Int} {u : Nat → Nat} (h : IsQ w q mb R) (hw : Waits base nodes u) (hok : ∀ x ∈ R, Dok x) (n i : Int) (k : Nat) (now : Int) (hn : 0 ≤ n ∧ n < 64) (hk : k ≤ 63) (hnow : 0 ≤ now ∧ now < 18446744073709551616) :
    Calls Try.prog 9 #[.pointer (some ⟨q, 0, none⟩), updV n i 1, .int .i64 k, .int .u64 now, .int .i64 nodes, .float .f64 base] w fun e w' => PREnd e w w' q mb R n i k now u := by
  by_cases c : ∃ x ∈ R, x.n = n
  · obtain ⟨x, hx, hxn⟩ := c
    obtain ⟨⟨F, hF, hf⟩, ⟨t, ht2, ht⟩, hc⟩ := hok x hx
    by_cases c1 : i < x.i
    · refine (raise_old h n i k now hn hk x hx hxn c1).mono ?_
      rintro e w' ⟨rfl, hk'⟩
      exact ⟨⟨false, 70, R, rfl, .old x hx hxn c1, mb, h.keep0 hk', fun B hB => .inl hB⟩, hk'.mono (fun _ h _ => absurd h id)⟩
    · by_cases c2 : x.i = i
      · cases hb : F.testBit k with
        | true =>
          refine (raise_has h n i k now hn hk x hx hxn c2 F hF hf hb).mono ?_
          rintro e w' ⟨rfl, hk'⟩
          exact ⟨⟨false, 0, R, rfl, .has x hx hxn c2 F hF hf hb, mb, h.keep0 hk', fun B hB => .inl hB⟩, hk'.mono (fun _ h _ => absurd h id)⟩
        | false =>
          refine (raise_told h hw n i k now hn hk x hx hxn c2 F hF hf hb t ht (by omega) hc).mono ?_
          rintro e w' ⟨rfl, B, hB, hq2, hk'⟩
          obtain ⟨j, hj, rfl⟩ := mem_db hx
          refine ⟨⟨true, 0, _, rfl, .told j hj hxn c2 F hF hf hb t ht ht2, some B, hq2.perm ?_, fun B' hB' => .inl (by rw [hB]; exact hB')⟩, hk'⟩
          rw [set_map h.nod hj (y := ⟨n, i, (db R j).s, ((F ||| 2 ^ k : Nat) : Int), (db R j).c, (t : Int) + 1, sat (db R j).c (u (t + 1) : Nat)⟩) (by simp only; exact hxn.symm)]
          exact (map_put R _ h.nod ⟨_, hx, hxn⟩).symm
      · have hnew : ∀ y ∈ R, y.n = n → y.i < i := fun y hy hyn => by
          have := nodup_one h.nod hx hy (hxn.trans hyn.symm)
          subst this
          omega
        refine (raise_new h hw.is n i k now hn hk hnow hnew).mono ?_
        rintro e w' ⟨rfl, r⟩
        obtain ⟨B, t', ⟨rfl, _, _⟩, hq2, hB⟩ := r.ex
        refine ⟨⟨true, 0, _, rfl, .new hnew, some B, hq2, fun B' hB' => ?_⟩, r.keep⟩
        injection hB' with hB'
        subst hB'
        rcases hB with hB | ⟨_, hB⟩
        · exact .inl hB
        · exact .inr hB
  · have hnew : ∀ y ∈ R, y.n = n → y.i < i := fun y hy hyn => absurd ⟨y, hy, hyn⟩ c
    refine (raise_new h hw.is n i k now hn hk hnow hnew).mono ?_
    rintro e w' ⟨rfl, r⟩
    obtain ⟨B, t', ⟨rfl, _, _⟩, hq2, hB⟩ := r.ex
    refine ⟨⟨true, 0, _, rfl, .new hnew, some B, hq2, fun B' hB' => ?_⟩, r.keep⟩
    injection hB' with hB'
    subst hB'
    rcases hB with hB | ⟨_, hB⟩
    · exact .inl hB
    · exact .inr hB

/-- What holds of each doubt, behind m acts. -/
structure Dk (m : Nat) (x : Db) : Prop where
  n : 0 ≤ x.n ∧ x.n < 64
  f : ∃ F : Nat, F < 18446744073709551616 ∧ x.f = (F : Int)
  t : ∃ t : Nat, t ≤ m ∧ x.t = (t : Int)
  c : 0 ≤ x.c ∧ x.c < 18446744073709551616
theorem Dk.ok {m : Nat} {x : Db} (h : Dk m x) (hm : m < 1000) : Dok x := ⟨h.f, by obtain ⟨t, h1, h2⟩ := h.t; exact ⟨t, by omega, h2⟩, h.c⟩
theorem Dk.up {m : Nat} {x : Db} (h : Dk m x) : Dk (m + 1) x := ⟨h.n, h.f, by obtain ⟨t, h1, h2⟩ := h.t; exact ⟨t, by omega, h2⟩, h.c⟩
/-- Both stand, and hold the same. -/
structure Both (w wr : World) (q m : Nat) (mb : Option Nat) (v : Value) (R : List Db) : Prop where
  que : IsQ wr q mb R
  ref : IsRf wr (q + 1) v R
  ok : ∀ x ∈ R, Dk m x
  len : R.length ≤ m
  hq : w.heap.size ≤ q
  hB : ∀ B, mb = some B → q + 2 ≤ B
  dj : ∀ B, mb = some B → v.ownBlock ≠ some B
  keep : Keep (fun _ => False) w wr
section
variable {w wr : World} {q m : Nat} {mb : Option Nat} {v : Value} {R : List Db}
theorem Both.keep0 {W2 : World} (h : Both w wr q m mb v R) (k : Keep (fun _ => False) wr W2) : Both w W2 q m mb v R :=
  ⟨h.que.keep0 k, h.ref.keep0 k, h.ok, h.len, h.hq, h.hB, h.dj, h.keep.step k⟩
theorem Both.up (h : Both w wr q m mb v R) : Both w wr q (m + 1) mb v R :=
  ⟨h.que, h.ref, fun x hx => (h.ok x hx).up, Nat.le_succ_of_le h.len, h.hq, h.hB, h.dj, h.keep⟩
theorem Both.gq (h : Both w wr q m mb v R) : ∀ g, v.ownBlock = some g → q + 2 ≤ g := fun g hg => (h.ref.own.lt g hg).1
/-- the program's doubts turn alone: the document's stay. -/
theorem Both.refq {W2 : World} (h : Both w wr q m mb v R) (k : Keep (QS q mb) wr W2) : IsRf W2 (q + 1) v R :=
  h.ref.keep k (by
    rintro j (rfl | hj) (hk | hk)
    · omega
    · have := h.hB _ hk; omega
    · have := h.gq j hj; omega
    · exact h.dj j hk hj)
theorem Both.keepq {W2 : World} (h : Both w wr q m mb v R) (k : Keep (QS q mb) wr W2) : Keep (fun _ => False) w W2 :=
  h.keep.trans k (by
    rintro j (hk | hk) hlt
    · have := h.hq; omega
    · have := h.hB j hk; have := h.hq; omega)
end
/-- the document's doubts turn alone: the program's stay. -/
theorem que_ref {w W2 : World} {q : Nat} {mb : Option Nat} {v : Value} {R : List Db} (h : IsQ w q mb R) (hB : ∀ B, mb = some B → q + 2 ≤ B) (dj : ∀ B, mb = some B → v.ownBlock ≠ some B) (hg : ∀ g, v.ownBlock = some g → q + 2 ≤ g) (k : Keep (RS (q + 1) v) w W2) : IsQ W2 q mb R :=
  h.keep k (by
    rintro j (rfl | hj) (hk | hk)
    · omega
    · have := hg j hk; omega
    · have := hB j hj; omega
    · exact dj j hj hk)
theorem rout_ok {R : List Db} {n i : Int} {k : Nat} {now : Int} {u : Nat → Nat} {b : Bool} {z : Int} {R' : List Db} {m : Nat} (h : ROut R n i k now u b z R') (hok : ∀ x ∈ R, Dk m x) (hn : 0 ≤ n ∧ n < 64) (hk : k ≤ 63) (hnow : 0 ≤ now ∧ now < 18446744073709551616) (hl : R.length ≤ m) : (∀ x ∈ R', Dk (m + 1) x) ∧ R'.length ≤ m + 1 := by
  have h64 : (2 : Nat) ^ k < 2 ^ 64 := Nat.pow_lt_pow_right (by omega) (by omega)
  cases h with
  | old x hx hn hi => exact ⟨fun x hx => (hok x hx).up, by omega⟩
  | has x hx hn hi F hF hf hb => exact ⟨fun x hx => (hok x hx).up, by omega⟩
  | told j hj hjn hji F hF hf hb t ht ht2 =>
    refine ⟨fun x hx => ?_, by rw [List.length_set]; omega⟩
    rcases List.mem_or_eq_of_mem_set hx with h | rfl
    · exact (hok x h).up
    · have hd := hok _ (db_mem hj)
      obtain ⟨t', h1, h2⟩ := hd.t
      exact ⟨hn, ⟨F ||| 2 ^ k, Nat.or_lt_two_pow (n := 64) hF h64, rfl⟩, ⟨t + 1, by omega, by push_cast; rfl⟩, hd.c⟩
  | new h =>
    refine ⟨fun x hx => ?_, ?_⟩
    · rcases List.mem_append.1 hx with hx | hx
      · exact (hok x (List.mem_filter.1 hx).1).up
      · rw [List.mem_singleton] at hx
        subst hx
        exact ⟨hn, ⟨2 ^ k, by omega, by push_cast; rfl⟩, ⟨0, by omega, rfl⟩, hnow⟩
    · rw [List.length_append]
      have := List.length_filter_le (nb n) R
      simp
      omega
end Go.Proofs.Ytojnmbpicmgcpaa
