/- Spans as sets: what join, minus, same, has, may do with them. -/
import Derived.Test.YtmficjbgpcbhoaaDoorSpanE
import Derived.Test.YtmficjbgpcbhoaaDoorSpanB
namespace Go.Proofs.YtmficjbgpcbhoaaDoor
open Go.RowKit Sh
set_option linter.unusedVariables false

theorem sp_zero (x : Sp) (l : List Sp) : sp (x :: l) 0 = x := rfl
theorem sp_succ (x : Sp) (l : List Sp) (k : Nat) : sp (x :: l) (k + 1) = sp l k := rfl
theorem Ok.tail {x : Sp} {l : List Sp} (h : Ok (x :: l)) : Ok l := by
  intro j hj
  have h1 := h (j + 1) (by simp only [List.length_cons]; omega)
  rw [sp_succ] at h1
  refine ⟨h1.1, h1.2.1, fun h0 => ?_⟩
  obtain ⟨i, rfl⟩ : ∃ i, j = i + 1 := ⟨j - 1, by omega⟩
  have := h1.2.2 (by omega)
  rw [show i + 1 + 1 - 1 = i + 1 by omega, sp_succ] at this
  rw [show i + 1 - 1 = i by omega]; exact this
theorem Ok.gap {x : Sp} {l : List Sp} (h : Ok (x :: l)) {z : Int} (hm : mem l z) : x.t + 2 ≤ z := by
  obtain ⟨k, hk, m1, m2⟩ := hm
  have := h.rise 0 (k + 1) (by omega) (by simp only [List.length_cons]; omega)
  rw [sp_succ, sp_zero] at this
  omega
theorem mem_cons (x : Sp) (l : List Sp) (z : Int) : mem (x :: l) z ↔ (x.f ≤ z ∧ z ≤ x.t) ∨ mem l z := by
  constructor
  · rintro ⟨k, hk, m1, m2⟩
    cases k with
    | zero => exact .inl ⟨m1, m2⟩
    | succ k => exact .inr ⟨k, by simp only [List.length_cons] at hk; omega, m1, m2⟩
  · rintro (⟨m1, m2⟩ | ⟨k, hk, m1, m2⟩)
    · exact ⟨0, by simp, m1, m2⟩
    · exact ⟨k + 1, by simp only [List.length_cons]; omega, m1, m2⟩
theorem mem_nil (z : Int) : ¬ mem [] z := by rintro ⟨k, hk, _⟩; simp at hk
theorem Ok.head {x : Sp} {l : List Sp} (h : Ok (x :: l)) : x.f ≤ x.t := (h 0 (by simp)).1
/-- ordered spans are told by their members. -/
theorem Ok.uniq {a : List Sp} : ∀ {b : List Sp}, Ok a → Ok b → (∀ z, mem a z ↔ mem b z) → a = b := by
  induction a with
  | nil =>
    intro b _ hb h
    cases b with
    | nil => rfl
    | cons y b => exact absurd ((h y.f).2 ((mem_cons _ _ _).2 (.inl ⟨by omega, hb.head⟩))) (mem_nil _)
  | cons x a ih =>
    intro b ha hb h
    cases b with
    | nil => exact absurd ((h x.f).1 ((mem_cons _ _ _).2 (.inl ⟨by omega, ha.head⟩))) (mem_nil _)
    | cons y b =>
      have hx := ha.head
      have hy := hb.head
      have h1 : y.f ≤ x.f := by
        rcases (mem_cons _ _ _).1 ((h x.f).1 ((mem_cons _ _ _).2 (.inl ⟨by omega, hx⟩))) with g | g
        · exact g.1
        · have := hb.gap g; omega
      have h2 : x.f ≤ y.f := by
        rcases (mem_cons _ _ _).1 ((h y.f).2 ((mem_cons _ _ _).2 (.inl ⟨by omega, hy⟩))) with g | g
        · exact g.1
        · have := ha.gap g; omega
      have h3 : x.t ≤ y.t := by
        apply Classical.byContradiction
        intro c
        rcases (mem_cons _ _ _).1 ((h (y.t + 1)).1 ((mem_cons _ _ _).2 (.inl ⟨by omega, by omega⟩))) with g | g
        · omega
        · have := hb.gap g; omega
      have h4 : y.t ≤ x.t := by
        apply Classical.byContradiction
        intro c
        rcases (mem_cons _ _ _).1 ((h (x.t + 1)).2 ((mem_cons _ _ _).2 (.inl ⟨by omega, by omega⟩))) with g | g
        · omega
        · have := ha.gap g; omega
      have e : x = y := by
        obtain ⟨xf, xt⟩ := x
        obtain ⟨yf, yt⟩ := y
        simp only at h1 h2 h3 h4
        rw [show xf = yf by omega, show xt = yt by omega]
      subst e
      rw [ih ha.tail hb.tail (fun z => by
        constructor
        · intro g
          rcases (mem_cons _ _ _).1 ((h z).1 ((mem_cons _ _ _).2 (.inr g))) with g' | g'
          · have := ha.gap g; omega
          · exact g'
        · intro g
          rcases (mem_cons _ _ _).1 ((h z).2 ((mem_cons _ _ _).2 (.inr g))) with g' | g'
          · have := hb.gap g; omega
          · exact g')]
theorem Ok.far {l : List Sp} (h : Ok l) (hr : Rng l) : ∀ k, k < l.length → 2 * (k : Int) ≤ (sp l k).f := by
  intro k
  induction k with
  | zero => intro hk; have := hr 0 hk; omega
  | succ k ih =>
    intro hk
    have h1 := ih (by omega)
    have h2 := (h (k + 1) hk).2.2 (by omega)
    rw [show k + 1 - 1 = k by omega] at h2
    have h3 := (h k (by omega)).1
    omega

/-- a set of numbers, as spans in memory. -/
structure IsSet (w : World) (v : Value) (K : Int → Bool) : Prop where
  ex : ∃ l, IsL w v l ∧ Ok l ∧ Rng l ∧ ∀ x, memB l x = K x
def Small (K : Int → Bool) : Prop := ∀ x, K x = true → x < 256
theorem len_small {l : List Sp} (h : Ok l) (hr : Rng l) {K : Int → Bool} (hK : ∀ x, memB l x = K x) (hs : Small K) : l.length ≤ 128 := by
  apply Classical.byContradiction
  intro c
  have h1 := h.far hr (l.length - 1) (by omega)
  have h2 := (h (l.length - 1) (by omega)).1
  have := hs (sp l (l.length - 1)).f (by rw [← hK, memB_iff]; exact ⟨l.length - 1, by omega, by omega, h2⟩)
  omega
theorem IsSet.keep {w w' : World} {v : Value} {K : Int → Bool} (h : IsSet w v K) (k : Keep (fun _ => False) w w') : IsSet w' v K := by
  obtain ⟨l, h1, h2⟩ := h.ex
  exact ⟨l, h1.keep k, h2⟩
theorem IsSet.nil (w : World) : IsSet w (.slice none 0 0) (fun _ => false) :=
  ⟨[], IsL.nil w, fun j hj => by simp at hj, fun j hj => by simp at hj, fun x => by rw [memB_false]; exact mem_nil x⟩
theorem IsSet.of {w : World} {v : Value} {K K' : Int → Bool} (h : IsSet w v K) (e : ∀ x, K x = K' x) : IsSet w v K' := by
  obtain ⟨l, h1, h2, h3, h4⟩ := h.ex
  exact ⟨l, h1, h2, h3, fun x => (h4 x).trans (e x)⟩

theorem may_set {w : World} {v : Value} {K : Int → Bool} (h : IsSet w v K) : Calls Tryd.prog 17 #[v] w fun e w' => e = .returned (.bool true) ∧ Keep (fun _ => False) w w' := by
  obtain ⟨l, h1, h2, h3, h4⟩ := h.ex
  refine (may_any v l w h1 h3).mono ?_
  rintro e w' ⟨rfl, hk⟩
  exact ⟨by rw [okB_true h2], hk⟩
theorem same_set {w : World} {va vb : Value} {Ka Kb : Int → Bool} (ha : IsSet w va Ka) (hb : IsSet w vb Kb) (e : ∀ x, Ka x = Kb x) : Calls Tryd.prog 9 #[va, vb] w fun e w' => e = .returned (.bool true) ∧ Keep (fun _ => False) w w' := by
  obtain ⟨l, h1, h2, h3, h4⟩ := ha.ex
  obtain ⟨m, g1, g2, g3, g4⟩ := hb.ex
  refine (same_any va vb l m w h1 g1).mono ?_
  rintro e w' ⟨rfl, hk⟩
  refine ⟨?_, hk⟩
  rw [decide_eq_true (Ok.uniq h2 g2 fun z => by rw [← memB_iff, ← memB_iff, h4, g4, e])]

set_option maxHeartbeats 1000000 in
theorem minus_set {w : World} {va vb : Value} {Ka Kb : Int → Bool} (ha : IsSet w va Ka) (hb : IsSet w vb Kb) (sa : Small Ka) (sb : Small Kb) :
    Calls Tryd.prog 14 #[va, vb] w fun e w' => (∃ v, e = .returned v ∧ IsSet w' v (fun x => Ka x && !Kb x)) ∧ Keep (fun _ => False) w w' := by
  have HA := Lib.hid ha
  have HB := Lib.hid hb
  obtain ⟨a, a1, a2, a3, a4⟩ := ha.ex
  obtain ⟨b, b1, b2, b3, b4⟩ := hb.ex
  have hla := len_small a2 a3 a4 sa
  have hlb := len_small b2 b3 b4 sb
  have HW : Hid (∀ (w' : World), Keep (fun _ => False) w w' → Calls Tryd.prog 18 #[va, vb, .func (.func 19) #[] #[]] w' fun e w'' => (∃ v, e = .returned v ∧ IsSet w'' v (fun x => Ka x && !Kb x)) ∧ Keep (fun _ => False) w' w'') := fun w' hk => by
    refine (walk_any va vb a b 19 (fun x y => x && !y) w' (a1.keep hk) (b1.keep hk) a3 b3 a2 b2 (by omega) rfl (.inr rfl) (fun x y W => andnot_any x y W)).mono ?_
    rintro e w'' ⟨v, out, rfl, h1, h2, h3, h4, h5, h6⟩
    exact ⟨⟨v, rfl, ⟨out, IsL.ofOwn h1 (by omega), h2, h3, fun x => by rw [h4, KF, a4, b4]⟩⟩, h6⟩
  clear ha hb a1 a2 a3 a4 b1 b2 b3 b4 hla hlb sa sb
  go_enter Tryd.func14, Tryd.ntmps14
  go_wp2_with fail
  refine (may_set HA.out).mono ?_
  rintro e w1 ⟨rfl, hk1⟩
  have HK1 := Lib.hid hk1
  clear hk1
  go_wp2_with fail
  refine (may_set (HB.out.keep HK1.out)).mono ?_
  rintro e w2 ⟨rfl, hk2⟩
  have HK2 := Lib.hid (HK1.out.step hk2)
  clear hk2
  go_wp2_with fail
  refine (HW.out _ HK2.out).mono ?_
  rintro e w3 ⟨⟨v, rfl, h⟩, hk3⟩
  have HV := Lib.hid h
  have HK3 := Lib.hid (HK2.out.step hk3)
  clear hk3 h
  go_wp2
  go_ret
  exact ⟨⟨v, rfl, HV.out⟩, HK3.out⟩

/-- the set of a row of bytes. -/
def KB (l : List Int) (x : Int) : Bool := decide (x ∈ l)
theorem KB_small {w : World} {v : Value} {l : List Int} (h : IsB w v l) : Small (KB l) := by
  intro x hx
  obtain ⟨k, hk, e⟩ := List.mem_iff_getElem.1 (of_decide_eq_true hx)
  have := h.rng k hk
  simp [hk, e] at this
  omega

theorem KB_step (l : List Int) (i : Nat) (hi : i < l.length) (x : Int) : (KB (l.take i) x || decide (x = l.getD i 0)) = KB (l.take (i + 1)) x := by
  have e : l.take (i + 1) = l.take i ++ [l.getD i 0] := by rw [List.take_add_one]; simp [hi]
  unfold KB
  rw [e]
  rw [Bool.eq_iff_iff]
  simp
theorem KB_small2 {l : List Int} (h : ∀ i, i < l.length → 0 ≤ l.getD i 0 ∧ l.getD i 0 ≤ 255) (i : Nat) : Small (KB (l.take i)) := by
  intro x hx
  obtain ⟨k, hk, e⟩ := List.mem_iff_getElem.1 (List.mem_of_mem_take (of_decide_eq_true hx))
  have := h k hk
  simp [hk, e] at this
  omega
theorem IsSet.empty (w : World) (A : Option Addr) (c : Nat) : IsSet w (.slice A 0 c) (fun _ => false) :=
  ⟨[], ⟨A, c, rfl, by simp, by simp, fun h => absurd h (by simp)⟩, fun j hj => by simp at hj, fun j hj => by simp at hj, fun x => by rw [memB_false]; exact mem_nil x⟩

theorem one_set {w : World} {b : Nat} {f t : Int} (h : w.heap[b]? = some (.cells #[.int .u64 f, .int .u64 t] 36 (0, 0))) (f0 : 0 ≤ f) (ft : f ≤ t) (t1 : t < 18446744073709551615) : IsSet w (.slice (some ⟨b, 0, none⟩) 1 1) (fun x => decide (f ≤ x ∧ x ≤ t)) := by
  refine ⟨[⟨f, t⟩], ⟨some ⟨b, 0, none⟩, 1, rfl, by simp, by simp, fun _ => ⟨b, 0, rfl, fun i hi => ?_⟩⟩, ?_, ?_, fun x => ?_⟩
  · obtain rfl : i = 0 := by simp at hi; omega
    obtain ⟨c0, c1, _, _⟩ := two_cells h
    exact ⟨c0, c1⟩
  · intro j hj
    obtain rfl : j = 0 := by simp at hj; omega
    rw [sp_zero]
    exact ⟨ft, t1, fun h => by omega⟩
  · intro j hj
    obtain rfl : j = 0 := by simp at hj; omega
    rw [sp_zero]
    simp only; omega
  · by_cases e : f ≤ x ∧ x ≤ t
    · rw [decide_eq_true e, memB_iff, mem_cons]; exact .inl e
    · rw [decide_eq_false e, memB_false, mem_cons]; rintro (g | g)
      · exact e g
      · exact mem_nil _ g
theorem two_set {w : World} {b : Nat} (h : w.heap[b]? = some (.cells #[.int .u64 1, .int .u64 3, .int .u64 5, .int .u64 6] 36 (0, 0))) : IsSet w (.slice (some ⟨b, 0, none⟩) 2 2) (fun x => decide ((1 ≤ x ∧ x ≤ 3) ∨ (5 ≤ x ∧ x ≤ 6))) := by
  refine ⟨[⟨1, 3⟩, ⟨5, 6⟩], ⟨some ⟨b, 0, none⟩, 2, rfl, by simp, by simp, fun _ => ⟨b, 0, rfl, fun i hi => ?_⟩⟩, ?_, ?_, fun x => ?_⟩
  · rcases (by simp at hi; omega : i = 0 ∨ i = 1) with rfl | rfl
    · simp [World.cell?, h, sp]
    · simp [World.cell?, h, sp]
  · intro j hj
    rcases (by simp at hj; omega : j = 0 ∨ j = 1) with rfl | rfl
    · simp [sp]
    · simp [sp]
  · intro j hj
    rcases (by simp at hj; omega : j = 0 ∨ j = 1) with rfl | rfl
    · simp [sp]
    · simp [sp]
  · by_cases e : (1 ≤ x ∧ x ≤ 3) ∨ (5 ≤ x ∧ x ≤ 6)
    · rw [decide_eq_true e, memB_iff, mem_cons, mem_cons]
      rcases e with e | e
      · exact .inl e
      · exact .inr (.inl e)
    · rw [decide_eq_false e, memB_false, mem_cons, mem_cons]; rintro (g | g | g)
      · exact e (.inl g)
      · exact e (.inr g)
      · exact mem_nil _ g

end Go.Proofs.YtmficjbgpcbhoaaDoor
