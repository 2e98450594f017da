/- Where all is calm: everyone is known, Alive as it began; nothing waits. What a detector does then. A group of detectors whose notes arrive: settle and began, as plain functions; the plain law of DetectCalm. The incarnations of all that is told are words. How many notes are said at once. What the law DetectCalm looks at, where all is calm. -/
import Derived.Test.YtofonfohaocclaaGreatDoorG25
import Derived.Test.YtofonfohaocclaaGreatDoorG35
namespace Go.Proofs.YtofonfohaocclaaGreatDoor
open Go.RowKit Sh
set_option linter.unusedVariables false

structure CU (n : Nat) (u : Up) : Prop where
  n0 : 0 ≤ u.n
  nn : u.n < (n : Int)
  i : u.i = 0
  s : u.s = 0
structure CalmR (n k : Nat) (r : Rol) : Prop where
  me : r.me = (k : Int)
  has : ∀ m, r.has.testBit m = decide (m < n)
  kn : ∀ j, j < n → r.kn j = ⟨(j : Int), 0, 0⟩
structure Clm (n k : Nat) (d : Det) : Prop where
  n64 : n ≤ 64
  kn : k < n
  r : CalmR n k d.r
  q : ∀ x ∈ d.q, CU n ⟨x.n, x.i, x.s⟩
  dd : d.d = []
  es : d.es = []
  gone : d.gone = false
theorem newI_same (i s : Int) : Q.newI i s i s = false := by
  unfold Q.newI Q.orI Q.cmpI
  simp
theorem CalmR.bhas {n k : Nat} {r : Rol} (h : CalmR n k r) (hn : n ≤ 64) {j : Int} (h0 : 0 ≤ j) (hj : j < (n : Int)) : bHas r.has j = true := by
  unfold bHas
  rw [Bool.and_eq_true, decide_eq_true_eq, h.has, decide_eq_true_eq]
  omega
theorem CalmR.at {n k : Nat} {r : Rol} (h : CalmR n k r) {j : Int} (h0 : 0 ≤ j) (hj : j < (n : Int)) : r.at j = ⟨j, 0, 0⟩ := by
  unfold Rol.at
  rw [h.kn _ (by omega)]
  congr
  omega
theorem CalmR.hear {n k : Nat} {r : Rol} (h : CalmR n k r) (hn : n ≤ 64) (hk : k < n) {u : Up} (hu : CU n u) : r.hear u = (r, false, 70) := by
  have h1 : Q.mayU u.n u.s = true := by
    unfold Q.mayU
    have := hu.n0; have := hu.nn; have := hu.s
    exact decide_eq_true (by omega)
  have h2 : r.mine = ⟨(k : Int), 0, 0⟩ := by
    unfold Rol.mine
    rw [h.me, h.at (by omega) (by omega)]
  have h3 := h.at hu.n0 hu.nn
  unfold Rol.hear
  rw [h1, if_neg (by simp)]
  split
  · rw [h2, hu.i, hu.s, newI_same, if_pos rfl]
  · rw [h3, hu.i, hu.s, newI_same, h.bhas hn hu.n0 hu.nn]
    rfl
theorem Clm.take {n k : Nat} {d : Det} (h : Clm n k d) (L : List Int) {u : Up} (hu : CU n u) (fr : Int) : d.take L u fr = (d, L, 0) := by
  have hs : decide (u.s = 1) = false := decide_eq_false (by rw [hu.s]; decide)
  unfold Det.take
  simp only [h.r.hear h.n64 h.kn hu, hs, Bool.and_false]
  rfl
theorem Clm.news {n k : Nat} {d : Det} (h : Clm n k d) (fr : Int) (L : List Int) : ∀ (U : List Up), (∀ u ∈ U, CU n u) → d.news L fr U = (d, L, true)
  | [], _ => rfl
  | u :: U, hu => by
    unfold Det.news
    simp only [h.take L (hu u (by simp)) fr]
    exact Clm.news h fr L U fun v hv => hu v (by simp [hv])
theorem tell_pres {P : Int → Int → Int → Prop} {M : List Q.It} (h : ∀ x ∈ M, P x.n x.i x.s) {x : Q.It} (hx : P x.n x.i x.s) (cap : Int) : ∀ y ∈ Q.tellL cap M x, P y.n y.i y.s := by
  intro y hy
  unfold Q.tellL at hy
  split at hy
  · rcases qputL_mem hy with h1 | h1
    · exact h y h1
    · subst h1; exact hx
  · exact h y (List.mem_filter.1 hy).1
theorem tells_pres {P : Int → Int → Int → Prop} (cap : Int) : ∀ (K : List Q.It) {M : List Q.It}, (∀ x ∈ M, P x.n x.i x.s) → (∀ x ∈ K, P x.n x.i x.s) → ∀ y ∈ K.foldl (Q.tellL cap) M, P y.n y.i y.s
  | [], _, h, _ => h
  | x :: K, M, h, hk => tells_pres cap K (tell_pres h (hk x (by simp)) cap) fun y hy => hk y (by simp [hy])
theorem qtakeM_pres {P : Int → Int → Int → Prop} {M : List Q.It} (h : ∀ x ∈ M, P x.n x.i x.s) (n nodes : Int) : ∀ y ∈ qtakeM M n nodes, P y.n y.i y.s :=
  tells_pres _ _ h fun x hx => h x (qtakeK_sub hx)
theorem qtakeU_pres {P : Int → Int → Int → Prop} {M : List Q.It} (h : ∀ x ∈ M, P x.n x.i x.s) (n : Int) : ∀ u ∈ qtakeU M n, P u.n u.i u.s := by
  intro u hu
  obtain ⟨x, hx, rfl⟩ := List.mem_map.1 hu
  exact h x (qtakeK_sub hx)
theorem qput_pres {P : Int → Int → Int → Prop} {M : List Q.It} (h : ∀ x ∈ M, P x.n x.i x.s) {u : Up} (hu : P u.n u.i u.s) : ∀ y ∈ qput M u, P y.n y.i y.s := by
  intro y hy
  unfold qput at hy
  split at hy
  · exact h y hy
  · rcases qputL_mem ((sortB_perm leIt _).mem_iff.1 (List.mem_of_mem_take hy)) with h1 | h1
    · exact h y h1
    · subst h1; exact hu
theorem Clm.say {n k : Nat} {d : Det} (h : Clm n k d) (m : Nt) : Clm n k (d.say m).1 :=
  ⟨h.n64, h.kn, h.r, qtakeM_pres (P := fun a b c => CU n ⟨a, b, c⟩) h.q _ _, h.dd, h.es, h.gone⟩
theorem Clm.mine {n k : Nat} {d : Det} (h : Clm n k d) : d.r.mine = ⟨(k : Int), 0, 0⟩ := by
  unfold Rol.mine
  rw [h.r.me, h.r.at (by omega) (by have := h.kn; omega)]
theorem Clm.said {n k : Nat} {d : Det} (h : Clm n k d) (m : Nt) (hm : 0 ≤ m.dst) (hn : m.dst < (n : Int)) : ∀ u ∈ (d.say m).2.news, CU n u := by
  have hg : d.r.get m.dst = (⟨m.dst, 0, 0⟩, true) := by
    unfold Rol.get
    rw [if_pos (h.r.bhas h.n64 hm hn), h.r.at hm hn]
  intro u hu
  have hu' : u ∈ ([d.r.mine] ++ if (d.r.get m.dst).2 && (decide ((d.r.get m.dst).1.s = 1) || decide ((d.r.get m.dst).1.s = 3)) then [(d.r.get m.dst).1] else []) ++ qtakeU d.q (8 - (([d.r.mine] ++ if (d.r.get m.dst).2 && (decide ((d.r.get m.dst).1.s = 1) || decide ((d.r.get m.dst).1.s = 3)) then [(d.r.get m.dst).1] else []).length : Nat)) := hu
  rcases List.mem_append.1 hu' with h1 | h1
  · rw [hg] at h1
    simp only [List.mem_append, List.mem_singleton] at h1
    rcases h1 with h1 | h1
    · rw [h1, h.mine]
      exact ⟨by show (0 : Int) ≤ (k : Int); omega, by have := h.kn; show (k : Int) < n; omega, rfl, rfl⟩
    · simp at h1
  · exact qtakeU_pres (P := fun a b c => CU n ⟨a, b, c⟩) h.q _ u h1
/-- A ping that arrives where all is calm. -/
theorem Clm.ping {n k : Nat} {d : Det} (h : Clm n k d) (L : List Int) (fr : Nat) (hf : fr < n) (hne : fr ≠ k) (sq : Int) (N : List Up) (hN : ∀ u ∈ N, CU n u) :
    d.hear L ⟨1, fr, k, sq, 0, N⟩ = ((d.say ⟨2, 0, fr, sq, k, []⟩).1, L, [(d.say ⟨2, 0, fr, sq, k, []⟩).2], 0) := by
  have hg : (d.r.get (fr : Int)).2 = true := by
    unfold Rol.get
    rw [if_pos (h.r.bhas h.n64 (by omega) (by omega))]
  have hn := h.n64
  have hk := h.kn
  unfold Det.hear
  rw [if_neg (by rw [h.gone]; simp), if_neg, if_neg (by show ¬ ((1 : Int) < 1 ∨ (3 : Int) < 1); omega)]
  · simp only [hg, if_true, h.news (fr : Int) L N hN]
    unfold Det.answer
    simp only [h.r.me]
    rfl
  · show ¬ (¬ (k : Int) = d.r.me ∨ nodeB (fr : Int) = false ∨ (fr : Int) = d.r.me ∨ nodeB 0 = false)
    rw [h.r.me]
    unfold nodeB
    simp
    omega
/-- Its answer arrives. -/
theorem Clm.ack {n k : Nat} {d : Det} (h : Clm n k d) (L : List Int) (fr : Nat) (hf : fr < n) (hne : fr ≠ k) (sq : Int) (N : List Up) (hN : ∀ u ∈ N, CU n u) :
    d.hear L ⟨2, fr, k, sq, fr, N⟩ = ({ d with ws := d.ws.filter fun w => !(decide (w.s = sq) && decide (w.n = (fr : Int))) }, L, [], 0) := by
  have hg : (d.r.get (fr : Int)).2 = true := by
    unfold Rol.get
    rw [if_pos (h.r.bhas h.n64 (by omega) (by omega))]
  have hn := h.n64
  have hk := h.kn
  unfold Det.hear
  rw [if_neg (by rw [h.gone]; simp), if_neg, if_neg (by show ¬ ((2 : Int) < 1 ∨ (3 : Int) < 2); omega)]
  · simp only [hg, if_true, h.news (fr : Int) L N hN]
    unfold Det.acked
    simp only [h.es, List.findIdx_nil, List.getElem?_nil]
    rfl
  · show ¬ (¬ (k : Int) = d.r.me ∨ nodeB (fr : Int) = false ∨ (fr : Int) = d.r.me ∨ nodeB (fr : Int) = false)
    rw [h.r.me]
    unfold nodeB
    simp
    omega
theorem Clm.ws {n k : Nat} {d : Det} (h : Clm n k d) (l : List Wt) : Clm n k { d with ws := l } := ⟨h.n64, h.kn, h.r, h.q, h.dd, h.es, h.gone⟩
theorem mem_others {r : Rol} {x : Int} (h0 : 0 ≤ x) (h1 : x < 64) (hx : bHas r.live x = true) (hne : x ≠ r.me) (hm : 0 ≤ r.me ∧ r.me < 64) : x ∈ r.others := by
  unfold Rol.others
  refine bList_of_has ?_
  unfold bHas at hx ⊢
  rw [Bool.and_eq_true] at hx ⊢
  refine ⟨hx.1, ?_⟩
  unfold bLess bitN
  rw [if_pos hm, Nat.testBit_and, hx.2]
  have h1 : (2 : Nat) ^ r.me.toNat < 2 ^ 64 := Nat.pow_lt_pow_right (by omega) (by omega)
  have e : 18446744073709551615 - 2 ^ r.me.toNat = 2 ^ 64 - (2 ^ r.me.toNat + 1) := by omega
  rw [e, Nat.testBit_two_pow_sub_succ h1, Nat.testBit_two_pow]
  simp
  omega
theorem CalmR.live {n k : Nat} {r : Rol} (h : CalmR n k r) (hn : n ≤ 64) {j : Int} (h0 : 0 ≤ j) (hj : j < (n : Int)) : bHas r.live j = true := by
  unfold Rol.live
  refine foldl_live_mem (by omega) _ (u := r.at j) (List.mem_map_of_mem (bList_of_has (h.bhas hn h0 hj))) ?_ ?_
  · rw [h.at h0 hj]
  · rw [h.at h0 hj]; rfl
/-- none is live that isn't known. -/
theorem live_sub {r : Rol} (hkn : ∀ j : Nat, j < 64 → r.has.testBit j = true → (r.kn j).n = (j : Int)) {x : Int} (hx : bHas r.live x = true) : bHas r.has x = true := by
  have key : ∀ (L : List Up) (b : Nat), (∀ u ∈ L, bHas r.has u.n = true) → (bHas b x = true → bHas r.has x = true) → bHas (L.foldl liveF b) x = true → bHas r.has x = true := by
    intro L
    induction L with
    | nil => intro b _ hb h; exact hb h
    | cons u L ih =>
      intro b hL hb h
      refine ih (liveF b u) (fun v hv => hL v (by simp [hv])) (fun hh => ?_) h
      unfold liveF at hh
      split at hh
      · unfold bHas bWith at hh
        rw [Bool.and_eq_true, Nat.testBit_or, Bool.or_eq_true] at hh
        rcases hh.2 with h2 | h2
        · exact hb (by unfold bHas; rw [Bool.and_eq_true]; exact ⟨hh.1, h2⟩)
        · have hu := hL u (by simp)
          have hx0 := hh.1
          rw [decide_eq_true_eq] at hx0
          unfold bitN at h2
          split at h2
          · rename_i hr
            rw [Nat.testBit_two_pow, decide_eq_true_eq] at h2
            have : u.n = x := by omega
            rw [← this]; exact hu
          · simp at h2
      · exact hb hh
  refine key r.all 0 (fun u hu => ?_) (fun h => ?_) hx
  · obtain ⟨j, hj, rfl⟩ := List.mem_map.1 hu
    obtain ⟨m, rfl, hm, ht⟩ := bList_mem hj
    unfold Rol.at
    rw [Int.toNat_natCast, hkn m hm ht]
    unfold bHas
    rw [Bool.and_eq_true, decide_eq_true_eq]
    exact ⟨by omega, by rw [Int.toNat_natCast]; exact ht⟩
  · unfold bHas at h
    simp at h
theorem CalmR.others {n k : Nat} {r : Rol} (h : CalmR n k r) (hn : n ≤ 64) (hk : k < n) {x : Int} : x ∈ r.others ↔ 0 ≤ x ∧ x < (n : Int) ∧ x ≠ (k : Int) := by
  have hm : 0 ≤ r.me ∧ r.me < 64 := by rw [h.me]; omega
  constructor
  · intro hx
    have h1 := others_ne hm hx
    rw [h.me] at h1
    obtain ⟨j, rfl, hj, ht⟩ := bList_mem hx
    unfold bLess at ht
    rw [Nat.testBit_and, Bool.and_eq_true] at ht
    have h2 := live_sub (r := r) (fun m hm hb => by rw [h.has, decide_eq_true_eq] at hb; rw [h.kn m hb]) (x := (j : Int)) (by
      unfold bHas
      rw [Bool.and_eq_true, decide_eq_true_eq]
      exact ⟨by omega, by rw [Int.toNat_natCast]; exact ht.1⟩)
    unfold bHas at h2
    rw [Bool.and_eq_true, h.has, decide_eq_true_eq, decide_eq_true_eq] at h2
    exact ⟨by omega, by omega, h1⟩
  · rintro ⟨h0, h1, h2⟩
    exact mem_others h0 (by omega) (h.live hn h0 h1) (by rw [h.me]; exact h2) hm
/-- Tick, where all is calm and no watch is there: one is pinged. -/
structure Pinged (n k : Nat) (d : Det) (L : List Int) (r : Det × List Int × List Nt) : Prop where
  ex : ∃ (m : Nat) (sq : Int) (now : Int) (N : List Up), m < n ∧ m ≠ k ∧ r.2.2 = [⟨1, k, m, sq, 0, N⟩] ∧ (∀ u ∈ N, CU n u) ∧ r.1.ws = [⟨m, sq, now, false⟩]
  calm : Clm n k r.1
theorem Clm.tick {n k : Nat} {d : Det} (h : Clm n k d) (h2 : 2 ≤ n) (hw : d.ws = []) (L : List Int) : Pinged n k d L (d.tick L) := by
  have hA : d.tickA L = ({ d with now := inc64 d.now, ws := [] }, L, []) := by unfold Det.tickA; rw [hw]; rfl
  have hC : ({ d with now := inc64 d.now, ws := [] } : Det).tickC L = ({ d with now := inc64 d.now, ws := [] }, L) := by
    unfold Det.tickC Det.tickB doverU doverM
    obtain ⟨r, left, q, dd, ws, es, seq, now, gone⟩ := d
    have hd := h.dd
    have he := h.es
    simp only at hd he
    subst hd
    subst he
    rfl
  rw [tick_eq, if_neg (by rw [h.gone]; simp), hA]
  simp only
  rw [hC]
  simp only
  have hmem := fun x => h.r.others h.n64 h.kn (x := x)
  have hne : ∃ y, y ∈ d.r.others := by
    have := h.kn
    by_cases c : k = 0
    · exact ⟨1, (hmem _).2 ⟨by omega, by omega, by omega⟩⟩
    · exact ⟨0, (hmem _).2 ⟨by omega, by omega, by omega⟩⟩
  cases hx : nextP d.r.others d.left L with
  | none =>
    exfalso
    unfold nextP at hx
    obtain ⟨y, hy⟩ := hne
    split at hx
    · rename_i he
      rw [he] at hy
      cases hy
    · split at hx <;> cases hx
  | some x =>
    obtain ⟨m, left, L'⟩ := x
    have hm : m ∈ d.r.others := by
      unfold nextP at hx
      split at hx
      · cases hx
      · rename_i hne
        split at hx
        · rename_i hf
          cases hx
          have := List.findIdx_getElem (w := hf)
          simp only [decide_eq_true_eq] at this
          rw [List.getD_eq_getElem?_getD, List.getElem?_eq_getElem hf, Option.getD_some]
          exact this
        · cases hx
          have hp := shufP_perm d.r.others L
          have hpos : 0 < (shufP d.r.others L).1.length := by
            rw [hp.length_eq]
            exact List.length_pos_iff.2 hne
          rw [List.getD_eq_getElem?_getD, List.getElem?_eq_getElem hpos, Option.getD_some]
          exact hp.mem_iff.1 (List.getElem_mem _)
    obtain ⟨m0, m1, m2⟩ := (hmem _).1 hm
    obtain ⟨j, rfl⟩ : ∃ j : Nat, m = (j : Int) := ⟨m.toNat, by omega⟩
    have hc : Clm n k ({ d with now := inc64 d.now, left := left, seq := inc64 d.seq, ws := [] ++ [Wt.mk (j : Int) (inc64 d.seq) (inc64 d.now) false] } : Det) := ⟨h.n64, h.kn, h.r, h.q, h.dd, h.es, h.gone⟩
    refine ⟨⟨j, inc64 d.seq, inc64 d.now, _, by omega, by omega, ?_, hc.said ⟨1, 0, (j : Int), inc64 d.seq, 0, []⟩ (by show (0 : Int) ≤ (j : Int); omega) (by show (j : Int) < (n : Int); omega), rfl⟩, hc.say _⟩
    show [] ++ [_] = [_]
    rw [List.nil_append]
    congr 1
    show Nt.mk 1 d.r.me _ _ _ _ = _
    rw [h.r.me]
    rfl
end Go.Proofs.YtofonfohaocclaaGreatDoor

namespace Go.Proofs.YtofonfohaocclaaGreatDoor
open Go.RowKit Sh
set_option linter.unusedVariables false

def settleP (up : Nat) : Nat → List Det → List Int → List Nt → List Det × List Int × Bool
  | _, ds, L, [] => (ds, L, true)
  | 0, ds, L, _ :: _ => (ds, L, false)
  | f + 1, ds, L, n :: N =>
    if (ds.length : Int) ≤ n.dst ∨ bHas up n.dst = false ∨ bHas up n.fr = false then settleP up f ds L N
    else match ds[n.dst.toNat]? with
      | none => (ds, L, false)
      | some d =>
        if (d.hear L n).2.2.2 ≠ 0 then (ds.set n.dst.toNat (d.hear L n).1, (d.hear L n).2.1, false)
        else settleP up f (ds.set n.dst.toNat (d.hear L n).1) (d.hear L n).2.1 (N ++ (d.hear L n).2.2.1)
theorem settleP_nil (up f : Nat) (ds : List Det) (L : List Int) : settleP up f ds L [] = (ds, L, true) := by cases f <;> rfl
theorem settleP_hear {up f : Nat} {ds : List Det} {L : List Int} {n : Nt} {N : List Nt} {d : Det} (h1 : n.dst < (ds.length : Int)) (h2 : bHas up n.dst = true) (h3 : bHas up n.fr = true) (hd : ds[n.dst.toNat]? = some d) (hc : (d.hear L n).2.2.2 = 0) :
    settleP up (f + 1) ds L (n :: N) = settleP up f (ds.set n.dst.toNat (d.hear L n).1) (d.hear L n).2.1 (N ++ (d.hear L n).2.2.1) := by
  rw [settleP, if_neg, hd]
  · simp only [hc, ne_eq, not_true_eq_false, if_false]
  · rw [h2, h3]; simp; omega
/-- began, for the node i. -/
def begK (d : Det) : List Nat → Det
  | [] => d
  | k :: l => begK (d.take [] ⟨(k : Int), 0, 0⟩ d.r.me).1 l
def begP (n i : Nat) : Det := begK (Det.new i) (List.range n)
/-- a group that is calm. -/
structure CAll (n : Nat) (ds : List Det) : Prop where
  len : ds.length = n
  calm : ∀ (k : Nat) (d : Det), ds[k]? = some d → Clm n k d
  ws : ∀ (k : Nat) (d : Det), ds[k]? = some d → d.ws = []
theorem bHas255 (j : Nat) (h : j < 8) : bHas 255 (j : Int) = true := by
  unfold bHas
  rw [Bool.and_eq_true, decide_eq_true_eq, Int.toNat_natCast]
  refine ⟨by omega, ?_⟩
  have : ∀ m : Fin 8, (255 : Nat).testBit m.val = true := by decide
  exact this ⟨j, h⟩
/-- One ticks, and all that is said arrives. -/
theorem calm_round {n : Nat} {ds : List Det} (h : CAll n ds) (h2 : 2 ≤ n) (h8 : n ≤ 8) {k : Nat} {d : Det} (hd : ds[k]? = some d) (L : List Int) :
    ∃ ds' L', settleP 255 5001 (ds.set k (d.tick L).1) (d.tick L).2.1 (d.tick L).2.2 = (ds', L', true) ∧ CAll n ds' := by
  have hk : k < n := by
    have := (List.getElem?_eq_some_iff.1 hd).1
    rw [h.len] at this; exact this
  obtain ⟨⟨m, sq, now, N, hm, hne, hN, hcu, hws⟩, hc⟩ := (h.calm k d hd).tick h2 (h.ws k d hd) L
  generalize d.tick L = t at hN hws hc ⊢
  obtain ⟨d1, L1, N1⟩ := t
  simp only at hN hws hc ⊢
  subst hN
  -- the ping arrives
  obtain ⟨e, he⟩ : ∃ e, ds[m]? = some e := ⟨ds[m]'(by rw [h.len]; exact hm), List.getElem?_eq_getElem _⟩
  have hlen : (ds.set k d1).length = n := by rw [List.length_set, h.len]
  have he1 : (ds.set k d1)[m]? = some e := by rw [List.getElem?_set_ne (by omega)]; exact he
  have hce := h.calm m e he
  have hp := hce.ping L1 k hk (by omega) sq N hcu
  rw [settleP_hear (d := e) (by show (m : Int) < _; rw [hlen]; omega) (bHas255 m (by omega)) (bHas255 k (by omega)) (by show (ds.set k d1)[((m : Int)).toNat]? = _; rw [Int.toNat_natCast]; exact he1) (by rw [hp])]
  rw [hp]
  simp only [Int.toNat_natCast, List.nil_append]
  -- its answer arrives
  have hsaid := hce.said ⟨2, 0, k, sq, m, []⟩ (by show (0 : Int) ≤ (k : Int); omega) (by show (k : Int) < n; omega)
  have hst : (e.say ⟨2, 0, k, sq, m, []⟩).2 = ⟨2, m, k, sq, m, (e.say ⟨2, 0, k, sq, m, []⟩).2.news⟩ := by
    show Nt.mk 2 e.r.me k sq m _ = _
    rw [hce.r.me]
    rfl
  have hce2 := hce.say ⟨2, 0, k, sq, m, []⟩
  have hwe : (e.say ⟨2, 0, k, sq, m, []⟩).1.ws = [] := h.ws m e he
  generalize e.say ⟨2, 0, k, sq, m, []⟩ = s at *
  obtain ⟨e2, n2⟩ := s
  simp only at hsaid hst hce2 hwe ⊢
  rw [hst]
  have hd1 : ((ds.set k d1).set m e2)[k]? = some d1 := by
    rw [List.getElem?_set_ne hne, List.getElem?_set_self (by rw [h.len]; exact hk)]
  have hk2 := hc.ack L1 m hm hne sq n2.news hsaid
  rw [settleP_hear (d := d1) (by show (k : Int) < _; rw [List.length_set, hlen]; omega) (bHas255 k (by omega)) (bHas255 m (by omega)) (by show ((ds.set k d1).set m e2)[((k : Int)).toNat]? = _; rw [Int.toNat_natCast]; exact hd1) (by rw [hk2])]
  rw [hk2]
  simp only [Int.toNat_natCast, List.nil_append]
  rw [settleP_nil]
  have hfil : d1.ws.filter (fun w => !(decide (w.s = sq) && decide (w.n = (m : Int)))) = [] := by rw [hws]; simp
  rw [hfil]
  refine ⟨_, _, rfl, by rw [List.length_set, List.length_set, hlen], fun j x hx => ?_, fun j x hx => ?_⟩
  · by_cases c : j = k
    · subst c
      rw [List.getElem?_set_self (by rw [List.length_set, hlen]; exact hk)] at hx
      cases hx
      exact hc.ws []
    · rw [List.getElem?_set_ne (by omega)] at hx
      by_cases c2 : j = m
      · subst c2
        rw [List.getElem?_set_self (by rw [hlen]; exact hm)] at hx
        cases hx
        exact hce2
      · rw [List.getElem?_set_ne (by omega), List.getElem?_set_ne (by omega)] at hx
        exact h.calm j x hx
  · by_cases c : j = k
    · subst c
      rw [List.getElem?_set_self (by rw [List.length_set, hlen]; exact hk)] at hx
      cases hx
      rfl
    · rw [List.getElem?_set_ne (by omega)] at hx
      by_cases c2 : j = m
      · subst c2
        rw [List.getElem?_set_self (by rw [hlen]; exact hm)] at hx
        cases hx
        exact hwe
      · rw [List.getElem?_set_ne (by omega), List.getElem?_set_ne (by omega)] at hx
        exact h.ws j x hx
-- began is calm
def calmB (n k : Nat) (d : Det) : Bool :=
  decide (d.r.me = (k : Int)) && decide (d.r.has = 2 ^ n - 1) && (List.range n).all (fun j => decide (d.r.kn j = ⟨(j : Int), 0, 0⟩)) && d.q.all (fun x => decide (0 ≤ x.n) && decide (x.n < (n : Int)) && decide (x.i = 0) && decide (x.s = 0)) && decide (d.d.length = 0) && decide (d.es.length = 0) && decide (d.ws.length = 0) && !d.gone
theorem calm_of {n k : Nat} {d : Det} (hn : n ≤ 64) (hk : k < n) (h : calmB n k d = true) : Clm n k d ∧ d.ws = [] := by
  unfold calmB at h
  simp only [Bool.and_eq_true, decide_eq_true_eq, List.all_eq_true, List.mem_range, List.length_eq_zero_iff, Bool.not_eq_true'] at h
  obtain ⟨⟨⟨⟨⟨⟨⟨h1, h2⟩, h3⟩, h4⟩, h5⟩, h6⟩, h7⟩, h8⟩ := h
  refine ⟨⟨hn, hk, ⟨h1, fun m => ?_, h3⟩, fun x hx => ?_, h5, h6, h8⟩, h7⟩
  · rw [h2, Nat.testBit_two_pow_sub_one]
  · obtain ⟨⟨⟨a, b⟩, c⟩, e⟩ := h4 x hx
    exact ⟨a, b, c, e⟩
theorem beg_calmB : (List.range 9).all (fun n => (List.range n).all fun k => calmB n k (begP n k)) = true := by kernel_rfl
theorem beg_calm {n k : Nat} (hn : n ≤ 8) (hk : k < n) : Clm n k (begP n k) ∧ (begP n k).ws = [] := by
  have h := beg_calmB
  rw [List.all_eq_true] at h
  have h1 := h n (List.mem_range.2 (by omega))
  rw [List.all_eq_true] at h1
  exact calm_of (by omega) hk (h1 k (List.mem_range.2 hk))
end Go.Proofs.YtofonfohaocclaaGreatDoor

namespace Go.Proofs.YtofonfohaocclaaGreatDoor
open Go.RowKit Sh
set_option linter.unusedVariables false

/-- A note that may be walked. -/
structure NtI (n : Nt) : Prop where
  inc : ∀ u ∈ n.news, inU u.i
  len : n.news.length ≤ 8
structure NI (n : Nat) (d : Det) : Prop where
  ko : KO n d
  q : ∀ x ∈ d.q, inU x.i
theorem in0 : inU 0 := ⟨by show (0 : Int) ≤ 0; omega, by show (0 : Int) < _; omega⟩
theorem mine_in {d : Det} (h : IOk d) : inU d.r.mine.i := h.kn _
theorem take_ni {n : Nat} {d : Det} (h : NI n d) (L : List Int) {u : Up} (hu : inU u.i) (fr : Int) : NI n (d.take L u fr).1 := by
  refine ⟨take_ko h.ko L hu fr, ?_⟩
  have hk := hear_kn hu h.ko.io.kn
  have hp : ∀ y ∈ qput d.q u, inU y.i := qput_pres (P := fun _ i _ => inU i) h.q hu
  unfold Det.take
  simp only
  split
  · exact h.q
  · split
    · split
      · exact h.q
      · exact h.q
    · split
      · split
        · exact qput_pres (P := fun _ i _ => inU i) h.q (hk _)
        · exact h.q
      · split
        · exact hp
        · split
          · exact hp
          · exact hp
theorem takes_ni {n : Nat} (fr : Int) : ∀ (U : List Up) {d : Det} (L : List Int), NI n d → (∀ u ∈ U, inU u.i) → NI n (d.takes L fr U).1
  | [], _, _, h, _ => h
  | u :: U, d, L, h, hu => takes_ni fr U _ (take_ni h L (hu u (by simp)) fr) fun v hv => hu v (by simp [hv])
theorem news_ni {n : Nat} (fr : Int) : ∀ (U : List Up) {d : Det} (L : List Int), NI n d → (∀ u ∈ U, inU u.i) → NI n (d.news L fr U).1
  | [], _, _, h, _ => h
  | u :: U, d, L, h, hu => by
    unfold Det.news
    simp only
    split
    · exact take_ni h L (hu u (by simp)) fr
    · exact news_ni fr U _ (take_ni h L (hu u (by simp)) fr) fun v hv => hu v (by simp [hv])
theorem say_ni {n : Nat} {d : Det} (h : NI n d) (m : Nt) : NI n (d.say m).1 := ⟨say_ko h.ko m, qtakeM_pres (P := fun _ i _ => inU i) h.q _ _⟩
theorem said_len (d : Det) (m : Nt) : (d.say m).2.news.length ≤ 8 := by
  have e : ∀ c : Bool, ([d.r.mine] ++ if c then [(d.r.get m.dst).1] else []).length = if c then 2 else 1 := fun c => by cases c <;> rfl
  show (([d.r.mine] ++ if _ then [(d.r.get m.dst).1] else []) ++ qtakeU d.q (8 - (([d.r.mine] ++ if _ then [(d.r.get m.dst).1] else []).length : Nat))).length ≤ 8
  generalize ((d.r.get m.dst).2 && (decide ((d.r.get m.dst).1.s = 1) || decide ((d.r.get m.dst).1.s = 3))) = c
  rw [List.length_append, e c]
  have hq : ∀ n : Nat, n ≤ 8 → (qtakeU d.q (8 - (n : Int))).length ≤ 8 - n := by
    intro n hn
    unfold qtakeU qtakeK
    rw [List.length_map, List.length_take]
    omega
  cases c
  · have := hq 1 (by omega); simpa using (by omega : 1 + (qtakeU d.q (8 - ((1 : Nat) : Int))).length ≤ 8)
  · have := hq 2 (by omega); simpa using (by omega : 2 + (qtakeU d.q (8 - ((2 : Nat) : Int))).length ≤ 8)
theorem said_ni {n : Nat} {d : Det} (h : NI n d) (m : Nt) : NtI (d.say m).2 := by
  refine ⟨fun u hu => ?_, said_len d m⟩
  have hu' : u ∈ ([d.r.mine] ++ if (d.r.get m.dst).2 && (decide ((d.r.get m.dst).1.s = 1) || decide ((d.r.get m.dst).1.s = 3)) then [(d.r.get m.dst).1] else []) ++ qtakeU d.q (8 - (([d.r.mine] ++ if (d.r.get m.dst).2 && (decide ((d.r.get m.dst).1.s = 1) || decide ((d.r.get m.dst).1.s = 3)) then [(d.r.get m.dst).1] else []).length : Nat)) := hu
  rcases List.mem_append.1 hu' with h1 | h1
  · rcases List.mem_append.1 h1 with h1 | h1
    · rw [List.mem_singleton.1 h1]; exact mine_in h.ko.io
    · split at h1
      · rw [List.mem_singleton.1 h1]; exact get_in h.ko.io.kn _
      · cases h1
  · exact qtakeU_pres (P := fun _ i _ => inU i) h.q _ u h1
/-- A detector and what it says. -/
structure NG (n : Nat) (d : Det) (N : List Nt) : Prop where
  ni : NI n d
  nt : ∀ m ∈ N, NtI m
theorem sayAll_ng {n : Nat} (w : Wt) : ∀ (H : List Int) {d : Det}, NI n d → NG n (d.sayAll w H).1 (d.sayAll w H).2
  | [], d, h => ⟨h, fun _ hm => by cases hm⟩
  | x :: H, d, h => by
    have h1 := said_ni h ⟨3, 0, x, w.s, w.n, []⟩
    have h2 := sayAll_ng w H (say_ni h ⟨3, 0, x, w.s, w.n, []⟩)
    refine ⟨h2.ni, fun m hm => ?_⟩
    rcases List.mem_cons.1 hm with rfl | hm
    · exact h1
    · exact h2.nt m hm
theorem watch_ng {n : Nat} {d : Det} (h : NI n d) (L : List Int) (w : Wt) : NG (n + 1) (d.watch L w).1 (d.watch L w).2.2 := by
  have hw := h.ko.ws
  unfold Det.watch
  simp only
  split
  · split
    · have h1 := take_ni h L (u := ⟨w.n, (d.r.get w.n).1.i, 1⟩) (get_in h.ko.io.kn _) d.r.me
      exact ⟨⟨h1.ko.le (Nat.le_succ n), h1.q⟩, fun _ hm => by cases hm⟩
    · exact ⟨⟨h.ko.le (Nat.le_succ n), h.q⟩, fun _ hm => by cases hm⟩
  · split
    · have h1 := sayAll_ng { w with h := true } (helpersP d.r.others w.n L).1 h
      exact ⟨⟨set_ws_ko h1.ni.ko (by have := h1.ni.ko.ws; rw [List.length_append]; simpa using this), h1.ni.q⟩, h1.nt⟩
    · exact ⟨⟨set_ws_ko h.ko (by rw [List.length_append]; simpa using hw), h.q⟩, fun _ hm => by cases hm⟩
theorem watches_ng : ∀ (W : List Wt) {n : Nat} {d : Det} (L : List Int), NI n d → NG (n + W.length) (d.watches L W).1 (d.watches L W).2.2
  | [], _, _, _, h => ⟨h, fun _ hm => by cases hm⟩
  | w :: W, n, d, L, h => by
    have h1 := watch_ng h L w
    have h2 := watches_ng W (d.watch L w).2.1 h1.ni
    refine ⟨⟨h2.ni.ko.le (by rw [List.length_cons]; omega), h2.ni.q⟩, fun m hm => ?_⟩
    rcases List.mem_append.1 hm with hm | hm
    · exact h1.nt m hm
    · exact h2.nt m hm
theorem tick_ng {n : Nat} {d : Det} (h : NI n d) (L : List Int) : NG (n + 1) (d.tick L).1 (d.tick L).2.2 := by
  have hA0 : NI 0 ({ { d with now := inc64 d.now } with ws := [] } : Det) := ⟨set_ws_ko (set_now_ko h.ko) (by simp), h.q⟩
  have hA := watches_ng d.ws L hA0
  have hA2 : NG n (d.tickA L).1 (d.tickA L).2.2 := ⟨⟨tickA_ko h.ko L, hA.ni.q⟩, hA.nt⟩
  have hC : NI n ((d.tickA L).1.tickC (d.tickA L).2.1).1 := takes_ni _ _ _ ⟨tickB_ko hA2.ni.ko, hA2.ni.q⟩ (dover_in hA2.ni.ko.io.dd _)
  rw [tick_eq]
  split
  · exact ⟨⟨h.ko.le (Nat.le_succ n), h.q⟩, fun _ hm => by cases hm⟩
  · generalize (d.tickA L).1.tickC (d.tickA L).2.1 = c at hC ⊢
    cases hx : nextP c.1.r.others c.1.left c.2 with
    | none => exact ⟨⟨hC.ko.le (Nat.le_succ n), hC.q⟩, hA2.nt⟩
    | some x =>
      obtain ⟨m, left, L'⟩ := x
      have hl := (nextP_ok hC.ko.ok.left (bList_ok _) hx).1
      have hD : NI (n + 1) ({ c.1 with left := left, seq := inc64 c.1.seq, ws := c.1.ws ++ [Wt.mk m (inc64 c.1.seq) c.1.now false] } : Det) :=
        ⟨⟨⟨hl, hC.ko.ok.r, hC.ko.ok.q, hC.ko.ok.d, hC.ko.ok.now, inc64_in _⟩, ⟨hC.ko.io.kn, hC.ko.io.dd⟩, by have := hC.ko.ws; show (c.1.ws ++ [_]).length ≤ _; rw [List.length_append]; simpa using this, hC.ko.es⟩, hC.q⟩
      refine ⟨say_ni hD _, fun y hy => ?_⟩
      rcases List.mem_append.1 hy with hy | hy
      · exact hA2.nt y hy
      · rw [List.mem_singleton.1 hy]
        exact said_ni hD _
theorem answer_ng {n : Nat} {d : Det} (h : NI n d) (m : Nt) : NG n (d.answer m).1 (d.answer m).2 :=
  ⟨say_ni h _, fun y hy => by rw [List.mem_singleton.1 hy]; exact said_ni h _⟩
theorem acked_ng {n : Nat} {d : Det} (h : NI n d) (m : Nt) : NG n (d.acked m).1 (d.acked m).2 := by
  have hk := acked_ko h.ko m
  unfold Det.acked at hk ⊢
  simp only at hk ⊢
  cases hx : d.es[d.es.findIdx fun x => decide (x.s = m.seq) && decide (x.n = m.fr)]? with
  | none =>
    rw [hx] at hk
    exact ⟨⟨hk, h.q⟩, fun _ hy => by cases hy⟩
  | some x =>
    rw [hx] at hk
    have h1 : NI n ({ d with es := d.es.eraseIdx (d.es.findIdx fun x => decide (x.s = m.seq) && decide (x.n = m.fr)) } : Det) := ⟨set_es_ko h.ko (Nat.le_trans (List.length_eraseIdx_le _ _) h.ko.es), h.q⟩
    exact ⟨say_ni h1 _, fun y hy => by rw [List.mem_singleton.1 hy]; exact said_ni h1 _⟩
theorem helped_ng {n : Nat} {d : Det} (h : NI n d) (m : Nt) : NG n (d.helped m).1 (d.helped m).2 := by
  have hk := helped_ko h.ko m
  unfold Det.helped at hk ⊢
  split
  · exact answer_ng h m
  · rename_i hne
    rw [if_neg hne] at hk
    have h1 : NI n ({ d with seq := inc64 d.seq, es := d.es.drop (d.es.length - 31) ++ [Er.mk m.fo (inc64 d.seq) d.now m.fr m.seq] } : Det) := by
      refine ⟨⟨⟨h.ko.ok.left, h.ko.ok.r, h.ko.ok.q, h.ko.ok.d, h.ko.ok.now, inc64_in _⟩, ⟨h.ko.io.kn, h.ko.io.dd⟩, h.ko.ws, ?_⟩, h.q⟩
      show (d.es.drop (d.es.length - 31) ++ [_]).length ≤ 32
      rw [List.length_append, List.length_drop]
      have := h.ko.es
      simp
      omega
    exact ⟨say_ni h1 _, fun y hy => by rw [List.mem_singleton.1 hy]; exact said_ni h1 _⟩
theorem hear_ng {n : Nat} {d : Det} (h : NI n d) (L : List Int) (m : Nt) (hm : NtI m) : NG n (d.hear L m).1 (d.hear L m).2.2.1 := by
  unfold Det.hear
  split
  · exact ⟨h, fun _ hy => by cases hy⟩
  · split
    · exact ⟨h, fun _ hy => by cases hy⟩
    · split
      · exact ⟨h, fun _ hy => by cases hy⟩
      · have h1 : NI n (if (d.r.get m.fr).2 then (d, L) else ((d.take L ⟨m.fr, 0, 0⟩ m.fr).1, (d.take L ⟨m.fr, 0, 0⟩ m.fr).2.1) : Det × List Int).1 := by
          split
          · exact h
          · exact take_ni h L in0 _
        simp only
        generalize (if (d.r.get m.fr).2 then (d, L) else ((d.take L ⟨m.fr, 0, 0⟩ m.fr).1, (d.take L ⟨m.fr, 0, 0⟩ m.fr).2.1) : Det × List Int) = a at h1 ⊢
        have h2 := news_ni m.fr m.news a.2 h1 hm.inc
        generalize a.1.news a.2 m.fr m.news = c at h2 ⊢
        split
        · exact ⟨h2, fun _ hy => by cases hy⟩
        · simp only
          split
          · exact answer_ng h2 m
          · split
            · exact acked_ng h2 m
            · exact helped_ng h2 m
theorem new_ni {k : Int} (h0 : 0 ≤ k ∧ k < 64) : NI 0 (Det.new k) := by
  refine ⟨new_ko h0, fun x hx => ?_⟩
  have hm : (Rol.new k).mine = ⟨k, 0, 0⟩ := by
    show (if k.toNat = k.toNat then (⟨k, 0, 0⟩ : Up) else zUp) = _
    rw [if_pos rfl]
  have : ∀ y ∈ qput [] (Rol.new k).mine, inU y.i := qput_pres (P := fun _ i _ => inU i) (fun _ h => by cases h) (by rw [hm]; exact in0)
  exact this x hx
end Go.Proofs.YtofonfohaocclaaGreatDoor

namespace Go.Proofs.YtofonfohaocclaaGreatDoor.LE
open Go.RowKit Sh Go.Proofs.YtofonfohaocclaaGreatDoor
set_option linter.unusedVariables false

theorem sayAll_len (w : Wt) : ∀ (H : List Int) (d : Det), (d.sayAll w H).2.length = H.length
  | [], _ => rfl
  | x :: H, d => by
    show ((d.say ⟨3, 0, x, w.s, w.n, []⟩).2 :: ((d.say ⟨3, 0, x, w.s, w.n, []⟩).1.sayAll w H).2).length = _
    rw [List.length_cons, List.length_cons, sayAll_len w H]
theorem watch_len (d : Det) (L : List Int) (w : Wt) : (d.watch L w).2.2.length ≤ 2 := by
  unfold Det.watch
  simp only
  split
  · split <;> simp
  · split
    · rw [sayAll_len]
      unfold helpersP
      simp only
      rw [List.length_take]
      omega
    · simp
theorem watches_len : ∀ (W : List Wt) (d : Det) (L : List Int), (d.watches L W).2.2.length ≤ 2 * W.length
  | [], _, _ => by show ([] : List Nt).length ≤ _; simp
  | w :: W, d, L => by
    have h1 := watch_len d L w
    have h2 := watches_len W (d.watch L w).1 (d.watch L w).2.1
    show ((d.watch L w).2.2 ++ ((d.watch L w).1.watches (d.watch L w).2.1 W).2.2).length ≤ _
    rw [List.length_append, List.length_cons]
    omega
theorem tick_len (d : Det) (L : List Int) : (d.tick L).2.2.length ≤ 2 * d.ws.length + 1 := by
  have h1 : (d.tickA L).2.2.length ≤ 2 * d.ws.length := watches_len _ _ _
  rw [tick_eq]
  split
  · simp
  · cases nextP ((d.tickA L).1.tickC (d.tickA L).2.1).1.r.others ((d.tickA L).1.tickC (d.tickA L).2.1).1.left ((d.tickA L).1.tickC (d.tickA L).2.1).2 with
    | none => show (d.tickA L).2.2.length ≤ _; omega
    | some x =>
      obtain ⟨m, left, L'⟩ := x
      show ((d.tickA L).2.2 ++ [_]).length ≤ _
      rw [List.length_append]
      simp
      omega
theorem acked_len (d : Det) (n : Nt) : (d.acked n).2.length ≤ 1 := by
  unfold Det.acked
  simp only
  cases d.es[d.es.findIdx fun x => decide (x.s = n.seq) && decide (x.n = n.fr)]? with
  | none => simp
  | some x => simp
theorem helped_len (d : Det) (n : Nt) : (d.helped n).2.length ≤ 1 := by
  unfold Det.helped
  split
  · exact Nat.le_refl 1
  · exact Nat.le_refl 1
theorem hear_len (d : Det) (L : List Int) (n : Nt) : (d.hear L n).2.2.1.length ≤ 1 := by
  unfold Det.hear
  split
  · exact Nat.zero_le 1
  · split
    · exact Nat.zero_le 1
    · split
      · exact Nat.zero_le 1
      · simp only
        generalize (if (d.r.get n.fr).2 then (d, L) else ((d.take L ⟨n.fr, 0, 0⟩ n.fr).1, (d.take L ⟨n.fr, 0, 0⟩ n.fr).2.1) : Det × List Int) = a
        generalize a.1.news a.2 n.fr n.news = c
        split
        · exact Nat.zero_le 1
        · simp only
          split
          · exact Nat.le_refl 1
          · split
            · exact acked_len _ _
            · exact helped_len _ _
end Go.Proofs.YtofonfohaocclaaGreatDoor.LE

namespace Go.Proofs.YtofonfohaocclaaGreatDoor
open Go.RowKit Sh
set_option linter.unusedVariables false

theorem range_lt : ∀ (m n : Nat), n ≤ m → ((List.range m).filter fun i => decide (i < n)).length = n
  | 0, n, h => by simp; omega
  | m + 1, n, h => by
    rw [List.range_succ, List.filter_append, List.length_append]
    by_cases hn : n = m + 1
    · subst hn
      have e : (List.range m).filter (fun i => decide (i < m + 1)) = (List.range m).filter (fun i => decide (i < m)) := by
        apply List.filter_congr
        intro x hx
        have := List.mem_range.1 hx
        simp; omega
      rw [e, range_lt m m (Nat.le_refl m)]
      simp
    · rw [range_lt m n (by omega)]
      have : decide (m < n) = false := decide_eq_false (by omega)
      simp [this]
theorem bMany_of {b n : Nat} (hn : n ≤ 64) (h : ∀ m, m < 64 → b.testBit m = decide (m < n)) : bMany b = n := by
  unfold bMany bNat
  rw [List.filter_congr (q := fun i => decide (i < n)) (fun x hx => h x (List.mem_range.1 hx))]
  exact range_lt 64 n hn
theorem bHas_nat {b m : Nat} (hm : m < 64) : bHas b (m : Int) = b.testBit m := by
  unfold bHas
  rw [Int.toNat_natCast, decide_eq_true (by omega), Bool.true_and]
theorem CalmR.many {n k : Nat} {r : Rol} (h : CalmR n k r) (hn : n ≤ 64) : bMany r.live = n := by
  refine bMany_of hn fun m hm => ?_
  rw [← bHas_nat hm]
  by_cases c : m < n
  · rw [decide_eq_true c]
    exact h.live hn (by omega) (by omega)
  · rw [decide_eq_false c]
    cases hx : bHas r.live (m : Int) with
    | false => rfl
    | true =>
      have h2 := live_sub (r := r) (fun j hj hb => by rw [h.has, decide_eq_true_eq] at hb; rw [h.kn j hb]) hx
      rw [bHas_nat hm, h.has, decide_eq_true_eq] at h2
      exact absurd h2 c
theorem CalmR.all_calm {n k : Nat} {r : Rol} (h : CalmR n k r) (hn : n ≤ 64) : ∀ u ∈ r.all, u.s = 0 ∧ u.i = 0 := by
  intro u hu
  obtain ⟨j, hj, rfl⟩ := List.mem_map.1 hu
  obtain ⟨m, rfl, hm, ht⟩ := bList_mem hj
  rw [h.has, decide_eq_true_eq] at ht
  rw [h.at (by omega) (by omega)]
  exact ⟨rfl, rfl⟩
theorem beg_all {n : Nat} (hn : n ≤ 8) : CAll n ((List.range n).map (begP n)) := by
  have key : ∀ (k : Nat) (d : Det), ((List.range n).map (begP n))[k]? = some d → k < n ∧ d = begP n k := by
    intro k d hd
    have hk := (List.getElem?_eq_some_iff.1 hd).1
    rw [List.length_map, List.length_range] at hk
    rw [List.getElem?_map, List.getElem?_range hk] at hd
    exact ⟨hk, by simpa using hd.symm⟩
  refine ⟨by rw [List.length_map, List.length_range], fun k d hd => ?_, fun k d hd => ?_⟩
  · obtain ⟨hk, rfl⟩ := key k d hd
    exact (beg_calm hn hk).1
  · obtain ⟨hk, rfl⟩ := key k d hd
    exact (beg_calm hn hk).2
end Go.Proofs.YtofonfohaocclaaGreatDoor
