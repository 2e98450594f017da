/- DetectSays, the plain law: what a detector says is of itself, to others, its own update ahead. -/
import Derived.Test.YtofonfohaocclaaGreatDoorG25
namespace Go.Proofs.YtofonfohaocclaaGreatDoor
open Go.RowKit Sh
set_option linter.unusedVariables false

theorem bHas_with {b : Nat} {m : Int} (h : bHas b m = true) (n : Int) : bHas (bWith b n) m = true := by
  unfold bHas bWith at *
  rw [Bool.and_eq_true] at h ⊢
  exact ⟨h.1, by rw [Nat.testBit_or, h.2]; rfl⟩
theorem bHas_self (b : Nat) {n : Int} (h : 0 ≤ n ∧ n < 64) : bHas (bWith b n) n = true := by
  unfold bHas bWith bitN
  rw [Bool.and_eq_true, if_pos h, Nat.testBit_or, Nat.testBit_two_pow_self, Bool.or_true]
  exact ⟨decide_eq_true h, rfl⟩
theorem bLess_self (b : Nat) {n : Int} (h : 0 ≤ n ∧ n < 64) : (bLess b n).testBit n.toNat = false := by
  unfold bLess bitN
  rw [if_pos h, Nat.testBit_and]
  have h1 : (2 : Nat) ^ n.toNat < 2 ^ 64 := Nat.pow_lt_pow_right (by omega) (by omega)
  have e : 18446744073709551615 - 2 ^ n.toNat = 2 ^ 64 - (2 ^ n.toNat + 1) := by omega
  rw [e, Nat.testBit_two_pow_sub_succ h1, Nat.testBit_two_pow_self]
  simp
theorem others_ne {r : Rol} (h : 0 ≤ r.me ∧ r.me < 64) {x : Int} (hx : x ∈ r.others) : x ≠ r.me := by
  obtain ⟨k, rfl, hk, ht⟩ := bList_mem hx
  intro e
  have h1 := bLess_self r.live h
  have h2 : r.me.toNat = k := by omega
  rw [h2, ht] at h1
  cases h1
theorem foldl_live_mono {k : Int} : ∀ (L : List Up) {b : Nat}, bHas b k = true → bHas (L.foldl liveF b) k = true
  | [], _, h => h
  | u :: L, b, h => foldl_live_mono L (by
    unfold liveF
    split
    · exact bHas_with h _
    · exact h)
theorem foldl_live_mem {k : Int} (h0 : 0 ≤ k ∧ k < 64) : ∀ (L : List Up) {b : Nat} {u : Up}, u ∈ L → u.n = k → liveS u.s = true → bHas (L.foldl liveF b) k = true
  | v :: L, b, u, hu, hn, hs => by
    rw [List.foldl_cons]
    rcases List.mem_cons.1 hu with rfl | hu
    · refine foldl_live_mono L ?_
      unfold liveF
      rw [if_pos hs, hn]
      exact bHas_self _ h0
    · exact foldl_live_mem h0 L hu hn hs
theorem bList_of_has {b : Nat} {k : Int} (h : bHas b k = true) : k ∈ bList b := by
  unfold bHas at h
  rw [Bool.and_eq_true, decide_eq_true_eq] at h
  unfold bList bNat
  exact List.mem_map.2 ⟨k.toNat, List.mem_filter.2 ⟨List.mem_range.2 (by omega), h.2⟩, by omega⟩

/-- What stays so of the roll of node k. -/
structure RI (k : Int) (r : Rol) : Prop where
  me : r.me = k
  k0 : 0 ≤ k ∧ k < 64
  mn : r.mine.n = k
  ms : r.mine.s = 0
  has : bHas r.has k = true
theorem RI.live {k : Int} {r : Rol} (h : RI k r) : bHas r.live k = true := by
  unfold Rol.live
  refine foldl_live_mem h.k0 _ (u := r.at k) ?_ ?_ ?_
  · exact List.mem_map_of_mem (bList_of_has h.has)
  · have := h.mn; unfold Rol.mine at this; rw [h.me] at this; exact this
  · have := h.ms; unfold Rol.mine at this; rw [h.me] at this; rw [this]; rfl
theorem hear_ri {k : Int} {r : Rol} (h : RI k r) (u : Up) : RI k (r.hear u).1 := by
  have h0 := h.k0
  have hm := h.me
  unfold Rol.hear
  by_cases c1 : Q.mayU u.n u.s = false
  · rw [if_pos c1]; exact h
  · rw [if_neg c1]
    by_cases c2 : u.n = r.me
    · rw [if_pos c2]
      split
      · exact h
      · split
        · exact h
        · refine ⟨hm, h0, ?_, ?_, bHas_with h.has _⟩
          · show (if r.me.toNat = r.me.toNat then (⟨r.me, u.i + 1, 0⟩ : Up) else r.kn r.me.toNat).n = k
            rw [if_pos rfl]; exact hm
          · show (if r.me.toNat = r.me.toNat then (⟨r.me, u.i + 1, 0⟩ : Up) else r.kn r.me.toNat).s = 0
            rw [if_pos rfl]
    · rw [if_neg c2]
      split
      · exact h
      · have hu : 0 ≤ u.n ∧ u.n < 64 := by
          unfold Q.mayU at c1
          rw [decide_eq_false_iff_not, Classical.not_not] at c1
          omega
        have hne : ¬ r.me.toNat = u.n.toNat := by omega
        refine ⟨hm, h0, ?_, ?_, bHas_with h.has _⟩
        · show (if r.me.toNat = u.n.toNat then u else r.kn r.me.toNat).n = k
          rw [if_neg hne]; exact h.mn
        · show (if r.me.toNat = u.n.toNat then u else r.kn r.me.toNat).s = 0
          rw [if_neg hne]; exact h.ms
theorem new_ri {k : Int} (h0 : 0 ≤ k ∧ k < 64) : RI k (Rol.new k) := by
  refine ⟨rfl, h0, ?_, ?_, bHas_self _ h0⟩
  · show (if k.toNat = k.toNat then (⟨k, 0, 0⟩ : Up) else _).n = k
    rw [if_pos rfl]
  · show (if k.toNat = k.toNat then (⟨k, 0, 0⟩ : Up) else _).s = 0
    rw [if_pos rfl]
/-- What stays so of the detector of node k. -/
structure SI (k : Int) (d : Det) : Prop where
  r : RI k d.r
  es : ∀ x ∈ d.es, x.f ≠ k
structure GoodNt (k : Int) (n : Nt) : Prop where
  fr : n.fr = k
  dst : n.dst ≠ k
  pos : 1 ≤ n.news.length
  len : n.news.length ≤ 8
  own : ∀ u, n.news[0]? = some u → u.n = k ∧ u.s = 0
  kind : 1 ≤ n.k ∧ n.k ≤ 3
theorem take_ri {k : Int} {d : Det} (h : RI k d.r) (L : List Int) (u : Up) (fr : Int) : RI k (d.take L u fr).1.r := by
  have hk := hear_ri h u
  unfold Det.take
  simp only
  split
  · exact h
  · split
    · split
      · exact h
      · exact h
    · split
      · split
        · exact hk
        · exact hk
      · split
        · exact hk
        · split
          · exact hk
          · exact hk
theorem take_si {k : Int} {d : Det} (h : SI k d) (L : List Int) (u : Up) (fr : Int) : SI k (d.take L u fr).1 :=
  ⟨take_ri h.r L u fr, by rw [(take_same d L u fr).es]; exact h.es⟩
theorem takes_si {k : Int} (fr : Int) : ∀ (U : List Up) {d : Det} (L : List Int), SI k d → SI k (d.takes L fr U).1
  | [], _, _, h => h
  | u :: U, d, L, h => takes_si fr U _ (take_si h L u fr)
theorem news_si {k : Int} (fr : Int) : ∀ (U : List Up) {d : Det} (L : List Int), SI k d → SI k (d.news L fr U).1
  | [], _, _, h => h
  | u :: U, d, L, h => by
    unfold Det.news
    simp only
    split
    · exact take_si h L u fr
    · exact news_si fr U _ (take_si h L u fr)
theorem say_si {k : Int} {d : Det} (h : SI k d) (n : Nt) : SI k (d.say n).1 := ⟨h.r, h.es⟩
theorem say_good {k : Int} {d : Det} (h : RI k d.r) (kd fr dst seq fo : Int) (nw : List Up) (hd : dst ≠ k) (hk : 1 ≤ kd ∧ kd ≤ 3) : GoodNt k (d.say ⟨kd, fr, dst, seq, fo, nw⟩).2 := by
  have e : ∀ c : Bool, ([d.r.mine] ++ if c then [(d.r.get dst).1] else []).length = if c then 2 else 1 := fun c => by cases c <;> rfl
  refine ⟨h.me, hd, ?_, ?_, ?_, hk⟩
  · show 1 ≤ (([d.r.mine] ++ _) ++ _ : List Up).length
    simp
  · show (([d.r.mine] ++ if _ then [(d.r.get dst).1] else []) ++ qtakeU d.q (8 - (([d.r.mine] ++ if _ then [(d.r.get dst).1] else []).length : Nat))).length ≤ 8
    generalize ((d.r.get dst).2 && (decide ((d.r.get dst).1.s = 1) || decide ((d.r.get dst).1.s = 3))) = c
    rw [List.length_append, e c]
    have hq : ∀ n : Nat, n ≤ 8 → (qtakeU d.q (8 - (n : Int))).length ≤ 8 - n := by
      intro n hn
      unfold qtakeU qtakeK
      rw [List.length_map, List.length_take]
      omega
    cases c
    · have := hq 1 (by omega); simpa using (by omega : 1 + (qtakeU d.q (8 - ((1 : Nat) : Int))).length ≤ 8)
    · have := hq 2 (by omega); simpa using (by omega : 2 + (qtakeU d.q (8 - ((2 : Nat) : Int))).length ≤ 8)
  · intro u hu
    have hu' : some d.r.mine = some u := hu
    injection hu' with hu'
    subst hu'
    exact ⟨h.mn, h.ms⟩
structure SG (k : Int) (d : Det) (N : List Nt) : Prop where
  si : SI k d
  good : ∀ n ∈ N, GoodNt k n
theorem sayAll_sg {k : Int} (w : Wt) : ∀ (H : List Int) {d : Det}, SI k d → (∀ x ∈ H, x ≠ k) → SG k (d.sayAll w H).1 (d.sayAll w H).2
  | [], d, h, _ => ⟨h, fun _ hn => by cases hn⟩
  | x :: H, d, h, hh => by
    have h1 := say_good h.r 3 0 x w.s w.n [] (hh x (by simp)) (by omega)
    have h2 := sayAll_sg w H (say_si h ⟨3, 0, x, w.s, w.n, []⟩) fun y hy => hh y (by simp [hy])
    refine ⟨h2.si, fun n hn => ?_⟩
    rcases List.mem_cons.1 hn with rfl | hn
    · exact h1
    · exact h2.good n hn
theorem helpers_mem {others : List Int} {no : Int} {L : List Int} {x : Int} (h : x ∈ (helpersP others no L).1) : x ∈ others := by
  have h1 := List.mem_of_mem_take h
  exact (List.mem_filter.1 ((shufP_perm _ L).mem_iff.1 h1)).1
theorem watch_sg {k : Int} {d : Det} (h : SI k d) (L : List Int) (w : Wt) : SG k (d.watch L w).1 (d.watch L w).2.2 := by
  unfold Det.watch
  simp only
  split
  · split
    · exact ⟨take_si h L _ _, fun _ hn => by cases hn⟩
    · exact ⟨h, fun _ hn => by cases hn⟩
  · split
    · have h1 := sayAll_sg { w with h := true } (helpersP d.r.others w.n L).1 h fun x hx => by
        have := others_ne (r := d.r) (by rw [h.r.me]; exact h.r.k0) (helpers_mem hx)
        rw [h.r.me] at this
        exact this
      exact ⟨⟨h1.si.r, h1.si.es⟩, h1.good⟩
    · exact ⟨⟨h.r, h.es⟩, fun _ hn => by cases hn⟩
theorem watches_sg {k : Int} : ∀ (W : List Wt) {d : Det} (L : List Int), SI k d → SG k (d.watches L W).1 (d.watches L W).2.2
  | [], d, _, h => ⟨h, fun _ hn => by cases hn⟩
  | w :: W, d, L, h => by
    have h1 := watch_sg h L w
    have h2 := watches_sg W (d.watch L w).2.1 h1.si
    refine ⟨h2.si, fun n hn => ?_⟩
    rcases List.mem_append.1 hn with hn | hn
    · exact h1.good n hn
    · exact h2.good n hn
theorem tick_sg {k : Int} {d : Det} (h : SI k d) (L : List Int) : SG k (d.tick L).1 (d.tick L).2.2 := by
  unfold Det.tick
  split
  · exact ⟨h, fun _ hn => by cases hn⟩
  · have h1 : SI k ({ { d with now := inc64 d.now } with ws := [] } : Det) := ⟨h.r, h.es⟩
    have h2 := watches_sg d.ws L h1
    simp only
    generalize ({ { d with now := inc64 d.now } with ws := [] } : Det).watches L d.ws = a at h2 ⊢
    have h3 : SI k ({ { a.1 with es := a.1.es.filter fun x => !decide (4 ≤ sub64 a.1.now x.a) } with d := doverM a.1.d a.1.now } : Det) := ⟨h2.si.r, fun x hx => h2.si.es x (List.mem_filter.1 hx).1⟩
    have h4 := takes_si a.1.r.me (doverU a.1.d a.1.now) a.2.1 h3
    generalize ({ { a.1 with es := a.1.es.filter fun x => !decide (4 ≤ sub64 a.1.now x.a) } with d := doverM a.1.d a.1.now } : Det).takes a.2.1 a.1.r.me (doverU a.1.d a.1.now) = c at h4 ⊢
    cases hx : nextP c.1.r.others c.1.left c.2 with
    | none => exact ⟨h4, h2.good⟩
    | some x =>
      obtain ⟨n, left, L'⟩ := x
      simp only
      have hn : n ≠ k := by
        have h5 : n ∈ c.1.r.others := by
          unfold nextP at hx
          split at hx
          · cases hx
          · rename_i hne
            split at hx
            · rename_i hf
              cases hx
              have := List.findIdx_getElem (w := hf)
              simp only [decide_eq_true_eq] at this
              rw [List.getD_eq_getElem?_getD, List.getElem?_eq_getElem hf, Option.getD_some]
              exact this
            · cases hx
              have hp := shufP_perm c.1.r.others c.2
              have hpos : 0 < (shufP c.1.r.others c.2).1.length := by
                rw [hp.length_eq]
                exact List.length_pos_iff.2 hne
              rw [List.getD_eq_getElem?_getD, List.getElem?_eq_getElem hpos, Option.getD_some]
              exact hp.mem_iff.1 (List.getElem_mem _)
        have := others_ne (r := c.1.r) (by rw [h4.r.me]; exact h4.r.k0) h5
        rw [h4.r.me] at this
        exact this
      refine ⟨⟨h4.r, h4.es⟩, fun m hm => ?_⟩
      rcases List.mem_append.1 hm with hm | hm
      · exact h2.good m hm
      · rw [List.mem_singleton] at hm
        subst hm
        exact say_good (d := { { c.1 with left := left, seq := inc64 c.1.seq } with ws := c.1.ws ++ [Wt.mk n (inc64 c.1.seq) c.1.now false] }) h4.r 1 0 n _ 0 [] hn (by omega)
theorem answer_sg {k : Int} {d : Det} (h : SI k d) (n : Nt) (hf : n.fr ≠ k) : SG k (d.answer n).1 (d.answer n).2 :=
  ⟨say_si h _, fun m hm => by
    rw [List.mem_singleton.1 hm]
    exact say_good h.r 2 0 n.fr n.seq d.r.me [] hf (by omega)⟩
theorem acked_sg {k : Int} {d : Det} (h : SI k d) (n : Nt) : SG k (d.acked n).1 (d.acked n).2 := by
  unfold Det.acked
  simp only
  cases hx : d.es[d.es.findIdx fun x => decide (x.s = n.seq) && decide (x.n = n.fr)]? with
  | none => exact ⟨⟨h.r, h.es⟩, fun _ hn => by cases hn⟩
  | some x =>
    simp only
    refine ⟨⟨h.r, fun y hy => h.es y (List.mem_of_mem_eraseIdx hy)⟩, fun m hm => ?_⟩
    rw [List.mem_singleton.1 hm]
    exact say_good (d := { d with es := d.es.eraseIdx (d.es.findIdx fun x => decide (x.s = n.seq) && decide (x.n = n.fr)) }) h.r 2 0 x.f x.t n.fr [] (h.es x (List.mem_of_getElem? hx)) (by omega)
theorem helped_sg {k : Int} {d : Det} (h : SI k d) (n : Nt) (hf : n.fr ≠ k) : SG k (d.helped n).1 (d.helped n).2 := by
  unfold Det.helped
  split
  · exact answer_sg h n hf
  · rename_i hne
    simp only
    refine ⟨⟨h.r, fun y hy => ?_⟩, fun m hm => ?_⟩
    · rcases List.mem_append.1 hy with hy | hy
      · exact h.es y (List.mem_of_mem_drop hy)
      · rw [List.mem_singleton.1 hy]
        exact hf
    · rw [List.mem_singleton.1 hm]
      exact say_good (d := { d with seq := inc64 d.seq, es := d.es.drop (d.es.length - 31) ++ [Er.mk n.fo (inc64 d.seq) d.now n.fr n.seq] }) h.r 1 0 n.fo _ 0 [] (by rw [h.r.me] at hne; exact hne) (by omega)
theorem hear_sg {k : Int} {d : Det} (h : SI k d) (L : List Int) (n : Nt) : SG k (d.hear L n).1 (d.hear L n).2.2.1 := by
  unfold Det.hear
  split
  · exact ⟨h, fun _ hn => by cases hn⟩
  · split
    · exact ⟨h, fun _ hn => by cases hn⟩
    · rename_i hb
      split
      · exact ⟨h, fun _ hn => by cases hn⟩
      · have hf : n.fr ≠ k := by
          intro e
          exact hb (.inr (.inr (.inl (by rw [h.r.me]; exact e))))
        have h1 : SI k (if (d.r.get n.fr).2 then (d, L) else ((d.take L ⟨n.fr, 0, 0⟩ n.fr).1, (d.take L ⟨n.fr, 0, 0⟩ n.fr).2.1) : Det × List Int).1 := by
          split
          · exact h
          · exact take_si h L _ _
        simp only
        generalize (if (d.r.get n.fr).2 then (d, L) else ((d.take L ⟨n.fr, 0, 0⟩ n.fr).1, (d.take L ⟨n.fr, 0, 0⟩ n.fr).2.1) : Det × List Int) = a at h1 ⊢
        have h2 := news_si n.fr n.news a.2 h1
        generalize a.1.news a.2 n.fr n.news = c at h2 ⊢
        split
        · exact ⟨h2, fun _ hn => by cases hn⟩
        · simp only
          split
          · exact answer_sg h2 n hf
          · split
            · exact acked_sg h2 n
            · exact helped_sg h2 n hf
theorem new_si {k : Int} (h0 : 0 ≤ k ∧ k < 64) : SI k (Det.new k) := ⟨new_ri h0, fun _ hx => by cases hx⟩
end Go.Proofs.YtofonfohaocclaaGreatDoor
