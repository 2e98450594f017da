/- What a detector's methods keep. What Tick and Hear keep of a detector, so that the walks may go on. -/
import Derived.Test.YtofonfohaocclaaGreatDoorTkB
import Derived.Test.YtofonfohaocclaaGreatDoorG24
namespace Go.Proofs.YtofonfohaocclaaGreatDoor
open Go.RowKit Sh
set_option linter.unusedVariables false

def inU (i : Int) : Prop := 0 ≤ i ∧ i < 18446744073709551616
/-- the incarnations are words. -/
structure IOk (d : Det) : Prop where
  kn : ∀ k, inU (d.r.kn k).i
  dd : ∀ x ∈ d.d, inU x.i
/-- what take leaves alone. -/
structure Same (d d' : Det) : Prop where
  me : d'.r.me = d.r.me
  ws : d'.ws = d.ws
  es : d'.es = d.es
  seq : d'.seq = d.seq
  now : d'.now = d.now
  gone : d'.gone = d.gone
theorem Same.refl (d : Det) : Same d d := ⟨rfl, rfl, rfl, rfl, rfl, rfl⟩
theorem Same.trans {a b c : Det} (h : Same a b) (k : Same b c) : Same a c := ⟨k.me.trans h.me, k.ws.trans h.ws, k.es.trans h.es, k.seq.trans h.seq, k.now.trans h.now, k.gone.trans h.gone⟩
theorem hear_kn {r : Rol} {u : Up} (hu : inU u.i) (h : ∀ k, inU (r.kn k).i) : ∀ k, inU ((r.hear u).1.kn k).i := by
  intro k
  unfold Rol.hear
  split
  · exact h k
  · split
    · split
      · exact h k
      · split
        · exact h k
        · rename_i hne
          unfold Rol.put
          simp only
          split
          · unfold inU at hu ⊢
            simp only
            omega
          · exact h k
    · split
      · exact h k
      · unfold Rol.put
        simp only
        split
        · exact hu
        · exact h k
theorem draise_in {M : List D.Db} (h : ∀ x ∈ M, inU x.i) {u : Up} (hu : inU u.i) (fr now nodes : Int) : ∀ x ∈ draise M u fr now nodes, inU x.i := by
  unfold draise
  split
  · cases hf : dfind M u.n with
    | none =>
      intro x hx
      rcases dputL_mem hx with hx | rfl
      · exact h x hx
      · exact hu
    | some y =>
      simp only
      split
      · exact h
      · split
        · intro x hx
          rcases dputL_mem hx with hx | rfl
          · exact h x hx
          · exact hu
        · split
          · exact h
          · intro x hx
            rcases dputL_mem hx with hx | rfl
            · exact h x hx
            · exact hu
  · exact h
theorem take_same (d : Det) (L : List Int) (u : Up) (fr : Int) : Same d (d.take L u fr).1 := by
  have hm := hear_me d.r u
  unfold Det.take
  simp only
  split
  · exact .refl d
  · split
    · split
      · exact ⟨rfl, rfl, rfl, rfl, rfl, rfl⟩
      · exact .refl d
    · split
      · split
        · exact ⟨hm, rfl, rfl, rfl, rfl, rfl⟩
        · exact ⟨hm, rfl, rfl, rfl, rfl, rfl⟩
      · split
        · exact ⟨hm, rfl, rfl, rfl, rfl, rfl⟩
        · split
          · exact ⟨hm, rfl, rfl, rfl, rfl, rfl⟩
          · exact ⟨hm, rfl, rfl, rfl, rfl, rfl⟩
theorem take_ok {d : Det} (h : DetOk d) (L : List Int) (u : Up) (fr : Int) : DetOk (d.take L u fr).1 := by
  have hs := take_same d L u fr
  have hnow : 0 ≤ (d.take L u fr).1.now ∧ (d.take L u fr).1.now < 18446744073709551616 := by rw [hs.now]; exact h.now
  have hseq : 0 ≤ (d.take L u fr).1.seq ∧ (d.take L u fr).1.seq < 18446744073709551616 := by rw [hs.seq]; exact h.seq
  obtain ⟨r', tk, er, hh⟩ : ∃ r' tk er, d.r.hear u = (r', tk, er) := ⟨_, _, _, rfl⟩
  have hr := hear_ok h.r u
  rw [take_eq d L u fr hh] at hnow hseq ⊢
  rw [hh] at hr
  simp only at hr
  split
  · exact h
  · split
    · split
      · exact ⟨h.left, h.r, h.q, draise_ok h.d _ _ _ _ h.now, h.now, h.seq⟩
      · exact h
    · rename_i he0
      have he : er = 0 := by omega
      subst he
      have hmay := hear_may hh
      split
      · split
        · exact ⟨h.left, hr, qput_ok h.q _, h.d, h.now, h.seq⟩
        · exact ⟨h.left, hr, h.q, h.d, h.now, h.seq⟩
      · split
        · exact ⟨h.left, hr, qput_ok h.q _, draise_ok h.d _ _ _ _ h.now, h.now, h.seq⟩
        · split
          · refine ⟨joinP_ok h.left ?_ L, hr, qput_ok h.q _, dfilter_ok h.d _, h.now, h.seq⟩
            unfold Q.mayU at hmay
            simp only [decide_eq_true_eq] at hmay
            omega
          · exact ⟨h.left, hr, qput_ok h.q _, dfilter_ok h.d _, h.now, h.seq⟩
theorem take_in {d : Det} (h : IOk d) (L : List Int) {u : Up} (hu : inU u.i) (fr : Int) : IOk (d.take L u fr).1 := by
  have hk := hear_kn hu h.kn
  unfold Det.take
  simp only
  split
  · exact h
  · split
    · split
      · exact ⟨h.kn, draise_in h.dd hu _ _ _⟩
      · exact h
    · split
      · split
        · exact ⟨hk, h.dd⟩
        · exact ⟨hk, h.dd⟩
      · split
        · exact ⟨hk, draise_in h.dd hu _ _ _⟩
        · split
          · exact ⟨hk, fun x hx => h.dd x (List.mem_filter.1 hx).1⟩
          · exact ⟨hk, fun x hx => h.dd x (List.mem_filter.1 hx).1⟩
theorem say_same (d : Det) (n : Nt) : Same d (d.say n).1 := ⟨rfl, rfl, rfl, rfl, rfl, rfl⟩
theorem say_ok {d : Det} (h : DetOk d) (n : Nt) : DetOk (d.say n).1 := ⟨h.left, h.r, qtakeM_ok h.q _ _ (by have := many_bd d; omega), h.d, h.now, h.seq⟩
theorem say_in {d : Det} (h : IOk d) (n : Nt) : IOk (d.say n).1 := ⟨h.kn, h.dd⟩
theorem news_same : ∀ (N : List Up) (d : Det) (L : List Int) (fr : Int), Same d (d.news L fr N).1
  | [], d, _, _ => .refl d
  | u :: N, d, L, fr => by
    unfold Det.news
    simp only
    split
    · exact take_same d L u fr
    · exact (take_same d L u fr).trans (news_same N _ _ fr)
end Go.Proofs.YtofonfohaocclaaGreatDoor

namespace Go.Proofs.YtofonfohaocclaaGreatDoor
open Go.RowKit Sh
set_option linter.unusedVariables false

/-- The detector's parts are sound; so many watches, no more errands than may be. -/
structure KO (n : Nat) (d : Det) : Prop where
  ok : DetOk d
  io : IOk d
  ws : d.ws.length ≤ n
  es : d.es.length ≤ 32
theorem KO.w {n : Nat} {d : Det} (h : KO n d) (hn : n < 1099511627776) : WOk d := ⟨by have := h.ws; omega, by have := h.es; omega⟩
theorem KO.le {n m : Nat} {d : Det} (h : KO n d) (hn : n ≤ m) : KO m d := ⟨h.ok, h.io, by have := h.ws; omega, h.es⟩
theorem take_ko {n : Nat} {d : Det} (h : KO n d) (L : List Int) {u : Up} (hu : inU u.i) (fr : Int) : KO n (d.take L u fr).1 := by
  have hs := take_same d L u fr
  exact ⟨take_ok h.ok L u fr, take_in h.io L hu fr, by rw [hs.ws]; exact h.ws, by rw [hs.es]; exact h.es⟩
theorem takes_ko {n : Nat} (fr : Int) : ∀ (U : List Up) {d : Det} (L : List Int), KO n d → (∀ u ∈ U, inU u.i) → KO n (d.takes L fr U).1
  | [], _, _, h, _ => h
  | u :: U, d, L, h, hu => takes_ko fr U _ (take_ko h L (hu u (by simp)) fr) fun v hv => hu v (by simp [hv])
theorem news_ko {n : Nat} (fr : Int) : ∀ (U : List Up) {d : Det} (L : List Int), KO n d → (∀ u ∈ U, inU u.i) → KO n (d.news L fr U).1
  | [], _, _, h, _ => h
  | u :: U, d, L, h, hu => by
    unfold Det.news
    simp only
    split
    · exact take_ko h L (hu u (by simp)) fr
    · exact news_ko fr U _ (take_ko h L (hu u (by simp)) fr) fun v hv => hu v (by simp [hv])
theorem say_ko {n : Nat} {d : Det} (h : KO n d) (m : Nt) : KO n (d.say m).1 := ⟨say_ok h.ok m, say_in h.io m, h.ws, h.es⟩
theorem sayAll_ko {n : Nat} (w : Wt) : ∀ (H : List Int) {d : Det}, KO n d → KO n (d.sayAll w H).1
  | [], _, h => h
  | x :: H, d, h => sayAll_ko w H (say_ko h ⟨3, 0, x, w.s, w.n, []⟩)
theorem sayAll_same (w : Wt) : ∀ (H : List Int) (d : Det), Same d (d.sayAll w H).1
  | [], d => .refl d
  | x :: H, d => (say_same d ⟨3, 0, x, w.s, w.n, []⟩).trans (sayAll_same w H _)
theorem get_in {r : Rol} (h : ∀ k, inU (r.kn k).i) (n : Int) : inU (r.get n).1.i := by
  unfold Rol.get
  split
  · exact h _
  · exact ⟨by show (0 : Int) ≤ 0; omega, by show (0 : Int) < _; omega⟩
theorem set_ws_ko {n m : Nat} {d : Det} (h : KO n d) {l : List Wt} (hl : l.length ≤ m) : KO m { d with ws := l } := ⟨⟨h.ok.left, h.ok.r, h.ok.q, h.ok.d, h.ok.now, h.ok.seq⟩, ⟨h.io.kn, h.io.dd⟩, hl, h.es⟩
theorem set_es_ko {n : Nat} {d : Det} (h : KO n d) {l : List Er} (hl : l.length ≤ 32) : KO n { d with es := l } := ⟨⟨h.ok.left, h.ok.r, h.ok.q, h.ok.d, h.ok.now, h.ok.seq⟩, ⟨h.io.kn, h.io.dd⟩, h.ws, hl⟩
theorem inc64_in (x : Int) : 0 ≤ inc64 x ∧ inc64 x < 18446744073709551616 := by unfold inc64; omega
theorem set_now_ko {n : Nat} {d : Det} (h : KO n d) : KO n { d with now := inc64 d.now } := ⟨⟨h.ok.left, h.ok.r, h.ok.q, h.ok.d, inc64_in _, h.ok.seq⟩, ⟨h.io.kn, h.io.dd⟩, h.ws, h.es⟩
theorem watch_ko {n : Nat} {d : Det} (h : KO n d) (L : List Int) (w : Wt) : KO (n + 1) (d.watch L w).1 := by
  have hw := h.ws
  unfold Det.watch
  simp only
  split
  · split
    · exact (take_ko (n := n) h L (u := ⟨w.n, (d.r.get w.n).1.i, 1⟩) (get_in h.io.kn _) d.r.me).le (Nat.le_succ n)
    · exact h.le (Nat.le_succ n)
  · split
    · have h1 := sayAll_ko { w with h := true } (helpersP d.r.others w.n L).1 h
      exact set_ws_ko h1 (by have := h1.ws; rw [List.length_append]; simpa using this)
    · exact set_ws_ko h (by rw [List.length_append]; simpa using hw)
theorem watches_ko : ∀ (W : List Wt) {n : Nat} {d : Det} (L : List Int), KO n d → KO (n + W.length) (d.watches L W).1
  | [], _, _, _, h => h
  | w :: W, n, d, L, h => (watches_ko W (d.watch L w).2.1 (watch_ko h L w)).le (by rw [List.length_cons]; omega)
theorem dover_in {M : List D.Db} (h : ∀ x ∈ M, inU x.i) (now : Int) : ∀ u ∈ doverU M now, inU u.i := by
  intro u hu
  unfold doverU at hu
  obtain ⟨x, hx, rfl⟩ := List.mem_map.1 hu
  exact h x ((sortB_perm leDb M).mem_iff.1 (List.mem_filter.1 hx).1)
theorem doverM_in {M : List D.Db} (h : ∀ x ∈ M, inU x.i) (now : Int) : ∀ x ∈ doverM M now, inU x.i := fun x hx => h x ((sortB_perm leDb M).mem_iff.1 (List.mem_filter.1 hx).1)
/-- Tick, up to the watches. -/
def Det.tickA (d : Det) (L : List Int) : Det × List Int × List Nt := ({ { d with now := inc64 d.now } with ws := [] } : Det).watches L d.ws
/-- .. up to the errands and the doubts that are over. -/
def Det.tickB (d : Det) : Det := { { d with es := d.es.filter fun x => !decide (4 ≤ sub64 d.now x.a) } with d := doverM d.d d.now }
def Det.tickC (d : Det) (L : List Int) : Det × List Int := d.tickB.takes L d.r.me (doverU d.d d.now)
/-- .. the ping. -/
def Det.tickD (d : Det) (n : Int) (left : List Int) : Det × Nt :=
  ({ d with left := left, seq := inc64 d.seq, ws := d.ws ++ [Wt.mk n (inc64 d.seq) d.now false] } : Det).say ⟨1, 0, n, inc64 d.seq, 0, []⟩
theorem tick_eq (d : Det) (L : List Int) : d.tick L = if d.gone then (d, L, [])
    else match nextP ((d.tickA L).1.tickC (d.tickA L).2.1).1.r.others ((d.tickA L).1.tickC (d.tickA L).2.1).1.left ((d.tickA L).1.tickC (d.tickA L).2.1).2 with
      | none => (((d.tickA L).1.tickC (d.tickA L).2.1).1, ((d.tickA L).1.tickC (d.tickA L).2.1).2, (d.tickA L).2.2)
      | some (n, left, L') => ((((d.tickA L).1.tickC (d.tickA L).2.1).1.tickD n left).1, L', (d.tickA L).2.2 ++ [(((d.tickA L).1.tickC (d.tickA L).2.1).1.tickD n left).2]) := rfl
theorem tickA_ko {n : Nat} {d : Det} (h : KO n d) (L : List Int) : KO n (d.tickA L).1 := by
  have h1 : KO 0 ({ { d with now := inc64 d.now } with ws := [] } : Det) := set_ws_ko (set_now_ko h) (by simp)
  exact (watches_ko d.ws L h1).le (by have := h.ws; omega)
theorem tickB_ko {n : Nat} {d : Det} (h : KO n d) : KO n d.tickB :=
  ⟨⟨h.ok.left, h.ok.r, h.ok.q, doverM_ok h.ok.d _, h.ok.now, h.ok.seq⟩, ⟨h.io.kn, doverM_in h.io.dd _⟩, h.ws, Nat.le_trans (List.length_filter_le _ _) h.es⟩
theorem tickC_ko {n : Nat} {d : Det} (h : KO n d) (L : List Int) : KO n (d.tickC L).1 := takes_ko _ _ _ (tickB_ko h) (dover_in h.io.dd _)
theorem tickD_ko {n : Nat} {d : Det} (h : KO n d) {x : Int} {left : List Int} (hl : LOk left) : KO (n + 1) (d.tickD x left).1 :=
  say_ko (d := { d with left := left, seq := inc64 d.seq, ws := d.ws ++ [Wt.mk x (inc64 d.seq) d.now false] }) ⟨⟨hl, h.ok.r, h.ok.q, h.ok.d, h.ok.now, inc64_in _⟩, ⟨h.io.kn, h.io.dd⟩, by have := h.ws; show (d.ws ++ [_]).length ≤ _; rw [List.length_append]; simpa using this, h.es⟩ _
theorem tick_ko {n : Nat} {d : Det} (h : KO n d) (L : List Int) : KO (n + 1) (d.tick L).1 := by
  rw [tick_eq]
  split
  · exact h.le (by omega)
  · have h1 := tickC_ko (tickA_ko h L) (d.tickA L).2.1
    generalize (d.tickA L).1.tickC (d.tickA L).2.1 = c at h1 ⊢
    cases hx : nextP c.1.r.others c.1.left c.2 with
    | none => exact h1.le (by omega)
    | some x =>
      obtain ⟨m, left, L'⟩ := x
      exact tickD_ko h1 (nextP_ok h1.ok.left (bList_ok _) hx).1
theorem answer_ko {n : Nat} {d : Det} (h : KO n d) (m : Nt) : KO n (d.answer m).1 := say_ko h _
theorem acked_ko {n : Nat} {d : Det} (h : KO n d) (m : Nt) : KO n (d.acked m).1 := by
  unfold Det.acked
  simp only
  cases d.es[d.es.findIdx fun x => decide (x.s = m.seq) && decide (x.n = m.fr)]? with
  | none => exact set_ws_ko h (Nat.le_trans (List.length_filter_le _ _) h.ws)
  | some x => exact say_ko (set_es_ko h (Nat.le_trans (List.length_eraseIdx_le _ _) h.es)) _
theorem helped_ko {n : Nat} {d : Det} (h : KO n d) (m : Nt) : KO n (d.helped m).1 := by
  unfold Det.helped
  split
  · exact answer_ko h m
  · refine say_ko (d := { d with seq := inc64 d.seq, es := d.es.drop (d.es.length - 31) ++ [Er.mk m.fo (inc64 d.seq) d.now m.fr m.seq] }) ⟨⟨h.ok.left, h.ok.r, h.ok.q, h.ok.d, h.ok.now, inc64_in _⟩, ⟨h.io.kn, h.io.dd⟩, h.ws, ?_⟩ _
    show (d.es.drop (d.es.length - 31) ++ [_]).length ≤ 32
    rw [List.length_append, List.length_drop]
    have := h.es
    simp
    omega
theorem hear_ko {n : Nat} {d : Det} (h : KO n d) (L : List Int) (m : Nt) (hu : ∀ u ∈ m.news, inU u.i) : KO n (d.hear L m).1 := by
  unfold Det.hear
  split
  · exact h
  · split
    · exact h
    · split
      · exact h
      · have h1 : KO n (if (d.r.get m.fr).2 then (d, L) else ((d.take L ⟨m.fr, 0, 0⟩ m.fr).1, (d.take L ⟨m.fr, 0, 0⟩ m.fr).2.1) : Det × List Int).1 := by
          split
          · exact h
          · exact take_ko h L (by show (0 : Int) ≤ 0 ∧ (0 : Int) < _; omega) _
        simp only
        generalize (if (d.r.get m.fr).2 then (d, L) else ((d.take L ⟨m.fr, 0, 0⟩ m.fr).1, (d.take L ⟨m.fr, 0, 0⟩ m.fr).2.1) : Det × List Int) = a at h1 ⊢
        have h2 := news_ko m.fr m.news a.2 h1 hu
        generalize a.1.news a.2 m.fr m.news = c at h2 ⊢
        split
        · exact h2
        · simp only
          split
          · exact answer_ko h2 m
          · split
            · exact acked_ko h2 m
            · exact helped_ko h2 m
theorem new_ko {k : Int} (h0 : 0 ≤ k ∧ k < 64) : KO 0 (Det.new k) := by
  have hr : RolOk (Rol.new k) := ⟨h0, bWith_lt (by show (0 : Nat) < _; omega) _⟩
  have hin : ∀ m, inU ((Rol.new k).kn m).i := fun m => by
    show inU (if m = k.toNat then (⟨k, 0, 0⟩ : Up) else zUp).i
    split
    · exact ⟨by show (0 : Int) ≤ 0; omega, by show (0 : Int) < _; omega⟩
    · exact ⟨by show (0 : Int) ≤ 0; omega, by show (0 : Int) < _; omega⟩
  have hq : QOk (qput [] (Rol.new k).mine) := qput_ok (M := []) ⟨by simp, by simp, fun _ hx => by cases hx⟩ _
  exact ⟨⟨⟨by simp [Det.new], fun _ hx => by cases hx⟩, hr, hq, dok_of (by simp [Det.new]) (fun _ hx => by cases hx) (fun _ hx => by cases hx), ⟨by show (0 : Int) ≤ 0; omega, by show (0 : Int) < _; omega⟩, ⟨by show (0 : Int) ≤ 0; omega, by show (0 : Int) < _; omega⟩⟩, ⟨hin, fun _ hx => by cases hx⟩, by show 0 ≤ 0; omega, by show 0 ≤ 32; omega⟩
end Go.Proofs.YtofonfohaocclaaGreatDoor
