/- append onto a row that lies anywhere. Notes in memory; a detector's own cells set. slices.Delete of one errand, in place. -/
import Derived.Test.YtofonfohaocclaaGreatDoorG14
import Derived.Test.YtofonfohaocclaaGreatDoorG22
import Derived.ArgAppend
import Derived.Test.YtofonfohaocclaaGreatDoorSayA
import Derived.Test.YtofonfohaocclaaGreatDoorG15
namespace Go.Proofs.YtofonfohaocclaaGreatDoor
open Go.RowKit Sh
open Go.ChangeMaps (setBlock)
set_option linter.unusedVariables false

structure Appd (w w' : World) (e : TypeId) (size : Nat) (v v' : Value) (n : Nat) (xs : List Value) : Prop where
  row : Row w' e size v' n xs
  blk : v'.ownBlock = v.ownBlock ∨ ∃ g, v'.ownBlock = some g ∧ w.heap.size ≤ g
  keep : Keep (fun j => v.ownBlock = some j) w w'
theorem own_new {w : World} {base n : Nat} {e : TypeId} {size : Nat} {v : Value} {xs : List Value} (h : w.ownsRow base e size v n xs) (hn : 0 < n) : ∃ g, v.ownBlock = some g ∧ base ≤ g := by
  rcases h.2 with ⟨_, h0⟩ | ⟨g, cap, cur, rfl, hg, _⟩
  · omega
  · exact ⟨g, rfl, hg⟩
section
variable {P : Program}
theorem run_append_row {w : World} (t ty e : TypeId) (i : TypeInfo) (z : Value) (size bytes : Nat) (ht : P.underlying t = some (.slice e)) (hi : P.info? e = some i) (hz : i.zero = some z)
    (hsize : i.size = size) (hby : i.bytes = bytes) (hzs : z.cells.size = size) (hsz : 0 < size)
    (v : Value) (n : Nat) (xs : List Value) (h : Row w e size v n xs)
    (a : Addr) (m c : Nat) (news : List Value) (hl : news.length = m * size) (hnews : ∀ j u, news[j]? = some u → w.cell? (a.add j) = some u) (h1 : ∀ u ∈ news, u.oneCell' = true)
    (hm : 0 < m) (h63 : n + m ≤ maxLen) (hbytes : (n + m) * bytes ≤ 140737488355328) :
    ∃ v' w', (Builtin.append_ #[t, t] ty #[v, .slice (some a) m c]).run P w = .ok v' w' ∧ Appd w w' e size v v' (n + m) (xs ++ news) := by
  rcases h.2 with ⟨rfl, rfl⟩ | ⟨g, o, cap, cs, rfl, hh, hn, hc, hs, htk⟩
  · have hx0 : xs = [] := by
      have := h.1
      rw [Nat.zero_mul] at this
      exact List.eq_nil_of_length_eq_zero this
    subst hx0
    obtain ⟨v', w', hr, ho, hg, _⟩ := run_append_own (P := P) (w := w) w.heap.size t ty e i z size bytes ht hi hz hsize hby hzs hsz _ 0 [] (World.ownsRow_nil w _ e size) a m c news hl hnews h1 h63 hbytes (Nat.le_refl _)
    obtain ⟨g, hg1, hg2⟩ := own_new ho (by omega)
    exact ⟨v', w', hr, Row.of_own ho, .inr ⟨g, hg1, hg2⟩, (Keep.refl _ w).grown hg (fun k hk _ => by cases hk)⟩
  · have hxl := h.1
    by_cases hroom : n + m ≤ cap
    · have hmul : (n + m) * size ≤ cap * size := Nat.mul_le_mul_right size hroom
      rw [Nat.add_mul] at hmul
      have hr := run_append_room_cells (P := P) w t ty e i ht hi g o n cap a m c news (by rw [hsize]; exact hl) hnews h1 hroom
        (fun j hj => by
          simp only [World.cell?, hh, hsize]
          rw [Array.getElem?_eq_getElem (by omega)]
          rfl)
        (fun j hj => by simp [World.frozen?, hh])
      rw [hsize] at hr
      refine ⟨_, _, hr, ⟨?_, .inr ⟨g, o, cap, _, rfl, heap_setCells (w := w) _ _ _ _ hh, hroom, hc, by rw [setL_size]; exact hs, ?_⟩⟩, .inl rfl, keep_setCells (S := fun b => some g = some b) (fun _ => rfl) _ _ _ (Keep.refl _ w)⟩
      · rw [List.length_append, hxl, hl, Nat.add_mul]
      · rw [Nat.add_mul]
        refine take_of_cells (by rw [List.length_append, hxl, hl]) (by rw [setL_size]; omega) fun q hq => ?_
        by_cases c1 : q < n * size
        · rw [setL_out _ _ _ _ (by omega), List.getElem?_append_left (by omega)]
          exact cells_of_take htk q c1
        · rw [List.getElem?_append_right (by omega), hxl, show o + q = o + n * size + (q - n * size) by omega, setL_in _ _ _ _ (by omega) (by omega)]
    · obtain ⟨v', w', hr, ho, hg⟩ := run_append_arg_grows (P := P) w t ty e i z size bytes ht hi hz hsize hby hzs hsz ⟨g, o, none⟩ n cap xs hxl (fun j u hu => by
        have := h.cell hu
        rw [Addr.add_mid]
        exact this) a m c news hl hnews (by omega) h63 hbytes
      obtain ⟨g', hg1, hg2⟩ := own_new ho (by omega)
      exact ⟨v', w', hr, Row.of_own ho, .inr ⟨g', hg1, hg2⟩, ((Keep.refl (fun _ => False) w).grown hg (fun k hk _ => by cases hk)).mono fun _ h _ => h.elim⟩
theorem wpList_append_row {w : World} {ops : Array Oper} {rest : List Oper} {o : Oper} {a : Act} {Q : Exit → Act → World → Prop}
    (hgd : o.guard = none) (s x : Operand) (t : TypeId) (ho : o.op = .call { callee := .builtin .append, args := #[s, x], argTypes := #[t, t] })
    (e : TypeId) (i : TypeInfo) (z : Value) (size bytes : Nat) (ht : P.underlying t = some (.slice e)) (hi : P.info? e = some i) (hz : i.zero = some z)
    (hsize : i.size = size) (hby : i.bytes = bytes) (hzs : z.cells.size = size) (hsz : 0 < size)
    (v : Value) (n : Nat) (xs : List Value) (hs : a.eval s = v) (h : Row w e size v n xs)
    (ad : Addr) (m c : Nat) (news : List Value) (hx : a.eval x = .slice (some ad) m c) (hl : news.length = m * size) (hnews : ∀ j u, news[j]? = some u → w.cell? (ad.add j) = some u) (h1 : ∀ u ∈ news, u.oneCell' = true)
    (hm : 0 < m) (h63 : n + m ≤ maxLen) (hbytes : (n + m) * bytes ≤ 140737488355328)
    (hK : ∀ v' w', Appd w w' e size v v' (n + m) (xs ++ news) → wpList P ops Q rest (a.put o.dst v') w') : wpList P ops Q (o :: rest) a w := by
  refine wpList_plain hgd fun K hK' => ?_
  obtain ⟨v', w', hr, hA⟩ := run_append_row (P := P) t o.type e i z size bytes ht hi hz hsize hby hzs hsz v n xs h ad m c news hl hnews h1 hm h63 hbytes
  unfold Oper.wp execOp
  simp only [ho, resolve, invoke, builtin, Sem.run_bind, Sem.run_pure, Result.andThen_ok, List.map_toArray, List.map_cons, List.map_nil, hs, hx, hr]
  exact hK' _ _ (hK v' w' hA)
theorem step_append_row {w : World} {ops : Array Oper} {o : Oper} {a : Act} {K : Act → World → Prop} {Q : Exit → Act → World → Prop} {E : Prop}
    (hgd : o.guard = none) (s x : Operand) (t : TypeId) (ho : o.op = .call { callee := .builtin .append, args := #[s, x], argTypes := #[t, t] })
    (e : TypeId) (i : TypeInfo) (z : Value) (size bytes : Nat) (ht : P.underlying t = some (.slice e)) (hi : P.info? e = some i) (hz : i.zero = some z)
    (hsize : i.size = size) (hby : i.bytes = bytes) (hzs : z.cells.size = size) (hsz : 0 < size)
    (v : Value) (n : Nat) (xs : List Value) (hs : a.eval s = v) (h : Row w e size v n xs)
    (ad : Addr) (m c : Nat) (news : List Value) (hx : a.eval x = .slice (some ad) m c) (hl : news.length = m * size) (hnews : ∀ j u, news[j]? = some u → w.cell? (ad.add j) = some u) (h1 : ∀ u ∈ news, u.oneCell' = true)
    (hm : 0 < m) (h63 : n + m ≤ maxLen) (hbytes : (n + m) * bytes ≤ 140737488355328)
    (hK : ∀ v' w', Appd w w' e size v v' (n + m) (xs ++ news) → K (a.put o.dst v') w') : if Region.wanted o (yielded ops a.tmps) = true then Oper.wp P o a w K Q else E := by
  have hw : Region.wanted o (yielded ops a.tmps) = true := by simp [Region.wanted, hgd]
  rw [if_pos hw]
  obtain ⟨v', w', hr, hA⟩ := run_append_row (P := P) t o.type e i z size bytes ht hi hz hsize hby hzs hsz v n xs h ad m c news hl hnews h1 hm h63 hbytes
  unfold Oper.wp execOp
  simp only [ho, resolve, invoke, builtin, Sem.run_bind, Sem.run_pure, Result.andThen_ok, List.map_toArray, List.map_cons, List.map_nil, hs, hx, hr]
  exact hK _ _ hA
end
end Go.Proofs.YtofonfohaocclaaGreatDoor

namespace Go.Proofs.YtofonfohaocclaaGreatDoor
open Go.RowKit Sh
open Go.ChangeMaps (setBlock)
set_option linter.unusedVariables false

section
variable {w w' w1 w2 : World} {b : Nat} {d : Det} {p : Parts}
theorem DSet.next {p1 : Parts} {d2 : Det} (hsub : ∀ k, p1.has b k → p.has b k ∨ w.heap.size ≤ k) (hk : Keep (p.has b) w w1) (h : DSet w1 w2 b p1 d2) : DSet w w2 b p d2 := by
  obtain ⟨p', h1, h2⟩ := h.ex
  refine ⟨⟨p', h1, fun k hk' => ?_⟩, hk.trans h.keep fun k hk' hlt => ?_⟩
  · rcases h2 k hk' with h3 | h3
    · exact hsub k h3
    · exact .inr (by have := hk.size; omega)
  · rcases hsub k hk' with h4 | h4
    · exact h4
    · omega
theorem IsDet.dset (h : IsDet w b d p) : DSet w w b p d := ⟨⟨p, h, fun _ h => .inl h⟩, Keep.refl _ w⟩
theorem IsDet.own_set (h : IsDet w b d p) (k1 : Keep (fun j => p.vw.ownBlock = some j ∨ p.ve.ownBlock = some j) w w1) (o : Nat) (x : Value) (d' : Det) (p' : Parts)
    (hc : detC p' d' = (detC p d).setIfInBounds o x) (e1 : p'.rb = p.rb) (e2 : p'.qm = p.qm) (e3 : p'.dm = p.dm) (e4 : d'.r = d.r) (e5 : d'.q = d.q) (e6 : d'.d = d.d) (e7 : d'.left = d.left) (e8 : p'.vl = p.vl)
    (hw : Row w1 96 4 p'.vw d'.ws.length (flat wtC d'.ws)) (he : Row w1 105 5 p'.ve d'.es.length (flat erC d'.es))
    (how : ∀ g, p'.vw.ownBlock = some g → p.vw.ownBlock = some g ∨ w.heap.size ≤ g) (hoe : ∀ g, p'.ve.ownBlock = some g → p.ve.ownBlock = some g ∨ w.heap.size ≤ g) :
    IsDet (w1.setCell ⟨b, o, none⟩ x) b d' p' ∧ (∀ k, p'.has b k → p.has b k ∨ w.heap.size ≤ k) ∧ Keep (p.has b) w (w1.setCell ⟨b, o, none⟩ x) := by
  have hb1 : w1.heap[b]? = some (.cells (detC p d) 48 (0, 0)) := k1.old h.blk fun hj => by
    rcases hj with hj | hj
    · exact (h.kb.ne (h.kw hj) (by decide)) rfl
    · exact (h.kb.ne (h.ke hj) (by decide)) rfl
  have e := heap_setCell_at hb1 o x
  rw [← hc] at e
  have kb : Keep (fun j => j = b) w1 (w1.setCell ⟨b, o, none⟩ x) := (Keep.refl _ w1).setAt _ _
  have kt : Keep (fun j => j = b ∨ p.vw.ownBlock = some j ∨ p.ve.ownBlock = some j) w (w1.setCell ⟨b, o, none⟩ x) := (k1.mono fun j hj _ => .inr hj).step (kb.mono fun j hj _ => .inl hj)
  have hbs : b < w.heap.size := h.lt ⟨.inl rfl⟩
  have hwb : ∀ g, p'.vw.ownBlock = some g → ¬ g = b := fun g hg he => by
    rcases how g hg with h1 | h1
    · exact (h.kw h1).ne h.kb (by decide) he
    · omega
  have heb : ∀ g, p'.ve.ownBlock = some g → ¬ g = b := fun g hg he => by
    rcases hoe g hg with h1 | h1
    · exact (h.ke h1).ne h.kb (by decide) he
    · omega
  refine ⟨h.set_own kt (fun j t hj h1 h2 h3 h4 h5 hjj => ?_) e e1 e2 e3 e4 e5 e6 ?_ (hw.keep kb hwb) (he.keep kb heb) fun k hk => ?_, fun k hk => ?_, kt.mono fun j hj _ => ?_⟩
  · rcases hjj with hjj | hjj | hjj
    · exact hj.ne h.kb h1 hjj
    · exact hj.ne (h.kw hjj) h4 rfl
    · exact hj.ne (h.ke hjj) h5 rfl
  · rw [e7, e8]
    refine h.left.keep kt fun g hg hj => ?_
    rcases hj with hj | hj | hj
    · exact (h.kl hg).ne h.kb (by decide) hj
    · exact (h.kl hg).ne (h.kw hj) (by decide) rfl
    · exact (h.kl hg).ne (h.ke hj) (by decide) rfl
  · rcases hk with hk | hk | hk
    · exact h.pos k ⟨.inr (.inr (.inl (e8 ▸ hk)))⟩
    · rcases how k hk with h1 | h1
      · exact h.pos k ⟨.inr (.inr (.inr (.inl h1)))⟩
      · omega
    · rcases hoe k hk with h1 | h1
      · exact h.pos k ⟨.inr (.inr (.inr (.inr (.inl h1))))⟩
      · omega
  · rcases hk.or with hj | hj | hj | hj | hj | hj | hj
    · exact .inl ⟨.inl hj⟩
    · exact .inl ⟨.inr (.inl (hj.trans e1))⟩
    · exact .inl ⟨.inr (.inr (.inl (e8 ▸ hj)))⟩
    · rcases how k hj with h1 | h1
      · exact .inl ⟨.inr (.inr (.inr (.inl h1)))⟩
      · exact .inr h1
    · rcases hoe k hj with h1 | h1
      · exact .inl ⟨.inr (.inr (.inr (.inr (.inl h1))))⟩
      · exact .inr h1
    · exact .inl ⟨.inr (.inr (.inr (.inr (.inr (.inl (e2 ▸ hj))))))⟩
    · exact .inl ⟨.inr (.inr (.inr (.inr (.inr (.inr (e3 ▸ hj))))))⟩
  · rcases hj with rfl | hj | hj
    · exact hb p _
    · exact ⟨.inr (.inr (.inr (.inl hj)))⟩
    · exact ⟨.inr (.inr (.inr (.inr (.inl hj))))⟩
/-- a cell of the detector alone turns. -/
theorem IsDet.set7 (h : IsDet w b d p) (s : Int) : IsDet (w.setCell ⟨b, 7, none⟩ (.int .u64 s)) b { d with seq := s } p :=
  (h.own_set (Keep.refl _ w) 7 _ { d with seq := s } p rfl rfl rfl rfl rfl rfl rfl rfl rfl h.ws h.es (fun _ h => .inl h) fun _ h => .inl h).1
theorem IsDet.set8 (h : IsDet w b d p) (s : Int) : IsDet (w.setCell ⟨b, 8, none⟩ (.int .u64 s)) b { d with now := s } p :=
  (h.own_set (Keep.refl _ w) 8 _ { d with now := s } p rfl rfl rfl rfl rfl rfl rfl rfl rfl h.ws h.es (fun _ h => .inl h) fun _ h => .inl h).1
theorem IsDet.set9 (h : IsDet w b d p) (s : Bool) : IsDet (w.setCell ⟨b, 9, none⟩ (.bool s)) b { d with gone := s } p :=
  (h.own_set (Keep.refl _ w) 9 _ { d with gone := s } p rfl rfl rfl rfl rfl rfl rfl rfl rfl h.ws h.es (fun _ h => .inl h) fun _ h => .inl h).1
theorem IsDet.keep_set (h : IsDet w b d p) (o : Nat) (x : Value) : Keep (p.has b) w (w.setCell ⟨b, o, none⟩ x) := ((Keep.refl (fun j => j = b) w).setAt _ _).mono fun j hj _ => by
  rw [hj]; exact hb p b
/-- the watches turn. -/
theorem IsDet.set_ws (h : IsDet w b d p) (k1 : Keep (fun j => p.vw.ownBlock = some j) w w1) {v' : Value} {l' : List Wt} (hr : Row w1 96 4 v' l'.length (flat wtC l')) (ho : ∀ g, v'.ownBlock = some g → p.vw.ownBlock = some g ∨ w.heap.size ≤ g) :
    IsDet (w1.setCell ⟨b, 5, none⟩ v') b { d with ws := l' } { p with vw := v' } ∧ (∀ k, ({ p with vw := v' } : Parts).has b k → p.has b k ∨ w.heap.size ≤ k) ∧ Keep (p.has b) w (w1.setCell ⟨b, 5, none⟩ v') :=
  h.own_set (k1.mono fun _ h _ => .inl h) 5 v' _ { p with vw := v' } rfl rfl rfl rfl rfl rfl rfl rfl rfl hr (h.es.keep k1 fun g hg hj => (h.ke hg).ne (h.kw hj) (by decide) rfl) ho fun _ h => .inl h
/-- the errands turn. -/
theorem IsDet.set_es (h : IsDet w b d p) (k1 : Keep (fun j => p.ve.ownBlock = some j) w w1) {v' : Value} {l' : List Er} (hr : Row w1 105 5 v' l'.length (flat erC l')) (ho : ∀ g, v'.ownBlock = some g → p.ve.ownBlock = some g ∨ w.heap.size ≤ g) :
    IsDet (w1.setCell ⟨b, 6, none⟩ v') b { d with es := l' } { p with ve := v' } ∧ (∀ k, ({ p with ve := v' } : Parts).has b k → p.has b k ∨ w.heap.size ≤ k) ∧ Keep (p.has b) w (w1.setCell ⟨b, 6, none⟩ v') :=
  h.own_set (k1.mono fun _ h _ => .inr h) 6 v' _ { p with ve := v' } rfl rfl rfl rfl rfl rfl rfl rfl rfl (h.ws.keep k1 fun g hg hj => (h.kw hg).ne (h.ke hj) (by decide) rfl) hr (fun _ h => .inl h) ho
end

-- notes
def ntC (x : Nt × Value) : List Value := [.int .i64 x.1.k, .int .i64 x.1.fr, .int .i64 x.1.dst, .int .u64 x.1.seq, .int .i64 x.1.fo, x.2]
structure NewsAt (w : World) (base : Nat) (x : Nt × Value) : Prop where
  own : w.ownsRow base 52 3 x.2 x.1.news.length (flat uC x.1.news)
structure OwnNts (w : World) (base : Nat) (v : Value) (L : List Nt) : Prop where
  ex : ∃ ps : List (Nt × Value), ps.map Prod.fst = L ∧ w.ownsRow base 62 6 v ps.length (flat ntC ps) ∧ ∀ x ∈ ps, NewsAt w base x
theorem own_typed {w : World} {base n : Nat} {e : TypeId} {size : Nat} {v : Value} {xs : List Value} (h : w.ownsRow base e size v n xs) {k : Nat} (hk : v.ownBlock = some k) : base ≤ k ∧ Kind w k (some e) := by
  rcases h.2 with ⟨hv, _⟩ | ⟨g, cap, cur, hv, hg, hh, r⟩
  · rw [hv] at hk; cases hk
  · rw [hv] at hk
    injection hk with hk
    subst hk
    exact ⟨hg, ⟨_, hh⟩⟩
theorem NewsAt.keep {S : Nat → Prop} {w w' : World} {base : Nat} {x : Nt × Value} (h : NewsAt w base x) (k : Keep S w w') (hS : ∀ j, base ≤ j → Kind w j (some 52) → ¬ S j) : NewsAt w' base x :=
  ⟨own_keepB h.own k fun g hg => hS g (own_typed h.own hg).1 (own_typed h.own hg).2⟩
theorem NewsAt.mono {w : World} {base base' : Nat} {x : Nt × Value} (h : NewsAt w base x) (hb : base' ≤ base) : NewsAt w base' x := ⟨own_mono h.own hb⟩
theorem OwnNts.keep {S : Nat → Prop} {w w' : World} {base : Nat} {v : Value} {L : List Nt} (h : OwnNts w base v L) (k : Keep S w w') (hS : ∀ j t, base ≤ j → Kind w j (some t) → t = 52 ∨ t = 62 → ¬ S j) : OwnNts w' base v L := by
  obtain ⟨ps, h1, h2, h3⟩ := h.ex
  exact ⟨ps, h1, own_keepB h2 k fun g hg => hS g 62 (own_typed h2 hg).1 (own_typed h2 hg).2 (.inr rfl), fun x hx => (h3 x hx).keep k fun j hj hk => hS j 52 hj hk (.inl rfl)⟩
theorem OwnNts.mono {w : World} {base base' : Nat} {v : Value} {L : List Nt} (h : OwnNts w base v L) (hb : base' ≤ base) : OwnNts w base' v L := by
  obtain ⟨ps, h1, h2, h3⟩ := h.ex
  exact ⟨ps, h1, own_mono h2 hb, fun x hx => (h3 x hx).mono hb⟩
theorem OwnNts.nil (w : World) (base : Nat) : OwnNts w base (.slice none 0 0) [] := ⟨[], rfl, World.ownsRow_nil _ _ _ _, fun _ h => by cases h⟩
theorem OwnNts.keep0 {w w' : World} {base : Nat} {v : Value} {L : List Nt} (h : OwnNts w base v L) (k : Keep (fun _ => False) w w') : OwnNts w' base v L := h.keep k fun _ _ _ _ _ h => h
theorem OwnNts.keepD {w w' : World} {base b : Nat} {d : Det} {p : Parts} {v : Value} {L : List Nt} (h : OwnNts w base v L) (hd : IsDet w b d p) (k : Keep (p.has b) w w') : OwnNts w' base v L :=
  h.keep k fun j t hj hk ht hp => by
    obtain ⟨t', h1, h2, h3, h4, h5⟩ := hd.khas hp
    rcases ht with rfl | rfl
    · exact h1.ne hk h4 rfl
    · exact h1.ne hk h5 rfl
theorem ntC_one {w : World} {base : Nat} {x : Nt × Value} (h : NewsAt w base x) : ∀ u ∈ ntC x, u.oneCell' = true := by
  obtain ⟨A, c, hv⟩ := own_shape h.own
  intro u hu
  simp only [ntC, List.mem_cons, List.not_mem_nil, or_false] at hu
  rcases hu with rfl | rfl | rfl | rfl | rfl | rfl
  all_goals first | rfl | (rw [hv]; rfl)
theorem own_note {W : World} {base : Nat} {x : Nt × Value} (h : NewsAt W base x) (hb : base ≤ W.heap.size) : OwnNts (W.alloc (.cells #[.int .i64 x.1.k, .int .i64 x.1.fr, .int .i64 x.1.dst, .int .u64 x.1.seq, .int .i64 x.1.fo, x.2] 62)) base (.slice (some ⟨W.heap.size, 0, none⟩) 1 1) [x.1] := by
  refine ⟨[x], rfl, ?_, fun y hy => ?_⟩
  · exact World.ownsRow_lit W #[.int .i64 x.1.k, .int .i64 x.1.fr, .int .i64 x.1.dst, .int .u64 x.1.seq, .int .i64 x.1.fo, x.2] 1 hb (by decide) rfl
  · rw [List.mem_singleton] at hy
    subst hy
    exact h.keep ((Keep.refl (fun _ => False) W).alloc _) fun _ _ _ h => h
structure NSet (w w' : World) (b : Nat) (p : Parts) (v : Value) (r : Det × List Nt) : Prop where
  own : OwnNts w' w.heap.size v r.2
  set : DSet w w' b p r.1
end Go.Proofs.YtofonfohaocclaaGreatDoor

namespace Go.Proofs.YtofonfohaocclaaGreatDoor
open Go.RowKit Sh
open Go.ChangeMaps (setBlock)
set_option linter.unusedVariables false

theorem slice_lh46 (A : Option Addr) (n c : Nat) (l h : Int) (h0 : 0 ≤ l) (h1 : l ≤ h) (h2 : h ≤ c) (W : World) :
    (Instr.slice 46 (.slice A n c) (some (.int .i64 l)) (some (.int .i64 h)) none).run Tryz.prog W = .ok (sliced A l.toNat h.toNat c 5) W := by
  have e1 : Tryz.prog.elem 46 = 105 := by simp [Program.elem, Tryz.underlying46]
  rw [run_slice_lh W 46 A n c (by rw [e1]; exact Tryz.underlying46) .i64 .i64 l h h0 h1 h2, e1, Tryz.sizeOf105]
  rfl
theorem slice_lhm46 (A : Option Addr) (n c : Nat) (l h m : Int) (h0 : 0 ≤ l) (h1 : l ≤ h) (h2 : h ≤ m) (h3 : m ≤ c) (W : World) :
    (Instr.slice 46 (.slice A n c) (some (.int .i64 l)) (some (.int .i64 h)) (some (.int .i64 m))).run Tryz.prog W = .ok (sliced A l.toNat h.toNat m.toNat 5) W := by
  have e1 : Tryz.prog.elem 46 = 105 := by simp [Program.elem, Tryz.underlying46]
  rw [run_slice_lhm W 46 A n c (by rw [e1]; exact Tryz.underlying46) .i64 .i64 .i64 l h m h0 h1 h2 h3, e1, Tryz.sizeOf105]
  rfl
theorem slice_h46 (A : Option Addr) (n c : Nat) (h : Int) (h0 : 0 ≤ h) (h2 : h ≤ c) (W : World) :
    (Instr.slice 46 (.slice A n c) none (some (.int .i64 h)) none).run Tryz.prog W = .ok (.slice A h.toNat c) W := by
  have e1 : Tryz.prog.elem 46 = 105 := by simp [Program.elem, Tryz.underlying46]
  rw [run_slice_h W 46 A n c (by rw [e1]; exact Tryz.underlying46) .i64 h h0 h2]
  have e2 : (sizeOf (Tryz.prog.elem 46)).run Tryz.prog W = .ok 5 W := by rw [e1, Tryz.sizeOf105]
  rw [e2]
  by_cases hc : c = 0 <;> simp [Result.andThen, sliced, hc, Addr.add]
theorem app_off {W : World} {g o i N cc : Nat} {cs : Array Value} {news : List Value} (hh : W.heap[g]? = some (.cells cs 105 (0, 0))) (hi : i < N) (hN : N ≤ cc) (hs : o + cc * 5 ≤ cs.size) (hl : news.length = (N - (i + 1)) * 5) (hn : ∀ j u, news[j]? = some u → cs[o + (i + 1) * 5 + j]? = some u) (h1 : ∀ u ∈ news, u.oneCell' = true) (ty : TypeId) :
    (Builtin.append_ #[46, 46] ty #[.slice (some ⟨g, o, none⟩) i cc, sliced (some ⟨g, o, none⟩) (i + 1) N cc 5]).run Tryz.prog W = .ok (.slice (some ⟨g, o, none⟩) (N - 1) cc) (W.setCells g (o + i * 5) news) := by
  obtain ⟨i5, h5⟩ : ∃ i5, Info 105 (.agg #[.int .i64 0, .int .u64 0, .int .u64 0, .int .i64 0, .int .u64 0]) 5 40 i5 := Info.of (by kernel_rfl)
  obtain ⟨a, ha1, ha2⟩ : ∃ a : Addr, sliced (some ⟨g, o, none⟩) (i + 1) N cc 5 = .slice (some a) (N - (i + 1)) (cc - (i + 1)) ∧ (i + 1 < cc → a = ⟨g, o + (i + 1) * 5, none⟩) := by
    unfold sliced
    by_cases hc : cc = i + 1
    · rw [if_pos hc]
      exact ⟨_, rfl, fun h => by omega⟩
    · rw [if_neg hc]
      exact ⟨_, rfl, fun _ => Addr.add_mid _ _ _⟩
  rw [ha1]
  have hc5 : (i + (N - (i + 1))) * 5 ≤ cc * 5 := Nat.mul_le_mul_right 5 (by omega)
  have hsz := h5.size
  have hr := run_append_room_cells (P := Tryz.prog) W 46 ty 105 i5 Tryz.underlying46 h5.has g o i cc a (N - (i + 1)) (cc - (i + 1)) news (by rw [hsz]; exact hl) (fun j u hu => by
      have hj : j < (N - (i + 1)) * 5 := by rw [← hl]; exact (List.getElem?_eq_some_iff.1 hu).1
      rw [ha2 (by omega), Addr.add_mid]
      simp only [World.cell?, hh]
      exact hn j u hu) h1 (by omega) (fun j hj => by
      simp only [World.cell?, hh, hsz]
      rw [Array.getElem?_eq_getElem (by omega)]
      rfl) (fun j hj => by simp [World.frozen?, hh])
  rw [hsz, show i + (N - (i + 1)) = N - 1 by omega] at hr
  exact hr
theorem step_append_run {P : Program} {w : World} {ops : Array Oper} {o : Oper} {a : Act} {K : Act → World → Prop} {Q : Exit → Act → World → Prop} {E : Prop} (hgd : o.guard = none) (s x : Operand) (t : TypeId)
    (ho : o.op = .call { callee := .builtin .append, args := #[s, x], argTypes := #[t, t] }) (v v2 v' : Value) (w' : World) (hs : a.eval s = v) (hx : a.eval x = v2)
    (hr : (Builtin.append_ #[t, t] o.type #[v, v2]).run P w = .ok v' w') (h : K (a.put o.dst v') w') : if Region.wanted o (yielded ops a.tmps) = true then Oper.wp P o a w K Q else E := by
  have hw : Region.wanted o (yielded ops a.tmps) = true := by simp [Region.wanted, hgd]
  rw [if_pos hw]
  unfold Oper.wp execOp
  simp only [ho, resolve, invoke, builtin, Sem.run_bind, Sem.run_pure, Result.andThen_ok, List.map_toArray, List.map_cons, List.map_nil, hs, hx, hr]
  exact h
set_option maxRecDepth 100000 in
set_option maxHeartbeats 2000000 in
theorem delete_er {w : World} {v : Value} {l : List Er} (i : Nat) (hi : i < l.length) (h : Row w 105 5 v l.length (flat erC l)) (hl : l.length < 4611686018427387904) :
    Calls Tryz.prog 99 #[v, .int .i64 (i : Int), .int .i64 ((i : Int) + 1)] w fun e w' => ∃ v', e = .returned v' ∧ v'.ownBlock = v.ownBlock ∧ Row w' 105 5 v' (l.eraseIdx i).length (flat erC (l.eraseIdx i)) ∧ Keep (fun b => v.ownBlock = some b) w w' := by
  obtain ⟨g, o, cc, cs, rfl, hh, hn, hc, hs, htk⟩ := h.pos (by omega)
  obtain ⟨N, hN⟩ : ∃ N, N = l.length := ⟨_, rfl⟩
  have hN5 : N * 5 ≤ cc * 5 := Nat.mul_le_mul_right 5 (by omega)
  have hcells : ∀ t, t < N * 5 → cs[o + t]? = (flat erC l)[t]? := fun t ht => cells_of_take htk t (by rw [← hN]; exact ht)
  have hlen := flat_len (k := 5) erC (fun _ => rfl) l
  have ht1 : (flat erC (l.take i)).length = i * 5 := by rw [flat_len (k := 5) erC (fun _ => rfl), List.length_take]; congr 1; omega
  have ht2 : (flat erC (l.take (i + 1))).length = (i + 1) * 5 := by rw [flat_len (k := 5) erC (fun _ => rfl), List.length_take]; congr 1; omega
  have ht3 : (flat erC (l.drop (i + 1))).length = (N - (i + 1)) * 5 := by rw [flat_len (k := 5) erC (fun _ => rfl), List.length_drop, hN]
  have e1 : flat erC l = flat erC (l.take i) ++ flat erC (l.drop i) := by rw [← flat_append, List.take_append_drop]
  have e2 : flat erC l = flat erC (l.take (i + 1)) ++ flat erC (l.drop (i + 1)) := by rw [← flat_append, List.take_append_drop]
  have hone : ∀ u ∈ flat erC (l.drop (i + 1)), u.oneCell' = true := by
    intro u hu
    unfold flat at hu
    obtain ⟨x, _, hx⟩ := List.mem_flatMap.1 hu
    exact er_one x u hx
  have hnews : ∀ j u, (flat erC (l.drop (i + 1)))[j]? = some u → cs[o + (i + 1) * 5 + j]? = some u := fun j u hu => by
    have hj : j < (N - (i + 1)) * 5 := by rw [← ht3]; exact (List.getElem?_eq_some_iff.1 hu).1
    have hm : (i + 1) * 5 + (N - (i + 1)) * 5 = N * 5 := by rw [← Nat.add_mul]; congr 1; omega
    rw [Nat.add_assoc, hcells _ (by omega), e2, List.getElem?_append_right (by omega), ht2, show (i + 1) * 5 + j - (i + 1) * 5 = j by omega]
    exact hu
  -- the worlds
  have HAP := fun ty => app_off (W := w.drew) (g := g) (o := o) (i := i) (N := N) (cc := cc) (news := flat erC (l.drop (i + 1))) hh (by omega) (by omega) hs ht3 hnews hone ty
  have hg1 : (w.drew.setCells g (o + i * 5) (flat erC (l.drop (i + 1)))).heap[g]? = some (.cells (setL cs (o + i * 5) (flat erC (l.drop (i + 1)))) 105 (0, 0)) := heap_setCells (w := w.drew) _ _ _ _ hh
  obtain ⟨W1, hW1⟩ : ∃ W1, W1 = w.drew.setCells g (o + i * 5) (flat erC (l.drop (i + 1))) := ⟨_, rfl⟩
  have hk1 : Keep (fun b => b = g) w W1 := by rw [hW1]; exact ((Keep.refl _ w).drew).step (keep_setCells (S := fun b => b = g) (fun _ => rfl) _ _ _ (Keep.refl _ _))
  rw [← hW1] at HAP hg1
  clear hW1
  obtain ⟨wf, hclr, ⟨cs2, hh2, hsz3, hag⟩, hkf⟩ := clear_tail (W := W1) 46 105 0 _ Tryz.underlying46 zero_er (k := 5) zsize_er zone_er hg1 (i := N - 1) (n := N) (c := cc) (by omega) (by omega) (by rw [setL_size]; exact hs)
  have HFIN : Hid (Row wf 105 5 (.slice (some ⟨g, o, none⟩) (N - 1) cc) (l.eraseIdx i).length (flat erC (l.eraseIdx i)) ∧ Keep (fun b => b = g) w wf) := Lib.hid (by
    refine ⟨?_, hk1.step hkf⟩
    have hle : (l.eraseIdx i).length = N - 1 := by rw [List.length_eraseIdx_of_lt hi, hN]
    rw [hle]
    have hfe : flat erC (l.eraseIdx i) = flat erC (l.take i) ++ flat erC (l.drop (i + 1)) := by rw [List.eraseIdx_eq_take_drop_succ, flat_append]
    have hm1 : i * 5 + (N - (i + 1)) * 5 = (N - 1) * 5 := by rw [← Nat.add_mul]; congr 1; omega
    have hm2 : (N - 1) * 5 ≤ N * 5 := Nat.mul_le_mul_right 5 (by omega)
    have hlf : (flat erC (l.take i) ++ flat erC (l.drop (i + 1))).length = (N - 1) * 5 := by rw [List.length_append, ht1, ht3, hm1]
    rw [hfe]
    refine ⟨hlf, .inr ⟨g, o, cc, cs2, rfl, hh2, by omega, hc, by rw [hsz3, setL_size]; exact hs, ?_⟩⟩
    refine take_of_cells hlf (by rw [hsz3, setL_size]; omega) fun t ht => ?_
    rw [hag _ (by omega)]
    by_cases c1 : t < i * 5
    · rw [setL_out _ _ _ _ (by omega), hcells _ (by omega), e1, List.getElem?_append_left (by omega), List.getElem?_append_left (by omega)]
    · rw [List.getElem?_append_right (by omega), ht1, show o + t = o + i * 5 + (t - i * 5) by omega, setL_in _ _ _ _ (by omega) (by omega)])
  have q1 := slice_lhm46 (some ⟨g, o, none⟩) N cc (i : Int) ((i : Int) + 1) (N : Int) (by omega) (by omega) (by omega) (by omega)
  have q2 := slice_h46 (some ⟨g, o, none⟩) N cc (i : Int) (by omega) (by omega)
  have q3 := slice_from 46 105 Tryz.underlying46 5 Tryz.sizeOf105 (some ⟨g, o, none⟩) N cc ((i : Int) + 1) (by omega) (by omega)
  have q4 := slice_lh46 (some ⟨g, o, none⟩) (N - 1) cc ((N - 1 : Nat) : Int) (N : Int) (by omega) (by omega) (by omega)
  have en : ((i : Int) + 1).toNat = i + 1 := by omega
  rw [Int.toNat_natCast] at q1 q2 q4
  rw [en] at q3
  rw [Int.toNat_natCast] at q4
  have d1 : ((i : Int) == (i : Int) + 1) = false := by rw [beq_eq_false_iff_ne]; omega
  have d2 : decide ((i : Int) = (i : Int) + 1) = false := decide_eq_false (by omega)
  generalize sliced (some ⟨g, o, none⟩) i ((i : Int) + 1).toNat (N : Int).toNat 5 = s1 at q1
  generalize sliced (some ⟨g, o, none⟩) (i + 1) N cc 5 = s2 at q3 HAP
  generalize sliced (some ⟨g, o, none⟩) (N - 1) N cc 5 = s4 at q4 hclr
  rw [← hN]
  have HAP0 := HAP 46
  clear hh hn hc hs htk hN5 hcells hlen ht1 ht2 ht3 e1 e2 hone hnews HAP hg1 hk1 hh2 hsz3 hag hkf en hN h hi hl
  generalize (N - 1 : Nat) = N1 at *
  go_enter Tryz.func99, Tryz.ntmps99
  go_wp2_with fail
  go_region_law (refine step_append_run (by rfl) _ _ _ (by rfl) _ _ _ _ (by rfl) (by rfl) HAP0 ?_)
  all_goals
    go_wp2_with fail
    go_ret
    exact ⟨_, rfl, rfl, HFIN.out.1, HFIN.out.2.mono fun b h _ => by rw [h]; rfl⟩
end Go.Proofs.YtofonfohaocclaaGreatDoor
