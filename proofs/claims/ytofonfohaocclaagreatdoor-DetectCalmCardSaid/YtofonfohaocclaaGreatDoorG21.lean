/- Walks of Detector.many and raise. What stays so of a detector's parts. Worlds that a drawn region meets; a detector and its lots. -/
import Derived.Test.YtofonfohaocclaaGreatDoorG20
namespace Go.Proofs.YtofonfohaocclaaGreatDoor
open Go.RowKit Sh
open Go.ChangeMaps (setBlock)
set_option linter.unusedVariables false

section
variable {w : World} {b : Nat} {d : Det} {p : Parts}
theorem IsDet.c (h : IsDet w b d p) (o : Nat) {v : Value} (hv : (detC p d)[o]? = some v) : w.cell? ⟨b, o, none⟩ = some v := by
  simp only [World.cell?, h.blk]
  exact hv
theorem IsDet.c0 (h : IsDet w b d p) : w.cell? ⟨b, 0, none⟩ = some (.pointer (some ⟨p.rb, 0, none⟩)) := h.c 0 rfl
theorem IsDet.c1 (h : IsDet w b d p) : w.cell? ⟨b, 1, none⟩ = some p.vl := h.c 1 rfl
theorem IsDet.c2 (h : IsDet w b d p) : w.cell? ⟨b, 2, none⟩ = some (.int .i64 d.r.me) := h.c 2 rfl
theorem IsDet.c5 (h : IsDet w b d p) : w.cell? ⟨b, 5, none⟩ = some p.vw := h.c 5 rfl
theorem IsDet.c6 (h : IsDet w b d p) : w.cell? ⟨b, 6, none⟩ = some p.ve := h.c 6 rfl
theorem IsDet.c7 (h : IsDet w b d p) : w.cell? ⟨b, 7, none⟩ = some (.int .u64 d.seq) := h.c 7 rfl
theorem IsDet.c8 (h : IsDet w b d p) : w.cell? ⟨b, 8, none⟩ = some (.int .u64 d.now) := h.c 8 rfl
theorem IsDet.c9 (h : IsDet w b d p) : w.cell? ⟨b, 9, none⟩ = some (.bool d.gone) := h.c 9 rfl
end
structure LOk (l : List Int) : Prop where
  nod : l.Nodup
  rng : ∀ x ∈ l, 0 ≤ x ∧ x < 64
structure DetOk (x : Det) : Prop where
  left : LOk x.left
  r : RolOk x.r
  q : QOk x.q
  d : DOk x.d
  now : 0 ≤ x.now ∧ x.now < 18446744073709551616
  seq : 0 ≤ x.seq ∧ x.seq < 18446744073709551616
theorem many_bd (d : Det) : 0 ≤ d.many ∧ d.many ≤ 64 := by
  have := bMany_le d.r.live
  unfold Det.many
  omega
theorem dmany_any {w : World} {b : Nat} {d : Det} {p : Parts} (h : IsDet w b d p) (ho : DetOk d) (hT : TabAt 0 B.tabS w) :
    Calls Tryz.prog 83 #[.pointer (some ⟨b, 0, none⟩)] w fun e w' => e = .returned (.int .i64 d.many) ∧ Keep (fun _ => False) w w' := by
  have HV := Lib.hid (rlive_any h.rol ho.r hT)
  have HM := Lib.hid (fun W => many_all d.r.live (live_lt d.r) W)
  have c0 := h.c0
  clear h ho hT
  unfold Det.many
  generalize d.r.live = lv at *
  go_enter Tryz.func83, Tryz.ntmps83
  go_wp2_with fail
  refine HV.out.mono ?_
  rintro e w1 ⟨rfl, hk⟩
  have HK := Lib.hid hk
  clear hk
  go_wp2_with fail
  refine (HM.out _).mono ?_
  rintro e w' ⟨rfl, rfl⟩
  go_wp2
  go_ret
  exact ⟨rfl, HK.out⟩

theorem Sh.Keep.cellS {S : Nat → Prop} {w w' : World} (k : Keep S w w') {a : Addr} {v : Value} (h : w.cell? a = some v) (hn : ¬ S a.block) : w'.cell? a = some v :=
  (World.cell?_of_block (k.block a.block (World.block_lt_of_cell? w a h) hn)).trans h
structure DSet (w w' : World) (b : Nat) (p : Parts) (d' : Det) : Prop where
  ex : ∃ p', IsDet w' b d' p' ∧ ∀ k, p'.has b k → p.has b k ∨ w.heap.size ≤ k
  keep : Keep (p.has b) w w'
theorem NewMap.has_q {w : World} {b : Nat} {p : Parts} {mb' : Option Nat} (h : NewMap w p.qm mb') {k : Nat} (hk : ({ p with qm := mb' } : Parts).has b k) : p.has b k ∨ w.heap.size ≤ k := by
  rcases hk.or with hj | hj | hj | hj | hj | hj | hj
  · exact .inl ⟨.inl hj⟩
  · exact .inl ⟨.inr (.inl hj)⟩
  · exact .inl ⟨.inr (.inr (.inl hj))⟩
  · exact .inl ⟨.inr (.inr (.inr (.inl hj)))⟩
  · exact .inl ⟨.inr (.inr (.inr (.inr (.inl hj))))⟩
  · rcases h.or with h2 | ⟨_, B, h2, hB⟩
    · exact .inl ⟨.inr (.inr (.inr (.inr (.inr (.inl (h2 ▸ hj))))))⟩
    · have e : some B = some k := h2.symm.trans hj
      injection e with e
      exact .inr (by omega)
  · exact .inl ⟨.inr (.inr (.inr (.inr (.inr (.inr hj)))))⟩
theorem NewMap.has_d {w : World} {b : Nat} {p : Parts} {mb' : Option Nat} (h : NewMap w p.dm mb') {k : Nat} (hk : ({ p with dm := mb' } : Parts).has b k) : p.has b k ∨ w.heap.size ≤ k := by
  rcases hk.or with hj | hj | hj | hj | hj | hj | hj
  · exact .inl ⟨.inl hj⟩
  · exact .inl ⟨.inr (.inl hj)⟩
  · exact .inl ⟨.inr (.inr (.inl hj))⟩
  · exact .inl ⟨.inr (.inr (.inr (.inl hj)))⟩
  · exact .inl ⟨.inr (.inr (.inr (.inr (.inl hj))))⟩
  · exact .inl ⟨.inr (.inr (.inr (.inr (.inr (.inl hj)))))⟩
  · rcases h.or with h2 | ⟨_, B, h2, hB⟩
    · exact .inl ⟨.inr (.inr (.inr (.inr (.inr (.inr (h2 ▸ hj))))))⟩
    · have e : some B = some k := h2.symm.trans hj
      injection e with e
      exact .inr (by omega)
section
variable {w w' : World} {b : Nat} {d : Det} {p : Parts}
theorem DSet.of_q (h : IsDet w b d p) {mb' : Option Nat} {M : List Q.It} (k : Keep (Q.QS (qL b p d) p.qm) w w') (hq : Q.IsQ w' ((qL b p d).to (.map mb')) mb' M) (hN : NewMap w p.qm mb') : DSet w w' b p { d with q := M } :=
  ⟨⟨_, h.set_q k hq hN, fun k hk => hN.has_q hk⟩, k.mono fun j hj _ => by
    rcases hj with hj | hj
    · exact ⟨.inl hj⟩
    · exact ⟨.inr (.inr (.inr (.inr (.inr (.inl hj)))))⟩⟩
theorem DSet.of_d (h : IsDet w b d p) {M : List D.Db} (hr : Raised w w' (dL b p d) p.dm M) : DSet w w' b p { d with d := M } := by
  obtain ⟨mb', hq, hN⟩ := hr.ex
  exact ⟨⟨_, h.set_d hr.keep hq hN, fun k hk => hN.has_d hk⟩, hr.keep.mono fun j hj _ => by
    rcases hj with hj | hj
    · exact ⟨.inl hj⟩
    · exact ⟨.inr (.inr (.inr (.inr (.inr (.inr hj)))))⟩⟩
theorem DSet.same (h : IsDet w b d p) (k : Keep (fun _ => False) w w') : DSet w w' b p d := ⟨⟨p, h.keep0 k, fun _ h => .inl h⟩, k.mono fun _ h _ => h.elim⟩
theorem DSet.after {w0 : World} {d' : Det} (h : DSet w w' b p d') (k : Keep (fun _ => False) w0 w) : DSet w0 w' b p d' := by
  obtain ⟨p', h1, h2⟩ := h.ex
  exact ⟨⟨p', h1, fun j hj => by
    rcases h2 j hj with h | h
    · exact .inl h
    · exact .inr (by have := k.size; omega)⟩, (k.mono fun _ h _ => h.elim).step h.keep⟩
theorem DSet.before {w2 : World} {d' : Det} (h : DSet w w' b p d') (k : Keep (fun _ => False) w' w2) : DSet w w2 b p d' := by
  obtain ⟨p', h1, h2⟩ := h.ex
  exact ⟨⟨p', h1.keep0 k, h2⟩, h.keep.step (k.mono fun _ h _ => h.elim)⟩
end

set_option maxRecDepth 100000 in
set_option maxHeartbeats 2000000 in
theorem draise_det {w : World} {b : Nat} {d : Det} {p : Parts} (h : IsDet w b d p) (ho : DetOk d) (hT : TabAt 0 B.tabS w) (u : Up) (fr : Int) :
    Calls Tryz.prog 74 #[.pointer (some ⟨b, 0, none⟩), uV u, .int .i64 fr] w fun e w' => e = .returned (.tuple #[]) ∧ DSet w w' b p (d.raise u fr) := by
  have HE : Hid (d.raise u fr = { d with d := draise d.d u fr d.now d.many }) := Lib.hid rfl
  have HM := Lib.hid (fun W (k : Keep (fun _ => False) w W) => dmany_any (h.keep0 k) ho (B.tab_keep hT k id))
  have HR := Lib.hid (fun W (k : Keep (fun _ => False) w W) => draise_any (h.keep0 k).d ho.d u fr d.now d.many ho.now (by have := many_bd d; omega) (by have := many_bd d; omega))
  have HS := Lib.hid (fun W (k : Keep (fun _ => False) w W) => h.keep0 k)
  have HLT : Hid (¬ p.has b w.heap.size) := Lib.hid (fun hk => absurd (h.lt hk) (by omega))
  have c8 := h.c8
  obtain ⟨n, i, s⟩ := u
  unfold uV at HR ⊢
  have k0 := (Keep.refl (fun _ => False) w).alloc (.cells #[.int .i64 n, .int .u64 i, .int .i64 s] 52)
  have hb := h.lt (hb p b)
  clear h ho hT
  generalize d.raise ⟨n, i, s⟩ fr = dr at *
  have a0 : (w.alloc (.cells #[.int .i64 n, .int .u64 i, .int .i64 s] 52)).cell? ⟨w.heap.size, 0, none⟩ = some (.int .i64 n) := Q.cell_new rfl rfl
  have a1 : (w.alloc (.cells #[.int .i64 n, .int .u64 i, .int .i64 s] 52)).cell? ⟨w.heap.size, 1, none⟩ = some (.int .u64 i) := Q.cell_new rfl rfl
  have a2 : (w.alloc (.cells #[.int .i64 n, .int .u64 i, .int .i64 s] 52)).cell? ⟨w.heap.size, 2, none⟩ = some (.int .i64 s) := Q.cell_new rfl rfl
  have a8 := k0.cell c8
  clear c8
  go_enter Tryz.func74, Tryz.ntmps74
  go_upto_region 1 with fail
  obtain ⟨w0, hw0⟩ : ∃ w0, w0 = w.alloc (.cells #[.int .i64 n, .int .u64 i, .int .i64 s] 52) := ⟨_, rfl⟩
  rw [← hw0] at k0 a0 a1 a2 a8 ⊢
  clear hw0
  go_region_held3 (fun W => W.cell? ⟨w.heap.size, 0, none⟩ = some (.int .i64 n) ∧ W.cell? ⟨w.heap.size, 1, none⟩ = some (.int .u64 i) ∧ W.cell? ⟨w.heap.size, 2, none⟩ = some (.int .i64 s) ∧ W.cell? ⟨b, 8, none⟩ = some (.int .u64 d.now)) (first | assumption | exact ⟨a0, a1, a2, a8⟩) (first | (go_at_call 83; refine (HM.out _ k0.drew).mono ?_; rintro e w1 ⟨rfl, hk1⟩; have s1 := And.intro (hk1.cell a0) (And.intro (hk1.cell a1) (And.intro (hk1.cell a2) (hk1.cell a8)))) | (go_at_call 119; refine (HR.out _ (k0.drew.step hk1)).mono ?_; rintro e w2 ⟨x1, x2, rfl, hr⟩; have hd := DSet.of_d (HS.out _ (k0.drew.step hk1)) hr; obtain ⟨p', hp', _⟩ := hd.ex; have s2 := And.intro (hd.keep.cellS s1.1 HLT.out) (And.intro (hd.keep.cellS s1.2.1 HLT.out) (And.intro (hd.keep.cellS s1.2.2.1 HLT.out) hp'.c8))))
  all_goals
    have HD := Lib.hid (hd.after (k0.drew.step hk1))
    clear s1 s2 hd hr hp' hk1 k0 a0 a1 a2 a8
    go_wp2
    go_end0
    exact ⟨rfl, by rw [HE.out]; exact HD.out⟩
end Go.Proofs.YtofonfohaocclaaGreatDoor

namespace Go.Proofs.YtofonfohaocclaaGreatDoor
open Go.RowKit Sh
set_option linter.unusedVariables false

theorem nod_len : ∀ (n : Nat) (l : List Nat), l.Nodup → (∀ x ∈ l, x < n) → l.length ≤ n
  | 0, l, _, h => by
    cases l with
    | nil => simp
    | cons a l => exact absurd (h a (by simp)) (by omega)
  | n + 1, l, hn, h => by
    have h1 := nod_len n (l.erase n) (hn.erase n) fun x hx => by
      have h2 := h x (List.mem_of_mem_erase hx)
      have : x ≠ n := fun e => by subst e; exact absurd hx (List.Nodup.not_mem_erase hn)
      omega
    have h3 : l.length ≤ (l.erase n).length + 1 := by rw [List.length_erase]; split <;> omega
    omega
theorem nod_len_int {l : List Int} (hn : l.Nodup) (h : ∀ x ∈ l, 0 ≤ x ∧ x < 64) : l.length ≤ 64 := by
  have h1 : (l.map Int.toNat).Nodup := by
    unfold List.Nodup at hn ⊢
    rw [List.pairwise_map]
    refine List.Pairwise.imp_of_mem (fun {a b} ha hb hab => ?_) hn
    have := h a ha
    have := h b hb
    omega
  have := nod_len 64 (l.map Int.toNat) h1 fun x hx => by
    obtain ⟨y, hy, rfl⟩ := List.mem_map.1 hx
    have := h y hy
    omega
  simpa using this
-- the roll
theorem put_ok {r : Rol} (h : RolOk r) (u : Up) : RolOk (r.put u) := ⟨h.me, bWith_lt h.has _⟩
theorem hear_ok {r : Rol} (h : RolOk r) (u : Up) : RolOk (r.hear u).1 := by
  unfold Rol.hear
  repeat' split
  all_goals first
    | exact h
    | exact put_ok h _
theorem hear_me (r : Rol) (u : Up) : (r.hear u).1.me = r.me := by
  unfold Rol.hear
  repeat' split
  all_goals rfl
theorem hear_err {r : Rol} {u : Up} (h : (r.hear u).2.2 ≠ 0) : (r.hear u).1 = r := by
  unfold Rol.hear at h ⊢
  by_cases c1 : Q.mayU u.n u.s = false
  · rw [if_pos c1]
  · rw [if_neg c1] at h ⊢
    by_cases c2 : u.n = r.me
    · rw [if_pos c2] at h ⊢
      by_cases c3 : Q.newI u.i u.s r.mine.i 0 = false
      · rw [if_pos c3]
      · rw [if_neg c3] at h ⊢
        by_cases c4 : u.i = 18446744073709551615
        · rw [if_pos c4]
        · rw [if_neg c4] at h
          exact absurd rfl h
    · rw [if_neg c2] at h ⊢
      cases c3 : (bHas r.has u.n && !Q.newI u.i u.s (r.at u.n).i (r.at u.n).s)
      · rw [c3] at h
        exact absurd rfl h
      · rfl
-- rumors
theorem qputL_nod {M : List Q.It} (h : (M.map Q.It.n).Nodup) (y : Q.It) : ((Q.putL M y).map Q.It.n).Nodup := by
  unfold Q.putL
  rw [List.map_append, List.nodup_append]
  refine ⟨(h.sublist ((List.filter_sublist).map _)), by simp, ?_⟩
  intro a ha b hb
  obtain ⟨z, hz, rfl⟩ := List.mem_map.1 ha
  simp only [List.map_cons, List.map_nil, List.mem_singleton] at hb
  subst hb
  simp only [List.mem_filter, decide_eq_true_eq] at hz
  exact hz.2
theorem qputL_mem {M : List Q.It} {y x : Q.It} (h : x ∈ Q.putL M y) : x ∈ M ∨ x = y := by
  unfold Q.putL at h
  rcases List.mem_append.1 h with h | h
  · exact .inl (List.mem_filter.1 h).1
  · exact .inr (by simpa using h)
theorem qput_ok {M : List Q.It} (h : QOk M) (u : Up) : QOk (qput M u) := by
  unfold qput
  split
  · exact h
  · have hs := sortB_perm leIt (Q.putL M ⟨u.n, u.i, u.s, 0⟩)
    refine ⟨?_, by rw [List.length_take]; omega, fun x hx => ?_⟩
    · exact ((hs.map Q.It.n).nodup_iff.2 (qputL_nod h.nod _)).sublist ((List.take_sublist _ _).map _)
    · rcases qputL_mem (hs.mem_iff.1 (List.mem_of_mem_take hx)) with h1 | h1
      · exact h.rng x h1
      · subst h1; exact ⟨by show (0 : Int) ≤ 0; omega, by show (0 : Int) < 192; omega⟩
theorem qputL_len {M : List Q.It} {y : Q.It} (h : ∃ z ∈ M, z.n = y.n) : (Q.putL M y).length ≤ M.length := by
  obtain ⟨z, hz, hn⟩ := h
  unfold Q.putL
  rw [List.length_append]
  have : (M.filter fun z => z.n ≠ y.n).length < M.length := by
    rcases Nat.lt_or_ge (M.filter fun z => z.n ≠ y.n).length M.length with h | h
    · exact h
    · exfalso
      have e := (List.filter_sublist (p := fun z : Q.It => decide (z.n ≠ y.n)) (l := M)).eq_of_length_le h
      have : z ∈ M.filter fun z => z.n ≠ y.n := by rw [e]; exact hz
      simp only [List.mem_filter, decide_eq_true_eq] at this
      exact absurd hn this.2
  simp only [List.length_cons, List.length_nil]
  omega
theorem tell_ok {M : List Q.It} (h : QOk M) {x : Q.It} (hx : 0 ≤ x.t) (hm : ∃ z ∈ M, z.n = x.n) {cap : Int} (hc : cap ≤ 192) : QOk (Q.tellL cap M x) := by
  unfold Q.tellL
  split
  · refine ⟨qputL_nod h.nod _, Nat.le_trans (qputL_len (y := ⟨x.n, x.i, x.s, x.t + 1⟩) hm) h.len, fun y hy => ?_⟩
    rcases qputL_mem hy with h1 | h1
    · exact h.rng y h1
    · subst h1
      constructor
      · show 0 ≤ x.t + 1; omega
      · show x.t + 1 < 192; omega
  · exact ⟨h.nod.sublist ((List.filter_sublist).map _), Nat.le_trans (List.length_filter_le _ _) h.len, fun y hy => h.rng y (List.mem_filter.1 hy).1⟩
theorem tell_other {M : List Q.It} {x z : Q.It} {cap : Int} (hz : z ∈ M) (hn : z.n ≠ x.n) : z ∈ Q.tellL cap M x := by
  unfold Q.tellL Q.putL
  split
  · exact List.mem_append_left _ (List.mem_filter.2 ⟨hz, by simpa using hn⟩)
  · exact List.mem_filter.2 ⟨hz, by simpa using hn⟩
theorem tells_ok {cap : Int} (hc : cap ≤ 192) : ∀ (K : List Q.It) {M : List Q.It}, QOk M → (K.map Q.It.n).Nodup → (∀ x ∈ K, 0 ≤ x.t ∧ x ∈ M) → QOk (K.foldl (Q.tellL cap) M)
  | [], _, h, _, _ => h
  | x :: K, M, h, hn, hk => by
    rw [List.map_cons, List.nodup_cons] at hn
    rw [List.foldl_cons]
    refine tells_ok hc K (tell_ok h (hk x (by simp)).1 ⟨x, (hk x (by simp)).2, rfl⟩ hc) hn.2 fun y hy => ⟨(hk y (by simp [hy])).1, tell_other (hk y (by simp [hy])).2 fun e => ?_⟩
    exact hn.1 (by rw [← e]; exact List.mem_map_of_mem hy)
theorem qtakeK_sub {M : List Q.It} {n : Int} {x : Q.It} (h : x ∈ qtakeK M n) : x ∈ M := (sortB_perm leIt M).mem_iff.1 (List.mem_of_mem_take h)
theorem qtakeM_ok {M : List Q.It} (h : QOk M) (n nodes : Int) (h1 : nodes < 9223372036854775808) : QOk (qtakeM M n nodes) := by
  unfold qtakeM
  refine tells_ok (Q.capI_le nodes h1) _ h ?_ fun x hx => ⟨(h.rng x (qtakeK_sub hx)).1, qtakeK_sub hx⟩
  exact (((sortB_perm leIt M).map Q.It.n).nodup_iff.2 h.nod).sublist ((List.take_sublist _ _).map _)
-- doubts
theorem dputL_nod {M : List D.Db} (h : (M.map D.Db.n).Nodup) (y : D.Db) : ((D.putL M y).map D.Db.n).Nodup := by
  unfold D.putL
  rw [List.map_append, List.nodup_append]
  refine ⟨(h.sublist ((List.filter_sublist).map _)), by simp, ?_⟩
  intro a ha b hb
  obtain ⟨z, hz, rfl⟩ := List.mem_map.1 ha
  simp only [List.map_cons, List.map_nil, List.mem_singleton] at hb
  subst hb
  simp only [List.mem_filter, decide_eq_true_eq] at hz
  exact hz.2
theorem dputL_mem {M : List D.Db} {y x : D.Db} (h : x ∈ D.putL M y) : x ∈ M ∨ x = y := by
  unfold D.putL at h
  rcases List.mem_append.1 h with h | h
  · exact .inl (List.mem_filter.1 h).1
  · exact .inr (by simpa using h)
theorem dok_of {M : List D.Db} (hn : (M.map D.Db.n).Nodup) (hr : ∀ x ∈ M, 0 ≤ x.n ∧ x.n < 64) (ho : ∀ x ∈ M, DbOk x) : DOk M :=
  ⟨hn, hr, by
    have := nod_len_int hn fun x hx => by
      obtain ⟨y, hy, rfl⟩ := List.mem_map.1 hx
      exact hr y hy
    simpa using this, ho⟩
theorem dput_ok {M : List D.Db} (h : DOk M) {y : D.Db} (hy : 0 ≤ y.n ∧ y.n < 64) (ho : DbOk y) : DOk (D.putL M y) :=
  dok_of (dputL_nod h.nod y) (fun x hx => by
    rcases dputL_mem hx with h1 | h1
    · exact h.rng x h1
    · subst h1; exact hy) fun x hx => by
    rcases dputL_mem hx with h1 | h1
    · exact h.ok x h1
    · subst h1; exact ho
theorem dfilter_ok {M : List D.Db} (h : DOk M) (f : D.Db → Bool) : DOk (M.filter f) :=
  dok_of (h.nod.sublist ((List.filter_sublist).map _)) (fun x hx => h.rng x (List.mem_filter.1 hx).1) fun x hx => h.ok x (List.mem_filter.1 hx).1
theorem dperm_ok {M M' : List D.Db} (h : DOk M) (hp : M'.Perm M) : DOk M' :=
  dok_of ((hp.map D.Db.n).nodup_iff.2 h.nod) (fun x hx => h.rng x (hp.mem_iff.1 hx)) fun x hx => h.ok x (hp.mem_iff.1 hx)
theorem doverM_ok {M : List D.Db} (h : DOk M) (now : Int) : DOk (doverM M now) := dfilter_ok (dperm_ok h (sortB_perm leDb M)) _
theorem pow_int (k : Nat) : ((2 : Int) ^ k) = ((2 ^ k : Nat) : Int) := by push_cast; rfl
theorem pow_bit (k n : Nat) : (2 ^ k).testBit n = (n == k) := by
  rw [Nat.testBit_two_pow, Bool.eq_iff_iff, decide_eq_true_eq, beq_iff_eq]
  exact eq_comm
theorem bNat_pow (k : Nat) (hk : k < 64) : bNat (2 ^ k) = [k] := by
  unfold bNat
  have h1 : (List.range 64).filter (fun n => (2 ^ k).testBit n) = (List.range 64).filter (fun n => n == k) := List.filter_congr fun n _ => pow_bit k n
  rw [h1]
  have h2 : ∀ m, k < m → (List.range m).filter (fun n => n == k) = [k] := by
    intro m
    induction m with
    | zero => intro h; omega
    | succ m ih =>
      intro h
      rw [List.range_succ, List.filter_append]
      by_cases c : k < m
      · rw [ih c, List.filter_cons]
        have : (m == k) = false := by rw [beq_eq_false_iff_ne]; omega
        rw [this]
        rfl
      · have e : m = k := by omega
        subst e
        have : (List.range m).filter (fun n => n == m) = [] := by
          rw [List.filter_eq_nil_iff]
          intro a ha
          simp only [List.mem_range] at ha
          simp; omega
        rw [this]
        simp
  exact h2 64 hk
theorem filter_or_len (p q : Nat → Bool) (k : Nat) (hq : ∀ n, q n = (p n || (n == k))) (hp : p k = false) : ∀ m, ((List.range m).filter q).length = ((List.range m).filter p).length + if k < m then 1 else 0
  | 0 => by simp
  | m + 1 => by
    have ih := filter_or_len p q k hq hp m
    rw [List.range_succ, List.filter_append, List.filter_append, List.length_append, List.length_append, ih]
    have h1 : q m = (p m || (m == k)) := hq m
    by_cases c : m = k
    · subst c
      have hqm : q m = true := by rw [h1]; simp
      rw [if_neg (by omega), if_pos (by omega)]
      simp [hqm, hp]
    · have hqm : q m = p m := by rw [h1]; simp [c]
      have e : (if k < m + 1 then 1 else 0) = (if k < m then 1 else 0) := by
        by_cases c2 : k < m
        · rw [if_pos c2, if_pos (by omega)]
        · rw [if_neg c2, if_neg (by omega)]
      rw [e]
      have e2 : (List.filter q [m]).length = (List.filter p [m]).length := by simp [List.filter_cons, hqm]
      omega
theorem bNat_or (F k : Nat) (hk : k < 64) (h : F.testBit k = false) : (bNat (F ||| 2 ^ k)).length = (bNat F).length + 1 := by
  unfold bNat
  have := filter_or_len (fun n => F.testBit n) (fun n => (F ||| 2 ^ k).testBit n) k (fun n => by rw [Nat.testBit_or, pow_bit]) h 64
  rw [if_pos hk] at this
  exact this
theorem draise_ok {M : List D.Db} (h : DOk M) (u : Up) (fr now nodes : Int) (hn : 0 ≤ now ∧ now < 18446744073709551616) : DOk (draise M u fr now nodes) := by
  unfold draise
  split
  · rename_i hc
    obtain ⟨h0, h64, hs, f0, f64⟩ := hc
    obtain ⟨k, rfl⟩ : ∃ k : Nat, fr = (k : Int) := ⟨fr.toNat, by omega⟩
    have hk : k < 64 := by omega
    have hk2 : (2 : Nat) ^ k ≤ 2 ^ 63 := Nat.pow_le_pow_right (by omega) (by omega)
    have hnew : DbOk ⟨u.n, u.i, 1, (2 : Int) ^ k, now, 0, D.sat now (ut nodes 0)⟩ := ⟨⟨2 ^ k, pow_int k, by omega, by rw [bNat_pow k hk]; rfl⟩, hn, by show (0 : Int) ≤ 0; omega⟩
    simp only [Int.toNat_natCast]
    cases hf : dfind M u.n with
    | none => exact dput_ok h ⟨h0, h64⟩ hnew
    | some x =>
      obtain ⟨hx, hxn⟩ := dfind_some hf
      simp only
      split
      · exact h
      · split
        · exact dput_ok h ⟨h0, h64⟩ hnew
        · split
          · exact h
          · rename_i hb
            obtain ⟨⟨F, hF, hF2, hFt⟩, hxc, hxt⟩ := h.ok x hx
            rw [hF, Int.toNat_natCast] at hb ⊢
            have hb : F.testBit k = false := by simpa using hb
            refine dput_ok h ⟨h0, h64⟩ ⟨⟨F ||| 2 ^ k, rfl, ?_, ?_⟩, hxc, ?_⟩
            · have := Nat.or_lt_two_pow (n := 64) (x := F) (y := 2 ^ k) (by omega) (by omega)
              omega
            · rw [bNat_or F k hk hb]
              show x.t + 1 + 1 = _
              push_cast
              omega
            · show 0 ≤ x.t + 1; omega
  · exact h
-- the round's order
theorem LOk.len {l : List Int} (h : LOk l) : l.length ≤ 64 := nod_len_int h.nod h.rng
theorem LOk.sub {l l' : List Int} (h : LOk l) (hs : l'.Sublist l) : LOk l' := ⟨h.nod.sublist hs, fun x hx => h.rng x (hs.subset hx)⟩
theorem LOk.perm {l l' : List Int} (h : LOk l) (hp : l'.Perm l) : LOk l' := ⟨hp.nodup_iff.2 h.nod, fun x hx => h.rng x (hp.mem_iff.1 hx)⟩
theorem insL_perm (l : List Int) (k : Nat) (x : Int) : (insL l k x).Perm (x :: l) := by
  unfold insL
  have h1 : (l.take k ++ x :: l.drop k).Perm (x :: (l.take k ++ l.drop k)) := List.perm_middle
  rw [List.take_append_drop] at h1
  exact h1
theorem joinP_ok {l : List Int} (h : LOk l) {n : Int} (hn : 0 ≤ n ∧ n < 64) (L : List Int) : LOk (joinP l n L).1 := by
  unfold joinP
  split
  · exact h
  · rename_i hm
    exact LOk.perm ⟨List.nodup_cons.2 ⟨hm, h.nod⟩, fun x hx => by
      rcases List.mem_cons.1 hx with rfl | hx
      · exact hn
      · exact h.rng x hx⟩ (insL_perm _ _ _)
theorem bList_ok (b : Nat) : LOk (bList b) := by
  constructor
  · unfold bList bNat List.Nodup
    rw [List.pairwise_map]
    exact (List.nodup_range.sublist List.filter_sublist).imp fun {a b} h => by omega
  · intro x hx
    obtain ⟨k, rfl, hk, _⟩ := bList_mem hx
    omega
theorem swapL_perm (l : List Int) (i k : Nat) (hi : i < l.length) (hk : k < l.length) : (swapL l i k).Perm l := by
  have h := (Array.swap_perm (xs := l.toArray) (i := i) (j := k) (h₁ := by simpa using hi) (h₂ := by simpa using hk)).toList
  rw [Array.toList_swap] at h
  unfold swapL
  simpa [hi, hk] using h
theorem shufL_perm : ∀ (i : Nat) (l L : List Int), i < l.length → (shufL i l L).1.Perm l
  | 0, _, _, _ => .refl _
  | i + 1, l, L, h => by
    rw [shufL]
    have hb : belowN (i + 2) L < l.length := by have := belowN_lt (i + 2) L (by omega); omega
    exact (shufL_perm i _ _ (by rw [swapL_len]; omega)).trans (swapL_perm l (i + 1) _ h hb)
theorem shufP_perm (l L : List Int) : (shufP l L).1.Perm l := by
  unfold shufP
  cases l with
  | nil => exact .refl _
  | cons a l => exact shufL_perm _ _ _ (by simp)
theorem nextP_ok {others left L left' L' : List Int} {n : Int} (h : LOk left) (ho : LOk others) (e : nextP others left L = some (n, left', L')) : LOk left' ∧ n ∈ others := by
  unfold nextP at e
  split at e
  · cases e
  · rename_i hne
    split at e
    · rename_i hf
      cases e
      refine ⟨h.sub (List.drop_sublist _ _), ?_⟩
      have := List.findIdx_getElem (w := hf)
      simp only [decide_eq_true_eq] at this
      rw [List.getD_eq_getElem?_getD, List.getElem?_eq_getElem hf, Option.getD_some]
      exact this
    · cases e
      have hp := shufP_perm others L
      refine ⟨(ho.perm hp).sub (List.drop_sublist _ _), ?_⟩
      have hpos : 0 < (shufP others L).1.length := by
        rw [hp.length_eq]
        exact List.length_pos_iff.2 hne
      rw [List.getD_eq_getElem?_getD, List.getElem?_eq_getElem hpos, Option.getD_some]
      exact hp.mem_iff.1 (List.getElem_mem _)
end Go.Proofs.YtofonfohaocclaaGreatDoor

namespace Go.Proofs.YtofonfohaocclaaGreatDoor
open Go.RowKit Sh
open Go.ChangeMaps (setBlock)
set_option linter.unusedVariables false

structure DLSet (w w' : World) (b : Nat) (p : Parts) (xl : Nat) (d' : Det) (L' : List Int) : Prop where
  ex : ∃ p', IsDet w' b d' p' ∧ ∀ k, p'.has b k → p.has b k ∨ w.heap.size ≤ k
  lots : IsLots w' xl L'
  keep : Keep (fun k => p.has b k ∨ k = xl) w w'
theorem IsLots.kind {w : World} {xl : Nat} {L : List Int} (h : IsLots w xl L) : Kind w xl (some 95) := by
  obtain ⟨v, hv, _⟩ := h.out
  exact ⟨_, hv⟩
theorem IsDet.not_lots {w : World} {b : Nat} {d : Det} {p : Parts} (h : IsDet w b d p) {xl : Nat} {L : List Int} (hL : IsLots w xl L) : ¬ p.has b xl := fun hk => by
  obtain ⟨t, ht, h1, h2, _⟩ := h.khas hk
  exact ht.ne hL.kind h2 rfl
theorem IsDet.not_29 {w : World} {b : Nat} {d : Det} {p : Parts} (h : IsDet w b d p) {g : Nat} {cs : Array Value} (hg : w.heap[g]? = some (.cells cs 29 (0, 0))) : ¬ p.has b g := fun hk => by
  obtain ⟨t, ht, h1, h2, _⟩ := h.khas hk
  exact ht.ne (⟨⟨cs, hg⟩⟩ : Kind w g (some 29)) h1 rfl
theorem IsDet.lots {w w' : World} {b : Nat} {d : Det} {p : Parts} (h : IsDet w b d p) {xl : Nat} {L : List Int} (hL : IsLots w xl L) (k : Keep (p.has b) w w') : IsLots w' xl L :=
  hL.keep k (h.not_lots hL) fun g cs hg => h.not_29 hg
theorem DSet.dl {w w' : World} {b : Nat} {d d' : Det} {p : Parts} (hs : DSet w w' b p d') (h : IsDet w b d p) {xl : Nat} {L : List Int} (hL : IsLots w xl L) : DLSet w w' b p xl d' L :=
  ⟨hs.ex, h.lots hL hs.keep, hs.keep.mono fun _ h _ => .inl h⟩
theorem alc (W : World) (cs : Array Value) (t : TypeId) (o : Nat) (v : Value) (h : cs[o]? = some v) : (W.alloc (.cells cs t)).cell? ⟨W.heap.size, o, none⟩ = some v := Q.cell_new rfl h
theorem alf (W : World) (cs : Array Value) (t : TypeId) (o : Nat) : (W.alloc (.cells cs t)).frozen? ⟨W.heap.size, o, none⟩ = false := by
  have := heap_alloc_new W (.cells cs t)
  simp only [World.frozen?, this]
  simp
theorem alcd (W : World) (cs : Array Value) (t : TypeId) (o : Nat) (v : Value) (h : cs[o]? = some v) : (W.alloc (.cells cs t)).drew.cell? ⟨W.heap.size, o, none⟩ = some v := Q.cell_new rfl h
theorem alfd (W : World) (cs : Array Value) (t : TypeId) (o : Nat) : (W.alloc (.cells cs t)).drew.frozen? ⟨W.heap.size, o, none⟩ = false := alf W cs t o
def zC52 : Array Value := #[.int .i64 0, .int .u64 0, .int .i64 0]
theorem az0 (W : World) : (W.alloc (.cells #[.int .i64 0, .int .u64 0, .int .i64 0] 52)).cell? ⟨W.heap.size, 0, none⟩ = some (.int .i64 0) := Q.cell_new rfl rfl
theorem azd0 (W : World) : (W.alloc (.cells #[.int .i64 0, .int .u64 0, .int .i64 0] 52)).drew.cell? ⟨W.heap.size, 0, none⟩ = some (.int .i64 0) := Q.cell_new rfl rfl
theorem az1 (W : World) : (W.alloc (.cells #[.int .i64 0, .int .u64 0, .int .i64 0] 52)).cell? ⟨W.heap.size, 1, none⟩ = some (.int .u64 0) := Q.cell_new rfl rfl
theorem azd1 (W : World) : (W.alloc (.cells #[.int .i64 0, .int .u64 0, .int .i64 0] 52)).drew.cell? ⟨W.heap.size, 1, none⟩ = some (.int .u64 0) := Q.cell_new rfl rfl
theorem az2 (W : World) : (W.alloc (.cells #[.int .i64 0, .int .u64 0, .int .i64 0] 52)).cell? ⟨W.heap.size, 2, none⟩ = some (.int .i64 0) := Q.cell_new rfl rfl
theorem azd2 (W : World) : (W.alloc (.cells #[.int .i64 0, .int .u64 0, .int .i64 0] 52)).drew.cell? ⟨W.heap.size, 2, none⟩ = some (.int .i64 0) := Q.cell_new rfl rfl
theorem set_ne {W : World} {b n o o' : Nat} {v x : Value} (h : b ≠ n) (hc : W.cell? ⟨b, o, none⟩ = some v) : (W.setCell ⟨n, o', none⟩ x).cell? ⟨b, o, none⟩ = some v := by
  have : Keep (fun j => j = n) W (W.setCell ⟨n, o', none⟩ x) := (Keep.refl _ W).setAt _ _
  exact this.cellS hc h
theorem al_some {W : World} {a : Addr} {v : Value} (o : Obj) (h : W.cell? a = some v) : (W.alloc o).cell? a = some v := ((Keep.refl (fun _ => False) W).alloc o).cell h
theorem dr_some {W : World} {a : Addr} {v : Value} (h : W.cell? a = some v) : W.drew.cell? a = some v := h
theorem set3 {W : World} {n : Nat} {a b c x y z : Value} (z0 : W.cell? ⟨n, 0, none⟩ = some x) (z1 : W.cell? ⟨n, 1, none⟩ = some y) (z2 : W.cell? ⟨n, 2, none⟩ = some z) :
    (((W.setCell ⟨n, 0, none⟩ a).setCell ⟨n, 1, none⟩ b).setCell ⟨n, 2, none⟩ c).cell? ⟨n, 0, none⟩ = some a ∧ (((W.setCell ⟨n, 0, none⟩ a).setCell ⟨n, 1, none⟩ b).setCell ⟨n, 2, none⟩ c).cell? ⟨n, 1, none⟩ = some b ∧ (((W.setCell ⟨n, 0, none⟩ a).setCell ⟨n, 1, none⟩ b).setCell ⟨n, 2, none⟩ c).cell? ⟨n, 2, none⟩ = some c := by
  obtain ⟨cs, t, fr, hh⟩ : ∃ cs t fr, W.heap[n]? = some (.cells cs t fr) := by
    unfold World.cell? at z0
    cases hn : W.heap[n]? with
    | none => simp [hn] at z0
    | some o =>
      cases o <;> simp_all
  simp only [World.cell?, hh] at z0 z1 z2
  have h0 : 0 < cs.size := (Array.getElem?_eq_some_iff.1 z0).1
  have h1 : 1 < cs.size := (Array.getElem?_eq_some_iff.1 z1).1
  have h2 : 2 < cs.size := (Array.getElem?_eq_some_iff.1 z2).1
  have e := heap_setCell_at (heap_setCell_at (heap_setCell_at hh 0 a) 1 b) 2 c
  simp only [World.cell?, e]
  refine ⟨?_, ?_, ?_⟩
  · rw [Array.getElem?_setIfInBounds_ne (by omega), Array.getElem?_setIfInBounds_ne (by omega)]; simp [h0]
  · rw [Array.getElem?_setIfInBounds_ne (by omega)]; simp [h1]
  · simp [h2]
theorem alc3 (W : World) (a b c : Value) (t : TypeId) : (W.alloc (.cells #[a, b, c] t)).cell? ⟨W.heap.size, 0, none⟩ = some a ∧ (W.alloc (.cells #[a, b, c] t)).cell? ⟨W.heap.size, 1, none⟩ = some b ∧ (W.alloc (.cells #[a, b, c] t)).cell? ⟨W.heap.size, 2, none⟩ = some c := ⟨Q.cell_new rfl rfl, Q.cell_new rfl rfl, Q.cell_new rfl rfl⟩
theorem DLSet.next {w w1 w2 : World} {b xl : Nat} {p p1 : Parts} {d2 : Det} {L2 : List Int} (hsub : ∀ k, p1.has b k → p.has b k ∨ w.heap.size ≤ k) (hk : Keep (fun k => p.has b k ∨ k = xl) w w1) (h : DLSet w1 w2 b p1 xl d2 L2) : DLSet w w2 b p xl d2 L2 := by
  obtain ⟨p', h1, h2⟩ := h.ex
  refine ⟨⟨p', h1, fun k hk' => ?_⟩, h.lots, hk.trans h.keep fun k hk' hlt => ?_⟩
  · rcases h2 k hk' with h3 | h3
    · exact hsub k h3
    · exact .inr (by have := hk.size; omega)
  · rcases hk' with h3 | h3
    · rcases hsub k h3 with h4 | h4
      · exact .inl h4
      · omega
    · exact .inr h3
theorem drop_set {w w' : World} {b : Nat} {d : Det} {p : Parts} (h : IsDet w b d p) {n : Int} {x : Bool} (hd : D.DropIs w w' (dL b p d) p.dm d.d n x) : DSet w w' b p { d with d := d.d.filter fun z => z.n ≠ n } := by
  refine DSet.of_d h ⟨⟨p.dm, ?_, ⟨.inl rfl⟩⟩, hd.keep.mono fun j hj _ => .inr hj⟩
  have e : (dL b p d).to (Value.map p.dm) = dL b p d := Loc.to_self (q := dL b p d) (v := .map p.dm) rfl
  rw [e]
  exact hd.que
theorem join_set {w w' : World} {b xl : Nat} {d : Det} {p : Parts} {L : List Int} (h : IsDet w b d p) (hL : IsLots w xl L) {v' : Value} {l' L' : List Int} (ha : At w' ((lL b p d).to v') v') (hr : Row w' 3 1 v' l'.length (intsC l')) (ho : v'.ownBlock = p.vl.ownBlock ∨ ∃ g, v'.ownBlock = some g ∧ w.heap.size ≤ g) (hl : IsLots w' xl L') (hk : Keep (fun k => k = b ∨ k = xl) w w') : DLSet w w' b p xl { d with left := l' } L' := by
  have hxl := hL.kind
  have hS : ∀ j t, Kind w j t → t ≠ some 48 → t ≠ some 95 → t ≠ some 3 → t ≠ some 96 → t ≠ some 105 → ¬ (j = b ∨ j = xl) := by
    rintro j t hj h1 h2 _ _ _ (hj' | hj')
    · exact hj.ne h.kb h1 hj'
    · exact hj.ne hxl h2 hj'
  have hSw : ∀ j t, Kind w j t → t ≠ some 48 → t ≠ some 95 → ¬ (j = b ∨ j = xl) := by
    rintro j t hj h1 h2 (hj' | hj')
    · exact hj.ne h.kb h1 hj'
    · exact hj.ne hxl h2 hj'
  have hb0 := h.lt (hb p b)
  have hd' := h.set_own (d' := { d with left := l' }) (p' := { p with vl := v' }) hk hS ha.cell rfl rfl rfl rfl rfl rfl hr (h.ws.keep hk fun g hg => hSw _ _ (h.kw hg) (by decide) (by decide)) (h.es.keep hk fun g hg => hSw _ _ (h.ke hg) (by decide) (by decide)) (fun k hk' => by
    rcases hk' with h1 | h1 | h1
    · rcases ho with h2 | ⟨g, h2, h3⟩
      · exact h.pos k ⟨.inr (.inr (.inl (h2 ▸ h1)))⟩
      · have e : some g = some k := h2.symm.trans h1
        injection e with e
        omega
    · exact h.pos k ⟨.inr (.inr (.inr (.inl h1)))⟩
    · exact h.pos k ⟨.inr (.inr (.inr (.inr (.inl h1))))⟩)
  refine ⟨⟨_, hd', fun k hk' => ?_⟩, hl, hk.mono fun j hj _ => by
    rcases hj with rfl | rfl
    · exact .inl (hb p _)
    · exact .inr rfl⟩
  rcases hk'.or with hj | hj | hj | hj | hj | hj | hj
  · exact .inl ⟨.inl hj⟩
  · exact .inl ⟨.inr (.inl hj)⟩
  · rcases ho with h2 | ⟨g, h2, h3⟩
    · exact .inl ⟨.inr (.inr (.inl (h2 ▸ hj)))⟩
    · have e : some g = some k := h2.symm.trans hj
      injection e with e
      exact .inr (by omega)
  · exact .inl ⟨.inr (.inr (.inr (.inl hj)))⟩
  · exact .inl ⟨.inr (.inr (.inr (.inr (.inl hj))))⟩
  · exact .inl ⟨.inr (.inr (.inr (.inr (.inr (.inl hj)))))⟩
  · exact .inl ⟨.inr (.inr (.inr (.inr (.inr (.inr hj)))))⟩
end Go.Proofs.YtofonfohaocclaaGreatDoor
