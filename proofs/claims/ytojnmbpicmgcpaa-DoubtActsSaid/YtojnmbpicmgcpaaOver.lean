/- Walk of Doubts.Over. -/
import Derived.Test.YtojnmbpicmgcpaaAll
namespace Go.Proofs.Ytojnmbpicmgcpaa
open Go.RowKit Sh
open Go.ChangeMaps (setBlock)
set_option linter.unusedVariables false

theorem info34 : (Try.prog.info? 34).map (fun i => (i.zero, i.size, i.bytes)) = some (some (.agg #[.int .i64 0, .int .u64 0, .int .i64 0]), 3, 24) := by kernel_rfl
def upC (x : Db) : List Value := [.int .i64 x.n, .int .u64 x.i, .int .i64 3]
def upCells : List Db → List Value
  | [] => []
  | e :: E => upC e ++ upCells E
theorem upCells_append (E F : List Db) : upCells (E ++ F) = upCells E ++ upCells F := by
  induction E with
  | nil => rfl
  | cons e E ih => simp [upCells, ih]
theorem upCells_get : ∀ (E : List Db) (i c : Nat), i < E.length → c < 3 → (upCells E)[i * 3 + c]? = (upC (db E i))[c]?
  | [], i, c, h, _ => by simp at h
  | e :: E, 0, c, h, hc => by
    simp only [upCells, db, List.getD_cons_zero, Nat.zero_mul, Nat.zero_add]
    rw [List.getElem?_append_left (by simp [upC]; omega)]
  | e :: E, i + 1, c, h, hc => by
    have := upCells_get E i c (by simpa using h) hc
    simp only [upCells, db, List.getD_cons_succ] at this ⊢
    rw [List.getElem?_append_right (by simp [upC]; omega), ← this]
    congr 1
    simp [upC]; omega
theorem upC_one (e : Db) : ∀ u ∈ upC e, u.oneCell' = true := by
  intro u hu
  simp [upC] at hu
  rcases hu with rfl | rfl | rfl <;> rfl
theorem upCells_one (E : List Db) : ∀ u ∈ upCells E, u.oneCell' = true := by
  induction E with
  | nil => intro u hu; simp [upCells] at hu
  | cons e E ih =>
    intro u hu
    rcases List.mem_append.1 hu with h | h
    · exact upC_one e u h
    · exact ih u h
def URow (w : World) (g : Nat) (L : List Db) : Prop := ∀ i, i < L.length → ∀ c, c < 3 → w.cell? ⟨g, i * 3 + c, none⟩ = (upC (db L i))[c]?
theorem own_urow {w : World} {base g cap : Nat} {R : List Db} (h : w.ownsRow base 34 3 (.slice (some ⟨g, 0, none⟩) R.length cap) R.length (upCells R)) : URow w g R := fun i hi c hc =>
  (own_cell h (i * 3 + c) (by omega)).1.trans (upCells_get R i c hi hc)
theorem filter_mid {A D : List Db} {x : Db} (hn : ((A ++ x :: D).map Db.n).Nodup) : (A ++ x :: D).filter (fun z => z.n ≠ x.n) = A ++ D := by
  rw [List.map_append, List.map_cons, List.nodup_append] at hn
  obtain ⟨h1, h2, h3⟩ := hn
  rw [List.nodup_cons] at h2
  rw [List.filter_append, List.filter_cons, if_neg (by simp)]
  congr 1
  · exact List.filter_eq_self.2 (fun z hz => by
      have := h3 z.n (List.mem_map.2 ⟨z, hz, rfl⟩) x.n (by simp)
      simpa using this)
  · exact List.filter_eq_self.2 (fun z hz => by
      have : z.n ≠ x.n := fun he => h2.1 (List.mem_map.2 ⟨z, hz, he⟩)
      simpa using this)
def goneB (now : Int) (x : Db) : Bool := decide (x.u ≤ now)
def leftL (now : Int) (L : List Db) (i : Nat) : List Db := (L.take i).filter (fun x => !goneB now x) ++ L.drop i
theorem left_step_no {now : Int} {L : List Db} {i : Nat} (hi : i < L.length) (hx : goneB now (db L i) = false) : leftL now L (i + 1) = leftL now L i := by
  unfold leftL
  rw [List.take_succ_eq_append_getElem hi, List.filter_append, ← db_of hi, List.drop_eq_getElem_cons hi, ← db_of hi]
  simp [hx]
theorem left_step_yes {now : Int} {L : List Db} {i : Nat} (hi : i < L.length) (hx : goneB now (db L i) = true) (hn : ((leftL now L i).map Db.n).Nodup) : leftL now L (i + 1) = (leftL now L i).filter fun z => z.n ≠ (db L i).n := by
  have e : leftL now L i = (L.take i).filter (fun x => !goneB now x) ++ db L i :: L.drop (i + 1) := by
    unfold leftL
    rw [List.drop_eq_getElem_cons hi, db_of hi]
  rw [e] at hn ⊢
  rw [filter_mid hn]
  unfold leftL
  rw [List.take_succ_eq_append_getElem hi, List.filter_append, ← db_of hi]
  simp [hx]

structure OverIs (w w' : World) (q : Nat) (mb : Option Nat) (v : Value) (now : Int) (M L : List Db) : Prop where
  perm : L.Perm M
  srt : SrtN L
  que : IsQ w' q mb (L.filter fun x => !goneB now x)
  row : ∃ A c, v = .slice A (L.filter (goneB now)).length c ∧ (0 < (L.filter (goneB now)).length → ∃ g, A = some ⟨g, 0, none⟩ ∧ w.heap.size ≤ g ∧ URow w' g (L.filter (goneB now)))
  keep : Keep (fun k => mb = some k) w w'

set_option maxRecDepth 100000 in
set_option maxHeartbeats 4000000 in
theorem over_any {w : World} {q : Nat} {mb : Option Nat} {M : List Db} (h : IsQ w q mb M) (hM : M.length ≤ 1000) (now : Int) :
    Calls Try.prog 14 #[.pointer (some ⟨q, 0, none⟩), .int .u64 now] w fun e w' => ∃ v L, e = .returned v ∧ OverIs w w' q mb v now M L := by
  obtain ⟨j0, hj, hj2⟩ : ∃ i0, Try.prog.info? 34 = some i0 ∧ (i0.zero, i0.size, i0.bytes) = (some (.agg #[.int .i64 0, .int .u64 0, .int .i64 0]), 3, 24) := by
    have := info34
    rw [Option.map_eq_some_iff] at this
    exact this
  simp only [Prod.mk.injEq] at hj2
  obtain ⟨hy0, hy1, hy2⟩ := hj2
  have Hj := Lib.hid hj
  have Hy0 := Lib.hid hy0
  have Hy1 := Lib.hid hy1
  have Hy2 := Lib.hid hy2
  clear hj hy0 hy1 hy2
  have H := Lib.hid h
  have QB : Hid (∀ B, mb = some B → B < w.heap.size) := Lib.hid (fun B hB => by subst hB; exact h.blt)
  clear h
  go_enter Try.func14, Try.ntmps14
  go_wp2_with fail
  refine (all_any H.out hM).mono ?_
  rintro e w5 ⟨v, L, rfl, hA⟩
  obtain ⟨hp, hs, ⟨A, c, rfl, hc, hrow⟩, hk5⟩ := hA
  have HP := Lib.hid hp
  have HS := Lib.hid hs
  have HR := Lib.hid hrow
  have K5 := Lib.hid hk5
  have hLl : L.length ≤ 1000 := by rw [hp.length_eq]; exact hM
  have NOD : Hid ((L.map Db.n).Nodup) := Lib.hid ((hp.map Db.n).nodup_iff.2 H.out.nod)
  have Q5 : Hid (IsQ w5 q mb (leftL now L 0)) := Lib.hid ((H.out.keep0 hk5).perm (by unfold leftL; simpa using hp.symm))
  clear hp hs hrow hk5
  go_wp2_with fail
  go_loopg [4, 6, 10] L.length (fun z v4 v6 v10 wr => ∃ (i : Nat) (A2 : Option Addr) (c2 : Nat), i + z = L.length ∧ v10 = .int .i64 i ∧ v4 = .slice A2 ((L.take i).filter (goneB now)).length c2 ∧ wr.ownsRow w5.heap.size 34 3 (.slice A2 ((L.take i).filter (goneB now)).length c2) ((L.take i).filter (goneB now)).length (upCells ((L.take i).filter (goneB now))) ∧ IsQ wr q mb (leftL now L i) ∧ Keep (fun k => mb = some k ∨ w5.heap.size ≤ k) w5 wr)
  case atStart => exact ⟨0, none, 0, by omega, rfl, rfl, World.ownsRow_nil _ _ _ _, Q5.out, Keep.refl _ _⟩
  case round =>
    obtain ⟨i, A2, c2, hz, rfl, rfl, ho, hq, hk⟩ := hrel
    have HO := Lib.hid ho
    have Q := Lib.hid hq
    have K := Lib.hid hk
    have HZ := Lib.hid hz
    have hzz := hz
    clear ho hq hk hz Q5
    by_cases hlt : i < L.length
    · have t1 : decide ((i : Int) < (L.length : Int)) = true := by simp; omega
      have t2 : (i : Int) < (L.length : Int) := by omega
      obtain ⟨g, rfl, hg, hdr⟩ := HR.out (by omega)
      have hg5 : g < w5.heap.size := World.block_lt_of_cell? w5 _ ((hdr i hlt 0 (by omega)).trans (List.getElem?_eq_getElem (by simp [dbC])))
      have hd2 := hdr.keep K.out (by
        rintro (h | h)
        · have := QB.out g h
          omega
        · omega)
      have d0 := hd2 i hlt 0 (by omega)
      have d1 := hd2 i hlt 1 (by omega)
      have d2 := hd2 i hlt 2 (by omega)
      have d3 := hd2 i hlt 3 (by omega)
      have d4 := hd2 i hlt 4 (by omega)
      have d5 := hd2 i hlt 5 (by omega)
      have d6 := hd2 i hlt 6 (by omega)
      have hno := left_step_no (now := now) hlt
      have hyes := left_step_yes (now := now) hlt
      have htk : (L.take (i + 1)).filter (goneB now) = (L.take i).filter (goneB now) ++ (if goneB now (db L i) then [db L i] else []) := by
        rw [List.take_succ_eq_append_getElem hlt, List.filter_append, ← db_of hlt]
        congr 1
        by_cases c : goneB now (db L i) = true <;> simp [c]
      have htl : ((L.take i).filter (goneB now)).length ≤ i := Nat.le_trans (List.length_filter_le _ _) (by simp; omega)
      generalize db L i = x at d0 d1 d2 d3 d4 d5 d6 hno hyes htk
      obtain ⟨xn, xi, xs, xf, xc, xt, xu⟩ := x
      simp only [dbC, Nat.add_zero, List.getElem?_cons_zero, List.getElem?_cons_succ] at d0 d1 d2 d3 d4 d5 d6
      have hQi := Q.out.nod
      by_cases hle : xu ≤ now
      · have e1 : decide (xu ≤ now) = true := decide_eq_true hle
        have hgn : goneB now ⟨xn, xi, xs, xf, xc, xt, xu⟩ = true := e1
        rw [if_pos hgn] at htk
        have hly := hyes hgn hQi
        have HTK := Lib.hid htk
        have HLY := Lib.hid hly
        clear hno hyes htk hgn hly hQi hd2 hdr hzz
        generalize hT : (L.take i).filter (goneB now) = T at *
        go_wp2_with (at_builtin; refine wpList_append_own_at _ rfl _ _ 43 rfl w5.heap.size 34 j0 (.agg #[.int .i64 0, .int .u64 0, .int .i64 0]) 3 24 Try.underlying43 Hj.out Hy0.out Hy1.out Hy2.out rfl (by decide) _ _ _ rfl ((HO.out.alloc _).alloc _) ⟨wr.heap.size + 1, 0, none⟩ 1 1 (upCells [⟨xn, xi, xs, xf, xc, xt, xu⟩]) rfl rfl ?c1 ?c2 ?c3 ?c4 ?c5 ?_)
        case c1 =>
          intro j u h
          simpa [upCells, upC] using h
        case c2 => exact upCells_one _
        case c3 => simp only [maxLen]; omega
        case c4 => omega
        case c5 => have := K.out.size; simp; omega
        intro v' w' hown hg2 _ _
        obtain ⟨A', c', rfl⟩ := own_shape hown
        obtain ⟨wz, hwz⟩ : ∃ wz, wz = (wr.alloc (.cells #[.int .i64 xn, .int .u64 xi, .int .i64 xs, .int .u64 xf, .int .u64 xc, .int .u64 xt, .int .u64 xu] 55)).alloc (.cells #[.int .i64 xn, .int .u64 xi, .int .i64 3] 34) := ⟨_, rfl⟩
        rw [← hwz] at hg2
        have kz : Keep (fun _ => False) wr wz := by rw [hwz]; exact ((Keep.refl _ wr).alloc _).alloc _
        have bz : wz.heap[wr.heap.size]? = some (.cells #[.int .i64 xn, .int .u64 xi, .int .i64 xs, .int .u64 xf, .int .u64 xc, .int .u64 xt, .int .u64 xu] 55 (0, 0)) := by rw [hwz]; exact ((Keep.refl (fun _ => False) _).alloc _).old (heap_alloc_new wr _) id
        clear hwz
        have kg : Keep (fun k => w5.heap.size ≤ k ∧ k < wr.heap.size) wz w' := (Keep.refl _ wz).grown hg2 (fun k hk hlt => by
          have := own_block HO.out hk
          exact ⟨this.1, this.2.1⟩)
        have bx := kg.old bz (fun h => by omega)
        have x0 : w'.cell? ⟨wr.heap.size, 0, none⟩ = some (.int .i64 xn) := by simp [World.cell?, bx]
        have kw' : Keep (fun k => w5.heap.size ≤ k) wr w' := (kz.mono (fun _ h _ => absurd h id)).trans kg (fun k hk _ => hk.1)
        have Q2 : Hid (IsQ w' q mb (leftL now L i)) := Lib.hid (Q.out.keep kw' (by
          rintro j (h | h) hj
          · subst h
            have := H.out.lt
            have := K5.out.size
            omega
          · have := QB.out j h
            have := K5.out.size
            omega))
        have K2 : Hid (Keep (fun k => mb = some k ∨ w5.heap.size ≤ k) w5 w') := Lib.hid (K.out.step (kw'.mono (fun k hk _ => .inr hk)))
        have HO2 := Lib.hid hown
        clear hown hg2 kz bz kg bx kw'
        go_wp2_with fail
        refine (drop_any Q2.out xn).mono ?_
        rintro e w6 ⟨b, rfl, hdq⟩
        have Q6 : Hid (IsQ w6 q mb (leftL now L (i + 1))) := Lib.hid (by rw [HLY.out]; exact hdq.que)
        have K6 := Lib.hid (K2.out.step (hdq.keep.mono (T := fun k => mb = some k ∨ w5.heap.size ≤ k) (fun k hk _ => .inl hk)))
        have HO6 : Hid (w6.ownsRow w5.heap.size 34 3 (.slice A' ((L.take (i + 1)).filter (goneB now)).length c') ((L.take (i + 1)).filter (goneB now)).length (upCells ((L.take (i + 1)).filter (goneB now)))) := Lib.hid (by
          have := own_keepB HO2.out hdq.keep (fun g' hg' hm => by
            have h1 := (own_block HO2.out hg').1
            have h2 := QB.out g' hm
            have h3 := K5.out.size
            omega)
          rw [HTK.out, List.length_append, upCells_append]
          exact this)
        have HL6 : Hid (((L.take (i + 1)).filter (goneB now)).length = T.length + 1) := Lib.hid (by rw [HTK.out, List.length_append]; rfl)
        clear hdq Q2 K2 HO2
        go_wp2
        go_roundg (L.length - (i + 1))
        case measure => have := HZ.out; omega
        case rel => exact ⟨i + 1, A', c', by have := HZ.out; omega, by go_num, by rw [HL6.out], HO6.out, Q6.out, K6.out⟩
      · have e1 : decide (xu ≤ now) = false := decide_eq_false hle
        have hgn : goneB now ⟨xn, xi, xs, xf, xc, xt, xu⟩ = false := e1
        rw [if_neg (by rw [hgn]; simp), List.append_nil] at htk
        have hly := hno hgn
        have HTK := Lib.hid htk
        have HLY := Lib.hid hly
        have K2 : Hid (∀ o, Keep (fun k => mb = some k ∨ w5.heap.size ≤ k) w5 (wr.alloc o)) := Lib.hid (fun o => K.out.alloc o)
        have Q2 : Hid (∀ o, IsQ (wr.alloc o) q mb (leftL now L (i + 1))) := Lib.hid (fun o => by rw [HLY.out]; exact Q.out.keep0 ((Keep.refl _ wr).alloc o))
        have HO2 : Hid (∀ o, (wr.alloc o).ownsRow w5.heap.size 34 3 (.slice A2 ((L.take (i + 1)).filter (goneB now)).length c2) ((L.take (i + 1)).filter (goneB now)).length (upCells ((L.take (i + 1)).filter (goneB now)))) := Lib.hid (fun o => by
          rw [HTK.out]
          exact own_keepB HO.out ((Keep.refl (fun _ => False) wr).alloc o) (fun _ _ h => h))
        clear hno hyes htk hgn hly hQi hd2 hdr hzz
        go_wp2
        go_roundg (L.length - (i + 1))
        case measure => have := HZ.out; omega
        case rel => exact ⟨i + 1, A2, c2, by have := HZ.out; omega, by go_num, by rw [HTK.out], HO2.out _, Q2.out _, K2.out _⟩
    · obtain rfl : L.length = i := by omega
      have t1 : decide ((L.length : Int) < (L.length : Int)) = false := by simp
      have hwhole : L.take L.length = L := List.take_length
      have ho := HO.out
      have hq := Q.out
      unfold leftL at hq
      rw [hwhole, List.drop_length, List.append_nil] at hq
      rw [hwhole] at ho ⊢
      have D : Hid (OverIs w wr q mb (.slice A2 (L.filter (goneB now)).length c2) now M L) := Lib.hid ⟨HP.out, HS.out, hq, ⟨A2, c2, rfl, fun h0 => by
        rcases ho.2 with ⟨e0, h00⟩ | ⟨g, cap', cur, e0, hgb, r⟩
        · omega
        · injection e0 with e1 e2 e3
          subst e1; subst e3
          exact ⟨g, rfl, by have := K5.out.size; omega, own_urow ho⟩⟩, (K5.out.mono (fun _ h _ => absurd h id)).trans K.out (by
          rintro j (h | h) hj
          · exact h
          · have := K5.out.size
            omega)⟩
      clear hwhole ho hq hzz hlt
      go_wp2
      go_ret
      exact ⟨_, _, rfl, D.out⟩

end Go.Proofs.Ytojnmbpicmgcpaa
