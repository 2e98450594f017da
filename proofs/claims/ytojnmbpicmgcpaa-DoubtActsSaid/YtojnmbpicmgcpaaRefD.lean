/- The document's doubts, as the heap has them; Drop, walked. -/
import Derived.Test.YtojnmbpicmgcpaaRLate
import Derived.Test.YtojnmbpicmgcpaaOver
namespace Go.Proofs.Ytojnmbpicmgcpaa
open Go.RowKit Sh
set_option linter.unusedVariables false

theorem info65 : (Try.prog.info? 65).map (fun i => (i.zero, i.size, i.bytes)) = some (some (.agg #[.int .i64 0, .int .u64 0, .int .i64 0, .int .u64 0, .int .u64 0, .int .u64 0, .int .u64 0]), 7, 56) := by kernel_rfl
/-- Block r of w: the document's doubts R, in this order, in the slice v. -/
structure IsRf (w : World) (r : Nat) (v : Value) (R : List Db) : Prop where
  cell : w.heap[r]? = some (.cells #[v] 31 (0, 0))
  own : w.ownsRow (r + 1) 65 7 v R.length (dbCells R)
def RS (r : Nat) (v : Value) (j : Nat) : Prop := j = r ∨ v.ownBlock = some j
theorem own_keepV {S : Nat → Prop} {w w' : World} {base : Nat} {e : TypeId} {size : Nat} {v : Value} {n : Nat} {xs : List Value} (h : w.ownsRow base e size v n xs) (k : Keep S w w') (hS : ∀ j, v.ownBlock = some j → ¬ S j) : w'.ownsRow base e size v n xs := by
  obtain ⟨h1, h2⟩ := h
  refine ⟨h1, ?_⟩
  rcases h2 with h2 | ⟨g, cap, cur, hv, hg, hh, r⟩
  · exact .inl h2
  · exact .inr ⟨g, cap, cur, hv, hg, k.old hh (hS g (by rw [hv]; rfl)), r⟩
theorem own_base {w : World} {b b' : Nat} {e : TypeId} {size : Nat} {v : Value} {n : Nat} {xs : List Value} (h : w.ownsRow b e size v n xs) (hb : b' ≤ b) : w.ownsRow b' e size v n xs := by
  obtain ⟨h1, h2⟩ := h
  refine ⟨h1, ?_⟩
  rcases h2 with h2 | ⟨g, cap, cur, hv, hg, r⟩
  · exact .inl h2
  · exact .inr ⟨g, cap, cur, hv, by omega, r⟩
theorem own_empty (w : World) (e : TypeId) (size base : Nat) (hb : base ≤ w.heap.size) : (w.alloc (.cells #[] e)).ownsRow base e size (.slice (some ⟨w.heap.size, 0, none⟩) 0 0) 0 [] :=
  ⟨by simp, .inr ⟨w.heap.size, 0, #[], rfl, hb, heap_alloc_new w _, Nat.le_refl _, by simp, by simp, by simp⟩⟩
section
variable {w w' : World} {r : Nat} {v : Value} {R : List Db}
theorem IsRf.keep {S : Nat → Prop} (h : IsRf w r v R) (k : Keep S w w') (hn : ∀ j, RS r v j → ¬ S j) : IsRf w' r v R :=
  ⟨k.old h.cell (hn r (.inl rfl)), own_keepV h.own k fun j hj => hn j (.inr hj)⟩
theorem IsRf.keep0 (h : IsRf w r v R) (k : Keep (fun _ => False) w w') : IsRf w' r v R := h.keep k fun _ _ h => h
theorem IsRf.c0 (h : IsRf w r v R) : w.cell? ⟨r, 0, none⟩ = some v := by
  have := h.cell
  simp [World.cell?, this]
theorem IsRf.lt (h : IsRf w r v R) : r < w.heap.size := (Array.getElem?_eq_some_iff.1 h.cell).1
theorem IsRf.fr (h : IsRf w r v R) : w.frozen? ⟨r, 0, none⟩ = false := by
  have := h.cell
  simp [World.frozen?, this]
theorem own_at {base n : Nat} {e : TypeId} {size : Nat} {A : Option Addr} {m cap : Nat} {xs : List Value} (h : w.ownsRow base e size (.slice A m cap) n xs) (hn : 0 < n) : ∃ g, A = some ⟨g, 0, none⟩ ∧ m = n := by
  rcases h.2 with ⟨e0, h0⟩ | ⟨g, cap', cur, e0, _⟩
  · omega
  · injection e0 with e1 e2 e3
    exact ⟨g, e1, e2⟩
theorem rd_cells {base g n cap : Nat} (h : w.ownsRow base 65 7 (.slice (some ⟨g, 0, none⟩) n cap) n (dbCells R)) (hn : R.length = n) (i : Nat) (hi : i < n) (c : Nat) (hc : c < 7) :
    w.cell? ⟨g, i * 7 + c, none⟩ = (dbC (db R i))[c]? :=
  (own_cell h (i * 7 + c) (by omega)).1.trans (dbCells_get R i c (by omega) hc)
end
theorem filter_take {α : Type} (L : List α) (p : α → Bool) (i : Nat) (h : i < L.length) : (L.take (i + 1)).filter p = (L.take i).filter p ++ if p L[i] then [L[i]] else [] := by
  rw [List.take_succ_eq_append_getElem h, List.filter_append]
  congr 1
  rw [List.filter_cons]
  split <;> simp_all

/-- x is of another node than n. -/
def nb (n : Int) (x : Db) : Bool := decide (x.n ≠ n)
theorem nb_yes {n : Int} {x : Db} (h : x.n ≠ n) : nb n x = true := decide_eq_true h
theorem nb_no {n : Int} {x : Db} (h : x.n = n) : nb n x = false := decide_eq_false (fun k => k h)
structure RDropIs (w w' : World) (r : Nat) (R' : List Db) : Prop where
  ex : ∃ v', IsRf w' r v' R' ∧ ∀ g, v'.ownBlock = some g → w.heap.size ≤ g
  keep : Keep (fun j => j = r) w w'

set_option maxRecDepth 100000 in
set_option maxHeartbeats 4000000 in
theorem rdrop_any {w : World} {r : Nat} {v : Value} {R : List Db} (h : IsRf w r v R) (n : Int) (hl : R.length ≤ 1000) :
    Calls Try.prog 12 #[.pointer (some ⟨r, 0, none⟩), .int .i64 n] w fun e w' => ∃ b : Bool, e = .returned (.bool b) ∧ (b = true ↔ ∃ x ∈ R, x.n = n) ∧ RDropIs w w' r (R.filter (nb n)) := by
  obtain ⟨j0, hj, hj2⟩ : ∃ i0, Try.prog.info? 65 = some i0 ∧ (i0.zero, i0.size, i0.bytes) = (some (.agg #[.int .i64 0, .int .u64 0, .int .i64 0, .int .u64 0, .int .u64 0, .int .u64 0, .int .u64 0]), 7, 56) := by
    have := info65
    rw [Option.map_eq_some_iff] at this
    exact this
  simp only [Prod.mk.injEq] at hj2
  obtain ⟨hy0, hy1, hy2⟩ := hj2
  have Hj := Lib.hid hj
  have Hy0 := Lib.hid hy0
  have Hy1 := Lib.hid hy1
  have Hy2 := Lib.hid hy2
  obtain ⟨A, c, rfl⟩ := own_shape h.own
  have H := Lib.hid h
  have LR := Lib.hid hl
  have E0 := Lib.hid (own_empty w 65 7 w.heap.size (Nat.le_refl _))
  have KA : Hid (Keep (fun _ => False) w (w.alloc (.cells #[] 65))) := Lib.hid ((Keep.refl _ w).alloc _)
  clear h hj hy0 hy1 hy2 hl
  go_enter Try.func12, Try.ntmps12
  go_wp2_with fail
  go_loopg [5, 6] R.length (fun z v5 v6 wr => ∃ (i : Nat) (A2 : Option Addr) (c2 n2 : Nat), i + z = R.length ∧ v6 = .int .i64 i ∧ v5 = .slice A2 n2 c2 ∧ n2 = ((R.take i).filter (nb n)).length ∧ wr.ownsRow w.heap.size 65 7 (.slice A2 n2 c2) n2 (dbCells ((R.take i).filter (nb n))) ∧ Keep (fun _ => False) w wr)
  case atStart => exact ⟨0, _, _, 0, by omega, rfl, rfl, rfl, E0.out, KA.out⟩
  case round =>
    obtain ⟨i, A2, c2, n2, hz, rfl, rfl, hn2, ho, hk⟩ := hrel
    have HO := Lib.hid ho
    have K := Lib.hid hk
    have HZ := Lib.hid hz
    have HN2 := Lib.hid hn2
    have HI := Lib.hid (H.out.keep0 hk)
    have c0 := HI.out.c0
    clear ho hk hz hn2
    by_cases hlt : i < R.length
    · have t1 : decide ((i : Int) < (R.length : Int)) = true := decide_eq_true (by omega)
      have t2 : (i : Int) < (R.length : Int) := by omega
      have t3 : (0 : Int) ≤ (i : Int) := by omega
      obtain ⟨g, rfl, _⟩ := own_at HI.out.own (by omega)
      have rc := rd_cells HI.out.own rfl i hlt
      have hfs := filter_take R (nb n) i hlt
      rw [← db_of hlt] at hfs
      obtain ⟨x, hx⟩ : ∃ x, x = db R i := ⟨_, rfl⟩
      rw [← hx] at rc hfs
      have HFS := Lib.hid hfs
      obtain ⟨xn, xi, xs, xf, xc, xt, xu⟩ := x
      have r0 : wr.cell? ⟨g, i * 7, none⟩ = some (.int .i64 xn) := rc 0 (by omega)
      have r1 : wr.cell? ⟨g, i * 7 + 1, none⟩ = some (.int .u64 xi) := rc 1 (by omega)
      have r2 : wr.cell? ⟨g, i * 7 + 2, none⟩ = some (.int .i64 xs) := rc 2 (by omega)
      have r3 : wr.cell? ⟨g, i * 7 + 3, none⟩ = some (.int .u64 xf) := rc 3 (by omega)
      have r4 : wr.cell? ⟨g, i * 7 + 4, none⟩ = some (.int .u64 xc) := rc 4 (by omega)
      have r5 : wr.cell? ⟨g, i * 7 + 5, none⟩ = some (.int .u64 xt) := rc 5 (by omega)
      have r6 : wr.cell? ⟨g, i * 7 + 6, none⟩ = some (.int .u64 xu) := rc 6 (by omega)
      have hn2l : n2 ≤ i := by
        rw [HN2.out]
        exact Nat.le_trans (List.length_filter_le _ _) (by simp; omega)
      have HNL := Lib.hid hn2l
      have HL := Lib.hid hlt
      have ew : IntKind.i64.wrap ((i : Int) + 1) = ((i + 1 : Nat) : Int) := by have := LR.out; rw [IntKind.wrap_i64]; omega
      clear rc hx hfs hn2l
      by_cases hxn : xn = n
      · subst hxn
        have t4 : (xn != xn) = false := by simp
        have HF2 : Hid (n2 = ((R.take (i + 1)).filter (nb xn)).length ∧ wr.ownsRow w.heap.size 65 7 (.slice A2 n2 c2) n2 (dbCells ((R.take (i + 1)).filter (nb xn)))) := Lib.hid (by
          have hd : nb xn (⟨xn, xi, xs, xf, xc, xt, xu⟩ : Db) = false := nb_no rfl
          rw [HFS.out, hd]
          simp only [Bool.false_eq_true, if_false, List.append_nil]
          exact ⟨HN2.out, HO.out⟩)
        go_wp2_with fail
        go_roundg (R.length - (i + 1))
        case measure => have := HZ.out; have := HL.out; omega
        case rel => exact ⟨i + 1, A2, c2, n2, by have := HL.out; omega, by go_num, rfl, HF2.out.1, HF2.out.2, K.out⟩
      · have t4 : (xn != n) = true := bne_iff_ne.2 hxn
        have HX := Lib.hid hxn
        clear hxn
        go_wp2_with (at_builtin; refine wpList_append_own_at _ rfl _ _ 29 rfl w.heap.size 65 j0 (.agg #[.int .i64 0, .int .u64 0, .int .i64 0, .int .u64 0, .int .u64 0, .int .u64 0, .int .u64 0]) 7 56 Try.underlying29 Hj.out Hy0.out Hy1.out Hy2.out rfl (by decide) _ _ _ rfl (HO.out.alloc _) ⟨wr.heap.size, 0, none⟩ 1 1 (dbCells [⟨xn, xi, xs, xf, xc, xt, xu⟩]) rfl rfl ?c1 ?c2 ?c3 ?c4 ?c5 ?_)
        case c1 =>
          intro j u h
          simpa [dbCells, dbC] using h
        case c2 => exact dbCells_one _
        case c3 => have := HNL.out; have := LR.out; simp only [maxLen]; omega
        case c4 => have := HNL.out; have := LR.out; omega
        case c5 => have := K.out.size; simp; omega
        intro v' w' hown hg2 _ _
        obtain ⟨A', c', rfl⟩ := own_shape hown
        have hK' : Keep (fun _ => False) w w' := (K.out.alloc _).grown hg2 (fun k hk hlt => by
          have := (own_block HO.out hk).1
          omega)
        have HO2 : Hid (n2 + 1 = ((R.take (i + 1)).filter (nb n)).length ∧ w'.ownsRow w.heap.size 65 7 (.slice A' (n2 + 1) c') (n2 + 1) (dbCells ((R.take (i + 1)).filter (nb n)))) := Lib.hid (by
          have hd : nb n (⟨xn, xi, xs, xf, xc, xt, xu⟩ : Db) = true := nb_yes HX.out
          rw [HFS.out, hd]
          simp only [if_true]
          rw [List.length_append, ← HN2.out, dbCells_append]
          exact ⟨rfl, hown⟩)
        have HK3 := Lib.hid hK'
        clear hown hg2 hK'
        go_wp2
        go_roundg (R.length - (i + 1))
        case measure => have := HZ.out; have := HL.out; omega
        case rel => exact ⟨i + 1, A', c', n2 + 1, by have := HL.out; omega, by go_num, rfl, HO2.out.1, HO2.out.2, HK3.out⟩
    · obtain rfl : R.length = i := by have := HZ.out; omega
      have t1 : decide ((R.length : Int) < (R.length : Int)) = false := by simp
      have fq := HI.out.fr
      have ht : (R.take R.length).filter (nb n) = R.filter (nb n) := by rw [List.take_length]
      rw [ht] at HO HN2
      have hb : decide (n2 < R.length) = true ↔ ∃ x ∈ R, x.n = n := by
        rw [decide_eq_true_eq, HN2.out]
        constructor
        · intro h
          rcases Classical.em (∃ x ∈ R, x.n = n) with c | c
          · exact c
          · have : R.filter (nb n) = R := List.filter_eq_self.2 (fun x hx => nb_yes fun e => c ⟨x, hx, e⟩)
            rw [this] at h
            omega
        · rintro ⟨x, hx, hxn⟩
          have h1 : (R.filter (nb n)).length < R.length := by
            rcases Nat.lt_or_ge (R.filter (nb n)).length R.length with c | c
            · exact c
            · have h2 := List.length_filter_le (nb n) R
              have := List.length_filter_eq_length_iff.1 (Nat.le_antisymm h2 c) x hx
              rw [nb_no hxn] at this
              cases this
          omega
      have HB := Lib.hid hb
      clear hb ht hlt
      have RES : Hid (RDropIs w (wr.setCell ⟨r, 0, none⟩ (.slice A2 n2 c2)) r (R.filter (nb n))) := Lib.hid (by
        have hlt := H.out.lt
        have hc := heap_setCell_at HI.out.cell 0 (.slice A2 n2 c2)
        have kk : Keep (fun j => j = r) wr (wr.setCell ⟨r, 0, none⟩ (.slice A2 n2 c2)) := (Keep.refl _ wr).setAt 0 _
        have hg : ∀ g, (Value.slice A2 n2 c2).ownBlock = some g → w.heap.size ≤ g := fun g hg => (own_block HO.out hg).1
        refine ⟨⟨.slice A2 n2 c2, ⟨by simpa using hc, ?_⟩, hg⟩, (K.out.mono (fun _ h _ => absurd h id)).setAt 0 _⟩
        have := own_keepV HO.out kk (fun j hj e => by have := hg j hj; omega)
        rw [← HN2.out]
        exact own_base this (by omega))
      go_wp2
      go_ret
      exact ⟨_, rfl, HB.out, RES.out⟩
end Go.Proofs.Ytojnmbpicmgcpaa
