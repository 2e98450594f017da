/- The document's shelf: find, Put, Get. -/
import Derived.Test.YtkbmggclecimeaaTellD
import Derived.Test.YtkbmggclecimeaaKeepM
namespace Go.Proofs.Ytkbmggclecimeaa
open Go.RowKit Sh
set_option linter.unusedVariables false

theorem info89 : (Try.prog.info? 89).map (fun i => (i.zero, i.size, i.bytes)) = some (some (.agg #[.int .u64 0, .int .i64 0, .int .u64 0, .string ⟨#[]⟩]), 4, 40) := by kernel_rfl
def itCells : List Ent → List Value
  | [] => []
  | e :: r => .int .u64 e.k :: .int .i64 e.s :: .int .u64 e.m :: .string ⟨#[]⟩ :: itCells r
theorem itCells_length (E : List Ent) : (itCells E).length = E.length * 4 := by
  induction E with
  | nil => rfl
  | cons e r ih => simp only [itCells, List.length_cons, ih]; omega
theorem itCells_append (E F : List Ent) : itCells (E ++ F) = itCells E ++ itCells F := by
  induction E with
  | nil => rfl
  | cons e r ih => simp [itCells, ih]
def en (E : List Ent) (i : Nat) : Ent := E.getD i ⟨0, 0, 0⟩
theorem itCells_at (E : List Ent) (i : Nat) (h : i < E.length) : (itCells E)[i * 4]? = some (.int .u64 (en E i).k) ∧ (itCells E)[i * 4 + 1]? = some (.int .i64 (en E i).s) ∧ (itCells E)[i * 4 + 2]? = some (.int .u64 (en E i).m) ∧ (itCells E)[i * 4 + 3]? = some (.string ⟨#[]⟩) := by
  induction E generalizing i with
  | nil => simp at h
  | cons e r ih =>
    cases i with
    | zero => simp [itCells, en]
    | succ i =>
      have := ih i (by simpa using h)
      rw [show (i + 1) * 4 = i * 4 + 1 + 1 + 1 + 1 by omega, show i * 4 + 1 + 1 + 1 + 1 + 1 = (i * 4 + 1) + 1 + 1 + 1 + 1 by omega, show i * 4 + 1 + 1 + 1 + 1 + 2 = (i * 4 + 2) + 1 + 1 + 1 + 1 by omega, show i * 4 + 1 + 1 + 1 + 1 + 3 = (i * 4 + 3) + 1 + 1 + 1 + 1 by omega]
      simp only [itCells, List.getElem?_cons_succ]
      simpa [en] using this
theorem itCells_one (E : List Ent) : ∀ u ∈ itCells E, u.oneCell' = true := by
  induction E with
  | nil => simp [itCells]
  | cons e r ih =>
    intro u hu
    simp only [itCells, List.mem_cons] at hu
    rcases hu with rfl | rfl | rfl | rfl | hu
    · rfl
    · rfl
    · rfl
    · rfl
    · exact ih u hu
theorem en_mem {E : List Ent} {i : Nat} (h : i < E.length) : en E i ∈ E := by
  rw [show en E i = E[i] by simp [en, h]]; exact List.getElem_mem h
theorem mem_en {E : List Ent} {e : Ent} (h : e ∈ E) : ∃ i, i < E.length ∧ en E i = e := by
  obtain ⟨i, hi, he⟩ := List.mem_iff_getElem.1 h
  exact ⟨i, hi, by simp [en, hi, he]⟩

structure IsRef (w : World) (B : Nat) (E : List Ent) : Prop where
  ex : ∃ v, w.heap[B]? = some (.cells #[v, .int .u64 0] 84 (0, 0)) ∧ w.ownsRow (B + 1) 89 4 v E.length (itCells E)
theorem own_keepS {S : Nat → Prop} {w w' : World} {base : Nat} {e : TypeId} {size : Nat} {v : Value} {n : Nat} {xs : List Value} (h : w.ownsRow base e size v n xs) (k : Keep S w w') (hS : ∀ i, base ≤ i → ¬ S i) : w'.ownsRow base e size v n xs := by
  obtain ⟨h1, h2⟩ := h
  refine ⟨h1, ?_⟩
  rcases h2 with h2 | ⟨g, cap, cur, hv, hg, hh, r⟩
  · exact .inl h2
  · exact .inr ⟨g, cap, cur, hv, hg, k.old hh (hS g hg), r⟩
theorem IsRef.keep {S : Nat → Prop} {w w' : World} {B : Nat} {E : List Ent} (h : IsRef w B E) (k : Keep S w w') (hS : ∀ i, B ≤ i → ¬ S i) : IsRef w' B E := by
  obtain ⟨v, h1, h2⟩ := h.ex
  exact ⟨v, k.old h1 (hS B (Nat.le_refl _)), own_keepS h2 k (fun i hi => hS i (by omega))⟩
theorem ref_cells {w : World} {base g n cap : Nat} {E : List Ent} (h : w.ownsRow base 89 4 (.slice (some ⟨g, 0, none⟩) n cap) n (itCells E)) (hn : E.length = n) (i : Nat) (hi : i < n) :
    w.cell? ⟨g, i * 4, none⟩ = some (.int .u64 (en E i).k) ∧ w.cell? ⟨g, i * 4 + 1, none⟩ = some (.int .i64 (en E i).s) ∧ w.cell? ⟨g, i * 4 + 2, none⟩ = some (.int .u64 (en E i).m) ∧ w.cell? ⟨g, i * 4 + 3, none⟩ = some (.string ⟨#[]⟩) := by
  obtain ⟨a1, a2, a3, a4⟩ := itCells_at E i (by omega)
  exact ⟨(own_cell h (i * 4) (by omega)).1.trans a1, (own_cell h (i * 4 + 1) (by omega)).1.trans a2, (own_cell h (i * 4 + 2) (by omega)).1.trans a3, (own_cell h (i * 4 + 3) (by omega)).1.trans a4⟩

set_option maxRecDepth 100000 in
set_option maxHeartbeats 1000000 in
theorem find_any {w : World} {B : Nat} {E : List Ent} (h : IsRef w B E) (n : Int) (hE : E.length ≤ 1000) :
    Calls Try.prog 62 #[.pointer (some ⟨B, 0, none⟩), .int .u64 n] w fun e w' => (∃ r : Int, e = .returned (.int .i64 r) ∧ ((r = -1 ∧ ∀ x ∈ E, x.k ≠ n) ∨ ∃ i : Nat, i < E.length ∧ r = i ∧ (en E i).k = n)) ∧ w = w' := by
  obtain ⟨v, hb, ho⟩ := h.ex
  obtain ⟨A, c, rfl⟩ := own_shape ho
  have c0 : w.cell? ⟨B, 0, none⟩ = some (.slice A E.length c) := by simp [World.cell?, hb]
  have HO := Lib.hid ho
  clear h hb ho
  go_enter Try.func62, Try.ntmps62
  go_wp2
  go_loopg [5] E.length (fun q v5 wr => ∃ i : Nat, i + q = E.length ∧ v5 = .int .i64 i ∧ (∀ k, k < i → (en E k).k ≠ n) ∧ w = wr)
  case atStart => exact ⟨0, by omega, rfl, fun k hk => by omega, rfl⟩
  case round =>
    obtain ⟨i, hq, rfl, hno, rfl⟩ := hrel
    have HQ := Lib.hid hq
    have HN := Lib.hid hno
    clear hq hno
    by_cases hlt : i < E.length
    · obtain ⟨g, rfl, _⟩ := own_form HO.out (by omega)
      obtain ⟨x0, _⟩ := ref_cells HO.out rfl i hlt
      obtain ⟨kk, hkk⟩ : ∃ k, k = (en E i).k := ⟨_, rfl⟩
      rw [← hkk] at x0
      have HK := Lib.hid hkk
      clear hkk
      by_cases he : kk = n
      · subst he
        have R : Hid ((∃ r : Int, Ending.returned (.int .i64 (i : Int)) = .returned (.int .i64 r) ∧ ((r = -1 ∧ ∀ x ∈ E, x.k ≠ kk) ∨ ∃ j : Nat, j < E.length ∧ r = j ∧ (en E j).k = kk))) := ⟨i, rfl, .inr ⟨i, hlt, rfl, HK.out.symm⟩⟩
        go_wp2
        go_ret
        exact ⟨R.out, rfl⟩
      · have t1 : (kk == n) = false := by rw [beq_eq_false_iff_ne]; exact he
        go_wp2
        go_roundg (E.length - (i + 1))
        case measure => have := HQ.out; omega
        case rel => exact ⟨i + 1, by omega, by go_num, fun k hk => by
          by_cases e : k = i
          · subst e; rw [← HK.out]; exact he
          · exact HN.out k (by omega), rfl⟩
    · obtain rfl : E.length = i := by have := HQ.out; omega
      have R : Hid ((∃ r : Int, Ending.returned (.int .i64 (-1)) = .returned (.int .i64 r) ∧ ((r = -1 ∧ ∀ x ∈ E, x.k ≠ n) ∨ ∃ j : Nat, j < E.length ∧ r = j ∧ (en E j).k = n))) := ⟨-1, rfl, .inl ⟨rfl, fun x hx => by
        obtain ⟨j, hj, rfl⟩ := mem_en hx
        exact HN.out j hj⟩⟩
      go_wp2
      go_ret
      exact ⟨R.out, rfl⟩

end Go.Proofs.Ytkbmggclecimeaa
