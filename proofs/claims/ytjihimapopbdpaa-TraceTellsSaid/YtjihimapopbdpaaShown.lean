/- Slices that are built; the law's shown. -/
import Derived.Test.YtjihimapopbdpaaAccept
namespace Go.Proofs.Ytjihimapopbdpaa
open Go.RowKit Sh
open Go.ChangeMaps (setBlock)
set_option linter.unusedVariables false

def esC : List Ent → List Value
  | [] => []
  | e :: L => (entA e).toList ++ esC L
theorem esC_length (L : List Ent) : (esC L).length = L.length * 9 := by
  induction L with
  | nil => rfl
  | cons e L ih => simp [esC, entA, ih]; omega
theorem esC_append (L M : List Ent) : esC (L ++ M) = esC L ++ esC M := by
  induction L with
  | nil => rfl
  | cons e L ih => simp [esC, ih]
theorem esC_get : ∀ (L : List Ent) (i j : Nat) (h : i < L.length), j < 9 → (esC L)[i * 9 + j]? = (entA L[i])[j]?
  | [], i, j, h, _ => by simp at h
  | e :: L, 0, j, h, hj => by
    simp only [esC, Nat.zero_mul, Nat.zero_add, List.getElem_cons_zero]
    rw [List.getElem?_append_left (by simp [entA]; omega)]
    simp
  | e :: L, i + 1, j, h, hj => by
    have := esC_get L i j (by simpa using h) hj
    simp only [esC, List.getElem_cons_succ]
    rw [List.getElem?_append_right (by simp [entA]; omega), ← this]
    congr 1
    simp [entA]; omega
theorem IsEs.of_cells {w : World} {g c : Nat} {L : List Ent} (hc : L.length ≤ c) (hl : L.length ≤ 17592186044416) (h : ∀ k, k < L.length * 9 → w.cell? ⟨g, k, none⟩ = (esC L)[k]?) : IsEs w (.slice (some ⟨g, 0, none⟩) L.length c) L :=
  ⟨_, c, rfl, hc, hl, fun _ => ⟨g, 0, rfl, fun i hi j hj => by rw [Nat.zero_add, h _ (by omega), esC_get L i j hi hj]⟩⟩
theorem IsEs.of_block {w : World} {g c n : Nat} {L : List Ent} {cs : Array Value} {t : TypeId} {fr : Nat × Nat} (hn : n = L.length) (hc : L.length ≤ c) (hl : L.length ≤ 17592186044416) (hb : w.heap[g]? = some (.cells cs t fr)) (he : cs.toList = esC L) : IsEs w (.slice (some ⟨g, 0, none⟩) n c) L := by
  subst hn
  refine IsEs.of_cells hc hl fun k hk => ?_
  simp only [World.cell?, hb]
  rw [← he]
  simp

theorem wr_nil : wr_ [] = 0 := rfl
theorem acc_shown : accP [⟨0, false, 2, 0, 0, 1, 0, 0, ⟨#[]⟩⟩] = (0, 5) := by
  simp [accP, accGo, wr_, tst, runT, vstep, ostep, Ent.inst, Ent.out, Ent.dlv, v0, o0]
theorem shown_any (w : World) : Calls Try.prog 7 #[] w fun r w' => r = .returned (.bool true) ∧ Keep (fun _ => False) w w' := by
  go_enter Try.func7, Try.ntmps7
  go_wp2_with fail
  refine (accept_any (IsEs.of_block (L := [⟨0, false, 2, 0, 0, 1, 0, 0, ⟨#[]⟩⟩]) rfl (by simp) (by simp) (heap_alloc_new w _) rfl)).mono ?_
  rintro r w1 ⟨rfl, hk1⟩
  rw [acc_shown]
  have HK := Lib.hid (((Keep.refl (fun _ => False) w).alloc _).step hk1)
  clear hk1
  go_wp2
  go_ret
  exact ⟨rfl, HK.out⟩

end Go.Proofs.Ytjihimapopbdpaa
