/- What the document's four tests have in common. -/
import Derived.Test.YtjihimapopbdpaaRNext
namespace Go.Proofs.Ytjihimapopbdpaa
open Go.RowKit Sh
open Go.ChangeMaps (setBlock)
set_option linter.unusedVariables false

/-- The first error of entries, one by one. -/
def firstE (err : Nat → Int) : Nat → Nat → Int
  | 0, _ => 0
  | q + 1, i => if err i = 0 then firstE err q (i + 1) else err i
theorem firstE_succ (err : Nat → Int) (n i : Nat) (h : i < n) : firstE err (n - i) i = if err i = 0 then firstE err (n - (i + 1)) (i + 1) else err i := by
  rw [show n - i = (n - (i + 1)) + 1 by omega]; rfl
structure VB (w : World) (b : Nat) (i m : Int) : Prop where
  c0 : w.cell? ⟨b, 0, none⟩ = some (.int .u64 i)
  c1 : w.cell? ⟨b, 1, none⟩ = some (.int .u64 m)
theorem VB.keep {w w' : World} {b : Nat} {i m : Int} (h : VB w b i m) (k : Keep (fun _ => False) w w') : VB w' b i m := ⟨k.cell h.c0, k.cell h.c1⟩
theorem VB.new (w : World) (i m : Int) (t : TypeId) : VB (w.alloc (.cells #[.int .u64 i, .int .u64 m] t)) w.heap.size i m := ⟨cell_new rfl rfl, cell_new rfl rfl⟩
structure MB (w : World) (b : Nat) (e : Ent) : Prop where
  c0 : w.cell? ⟨b, 0, none⟩ = some (.int .i64 e.snd)
  c1 : w.cell? ⟨b, 1, none⟩ = some (.int .u64 e.num)
  c2 : w.cell? ⟨b, 2, none⟩ = some (.string e.text)
theorem MB.keep {w w' : World} {b : Nat} {e : Ent} (h : MB w b e) (k : Keep (fun _ => False) w w') : MB w' b e := ⟨k.cell h.c0, k.cell h.c1, k.cell h.c2⟩
theorem MB.new (w : World) (e : Ent) (t : TypeId) : MB (w.alloc (.cells #[.int .i64 e.snd, .int .u64 e.num, .string e.text] t)) w.heap.size e := ⟨cell_new rfl rfl, cell_new rfl rfl, cell_new rfl rfl⟩
theorem viewP_form (L : List Ent) (nd : Int) : ∀ i, viewP L nd i = -1 ∨ ∃ j : Nat, j < i ∧ viewP L nd i = (j : Int) ∧ (L.getD j default).inst = true ∧ (L.getD j default).node = nd
  | 0 => .inl rfl
  | i + 1 => by
    rw [viewP_succ]
    split
    · next h =>
      simp only [Bool.and_eq_true, beq_iff_eq] at h
      exact .inr ⟨i, by omega, rfl, h.1, h.2⟩
    · rcases viewP_form L nd i with h | ⟨j, h1, h2⟩
      · exact .inl h
      · exact .inr ⟨j, by omega, h2⟩
theorem seatP_form (L : List Ent) (nd : Int) : ∀ i, seatP L nd i = -1 ∨ ∃ j : Nat, j < i ∧ seatP L nd i = (j : Int) ∧ (L.getD j default).inst = true ∧ (L.getD j default).node = nd
  | 0 => .inl rfl
  | i + 1 => by
    rw [seatP_succ]
    have ih := seatP_form L nd i
    split
    · next h =>
      split
      · exact .inl rfl
      · split
        · next h2 => exact .inr ⟨i, by omega, rfl, h2, h⟩
        · rcases ih with h | ⟨j, h1, h2⟩
          · exact .inl h
          · exact .inr ⟨j, by omega, h2⟩
    · rcases ih with h | ⟨j, h1, h2⟩
      · exact .inl h
      · exact .inr ⟨j, by omega, h2⟩
theorem has_in {b n : Int} {r : Bool} {w0 : World} (h0 : 0 ≤ b) (h1 : b < 18446744073709551616) (h : hasP b n = r) : ∀ W, Keep (fun _ => False) w0 W → Calls Try.prog 40 #[.int .u64 b, .int .i64 n] W (fun e W' => e = .returned (.bool r) ∧ Keep (fun _ => False) w0 W') :=
  fun W hW => (rhas_any b n W h0 h1).mono fun _ _ ⟨h2, k⟩ => ⟨by rw [h2, h], k ▸ hW⟩
structure LOk (L : List Ent) : Prop where
  out : ∀ i, i < L.length → EOk (L.getD i default)
theorem LOk.of {L : List Ent} (h : ∀ e ∈ L, EOk e) : LOk L := ⟨fun i hi => h _ (by simp [List.getD, hi])⟩
theorem EOk.vok {e : Ent} (h : EOk e) : VOk ⟨e.id, e.mem⟩ := ⟨h.id, h.mem⟩
end Go.Proofs.Ytjihimapopbdpaa
