/- DoubtOnce, walked. -/
import Derived.Test.YtojnmbpicmgcpaaRowS
namespace Go.Proofs.Ytojnmbpicmgcpaa
open Go.RowKit Sh
open Go.ChangeMaps (setBlock)
set_option linter.unusedVariables false

def nk (n : Int) : Int := n
def nv (n : Int) : Value := .bool true
theorem zero4 (w : World) : (zeroValue 4).run Try.prog w = .ok (.bool false) w := by kernel_rfl
theorem IsMp.seen {w : World} {V : Nat} {W : List Int} (h : IsMp nk nv w V W) (n : Int) (b : Bool) (hb : b = true ↔ n ∈ W) : (Instr.lookup 53 (.map (some V)) (.int .i64 n) false).run Try.prog w = .ok (.bool b) w := by
  by_cases c : n ∈ W
  · rw [hb.2 c]
    exact h.look_in (P := Try.prog) Try.underlying53 Try.underlying3 c n rfl false
  · have : b = false := by
      cases b with
      | false => rfl
      | true => exact absurd (hb.1 rfl) c
    rw [this]
    exact h.look_out (P := Try.prog) Try.underlying53 Try.underlying3 (zero4 w) n (fun x hx hn => c (by rw [← hn]; exact hx)) false
structure OW (w wr : World) (q V m : Nat) (mb : Option Nat) (now : Int) (M : List Db) (W : List Int) : Prop where
  que : IsQ wr q mb M
  map : IsMp nk nv wr V W
  same : (M.map Db.n).Perm W
  itm : ∀ x ∈ M, 0 ≤ x.n ∧ x.n < 64 ∧ x.i = x.n + 7 ∧ x.f = 2 ∧ x.u = now + 14
  len : M.length ≤ m
  hq : w.heap.size ≤ q
  hV : V = q + 1
  hB : ∀ B, mb = some B → q + 2 ≤ B
  keep : Keep (fun _ => False) w wr
section
variable {w wr : World} {q V m : Nat} {mb : Option Nat} {now : Int} {M : List Db} {W : List Int}
theorem OW.nqs (h : OW w wr q V m mb now M W) : ¬ QS q mb V := by
  have := h.hV
  rintro (h1 | h1)
  · omega
  · have := h.hB V h1
    omega
theorem OW.hB' (h : OW w wr q V m mb now M W) : ∀ B, mb = some B → w.heap.size ≤ B := fun B hB => by
  have := h.hB B hB
  have := h.hq
  omega
theorem OW.keep0 {W2 : World} (h : OW w wr q V m mb now M W) (k : Keep (fun _ => False) wr W2) : OW w W2 q V m mb now M W :=
  ⟨h.que.keep0 k, h.map.keep k id, h.same, h.itm, h.len, h.hq, h.hV, h.hB, h.keep.step k⟩
/-- a new doubt, and its node is wanted. -/
theorem OW.raise {W2 : World} {n : Int} (h : OW w wr q V m mb now M W) (n0 : 0 ≤ n) (n1 : n < 64) (hnow : 0 ≤ now ∧ now ≤ 4294967295) (hno : n ∉ W) (r : RaiseIs wr W2 q mb M n (n + 7) 2 now (fun t => t = 14)) :
    ∃ B o, (Instr.mapUpdate 53 (.map (some V)) (.int .i64 n) (.bool true)).run Try.prog W2 = .ok () (setBlock W2 V o) ∧ OW w (setBlock W2 V o) q V (m + 1) (some B) now (M ++ [⟨n, n + 7, 1, 2, now, 0, now + 14⟩]) (W ++ [n]) := by
  obtain ⟨B, t, ⟨rfl, _, _⟩, hq, hB⟩ := r.ex
  have hs : sat now 14 = now + 14 := by unfold sat; rw [if_pos (by omega)]
  rw [hs] at hq
  have hnoM : ∀ x ∈ M, x.n ≠ n := fun x hx he => hno (h.same.mem_iff.1 (List.mem_map.2 ⟨x, hx, he⟩))
  rw [put_out M ⟨n, n + 7, 1, 2, now, 0, now + 14⟩ hnoM] at hq
  have hm := h.map.keep r.keep h.nqs
  obtain ⟨o, hr, hi⟩ := hm.upd_out (P := Try.prog) Try.underlying53 Try.underlying3 n (fun x hx he => hno (by rw [← show x = n from he]; exact hx)) (.bool true) rfl n rfl
  have hBV : q + 2 ≤ B := by
    rcases hB with hb | ⟨_, hb⟩
    · exact h.hB B hb
    · have := h.map.lt
      have := h.hV
      omega
  have k : Keep (fun b => b = V) W2 (setBlock W2 V o) := keep_setBlock (Keep.refl _ W2) V o (fun _ => rfl)
  refine ⟨B, o, hr, ⟨hq.keep k ?_, hi, ?_, ?_, ?_, h.hq, h.hV, fun B' hb => ?_, (Keep.drop h.keep r.keep h.hq h.hB').trans k (fun i hi hlt => ?_)⟩⟩
  · have := h.hV
    rintro j (hj | hj) rfl
    · omega
    · injection hj with hj
      omega
  · rw [List.map_append]
    exact h.same.append_right _
  · intro x hx
    rcases List.mem_append.1 hx with hx | hx
    · exact h.itm x hx
    · simp at hx
      subst hx
      exact ⟨n0, n1, rfl, rfl, rfl⟩
  · rw [List.length_append]
    have := h.len
    simp; omega
  · injection hb with hb
    omega
  · have h1 := h.hV
    have h2 := h.hq
    omega
/-- a node that was wanted already. -/
theorem OW.again {n : Int} (h : OW w wr q V m mb now M W) (hin : n ∈ W) :
    ∃ o, (Instr.mapUpdate 53 (.map (some V)) (.int .i64 n) (.bool true)).run Try.prog wr = .ok () (setBlock wr V o) ∧ OW w (setBlock wr V o) q V m mb now M W := by
  obtain ⟨o, hr, hi⟩ := h.map.upd_in (P := Try.prog) Try.underlying53 Try.underlying3 n ⟨n, hin, rfl⟩ (.bool true) rfl n rfl
  have e : (W.map fun z => if nk z = nk n then n else z) = W := by
    conv => rhs; rw [← List.map_id W]
    refine List.map_congr_left (fun z _ => ?_)
    by_cases c : nk z = nk n
    · rw [if_pos c]; exact c.symm
    · rw [if_neg c]; rfl
  rw [e] at hi
  have k : Keep (fun b => b = V) wr (setBlock wr V o) := keep_setBlock (Keep.refl _ wr) V o (fun _ => rfl)
  refine ⟨o, hr, ⟨h.que.keep k ?_, hi, h.same, h.itm, h.len, h.hq, h.hV, h.hB, h.keep.trans k (fun i hi hlt => ?_)⟩⟩
  · rintro j hj rfl
    exact h.nqs hj
  · have h1 := h.hV
    have h2 := h.hq
    omega
/-- one is dropped. -/
theorem OW.drop {W2 : World} {n : Int} {b : Bool} (h : OW w wr q V m mb now M W) (d : DropIs wr W2 q mb M n b) : (b = true ↔ n ∈ W) ∧ IsMp nk nv W2 V W ∧
    ∃ o, (Builtin.delete_ #[53, 3] 0 #[.map (some V), .int .i64 n]).run Try.prog W2 = .ok (.tuple #[]) (setBlock W2 V o) ∧ OW w (setBlock W2 V o) q V m mb now (M.filter fun z => z.n ≠ n) (W.filter fun z => z ≠ n) := by
  have hm := h.map.keep (Keep.qs (q := q) d.keep) h.nqs
  obtain ⟨o, hr, hi⟩ := hm.del (P := Try.prog) Try.underlying53 Try.underlying3 n 3 0
  have k : Keep (fun b => b = V) W2 (setBlock W2 V o) := keep_setBlock (Keep.refl _ W2) V o (fun _ => rfl)
  refine ⟨⟨fun hb => ?_, fun hb => ?_⟩, hm, o, hr, ⟨d.que.keep k ?_, hi, ?_, ?_, ?_, h.hq, h.hV, h.hB, (Keep.drop h.keep (Keep.qs (q := q) d.keep) h.hq h.hB').trans k (fun i hi hlt => ?_)⟩⟩
  · obtain ⟨x, hx, hxn⟩ := d.was.1 hb
    exact h.same.mem_iff.1 (List.mem_map.2 ⟨x, hx, hxn⟩)
  · obtain ⟨x, hx, hxn⟩ := List.mem_map.1 (h.same.mem_iff.2 hb)
    exact d.was.2 ⟨x, hx, hxn⟩
  · rintro j hj rfl
    exact h.nqs hj
  · have e : (M.filter fun z => z.n ≠ n).map Db.n = (M.map Db.n).filter fun z => z ≠ n := by
      rw [List.filter_map]; rfl
    rw [e]
    exact h.same.filter _
  · exact fun x hx => h.itm x (List.mem_filter.1 hx).1
  · exact Nat.le_trans (List.length_filter_le _ _) h.len
  · have h1 := h.hV
    have h2 := h.hq
    omega
end

end Go.Proofs.Ytojnmbpicmgcpaa
