/- A region that draws its order and ends in a store: what holds of the world till that store. -/
import Derived.Test.YtojnmbpicmgcpaaRefR
import Derived.OrdersHeld
namespace Go.Proofs.Ytojnmbpicmgcpaa
open Go Go.RowKit
set_option linter.unusedVariables false
section
variable {P : Program} {ops : Array Oper} {Q : Exit → Act → World → Prop} {md : Region.Mode} {S : World → Prop} {s : Nat}

/-- In whatever order the rest comes up: S holds behind each operation, but behind number s, the last one. -/
def Upto (P : Program) (md : Region.Mode) (ops : Array Oper) (Q : Exit → Act → World → Prop) (S : World → Prop) (s : Nat) : Nat → Array Bool → Act → World → Prop
  | 0, L, a, w => Region.ready md ops L = [] ∧ Q .normal a w
  | f + 1, L, a, w => (Region.ready md ops L = [] → Q .normal a w) ∧ ∀ i ∈ Region.ready md ops L, wpOp P ops Q i (fun a' w' => (i = s ∨ S w') ∧ Upto P md ops Q S s f (L.setIfInBounds i true) a' w') a w
theorem Upto.any : ∀ (f : Nat) (L : Array Bool) (a : Act) (w : World), Upto P md ops Q S s f L a w → wpAny P md ops Q f L a w
  | 0, _, _, _, h => h
  | f + 1, _, _, _, h => ⟨h.1, fun i hi => wpOp_mono (fun _ _ g => Upto.any f _ _ _ g.2) (h.2 i hi)⟩
/-- The last one waits for number i. -/
def waitsFor (md : Region.Mode) (ops : Array Oper) (s i : Nat) : Bool := ((ops[s]?).map fun o => o.after.any fun e => Region.binds md e && e.on == i).getD false
theorem not_last {i : Nat} {L : Array Bool} (h : waitsFor md ops s i = true) (hi : L.getD i true = false) : s ∉ Region.ready md ops L := by
  intro hs
  obtain ⟨_, o, ho, hall⟩ := mem_ready.1 hs
  unfold waitsFor at h
  rw [ho] at h
  simp only [Option.map_some, Option.getD_some, Array.any_eq_true', Bool.and_eq_true, beq_iff_eq] at h
  obtain ⟨e, he, hb, hon⟩ := h
  have h1 := hall e he hb
  rw [hon] at h1
  rcases Nat.lt_or_ge i L.size with c | c
  · simp [c] at hi h1; rw [hi] at h1; cases h1
  · simp [Array.getElem?_eq_none c] at h1
theorem Upto.first {i : Nat} {oi : Oper} {v : Value} (hi : ops[i]? = some oi) (hsel : ∀ (j : Nat) (o : Oper) cs b, ops[j]? = some o → o.op ≠ .select cs b)
    (hQ : ∀ c a w, Q (.panic c) (a.put oi.dst v) w → Q (.panic c) a w) (hw : waitsFor md ops s i = true) (f : Nat) :
    ∀ (L : Array Bool) (a : Act) (w : World),
      (∀ j oj, ops[j]? = some oj → j ≠ i → L.getD j true = false → (∀ e ∈ oj.after, Region.binds md e = true → e.on ≠ i) → oi.apart ops oj = true) →
      i ∈ Region.ready md ops L → YieldsIf P ops S oi v a → S w → Upto P md ops Q S s f (L.setIfInBounds i true) (a.put oi.dst v) w → Upto P md ops Q S s (f + 1) L a w := by
  induction f with
  | zero =>
    intro L a w _ hr hy hS H
    refine ⟨fun h => absurd hr (by rw [h]; exact List.not_mem_nil), fun j hj => ?_⟩
    by_cases e : j = i
    · subst e; exact hy.wpOp hi hS ⟨.inr hS, H⟩
    · exact absurd (ready_mono hj e) (by rw [H.1]; exact List.not_mem_nil)
  | succ f ih =>
    intro L a w hfree hr hy hS H
    have hun := (mem_ready.1 hr).1
    refine ⟨fun h => absurd hr (by rw [h]; exact List.not_mem_nil), fun j hj => ?_⟩
    by_cases e : j = i
    · subst e; exact hy.wpOp hi hS ⟨.inr hS, H⟩
    · have hjs : j ≠ s := fun h => not_last hw hun (h ▸ hj)
      obtain ⟨hju, oj, hoj, hall⟩ := mem_ready.1 hj
      have hnot : ∀ g ∈ oj.after, Region.binds md g = true → g.on ≠ i := fun g hg hb heq => by
        have h1 := hall g hg hb
        rw [heq] at h1
        rcases Nat.lt_or_ge i L.size with c | c
        · simp [c] at hun h1; rw [hun] at h1; cases h1
        · simp [Array.getElem?_eq_none c] at h1
      refine wpOp_mono (fun a' w' g => ?_) (wpOp_putIf hoj (hfree j oj hoj e hju hnot) (fun cs b => hsel i oi cs b hi) (fun cs b => hsel j oj cs b hoj) hQ hy (H.2 j (ready_mono hj e)))
      have hS' : S w' := g.2.1.resolve_left hjs
      refine ⟨.inr hS', ih _ a' w' (fun k ok hk hki hku hno => hfree k ok hk hki ?_ hno) (ready_mono hr (Ne.symm e)) g.1 hS' ?_⟩
      · by_cases c : j = k
        · subst c; exact hju
        · rwa [getD_set_ne true c] at hku
      · rw [Array.setIfInBounds_comm _ _ e]
        exact g.2.2
theorem Upto.take {i : Nat} {oi : Oper} {v : Value} {f : Nat} {L : Array Bool} {a : Act} {w : World} (hi : ops[i]? = some oi)
    (hs : Region.noSelect ops = true) (hf : Region.free md ops L i = true) (hr : (Region.ready md ops L).contains i = true) (hw : waitsFor md ops s i = true)
    (hQ : ∀ c a w, Q (.panic c) (a.put oi.dst v) w → Q (.panic c) a w) (hS : S w) (hy : YieldsIf P ops S oi v a)
    (h : Upto P md ops Q S s f (L.setIfInBounds i true) (a.put oi.dst v) w) : Upto P md ops Q S s (f + 1) L a w :=
  Upto.first hi (Region.noSelect_spec hs) hQ hw f L a w (Region.free_spec hi hf) (by simpa using hr) hy hS h
/-- One alone may come up. -/
theorem Upto.one {i : Nat} {o : Oper} {f : Nat} {L : Array Bool} {a : Act} {w : World} (hr : Region.ready md ops L = [i]) (hi : ops[i]? = some o)
    (h : ∀ K : Act → World → Prop, Hid (∀ a' w', (i = s ∨ S w') → Upto P md ops Q S s f (L.setIfInBounds i true) a' w' → K a' w') → if Region.wanted o (yielded ops a.tmps) = true then Oper.wp P o a w K Q else K (a.put o.dst undef) w) :
    Upto P md ops Q S s (f + 1) L a w := by
  refine ⟨fun h0 => absurd h0 (by rw [hr]; simp), fun j hj => ?_⟩
  rw [hr, List.mem_singleton] at hj
  subst hj
  have := h _ (Lib.hid (fun a' w' h1 h2 => (⟨h1, h2⟩ : (j = s ∨ S w') ∧ Upto P md ops Q S s f (L.setIfInBounds j true) a' w')))
  unfold wpOp
  simp only [hi]
  split
  · rename_i hw
    rw [if_pos hw] at this
    exact .inl this
  · rename_i hw
    rw [if_neg hw] at this
    exact this
theorem Upto.done {f : Nat} {L : Array Bool} {a : Act} {w : World} (hr : Region.ready md ops L = []) (h : Q .normal a w) : Upto P md ops Q S s f L a w := by
  cases f with
  | zero => exact ⟨hr, h⟩
  | succ f => exact ⟨fun _ => h, fun i hi => absurd hi (by rw [hr]; exact List.not_mem_nil)⟩
theorem Upto.start {id : Nat} {a : Act} {w : World} (S : World → Prop) (s : Nat) (hm : P.follows .mixedOrders = true)
    (h : Upto P .any ops Q S s ops.size (Array.replicate ops.size false) a w.drew) : (Code.region id ops true).wp P Q a w :=
  wp_region_any hm (h.any _ _ _ _)
end
end Go.Proofs.Ytojnmbpicmgcpaa
