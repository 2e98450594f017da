/- A detector, its lots and the notes that grow beside it. -/
import Derived.Test.YtofonfohaocclaaGreatDoorG26
namespace Go.Proofs.YtofonfohaocclaaGreatDoor
open Go.RowKit Sh
open Go.ChangeMaps (setBlock)
set_option linter.unusedVariables false

theorem info62 : ∃ i, Info 62 (.agg #[.int .i64 0, .int .i64 0, .int .i64 0, .int .u64 0, .int .i64 0, .slice none 0 0]) 6 64 i := Info.of (by kernel_rfl)
/-- What changes of a detector's, its lots', and of rows of notes from base on. -/
structure NLSet (w w' : World) (base b : Nat) (p : Parts) (xl : Nat) (d' : Det) (L' : List Int) : Prop where
  ex : ∃ p', IsDet w' b d' p' ∧ ∀ k, p'.has b k → p.has b k ∨ w.heap.size ≤ k
  lots : IsLots w' xl L'
  keep : Keep (fun k => p.has b k ∨ k = xl ∨ (base ≤ k ∧ Kind w k (some 62))) w w'
theorem DLSet.nl {w w' : World} {b : Nat} {p : Parts} {xl : Nat} {d' : Det} {L' : List Int} (h : DLSet w w' b p xl d' L') (base : Nat) : NLSet w w' base b p xl d' L' :=
  ⟨h.ex, h.lots, h.keep.mono fun k hk _ => by
    rcases hk with hk | hk
    · exact .inl hk
    · exact .inr (.inl hk)⟩
theorem NLSet.dl {w w' : World} {base b : Nat} {p : Parts} {xl : Nat} {d' : Det} {L' : List Int} (h : NLSet w w' base b p xl d' L') (hb : w.heap.size ≤ base) : DLSet w w' b p xl d' L' :=
  ⟨h.ex, h.lots, h.keep.mono fun k hk hl => by
    rcases hk with hk | hk | hk
    · exact .inl hk
    · exact .inr hk
    · omega⟩
theorem Kind.back {S : Nat → Prop} {w w' : World} {k : Nat} {t : Option TypeId} (hk : Keep S w w') (hl : k < w.heap.size) (hS : ¬ S k) (h : Kind w' k t) : Kind w k t := by
  have e := hk.block k hl hS
  refine ⟨?_⟩
  have h1 := h.is
  cases t with
  | none => obtain ⟨a, c, hc⟩ := h1; exact ⟨a, c, e ▸ hc⟩
  | some t => obtain ⟨cs, hc⟩ := h1; exact ⟨cs, e ▸ hc⟩
theorem NLSet.next {w w1 w2 : World} {base b xl : Nat} {p p1 : Parts} {d2 : Det} {L2 : List Int} (hsub : ∀ k, p1.has b k → p.has b k ∨ w.heap.size ≤ k) (hk : Keep (fun k => p.has b k ∨ k = xl ∨ (base ≤ k ∧ Kind w k (some 62))) w w1) (h : NLSet w1 w2 base b p1 xl d2 L2) : NLSet w w2 base b p xl d2 L2 := by
  obtain ⟨p', h1, h2⟩ := h.ex
  refine ⟨⟨p', h1, fun k hk' => ?_⟩, h.lots, hk.trans h.keep fun k hk' hlt => ?_⟩
  · rcases h2 k hk' with h3 | h3
    · exact hsub k h3
    · exact .inr (by have := hk.size; omega)
  · rcases hk' with h3 | h3 | h3
    · rcases hsub k h3 with h4 | h4
      · exact .inl h4
      · omega
    · exact .inr (.inl h3)
    · by_cases hs : p.has b k ∨ k = xl ∨ (base ≤ k ∧ Kind w k (some 62))
      · exact hs
      · exact .inr (.inr ⟨h3.1, h3.2.back hk hlt hs⟩)
theorem NLSet.keep0 {w w1 w2 : World} {base b xl : Nat} {p : Parts} {d2 : Det} {L2 : List Int} (h : NLSet w w1 base b p xl d2 L2) (k : Keep (fun _ => False) w1 w2) : NLSet w w2 base b p xl d2 L2 := by
  obtain ⟨p', h1, h2⟩ := h.ex
  exact ⟨⟨p', h1.keep0 k, h2⟩, h.lots.keep0 k, h.keep.step (k.mono fun _ h _ => h.elim)⟩
theorem app_bound {k : Nat} (h : k < 2199023255552) : k + 1 ≤ maxLen ∧ (k + 1) * 64 ≤ 140737488355328 := ⟨by simp only [maxLen]; omega, by omega⟩
theorem ownNts_app {w w' : World} {base : Nat} {v v' : Value} {ps : List (Nt × Value)} {x : Nt × Value} (hown : w.ownsRow base 62 6 v ps.length (flat ntC ps)) (hn : ∀ y ∈ ps, NewsAt w base y) (hx : NewsAt w base x) (ho : w'.ownsRow base 62 6 v' (ps.length + 1) (flat ntC ps ++ ntC x)) (k : Keep (fun j => v.ownBlock = some j) w w') : OwnNts w' base v' (ps.map Prod.fst ++ [x.1]) := by
  have hS : ∀ j, base ≤ j → Kind w j (some 52) → ¬ v.ownBlock = some j := fun j _ hk e => (own_typed hown e).2.ne hk (by decide) rfl
  refine ⟨ps ++ [x], by simp, by rw [List.length_append, flat_append, flat_one]; exact ho, fun y hy => ?_⟩
  rcases List.mem_append.1 hy with hy | hy
  · exact (hn y hy).keep k hS
  · rw [List.mem_singleton] at hy
    subst hy
    exact hx.keep k hS
/-- Ahead of the append of a note that was said. -/
structure HPre (w3 w5 : World) (base b : Nat) (p : Parts) (xl : Nat) (v v5 : Value) (cs : Array Value) (ps : List (Nt × Value)) (n1 : Nt) (X : List Nt) (d1 : Det) (L' : List Int) : Prop where
  own : (w5.alloc (.cells cs 62)).ownsRow base 62 6 v ps.length (flat ntC ps)
  news : ∀ y ∈ ps, NewsAt (w5.alloc (.cells cs 62)) base y
  x5 : NewsAt (w5.alloc (.cells cs 62)) base (n1, v5)
  len : (ntC (n1, v5)).length = 1 * 6
  at_ : ∀ j u, (ntC (n1, v5))[j]? = some u → (w5.alloc (.cells cs 62)).cell? ((⟨w5.heap.size, 0, none⟩ : Addr).add j) = some u
  one : ∀ u ∈ ntC (n1, v5), u.oneCell' = true
  fst : ps.map Prod.fst = X
  bd1 : ps.length + 1 ≤ maxLen
  bd2 : (ps.length + 1) * 64 ≤ 140737488355328
  bs : base ≤ (w5.alloc (.cells cs 62)).heap.size
  set : NLSet w3 (w5.alloc (.cells cs 62)) base b p xl d1 L'
theorem help_pre {w3 wr w5 : World} {base b xl : Nat} {p pi : Parts} {v v5 : Value} {n1 : Nt} {X : List Nt} {dj d1 : Det} {L' : List Int} {k me dst sq fo : Int} (hds : NLSet w3 wr base b p xl dj L') (hdi : IsDet wr b dj pi) (hsi : ∀ k, pi.has b k → p.has b k ∨ w3.heap.size ≤ k)
    (hnt : OwnNts wr base v X) (hs : SayIs wr w5 b pi v5 (d1, n1)) (hee : n1 = ⟨k, me, dst, sq, fo, n1.news⟩) (hX : X.length < 2199023255552) (hb : base ≤ wr.heap.size) :
    ∃ ps, HPre w3 w5 base b p xl v v5 #[.int .i64 k, .int .i64 me, .int .i64 dst, .int .u64 sq, .int .i64 fo, v5] ps n1 X d1 L' := by
  have ka : Keep (fun _ => False) w5 (w5.alloc (.cells #[.int .i64 k, .int .i64 me, .int .i64 dst, .int .u64 sq, .int .i64 fo, v5] 62)) := (Keep.refl _ w5).alloc _
  have hba := heap_alloc_new w5 (.cells #[.int .i64 k, .int .i64 me, .int .i64 dst, .int .u64 sq, .int .i64 fo, v5] 62)
  have u5 := hs.set.keep.size
  have ua := ka.size
  have hd5 : NLSet w3 w5 base b p xl d1 L' := NLSet.next (fun k hk => by
    rcases hsi k hk with h | h
    · exact .inl h
    · exact .inr h) hds.keep ((hs.set.dl hdi hds.lots).nl base)
  obtain ⟨ps, hps, hown, hnews⟩ := ((hnt.keepD hdi hs.set.keep).keep0 ka).ex
  have hpl : ps.length < 2199023255552 := by
    have e : ps.length = X.length := by rw [← hps, List.length_map]
    omega
  have hx5 : NewsAt (w5.alloc (.cells #[.int .i64 k, .int .i64 me, .int .i64 dst, .int .u64 sq, .int .i64 fo, v5] 62)) base (n1, v5) := ⟨own_mono (own_keepB hs.own ka fun _ _ h => h) hb⟩
  have hnt1 : ntC (n1, v5) = [.int .i64 k, .int .i64 me, .int .i64 dst, .int .u64 sq, .int .i64 fo, v5] := by
    rw [hee]; rfl
  exact ⟨ps, hown, hnews, hx5, rfl, by rw [hnt1]; exact World.news_of_block (t := 62) (fr := (0, 0)) hba, ntC_one hx5, hps, (app_bound hpl).1, (app_bound hpl).2, by omega, hd5.keep0 ka⟩
/-- Behind it. -/
structure HPost (w3 w6 : World) (base b : Nat) (p : Parts) (xl : Nat) (v6 : Value) (X : List Nt) (d1 : Det) (L' : List Int) : Prop where
  own : OwnNts w6 base v6 X
  set : NLSet w3 w6 base b p xl d1 L'
theorem help_post {w3 w5 w6 : World} {base b xl : Nat} {p : Parts} {v v5 v6 : Value} {cs : Array Value} {ps : List (Nt × Value)} {n1 : Nt} {X : List Nt} {d1 : Det} {L' : List Int} (h : HPre w3 w5 base b p xl v v5 cs ps n1 X d1 L')
    (ho : w6.ownsRow base 62 6 v6 (ps.length + 1) (flat ntC ps ++ ntC (n1, v5))) (hg : (w5.alloc (.cells cs 62)).grownBy w6 v.ownBlock) : HPost w3 w6 base b p xl v6 (X ++ [n1]) d1 L' := by
  have k6 : Keep (fun j => v.ownBlock = some j) (w5.alloc (.cells cs 62)) w6 := (Keep.refl _ _).grown hg (fun k hk _ => hk)
  refine ⟨by have := ownNts_app h.own h.news h.x5 ho k6; rw [h.fst] at this; exact this, ?_⟩
  have hty : ∀ j, v.ownBlock = some j → base ≤ j ∧ Kind (w5.alloc (.cells cs 62)) j (some 62) := fun j hj => own_typed h.own hj
  obtain ⟨p', hd', hs'⟩ := h.set.ex
  refine ⟨⟨p', hd'.keep k6 fun j hj e => ?_, hs'⟩, h.set.lots.keep k6 (fun e => ?_) (fun g cs' hg' e => ?_), h.set.keep.trans k6 fun j hj hlt => ?_⟩
  · obtain ⟨t, ht, q1, q2, q3, q4⟩ := hd'.khas hj
    exact ht.ne (hty j e).2 q4 rfl
  · exact (hty xl e).2.ne h.set.lots.kind (by decide) rfl
  · exact (hty g e).2.ne (⟨cs', hg'⟩ : Kind _ g (some 29)) (by decide) rfl
  · by_cases hs : p.has b j ∨ j = xl ∨ (base ≤ j ∧ Kind w3 j (some 62))
    · exact hs
    · exact .inr (.inr ⟨(hty j hj).1, (hty j hj).2.back h.set.keep hlt hs⟩)
theorem HPost.block {w3 w6 : World} {base b xl : Nat} {p : Parts} {v6 : Value} {X : List Nt} {d1 : Det} {L' : List Int} (h : HPost w3 w6 base b p xl v6 X d1 L') : True := trivial
end Go.Proofs.YtofonfohaocclaaGreatDoor
