/- Doubts, the program's and the document's, side by side: one turns, then the other. -/
import Derived.Test.YtojnmbpicmgcpaaActP
namespace Go.Proofs.Ytojnmbpicmgcpaa
open Go.RowKit Sh
open Go.ChangeMaps (setBlock)
set_option linter.unusedVariables false

/-- the program's doubts are R' already, the document's R still. -/
structure Half (w W : World) (q : Nat) (mb : Option Nat) (v : Value) (R R' : List Db) : Prop where
  que : IsQ W q mb R'
  ref : IsRf W (q + 1) v R
  hq : w.heap.size ≤ q
  hB : ∀ B, mb = some B → q + 2 ≤ B
  dj : ∀ B, mb = some B → v.ownBlock ≠ some B
  keep : Keep (fun _ => False) w W
theorem Half.keep0 {w W W2 : World} {q : Nat} {mb : Option Nat} {v : Value} {R R' : List Db} (h : Half w W q mb v R R') (k : Keep (fun _ => False) W W2) : Half w W2 q mb v R R' :=
  ⟨h.que.keep0 k, h.ref.keep0 k, h.hq, h.hB, h.dj, h.keep.step k⟩
theorem Both.half {w wr W2 : World} {q m : Nat} {mb mb' : Option Nat} {v : Value} {R R' : List Db} (h : Both w wr q m mb v R) (k : Keep (QS q mb) wr W2) (hq' : IsQ W2 q mb' R') (hb : ∀ B, mb' = some B → mb = some B ∨ wr.heap.size ≤ B) : Half w W2 q mb' v R R' :=
  ⟨hq', h.refq k, h.hq, fun B hB => by
    rcases hb B hB with h1 | h1
    · exact h.hB B h1
    · have := h.ref.lt; omega, fun B hB hv => by
    rcases hb B hB with h1 | h1
    · exact h.dj B h1 hv
    · have := (h.ref.own.lt B hv).2; omega, h.keepq k⟩
theorem Half.both {w W2 W3 : World} {q m : Nat} {mb : Option Nat} {v v' : Value} {R R' : List Db} (h : Half w W2 q mb v R R') (k : Keep (RS (q + 1) v) W2 W3) (hr : IsRf W3 (q + 1) v' R') (hf : ∀ g, v'.ownBlock = some g → v.ownBlock = some g ∨ W2.heap.size ≤ g) (hok : ∀ x ∈ R', Dk m x) (hl : R'.length ≤ m) : Both w W3 q m mb v' R' := by
  have hg : ∀ g, v.ownBlock = some g → q + 2 ≤ g := fun g hg => (h.ref.own.lt g hg).1
  refine ⟨que_ref h.que h.hB h.dj hg k, hr, hok, hl, h.hq, h.hB, fun B hB hv => ?_, h.keep.trans k ?_⟩
  · rcases hf B hv with h1 | h1
    · exact h.dj B hB h1
    · subst hB
      have := h.que.blt
      omega
  · rintro j (rfl | hj) hlt
    · have := h.hq; omega
    · have := hg j hj; have := h.hq; omega
/-- An act, as the row lays it. -/
structure Ac where
  k : Int
  n : Int
  m : Int
  un : Int
  ui : Int
  us : Int
  now : Int
  b : Nat
def acC (x : Ac) : List Value := [.int .i64 x.k, .int .i64 x.n, .int .i64 x.m, .int .i64 x.un, .int .u64 x.ui, .int .i64 x.us, .int .u64 x.now, .float .f64 x.b]
structure AOk (x : Ac) : Prop where
  m : -9223372036854775808 ≤ x.m ∧ x.m < 9223372036854775808
  now : 0 ≤ x.now ∧ x.now < 18446744073709551616
  b : x.b < 18446744073709551616
structure IsAcs (w : World) (v : Value) (l : List Ac) : Prop where
  ex : ∃ A c, v = .slice A l.length c ∧ l.length ≤ 140737488351232 ∧ (0 < l.length → ∃ g o, A = some ⟨g, o, none⟩ ∧ ∀ i (h : i < l.length) j, j < 8 → w.cell? ⟨g, o + i * 8 + j, none⟩ = (acC l[i])[j]?)
  ok : ∀ x ∈ l, AOk x
theorem Dk.in {m : Nat} {R : List Db} (h : ∀ x ∈ R, Dk m x) : ∀ x ∈ R, 0 ≤ x.n ∧ x.n < 64 := fun x hx => (h x hx).n
/-- over, by both. -/
theorem over_same {R L : List Db} (hn : (R.map Db.n).Nodup) (hr : ∀ x ∈ R, 0 ≤ x.n ∧ x.n < 64) (hp : L.Perm R) (hs : SrtN L) : allR R 64 = L :=
  srt_unique (allR_srt hn 64) hs ((allR_perm hn hr).trans hp.symm)
theorem sub_ok {m : Nat} {R : List Db} {p : Db → Bool} (h : ∀ x ∈ R, Dk m x) : ∀ x ∈ R.filter p, Dk (m + 1) x := fun x hx => (h x (List.mem_filter.1 hx).1).up
end Go.Proofs.Ytojnmbpicmgcpaa
