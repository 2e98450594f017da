/- The document's All, walked. -/
import Derived.Test.YtojnmbpicmgcpaaRefD
namespace Go.Proofs.Ytojnmbpicmgcpaa
open Go.RowKit Sh
set_option linter.unusedVariables false

def eqn (n : Int) (x : Db) : Bool := decide (x.n = n)
def allR (R : List Db) (k : Nat) : List Db := (List.range k).flatMap fun n : Nat => R.filter (eqn n)
theorem allR_succ (R : List Db) (k : Nat) : allR R (k + 1) = allR R k ++ R.filter (eqn k) := by
  unfold allR
  rw [List.range_succ, List.flatMap_append]
  simp
theorem allR_len (R : List Db) : ∀ k, (allR R k).length ≤ k * R.length
  | 0 => by simp [allR]
  | k + 1 => by
    rw [allR_succ, List.length_append, Nat.succ_mul]
    exact Nat.add_le_add (allR_len R k) (List.length_filter_le _ _)
set_option maxRecDepth 100000 in
set_option maxHeartbeats 4000000 in
theorem rall_any {w : World} {r : Nat} {v : Value} {R : List Db} (h : IsRf w r v R) (hl : R.length ≤ 1000) :
    Calls Try.prog 19 #[.pointer (some ⟨r, 0, none⟩)] w fun e w' => ∃ A c, e = .returned (.slice A (allR R 64).length c) ∧ w'.ownsRow w.heap.size 65 7 (.slice A (allR R 64).length c) (allR R 64).length (dbCells (allR R 64)) ∧ Keep (fun _ => False) w w' := by
  obtain ⟨j0, hj, hj2⟩ : ∃ i0, Try.prog.info? 65 = some i0 ∧ (i0.zero, i0.size, i0.bytes) = (some (.agg #[.int .i64 0, .int .u64 0, .int .i64 0, .int .u64 0, .int .u64 0, .int .u64 0, .int .u64 0]), 7, 56) := by
    have := info65
    rw [Option.map_eq_some_iff] at this
    exact this
  simp only [Prod.mk.injEq] at hj2
  obtain ⟨hy0, hy1, hy2⟩ := hj2
  have Hj := Lib.hid hj
  have Hy0 := Lib.hid hy0
  have Hy1 := Lib.hid hy1
  have Hy2 := Lib.hid hy2
  obtain ⟨A, c, rfl⟩ := own_shape h.own
  have H := Lib.hid h
  have LR := Lib.hid hl
  have E0 := Lib.hid (own_empty w 65 7 w.heap.size (Nat.le_refl _))
  have KA : Hid (Keep (fun _ => False) w (w.alloc (.cells #[] 65))) := Lib.hid ((Keep.refl _ w).alloc _)
  clear h hj hy0 hy1 hy2 hl
  go_enter Try.func19, Try.ntmps19
  go_wp2_with fail
  go_loopg [3, 4, 5] 64 (fun z v3 v4 v5 wr => ∃ (n : Nat) (A2 : Option Addr) (c2 n2 : Nat), n + z = 64 ∧ v4 = .int .i64 n ∧ v3 = .slice A2 n2 c2 ∧ n2 = (allR R n).length ∧ wr.ownsRow w.heap.size 65 7 (.slice A2 n2 c2) n2 (dbCells (allR R n)) ∧ Keep (fun _ => False) w wr)
  case atStart => exact ⟨0, _, _, 0, by omega, rfl, rfl, rfl, E0.out, KA.out⟩
  case round =>
    clear E0 KA
    obtain ⟨n, A2, c2, n2, hz, rfl, rfl, hn2, ho, hk⟩ := hrel
    have HO := Lib.hid ho
    have K := Lib.hid hk
    have HZ := Lib.hid hz
    have HN2 := Lib.hid hn2
    clear ho hk hn2
    by_cases hlt : n < 64
    · have t1 : decide ((n : Int) < 64) = true := decide_eq_true (by omega)
      have t2 : (n : Int) < 64 := by omega
      have en : IntKind.i64.wrap ((n : Int) + 1) = ((n + 1 : Nat) : Int) := by rw [IntKind.wrap_i64]; omega
      have HL := Lib.hid hlt
      have AL := Lib.hid (allR_len R n)
      obtain ⟨wo, rfl⟩ : ∃ wo : World, wo = wr := ⟨_, rfl⟩
      clear hz hlt
      go_wp2_with fail
      go_loopg [3, 5] R.length (fun z v3 v5 wr => ∃ (i : Nat) (A2 : Option Addr) (c2 n2 : Nat), i + z = R.length ∧ v5 = .int .i64 i ∧ v3 = .slice A2 n2 c2 ∧ n2 = (allR R n ++ (R.take i).filter (eqn n)).length ∧ wr.ownsRow w.heap.size 65 7 (.slice A2 n2 c2) n2 (dbCells (allR R n ++ (R.take i).filter (eqn n))) ∧ Keep (fun _ => False) w wr)
      case atStart => exact ⟨0, A2, c2, n2, by omega, rfl, rfl, by simpa using HN2.out, by simpa using HO.out, K.out⟩
      case round =>
        clear HO K HN2
        obtain ⟨i, A2, c2, n2, hz, rfl, rfl, hn2, ho, hk⟩ := hrel
        have HO := Lib.hid ho
        have K := Lib.hid hk
        have HZ2 := Lib.hid hz
        have HN2 := Lib.hid hn2
        have HI := Lib.hid (H.out.keep0 hk)
        have c0 := HI.out.c0
        clear ho hk hn2
        by_cases hlt : i < R.length
        · have t1 : decide ((i : Int) < (R.length : Int)) = true := decide_eq_true (by omega)
          have t2 : (i : Int) < (R.length : Int) := by omega
          have t3 : (0 : Int) ≤ (i : Int) := by omega
          obtain ⟨g, rfl, _⟩ := own_at HI.out.own (by omega)
          have rc := rd_cells HI.out.own rfl i hlt
          have hfs := filter_take R (eqn n) i hlt
          rw [← db_of hlt] at hfs
          obtain ⟨x, hx⟩ : ∃ x, x = db R i := ⟨_, rfl⟩
          rw [← hx] at rc hfs
          have HFS := Lib.hid hfs
          obtain ⟨xn, xi, xs, xf, xc, xt, xu⟩ := x
          have r0 : wr.cell? ⟨g, i * 7, none⟩ = some (.int .i64 xn) := rc 0 (by omega)
          have r1 : wr.cell? ⟨g, i * 7 + 1, none⟩ = some (.int .u64 xi) := rc 1 (by omega)
          have r2 : wr.cell? ⟨g, i * 7 + 2, none⟩ = some (.int .i64 xs) := rc 2 (by omega)
          have r3 : wr.cell? ⟨g, i * 7 + 3, none⟩ = some (.int .u64 xf) := rc 3 (by omega)
          have r4 : wr.cell? ⟨g, i * 7 + 4, none⟩ = some (.int .u64 xc) := rc 4 (by omega)
          have r5 : wr.cell? ⟨g, i * 7 + 5, none⟩ = some (.int .u64 xt) := rc 5 (by omega)
          have r6 : wr.cell? ⟨g, i * 7 + 6, none⟩ = some (.int .u64 xu) := rc 6 (by omega)
          have hn2l : n2 ≤ 65000 := by
            have h1 := AL.out
            have h2 := List.length_filter_le (eqn n) (R.take i)
            have h3 : (R.take i).length ≤ R.length := by simp; omega
            have h4 : n * R.length ≤ 64 * 1000 := Nat.mul_le_mul (by have := HL.out; omega) LR.out
            have := LR.out
            rw [HN2.out, List.length_append]
            omega
          have HNL := Lib.hid hn2l
          have HL2 := Lib.hid hlt
          have ew : IntKind.i64.wrap ((i : Int) + 1) = ((i + 1 : Nat) : Int) := by have := LR.out; rw [IntKind.wrap_i64]; omega
          clear rc hx hfs hn2l hz hlt
          by_cases hxn : xn = n
          · subst hxn
            have t4 : ((n : Int) == (n : Int)) = true := by simp
            go_wp2_with (at_builtin; refine wpList_append_own_at _ rfl _ _ 29 rfl w.heap.size 65 j0 (.agg #[.int .i64 0, .int .u64 0, .int .i64 0, .int .u64 0, .int .u64 0, .int .u64 0, .int .u64 0]) 7 56 Try.underlying29 Hj.out Hy0.out Hy1.out Hy2.out rfl (by decide) _ _ _ rfl (HO.out.alloc _) ⟨wr.heap.size, 0, none⟩ 1 1 (dbCells [⟨n, xi, xs, xf, xc, xt, xu⟩]) rfl rfl ?c1 ?c2 ?c3 ?c4 ?c5 ?_)
            case c1 =>
              intro j u h
              simpa [dbCells, dbC] using h
            case c2 => exact dbCells_one _
            case c3 => have := HNL.out; simp only [maxLen]; omega
            case c4 => have := HNL.out; omega
            case c5 => have := K.out.size; simp; omega
            intro v' w' hown hg2 _ _
            obtain ⟨A', c', rfl⟩ := own_shape hown
            have hK' : Keep (fun _ => False) w w' := (K.out.alloc _).grown hg2 (fun k hk hlt => by
              have := (own_block HO.out hk).1
              omega)
            have HO2 : Hid (n2 + 1 = (allR R n ++ (R.take (i + 1)).filter (eqn n)).length ∧ w'.ownsRow w.heap.size 65 7 (.slice A' (n2 + 1) c') (n2 + 1) (dbCells (allR R n ++ (R.take (i + 1)).filter (eqn n)))) := Lib.hid (by
              have hd : eqn n (⟨n, xi, xs, xf, xc, xt, xu⟩ : Db) = true := decide_eq_true rfl
              rw [HFS.out, hd]
              simp only [if_true]
              rw [← List.append_assoc, List.length_append, ← HN2.out, dbCells_append]
              exact ⟨rfl, hown⟩)
            have HK3 := Lib.hid hK'
            clear hown hg2 hK'
            go_wp2
            go_roundg (R.length - (i + 1))
            case measure => have := HZ2.out; have := HL2.out; omega
            case rel => exact ⟨i + 1, A', c', n2 + 1, by have := HL2.out; omega, by go_num, rfl, HO2.out.1, HO2.out.2, HK3.out⟩
          · have t4 : (xn == (n : Int)) = false := by rw [beq_eq_false_iff_ne]; exact hxn
            have HF2 : Hid (n2 = (allR R n ++ (R.take (i + 1)).filter (eqn n)).length ∧ wr.ownsRow w.heap.size 65 7 (.slice A2 n2 c2) n2 (dbCells (allR R n ++ (R.take (i + 1)).filter (eqn n)))) := Lib.hid (by
              have hd : eqn n (⟨xn, xi, xs, xf, xc, xt, xu⟩ : Db) = false := decide_eq_false hxn
              rw [HFS.out, hd]
              simp only [Bool.false_eq_true, if_false, List.append_nil]
              exact ⟨HN2.out, HO.out⟩)
            clear hxn
            go_wp2_with fail
            go_roundg (R.length - (i + 1))
            case measure => have := HZ2.out; have := HL2.out; omega
            case rel => exact ⟨i + 1, A2, c2, n2, by have := HL2.out; omega, by go_num, rfl, HF2.out.1, HF2.out.2, K.out⟩
        · obtain rfl : R.length = i := by omega
          have t1 : decide ((R.length : Int) < (R.length : Int)) = false := by simp
          have HF2 : Hid (n2 = (allR R (n + 1)).length ∧ wr.ownsRow w.heap.size 65 7 (.slice A2 n2 c2) n2 (dbCells (allR R (n + 1)))) := Lib.hid (by
            have h1 := HN2.out
            have h2 := HO.out
            rw [List.take_length] at h1 h2
            rw [allR_succ]
            exact ⟨h1, h2⟩)
          clear hlt hz
          go_wp2_with fail
          go_roundg (64 - (n + 1))
          case measure => have := HZ.out; have := HL.out; omega
          case rel => exact ⟨n + 1, A2, c2, n2, by have := HL.out; omega, by go_num, rfl, HF2.out.1, HF2.out.2, K.out⟩
    · obtain rfl : n = 64 := by omega
      have t1 : decide (((64 : Nat) : Int) < 64) = false := by simp
      have RES : Hid (∃ A c, Ending.returned (.slice A2 n2 c2) = Ending.returned (.slice A (allR R 64).length c) ∧ wr.ownsRow w.heap.size 65 7 (.slice A (allR R 64).length c) (allR R 64).length (dbCells (allR R 64))) := Lib.hid (by
        have h1 := HO.out
        rw [HN2.out] at h1 ⊢
        exact ⟨A2, c2, rfl, h1⟩)
      clear hlt hz
      go_wp2
      go_ret
      obtain ⟨A3, c3, h1, h2⟩ := RES.out
      exact ⟨A3, c3, h1, h2, K.out⟩
end Go.Proofs.Ytojnmbpicmgcpaa
