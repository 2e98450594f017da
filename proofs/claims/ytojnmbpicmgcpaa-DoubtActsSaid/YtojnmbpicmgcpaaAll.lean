/- Walk of Doubts.All. -/
import Derived.Test.YtojnmbpicmgcpaaSortI
namespace Go.Proofs.Ytojnmbpicmgcpaa
open Go.RowKit Sh
open Go.ChangeMaps (setBlock)
set_option linter.unusedVariables false

theorem info3 : (Try.prog.info? 3).map (fun i => (i.zero, i.size, i.bytes)) = some (some (.int .i64 0), 1, 8) := by kernel_rfl
theorem info55 : (Try.prog.info? 55).map (fun i => (i.zero, i.size, i.bytes)) = some (some (.agg #[.int .i64 0, .int .u64 0, .int .i64 0, .int .u64 0, .int .u64 0, .int .u64 0, .int .u64 0]), 7, 56) := by kernel_rfl
def dbOf (M : List Db) (n : Int) : Db := (M.find? fun x => decide (x.n = n)).getD default
theorem dbOf_mem {M : List Db} {n : Int} (h : ∃ x ∈ M, x.n = n) : dbOf M n ∈ M ∧ (dbOf M n).n = n := by
  unfold dbOf
  cases hf : M.find? fun x => decide (x.n = n) with
  | none =>
    obtain ⟨x, hx, hn⟩ := h
    have := List.find?_eq_none.1 hf x hx
    simp [hn] at this
  | some y =>
    have h1 := List.mem_of_find?_eq_some hf
    have h2 := List.find?_some hf
    simp at h2
    exact ⟨h1, h2⟩
theorem dbOf_self {M : List Db} (hn : (M.map Db.n).Nodup) {x : Db} (hx : x ∈ M) : dbOf M x.n = x := by
  obtain ⟨h1, h2⟩ := dbOf_mem (M := M) (n := x.n) ⟨x, hx, rfl⟩
  exact nodup_one hn h1 hx h2
def SrtN (L : List Db) : Prop := L.Pairwise fun x y => x.n < y.n
theorem all_perm {M : List Db} (hn : (M.map Db.n).Nodup) {S : List Int} (hp : S.Perm (M.map Db.n)) (hs : S.Pairwise (· ≤ ·)) : (S.map (dbOf M)).Perm M ∧ SrtN (S.map (dbOf M)) := by
  refine ⟨(hp.map (dbOf M)).trans ?_, ?_⟩
  · rw [List.map_map]
    have : M.map (dbOf M ∘ Db.n) = M := by
      conv => rhs; rw [← List.map_id M]
      exact List.map_congr_left (fun x hx => dbOf_self hn hx)
    rw [this]
  · unfold SrtN
    rw [List.pairwise_map]
    have hnd : S.Nodup := hp.nodup_iff.2 hn
    have h2 := List.Pairwise.and hs hnd
    refine List.Pairwise.imp_of_mem ?_ h2
    intro a b ha hb hab
    have e1 := (dbOf_mem (M := M) (n := a) (by
      obtain ⟨x, hx, hxn⟩ := List.mem_map.1 (hp.mem_iff.1 ha)
      exact ⟨x, hx, hxn⟩)).2
    have e2 := (dbOf_mem (M := M) (n := b) (by
      obtain ⟨x, hx, hxn⟩ := List.mem_map.1 (hp.mem_iff.1 hb)
      exact ⟨x, hx, hxn⟩)).2
    rw [e1, e2]
    have h3 := hab.1
    have h4 := hab.2
    omega

structure AllIs (w w' : World) (v : Value) (M L : List Db) : Prop where
  perm : L.Perm M
  srt : SrtN L
  row : ∃ A c, v = .slice A L.length c ∧ L.length ≤ c ∧ (0 < L.length → ∃ g, A = some ⟨g, 0, none⟩ ∧ w.heap.size ≤ g ∧ DRow w' g L)
  keep : Keep (fun _ => False) w w'

theorem own_len {w : World} {base n c : Nat} {A : Option Addr} {e : TypeId} {size : Nat} {xs : List Value} (h : w.ownsRow base e size (.slice A n c) n xs) : n ≤ c := by
  rcases h.2 with ⟨e0, rfl⟩ | ⟨g', cap, cur, e0, _, _, h3, _⟩
  · omega
  · injection e0 with e1 e2 e3
    omega

set_option maxRecDepth 100000 in
set_option maxHeartbeats 4000000 in
theorem all_any {w : World} {q : Nat} {mb : Option Nat} {M : List Db} (h : IsQ w q mb M) (hM : M.length ≤ 1000) :
    Calls Try.prog 18 #[.pointer (some ⟨q, 0, none⟩)] w fun e w' => ∃ v L, e = .returned v ∧ AllIs w w' v M L := by
  obtain ⟨i0, hi, hi2⟩ : ∃ i0, Try.prog.info? 3 = some i0 ∧ (i0.zero, i0.size, i0.bytes) = (some (.int .i64 0), 1, 8) := by
    have := info3
    rw [Option.map_eq_some_iff] at this
    exact this
  simp only [Prod.mk.injEq] at hi2
  obtain ⟨hz0, hz1, hz2⟩ := hi2
  have Hi := Lib.hid hi
  have Hz0 := Lib.hid hz0
  have Hz1 := Lib.hid hz1
  have Hz2 := Lib.hid hz2
  obtain ⟨j0, hj, hj2⟩ : ∃ i0, Try.prog.info? 55 = some i0 ∧ (i0.zero, i0.size, i0.bytes) = (some (.agg #[.int .i64 0, .int .u64 0, .int .i64 0, .int .u64 0, .int .u64 0, .int .u64 0, .int .u64 0]), 7, 56) := by
    have := info55
    rw [Option.map_eq_some_iff] at this
    exact this
  simp only [Prod.mk.injEq] at hj2
  obtain ⟨hy0, hy1, hy2⟩ := hj2
  have Hj := Lib.hid hj
  have Hy0 := Lib.hid hy0
  have Hy1 := Lib.hid hy1
  have Hy2 := Lib.hid hy2
  clear hi hz0 hz1 hz2 hj hy0 hy1 hy2
  have H := Lib.hid h
  have c0 := h.c0
  obtain ⟨o, M1, hp1, hrg, hit⟩ := h.range (Keep.refl _ w)
  have HIT := Lib.hid hit
  have HP1 := Lib.hid hp1
  have LM : Hid (M1.length ≤ 1000) := Lib.hid (by rw [hp1.length_eq]; exact hM)
  have KR : Hid (Keep (fun _ => False) w (w.alloc o)) := Lib.hid ((Keep.refl _ w).alloc o)
  clear h hit hp1 hM
  go_enter Try.func18, Try.ntmps18
  go_wp2_with fail
  clear hrg c0
  go_loopg [3, 4] M1.length (fun z v3 v4 wr => ∃ (R : List Int) (L : List Db) (A : Option Addr) (c : Nat), v3 = .slice A R.length c ∧ wr.ownsRow (w.heap.size + 1) 3 1 (.slice A R.length c) R.length (R.map (Value.int .i64)) ∧ ItO wr w.heap.size mb M1 L ∧ (R ++ L.map Db.n).Perm (M1.map Db.n) ∧ z = L.length ∧ Keep (fun _ => False) w wr)
  case atStart => exact ⟨[], M1, none, 0, rfl, World.ownsRow_nil _ _ _ _, HIT.out, List.Perm.refl _, rfl, KR.out⟩
  case round =>
    obtain ⟨R, L, A, c, rfl, hown, hit, hp, hn, hk⟩ := hrel
    clear HIT KR
    have HQN := Lib.hid hn
    have hRl : R.length + L.length ≤ 1000 := by
      have := hp.length_eq
      simp only [List.length_append, List.length_map] at this
      rw [this]
      exact LM.out
    have HRL := Lib.hid hRl
    have HP := Lib.hid hp
    rcases hit.next 0 with ⟨hL, hnext⟩ | ⟨x, L', hpx, hx, wn, kn, hitn, hnext, hent⟩
    · subst hL
      have hRM : R.Perm (M1.map Db.n) := by simpa using hp
      have HRM := Lib.hid (hRM.trans (HP1.out.map Db.n))
      have HS := Lib.hid (sort_ints hown (by omega))
      have HK := Lib.hid hk
      clear hown hit hp hn hk hRM hRl
      go_wp2_with fail
      refine HS.out.mono ?_
      rintro e w2 ⟨rfl, S, hSR, hSs, hrow, hk2⟩
      have hSl : S.length = R.length := hSR.length_eq
      have HSP := Lib.hid (hSR.trans HRM.out)
      have HSS := Lib.hid hSs
      have hk2' : Keep (fun _ => False) w w2 := HK.out.trans hk2 (fun k hk hlt => by omega)
      have HK2 := Lib.hid hk2'
      have HROW := Lib.hid hrow
      have hS1000 : S.length ≤ 1000 := by have := HRL.out; rw [hSl]; omega
      rw [← hSl]
      have HSL := Lib.hid hSl
      clear hSR hSs hrow hk2 hk2' hSl
      go_wp2_with fail
      go_loopg [2, 6, 24] S.length (fun z v2 v6 v24 wr => ∃ (i : Nat) (A2 : Option Addr) (c2 : Nat), i + z = S.length ∧ v24 = .int .i64 i ∧ v2 = .slice A2 i c2 ∧ wr.ownsRow w2.heap.size 55 7 (.slice A2 i c2) i (dbCells ((S.take i).map (dbOf M))) ∧ Keep (fun _ => False) w2 wr)
      case atStart => exact ⟨0, none, 0, by omega, rfl, rfl, World.ownsRow_nil _ _ _ _, Keep.refl _ _⟩
      case round =>
        obtain ⟨i, A2, c2, hz, rfl, rfl, ho, hk⟩ := hrel
        have HO := Lib.hid ho
        have K := Lib.hid hk
        have HZ := Lib.hid hz
        have hzz := hz
        clear ho hk hz
        by_cases hlt : i < S.length
        · have t1 : decide ((i : Int) < (S.length : Int)) = true := by simp; omega
          have t2 : (i : Int) < (S.length : Int) := by omega
          obtain ⟨g, rfl, hg, hint⟩ := HROW.out (by rw [← HSL.out]; omega)
          have s0 := K.out.cell (hint i hlt)
          have hmem : S.getD i 0 ∈ S := by
            have : S.getD i 0 = S[i] := by simp [hlt]
            rw [this]; exact List.getElem_mem hlt
          have hM0 : ∃ x ∈ M, x.n = S.getD i 0 := by
            obtain ⟨x, hx, hxn⟩ := List.mem_map.1 (HSP.out.mem_iff.1 hmem)
            exact ⟨x, hx, hxn⟩
          have htake : (S.take (i + 1)).map (dbOf M) = (S.take i).map (dbOf M) ++ [dbOf M (S.getD i 0)] := by
            rw [List.take_succ_eq_append_getElem hlt, List.map_append]
            simp [hlt]
          obtain ⟨n, hn⟩ : ∃ n, n = S.getD i 0 := ⟨_, rfl⟩
          rw [← hn] at s0 hM0 htake
          have hdm := dbOf_mem hM0
          obtain ⟨x, hx⟩ : ∃ x, x = dbOf M n := ⟨_, rfl⟩
          rw [← hx] at hdm htake
          have HTK := Lib.hid htake
          have HQ := Lib.hid ((H.out.keep0 HK2.out).keep0 K.out)
          have cq := HQ.out.c0
          have hlk : (Instr.lookup 25 (.map mb) (.int .i64 n) false).run Try.prog wr = .ok (dbV x) wr := by
            cases mb with
            | none =>
              have := H.out.non rfl
              rw [this] at hdm
              exact absurd hdm.1 (by simp)
            | some B =>
              obtain ⟨h1, M2, h2, h3⟩ := HQ.out.mp B rfl
              exact h3.look_in (P := Try.prog) Try.underlying25 Try.underlying3 (h2.mem_iff.2 hdm.1) n hdm.2 false
          obtain ⟨xn, xi, xs, xf, xc, xt, xu⟩ := x
          have hlk2 : (Instr.lookup 25 (.map mb) (.int .i64 n) false).run Try.prog wr = .ok (.agg #[.int .i64 xn, .int .u64 xi, .int .i64 xs, .int .u64 xf, .int .u64 xc, .int .u64 xt, .int .u64 xu]) wr := hlk
          clear hlk hx hn hmem hM0 htake hdm hint hzz
          go_wp2_with (at_builtin; refine wpList_append_own_at _ rfl _ _ 47 rfl w2.heap.size 55 j0 (.agg #[.int .i64 0, .int .u64 0, .int .i64 0, .int .u64 0, .int .u64 0, .int .u64 0, .int .u64 0]) 7 56 Try.underlying47 Hj.out Hy0.out Hy1.out Hy2.out rfl (by decide) _ _ _ rfl (HO.out.alloc _) ⟨wr.heap.size, 0, none⟩ 1 1 (dbCells [⟨xn, xi, xs, xf, xc, xt, xu⟩]) rfl rfl ?c1 ?c2 ?c3 ?c4 ?c5 ?_)
          case c1 =>
            refine World.news_of_block (cs := (dbCells [⟨xn, xi, xs, xf, xc, xt, xu⟩]).toArray) (t := 55) (fr := (0, 0)) ?_
            have h := heap_alloc_new wr (.cells (dbCells [⟨xn, xi, xs, xf, xc, xt, xu⟩]).toArray 55)
            simpa [dbCells, dbC] using h
          case c2 => exact dbCells_one _
          case c3 => simp only [maxLen]; omega
          case c4 => omega
          case c5 => have := K.out.size; simp; omega
          intro v' w' hown hg2 _ _
          obtain ⟨A', c', rfl⟩ := own_shape hown
          have hK' : Keep (fun _ => False) w2 w' := (K.out.alloc _).grown hg2 (fun k hk hlt => by
            have := (own_block HO.out hk).1
            omega)
          have HO2 : Hid (w'.ownsRow w2.heap.size 55 7 (.slice A' (i + 1) c') (i + 1) (dbCells ((S.take (i + 1)).map (dbOf M)))) := Lib.hid (by
            rw [HTK.out, dbCells_append, List.map_take]; exact hown)
          have HK3 := Lib.hid hK'
          clear hown hg2 hK'
          go_wp2
          go_roundg (S.length - (i + 1))
          case measure => have := HZ.out; omega
          case rel => exact ⟨i + 1, A', c', by have := HZ.out; omega, by go_num, rfl, HO2.out, HK3.out⟩
        · obtain rfl : S.length = i := by omega
          have t1 : decide ((S.length : Int) < (S.length : Int)) = false := by simp
          have hwhole : S.take S.length = S := List.take_length
          have hml : (S.map (dbOf M)).length = S.length := by simp
          have ho := HO.out
          rw [hwhole, ← hml] at ho
          obtain ⟨hpm, hst⟩ := all_perm H.out.nod HSP.out HSS.out
          have D : Hid (AllIs w wr (.slice A2 S.length c2) M (S.map (dbOf M))) := Lib.hid ⟨hpm, hst, ⟨A2, c2, by rw [hml], own_len ho, fun h0 => by
            rcases ho.2 with ⟨e0, h00⟩ | ⟨g, cap', cur, e0, hgb, r⟩
            · omega
            · injection e0 with e1 e2 e3
              subst e1; subst e3
              exact ⟨g, rfl, by have := HK2.out.size; omega, own_drow ho⟩⟩, HK2.out.step K.out⟩
          clear hml ho
          clear hpm hst hwhole hzz hlt
          go_wp2
          go_ret
          exact ⟨_, _, rfl, D.out⟩
    · have hne : ∀ g, (Value.slice A R.length c).ownBlock = some g → g ≠ w.heap.size := fun g hg => by
        have := (own_block hown hg).1
        omega
      have HO := Lib.hid (own_keepB hown kn (fun g hg => hne g hg))
      have HIT := Lib.hid hitn
      have KN : Hid (Keep (fun _ => False) w wn) := Lib.hid (hk.trans kn (fun k hk hlt => by omega))
      have HX := Lib.hid hpx
      have HNE := Lib.hid hne
      obtain ⟨xn, xi, xs, xf, xc, xt, xu⟩ := x
      have hnext2 : (Instr.next (.pointer (some ⟨w.heap.size, 0, none⟩)) false 0).run Try.prog wr = .ok (.tuple #[.bool true, .int .i64 xn, .agg #[.int .i64 xn, .int .u64 xi, .int .i64 xs, .int .u64 xf, .int .u64 xc, .int .u64 xt, .int .u64 xu]]) wn := hnext
      have hent2 : (Instr.entry (.pointer (some ⟨w.heap.size, 0, none⟩))).run Try.prog wn = .ok (.tuple #[.int .i64 xn, .agg #[.int .i64 xn, .int .u64 xi, .int .i64 xs, .int .u64 xf, .int .u64 xc, .int .u64 xt, .int .u64 xu]]) wn := hent
      have hwsz : w.heap.size < wn.heap.size := by
        obtain ⟨_, _, _, _, h6⟩ := hitn.block
        exact (Array.getElem?_eq_some_iff.1 h6).1
      clear hown hit hp hn hk hpx hx kn hitn hnext hent hRl hne
      go_wp2_with (at_builtin; refine wpList_append_own_at _ rfl _ _ 69 rfl (w.heap.size + 1) 3 i0 (.int .i64 0) 1 8 Try.underlying69 Hi.out Hz0.out Hz1.out Hz2.out rfl (by decide) _ _ _ rfl (HO.out.alloc _) ⟨wn.heap.size, 0, none⟩ 1 1 [.int .i64 xn] rfl rfl ?c1 ?c2 ?c3 ?c4 ?c5 ?_)
      case c1 =>
        refine World.news_of_block (cs := #[Value.int .i64 xn]) (t := 3) (fr := (0, 0)) ?_
        exact heap_alloc_new wn (.cells #[.int .i64 xn] 3)
      case c2 => intro u hu; simp at hu; subst hu; rfl
      case c3 => have := HRL.out; simp only [maxLen]; omega
      case c4 => have := HRL.out; omega
      case c5 => simp; omega
      intro v' w' hown hg hni _
      obtain ⟨A', c', rfl⟩ := own_shape hown
      have hK' : Keep (fun _ => False) w w' := (KN.out.alloc _).grown hg (fun k hk hlt => by
        have := (own_block HO.out hk).1
        omega)
      have kg : Keep (fun k => (Value.slice A R.length c).ownBlock = some k) wn w' := ((Keep.refl _ wn).alloc _).grown hg (fun k hk _ => hk)
      have hI' : ItO w' w.heap.size mb M1 L' := by
        refine HIT.out.keep kg ?_ ?_
        · intro B hB hk
          subst hB
          have h1 := (own_block HO.out hk).1
          have h2 := H.out.blt
          omega
        · intro hk
          exact HNE.out _ hk rfl
      have HO2 : Hid (w'.ownsRow (w.heap.size + 1) 3 1 (.slice A' (R ++ [xn]).length c') (R ++ [xn]).length ((R ++ [xn]).map (Value.int .i64))) := Lib.hid (by
        rw [List.length_append, List.map_append]; exact hown)
      have HI2 := Lib.hid hI'
      have HK2 := Lib.hid hK'
      have HP2 : Hid ((R ++ [xn] ++ L'.map Db.n).Perm (M1.map Db.n)) := Lib.hid (by
        rw [List.append_assoc]
        exact ((List.Perm.append_left R (HX.out.map Db.n)).symm).trans HP.out)
      clear hown hg hni hK' hI' kg
      go_wp2
      go_roundg L'.length
      case measure =>
        have := HX.out.length_eq
        have := HQN.out
        simp only [List.length_cons] at *
        omega
      case rel => exact ⟨R ++ [xn], L', A', c', by simp, HO2.out, HI2.out, HP2.out, rfl, HK2.out⟩

end Go.Proofs.Ytojnmbpicmgcpaa
