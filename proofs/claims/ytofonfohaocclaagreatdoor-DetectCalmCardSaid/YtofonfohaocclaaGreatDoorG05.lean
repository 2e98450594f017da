/- Walk of Doubts.All. Walk of Doubts.Over. -/
import Derived.Test.YtofonfohaocclaaGreatDoorG04
namespace Go.Proofs.YtofonfohaocclaaGreatDoor.D
open Go.RowKit Sh
open Go.ChangeMaps (setBlock)
set_option linter.unusedVariables false

theorem info3 : (Tryz.prog.info? 3).map (fun i => (i.zero, i.size, i.bytes)) = some (some (.int .i64 0), 1, 8) := by kernel_rfl
theorem info153 : (Tryz.prog.info? 153).map (fun i => (i.zero, i.size, i.bytes)) = some (some (.agg #[.int .i64 0, .int .u64 0, .int .i64 0, .int .u64 0, .int .u64 0, .int .u64 0, .int .u64 0]), 7, 56) := by kernel_rfl
def dbOf (M : List Db) (n : Int) : Db := (M.find? fun x => decide (x.n = n)).getD default
theorem dbOf_mem {M : List Db} {n : Int} (h : ∃ x ∈ M, x.n = n) : dbOf M n ∈ M ∧ (dbOf M n).n = n := by
  unfold dbOf
  cases hf : M.find? fun x => decide (x.n = n) with
  | none =>
    obtain ⟨x, hx, hn⟩ := h
    have := List.find?_eq_none.1 hf x hx
    simp [hn] at this
  | some y =>
    have h1 := List.mem_of_find?_eq_some hf
    have h2 := List.find?_some hf
    simp at h2
    exact ⟨h1, h2⟩
theorem dbOf_self {M : List Db} (hn : (M.map Db.n).Nodup) {x : Db} (hx : x ∈ M) : dbOf M x.n = x := by
  obtain ⟨h1, h2⟩ := dbOf_mem (M := M) (n := x.n) ⟨x, hx, rfl⟩
  exact nodup_one hn h1 hx h2
def SrtN (L : List Db) : Prop := L.Pairwise fun x y => x.n < y.n
theorem all_perm {M : List Db} (hn : (M.map Db.n).Nodup) {S : List Int} (hp : S.Perm (M.map Db.n)) (hs : S.Pairwise (· ≤ ·)) : (S.map (dbOf M)).Perm M ∧ SrtN (S.map (dbOf M)) := by
  refine ⟨(hp.map (dbOf M)).trans ?_, ?_⟩
  · rw [List.map_map]
    have : M.map (dbOf M ∘ Db.n) = M := by
      conv => rhs; rw [← List.map_id M]
      exact List.map_congr_left (fun x hx => dbOf_self hn hx)
    rw [this]
  · unfold SrtN
    rw [List.pairwise_map]
    have hnd : S.Nodup := hp.nodup_iff.2 hn
    have h2 := List.Pairwise.and hs hnd
    refine List.Pairwise.imp_of_mem ?_ h2
    intro a b ha hb hab
    have e1 := (dbOf_mem (M := M) (n := a) (by
      obtain ⟨x, hx, hxn⟩ := List.mem_map.1 (hp.mem_iff.1 ha)
      exact ⟨x, hx, hxn⟩)).2
    have e2 := (dbOf_mem (M := M) (n := b) (by
      obtain ⟨x, hx, hxn⟩ := List.mem_map.1 (hp.mem_iff.1 hb)
      exact ⟨x, hx, hxn⟩)).2
    rw [e1, e2]
    have h3 := hab.1
    have h4 := hab.2
    omega

structure AllIs (w w' : World) (v : Value) (M L : List Db) : Prop where
  perm : L.Perm M
  srt : SrtN L
  row : ∃ A c, v = .slice A L.length c ∧ L.length ≤ c ∧ (0 < L.length → ∃ g, A = some ⟨g, 0, none⟩ ∧ w.heap.size ≤ g ∧ DRow w' g L)
  keep : Keep (fun _ => False) w w'

theorem own_len {w : World} {base n c : Nat} {A : Option Addr} {e : TypeId} {size : Nat} {xs : List Value} (h : w.ownsRow base e size (.slice A n c) n xs) : n ≤ c := by
  rcases h.2 with ⟨e0, rfl⟩ | ⟨g', cap, cur, e0, _, _, h3, _⟩
  · omega
  · injection e0 with e1 e2 e3
    omega

set_option maxRecDepth 100000 in
set_option maxHeartbeats 4000000 in
theorem all_any {w : World} {q : Loc} {mb : Option Nat} {M : List Db} (h : IsQ w q mb M) (hM : M.length ≤ 1000) :
    Calls Tryz.prog 85 #[.pointer (some ⟨q.b, q.o, none⟩)] w fun e w' => ∃ v L, e = .returned v ∧ AllIs w w' v M L := by
  obtain ⟨i0, hi, hi2⟩ : ∃ i0, Tryz.prog.info? 3 = some i0 ∧ (i0.zero, i0.size, i0.bytes) = (some (.int .i64 0), 1, 8) := by
    have := info3
    rw [Option.map_eq_some_iff] at this
    exact this
  simp only [Prod.mk.injEq] at hi2
  obtain ⟨hz0, hz1, hz2⟩ := hi2
  have Hi := Lib.hid hi
  have Hz0 := Lib.hid hz0
  have Hz1 := Lib.hid hz1
  have Hz2 := Lib.hid hz2
  obtain ⟨j0, hj, hj2⟩ : ∃ i0, Tryz.prog.info? 153 = some i0 ∧ (i0.zero, i0.size, i0.bytes) = (some (.agg #[.int .i64 0, .int .u64 0, .int .i64 0, .int .u64 0, .int .u64 0, .int .u64 0, .int .u64 0]), 7, 56) := by
    have := info153
    rw [Option.map_eq_some_iff] at this
    exact this
  simp only [Prod.mk.injEq] at hj2
  obtain ⟨hy0, hy1, hy2⟩ := hj2
  have Hj := Lib.hid hj
  have Hy0 := Lib.hid hy0
  have Hy1 := Lib.hid hy1
  have Hy2 := Lib.hid hy2
  clear hi hz0 hz1 hz2 hj hy0 hy1 hy2
  have H := Lib.hid h
  have c0 := h.c0
  obtain ⟨o, M1, hp1, hrg, hit⟩ := h.range (Keep.refl _ w)
  have HIT := Lib.hid hit
  have HP1 := Lib.hid hp1
  have LM : Hid (M1.length ≤ 1000) := Lib.hid (by rw [hp1.length_eq]; exact hM)
  have KR : Hid (Keep (fun _ => False) w (w.alloc o)) := Lib.hid ((Keep.refl _ w).alloc o)
  clear h hit hp1 hM
  go_enter Tryz.func85, Tryz.ntmps85
  go_wp2_with fail
  clear hrg c0
  go_loopg [3, 4] M1.length (fun z v3 v4 wr => ∃ (R : List Int) (L : List Db) (A : Option Addr) (c : Nat), v3 = .slice A R.length c ∧ wr.ownsRow (w.heap.size + 1) 3 1 (.slice A R.length c) R.length (R.map (Value.int .i64)) ∧ ItO wr w.heap.size mb M1 L ∧ (R ++ L.map Db.n).Perm (M1.map Db.n) ∧ z = L.length ∧ Keep (fun _ => False) w wr)
  case atStart => exact ⟨[], M1, none, 0, rfl, World.ownsRow_nil _ _ _ _, HIT.out, List.Perm.refl _, rfl, KR.out⟩
  case round =>
    obtain ⟨R, L, A, c, rfl, hown, hit, hp, hn, hk⟩ := hrel
    clear HIT KR
    have HQN := Lib.hid hn
    have hRl : R.length + L.length ≤ 1000 := by
      have := hp.length_eq
      simp only [List.length_append, List.length_map] at this
      rw [this]
      exact LM.out
    have HRL := Lib.hid hRl
    have HP := Lib.hid hp
    rcases hit.next 0 with ⟨hL, hnext⟩ | ⟨x, L', hpx, hx, wn, kn, hitn, hnext, hent⟩
    · subst hL
      have hRM : R.Perm (M1.map Db.n) := by simpa using hp
      have HRM := Lib.hid (hRM.trans (HP1.out.map Db.n))
      have HS := Lib.hid (sort_ints hown (by omega))
      have HK := Lib.hid hk
      clear hown hit hp hn hk hRM hRl
      go_wp2_with fail
      refine HS.out.mono ?_
      rintro e w2 ⟨rfl, S, hSR, hSs, hrow, hk2⟩
      have hSl : S.length = R.length := hSR.length_eq
      have HSP := Lib.hid (hSR.trans HRM.out)
      have HSS := Lib.hid hSs
      have hk2' : Keep (fun _ => False) w w2 := HK.out.trans hk2 (fun k hk hlt => by omega)
      have HK2 := Lib.hid hk2'
      have HROW := Lib.hid hrow
      have hS1000 : S.length ≤ 1000 := by have := HRL.out; rw [hSl]; omega
      rw [← hSl]
      have HSL := Lib.hid hSl
      clear hSR hSs hrow hk2 hk2' hSl
      go_wp2_with fail
      go_loopg [2, 6, 24] S.length (fun z v2 v6 v24 wr => ∃ (i : Nat) (A2 : Option Addr) (c2 : Nat), i + z = S.length ∧ v24 = .int .i64 i ∧ v2 = .slice A2 i c2 ∧ wr.ownsRow w2.heap.size 153 7 (.slice A2 i c2) i (dbCells ((S.take i).map (dbOf M))) ∧ Keep (fun _ => False) w2 wr)
      case atStart => exact ⟨0, none, 0, by omega, rfl, rfl, World.ownsRow_nil _ _ _ _, Keep.refl _ _⟩
      case round =>
        obtain ⟨i, A2, c2, hz, rfl, rfl, ho, hk⟩ := hrel
        have HO := Lib.hid ho
        have K := Lib.hid hk
        have HZ := Lib.hid hz
        have hzz := hz
        clear ho hk hz
        by_cases hlt : i < S.length
        · have t1 : decide ((i : Int) < (S.length : Int)) = true := by simp; omega
          have t2 : (i : Int) < (S.length : Int) := by omega
          obtain ⟨g, rfl, hg, hint⟩ := HROW.out (by rw [← HSL.out]; omega)
          have s0 := K.out.cell (hint i hlt)
          have hmem : S.getD i 0 ∈ S := by
            have : S.getD i 0 = S[i] := by simp [hlt]
            rw [this]; exact List.getElem_mem hlt
          have hM0 : ∃ x ∈ M, x.n = S.getD i 0 := by
            obtain ⟨x, hx, hxn⟩ := List.mem_map.1 (HSP.out.mem_iff.1 hmem)
            exact ⟨x, hx, hxn⟩
          have htake : (S.take (i + 1)).map (dbOf M) = (S.take i).map (dbOf M) ++ [dbOf M (S.getD i 0)] := by
            rw [List.take_succ_eq_append_getElem hlt, List.map_append]
            simp [hlt]
          obtain ⟨n, hn⟩ : ∃ n, n = S.getD i 0 := ⟨_, rfl⟩
          rw [← hn] at s0 hM0 htake
          have hdm := dbOf_mem hM0
          obtain ⟨x, hx⟩ : ∃ x, x = dbOf M n := ⟨_, rfl⟩
          rw [← hx] at hdm htake
          have HTK := Lib.hid htake
          have HQ := Lib.hid ((H.out.keep0 HK2.out).keep0 K.out)
          have cq := HQ.out.c0
          have hlk : (Instr.lookup 42 (.map mb) (.int .i64 n) false).run Tryz.prog wr = .ok (dbV x) wr := by
            cases mb with
            | none =>
              have := H.out.non rfl
              rw [this] at hdm
              exact absurd hdm.1 (by simp)
            | some B =>
              obtain ⟨h1, M2, h2, h3⟩ := HQ.out.mp B rfl
              exact h3.look_in (P := Tryz.prog) Tryz.underlying42 Tryz.underlying3 (h2.mem_iff.2 hdm.1) n hdm.2 false
          obtain ⟨xn, xi, xs, xf, xc, xt, xu⟩ := x
          have hlk2 : (Instr.lookup 42 (.map mb) (.int .i64 n) false).run Tryz.prog wr = .ok (.agg #[.int .i64 xn, .int .u64 xi, .int .i64 xs, .int .u64 xf, .int .u64 xc, .int .u64 xt, .int .u64 xu]) wr := hlk
          clear hlk hx hn hmem hM0 htake hdm hint hzz
          go_wp2_with (at_builtin; refine wpList_append_own_at _ rfl _ _ 150 rfl w2.heap.size 153 j0 (.agg #[.int .i64 0, .int .u64 0, .int .i64 0, .int .u64 0, .int .u64 0, .int .u64 0, .int .u64 0]) 7 56 Tryz.underlying150 Hj.out Hy0.out Hy1.out Hy2.out rfl (by decide) _ _ _ rfl (HO.out.alloc _) ⟨wr.heap.size, 0, none⟩ 1 1 (dbCells [⟨xn, xi, xs, xf, xc, xt, xu⟩]) rfl rfl ?c1 ?c2 ?c3 ?c4 ?c5 ?_)
          case c1 =>
            refine World.news_of_block (cs := (dbCells [⟨xn, xi, xs, xf, xc, xt, xu⟩]).toArray) (t := 153) (fr := (0, 0)) ?_
            have h := heap_alloc_new wr (.cells (dbCells [⟨xn, xi, xs, xf, xc, xt, xu⟩]).toArray 153)
            simpa [dbCells, dbC] using h
          case c2 => exact dbCells_one _
          case c3 => simp only [maxLen]; omega
          case c4 => omega
          case c5 => have := K.out.size; simp; omega
          intro v' w' hown hg2 _ _
          obtain ⟨A', c', rfl⟩ := own_shape hown
          have hK' : Keep (fun _ => False) w2 w' := (K.out.alloc _).grown hg2 (fun k hk hlt => by
            have := (own_block HO.out hk).1
            omega)
          have HO2 : Hid (w'.ownsRow w2.heap.size 153 7 (.slice A' (i + 1) c') (i + 1) (dbCells ((S.take (i + 1)).map (dbOf M)))) := Lib.hid (by
            rw [HTK.out, dbCells_append, List.map_take]; exact hown)
          have HK3 := Lib.hid hK'
          clear hown hg2 hK'
          go_wp2
          go_roundg (S.length - (i + 1))
          case measure => have := HZ.out; omega
          case rel => exact ⟨i + 1, A', c', by have := HZ.out; omega, by go_num, rfl, HO2.out, HK3.out⟩
        · obtain rfl : S.length = i := by omega
          have t1 : decide ((S.length : Int) < (S.length : Int)) = false := by simp
          have hwhole : S.take S.length = S := List.take_length
          have hml : (S.map (dbOf M)).length = S.length := by simp
          have ho := HO.out
          rw [hwhole, ← hml] at ho
          obtain ⟨hpm, hst⟩ := all_perm H.out.nod HSP.out HSS.out
          have D : Hid (AllIs w wr (.slice A2 S.length c2) M (S.map (dbOf M))) := Lib.hid ⟨hpm, hst, ⟨A2, c2, by rw [hml], own_len ho, fun h0 => by
            rcases ho.2 with ⟨e0, h00⟩ | ⟨g, cap', cur, e0, hgb, r⟩
            · omega
            · injection e0 with e1 e2 e3
              subst e1; subst e3
              exact ⟨g, rfl, by have := HK2.out.size; omega, own_drow ho⟩⟩, HK2.out.step K.out⟩
          clear hml ho
          clear hpm hst hwhole hzz hlt
          go_wp2
          go_ret
          exact ⟨_, _, rfl, D.out⟩
    · have hne : ∀ g, (Value.slice A R.length c).ownBlock = some g → g ≠ w.heap.size := fun g hg => by
        have := (own_block hown hg).1
        omega
      have HO := Lib.hid (own_keepB hown kn (fun g hg => hne g hg))
      have HIT := Lib.hid hitn
      have KN : Hid (Keep (fun _ => False) w wn) := Lib.hid (hk.trans kn (fun k hk hlt => by omega))
      have HX := Lib.hid hpx
      have HNE := Lib.hid hne
      obtain ⟨xn, xi, xs, xf, xc, xt, xu⟩ := x
      have hnext2 : (Instr.next (.pointer (some ⟨w.heap.size, 0, none⟩)) false 0).run Tryz.prog wr = .ok (.tuple #[.bool true, .int .i64 xn, .agg #[.int .i64 xn, .int .u64 xi, .int .i64 xs, .int .u64 xf, .int .u64 xc, .int .u64 xt, .int .u64 xu]]) wn := hnext
      have hent2 : (Instr.entry (.pointer (some ⟨w.heap.size, 0, none⟩))).run Tryz.prog wn = .ok (.tuple #[.int .i64 xn, .agg #[.int .i64 xn, .int .u64 xi, .int .i64 xs, .int .u64 xf, .int .u64 xc, .int .u64 xt, .int .u64 xu]]) wn := hent
      have hwsz : w.heap.size < wn.heap.size := by
        obtain ⟨_, _, _, _, h6⟩ := hitn.block
        exact (Array.getElem?_eq_some_iff.1 h6).1
      clear hown hit hp hn hk hpx hx kn hitn hnext hent hRl hne
      go_wp2_with (at_builtin; refine wpList_append_own_at _ rfl _ _ 36 rfl (w.heap.size + 1) 3 i0 (.int .i64 0) 1 8 Tryz.underlying36 Hi.out Hz0.out Hz1.out Hz2.out rfl (by decide) _ _ _ rfl (HO.out.alloc _) ⟨wn.heap.size, 0, none⟩ 1 1 [.int .i64 xn] rfl rfl ?c1 ?c2 ?c3 ?c4 ?c5 ?_)
      case c1 =>
        refine World.news_of_block (cs := #[Value.int .i64 xn]) (t := 3) (fr := (0, 0)) ?_
        exact heap_alloc_new wn (.cells #[.int .i64 xn] 3)
      case c2 => intro u hu; simp at hu; subst hu; rfl
      case c3 => have := HRL.out; simp only [maxLen]; omega
      case c4 => have := HRL.out; omega
      case c5 => simp; omega
      intro v' w' hown hg hni _
      obtain ⟨A', c', rfl⟩ := own_shape hown
      have hK' : Keep (fun _ => False) w w' := (KN.out.alloc _).grown hg (fun k hk hlt => by
        have := (own_block HO.out hk).1
        omega)
      have kg : Keep (fun k => (Value.slice A R.length c).ownBlock = some k) wn w' := ((Keep.refl _ wn).alloc _).grown hg (fun k hk _ => hk)
      have hI' : ItO w' w.heap.size mb M1 L' := by
        refine HIT.out.keep kg ?_ ?_
        · intro B hB hk
          subst hB
          have h1 := (own_block HO.out hk).1
          have h2 := H.out.blt
          omega
        · intro hk
          exact HNE.out _ hk rfl
      have HO2 : Hid (w'.ownsRow (w.heap.size + 1) 3 1 (.slice A' (R ++ [xn]).length c') (R ++ [xn]).length ((R ++ [xn]).map (Value.int .i64))) := Lib.hid (by
        rw [List.length_append, List.map_append]; exact hown)
      have HI2 := Lib.hid hI'
      have HK2 := Lib.hid hK'
      have HP2 : Hid ((R ++ [xn] ++ L'.map Db.n).Perm (M1.map Db.n)) := Lib.hid (by
        rw [List.append_assoc]
        exact ((List.Perm.append_left R (HX.out.map Db.n)).symm).trans HP.out)
      clear hown hg hni hK' hI' kg
      go_wp2
      go_roundg L'.length
      case measure =>
        have := HX.out.length_eq
        have := HQN.out
        simp only [List.length_cons] at *
        omega
      case rel => exact ⟨R ++ [xn], L', A', c', by simp, HO2.out, HI2.out, HP2.out, rfl, HK2.out⟩

end Go.Proofs.YtofonfohaocclaaGreatDoor.D

namespace Go.Proofs.YtofonfohaocclaaGreatDoor.D
open Go.RowKit Sh
open Go.ChangeMaps (setBlock)
set_option linter.unusedVariables false

theorem info52 : (Tryz.prog.info? 52).map (fun i => (i.zero, i.size, i.bytes)) = some (some (.agg #[.int .i64 0, .int .u64 0, .int .i64 0]), 3, 24) := by kernel_rfl
def upC (x : Db) : List Value := [.int .i64 x.n, .int .u64 x.i, .int .i64 3]
def upCells : List Db → List Value
  | [] => []
  | e :: E => upC e ++ upCells E
theorem upCells_append (E F : List Db) : upCells (E ++ F) = upCells E ++ upCells F := by
  induction E with
  | nil => rfl
  | cons e E ih => simp [upCells, ih]
theorem upCells_get : ∀ (E : List Db) (i c : Nat), i < E.length → c < 3 → (upCells E)[i * 3 + c]? = (upC (db E i))[c]?
  | [], i, c, h, _ => by simp at h
  | e :: E, 0, c, h, hc => by
    simp only [upCells, db, List.getD_cons_zero, Nat.zero_mul, Nat.zero_add]
    rw [List.getElem?_append_left (by simp [upC]; omega)]
  | e :: E, i + 1, c, h, hc => by
    have := upCells_get E i c (by simpa using h) hc
    simp only [upCells, db, List.getD_cons_succ] at this ⊢
    rw [List.getElem?_append_right (by simp [upC]; omega), ← this]
    congr 1
    simp [upC]; omega
theorem upC_one (e : Db) : ∀ u ∈ upC e, u.oneCell' = true := by
  intro u hu
  simp [upC] at hu
  rcases hu with rfl | rfl | rfl <;> rfl
theorem upCells_one (E : List Db) : ∀ u ∈ upCells E, u.oneCell' = true := by
  induction E with
  | nil => intro u hu; simp [upCells] at hu
  | cons e E ih =>
    intro u hu
    rcases List.mem_append.1 hu with h | h
    · exact upC_one e u h
    · exact ih u h
def URow (w : World) (g : Nat) (L : List Db) : Prop := ∀ i, i < L.length → ∀ c, c < 3 → w.cell? ⟨g, i * 3 + c, none⟩ = (upC (db L i))[c]?
theorem own_urow {w : World} {base g cap : Nat} {R : List Db} (h : w.ownsRow base 52 3 (.slice (some ⟨g, 0, none⟩) R.length cap) R.length (upCells R)) : URow w g R := fun i hi c hc =>
  (own_cell h (i * 3 + c) (by omega)).1.trans (upCells_get R i c hi hc)
theorem filter_mid {A D : List Db} {x : Db} (hn : ((A ++ x :: D).map Db.n).Nodup) : (A ++ x :: D).filter (fun z => z.n ≠ x.n) = A ++ D := by
  rw [List.map_append, List.map_cons, List.nodup_append] at hn
  obtain ⟨h1, h2, h3⟩ := hn
  rw [List.nodup_cons] at h2
  rw [List.filter_append, List.filter_cons, if_neg (by simp)]
  congr 1
  · exact List.filter_eq_self.2 (fun z hz => by
      have := h3 z.n (List.mem_map.2 ⟨z, hz, rfl⟩) x.n (by simp)
      simpa using this)
  · exact List.filter_eq_self.2 (fun z hz => by
      have : z.n ≠ x.n := fun he => h2.1 (List.mem_map.2 ⟨z, hz, he⟩)
      simpa using this)
def goneB (now : Int) (x : Db) : Bool := decide (x.u ≤ now)
def leftL (now : Int) (L : List Db) (i : Nat) : List Db := (L.take i).filter (fun x => !goneB now x) ++ L.drop i
theorem left_step_no {now : Int} {L : List Db} {i : Nat} (hi : i < L.length) (hx : goneB now (db L i) = false) : leftL now L (i + 1) = leftL now L i := by
  unfold leftL
  rw [List.take_succ_eq_append_getElem hi, List.filter_append, ← db_of hi, List.drop_eq_getElem_cons hi, ← db_of hi]
  simp [hx]
theorem left_step_yes {now : Int} {L : List Db} {i : Nat} (hi : i < L.length) (hx : goneB now (db L i) = true) (hn : ((leftL now L i).map Db.n).Nodup) : leftL now L (i + 1) = (leftL now L i).filter fun z => z.n ≠ (db L i).n := by
  have e : leftL now L i = (L.take i).filter (fun x => !goneB now x) ++ db L i :: L.drop (i + 1) := by
    unfold leftL
    rw [List.drop_eq_getElem_cons hi, db_of hi]
  rw [e] at hn ⊢
  rw [filter_mid hn]
  unfold leftL
  rw [List.take_succ_eq_append_getElem hi, List.filter_append, ← db_of hi]
  simp [hx]

structure OverIs (w w' : World) (q : Loc) (mb : Option Nat) (v : Value) (now : Int) (M L : List Db) : Prop where
  perm : L.Perm M
  srt : SrtN L
  que : IsQ w' q mb (L.filter fun x => !goneB now x)
  row : ∃ A c, v = .slice A (L.filter (goneB now)).length c ∧ (0 < (L.filter (goneB now)).length → ∃ g, A = some ⟨g, 0, none⟩ ∧ w.heap.size ≤ g ∧ URow w' g (L.filter (goneB now)))
  keep : Keep (fun k => mb = some k) w w'

set_option maxRecDepth 100000 in
set_option maxHeartbeats 4000000 in
theorem over_any {w : World} {q : Loc} {mb : Option Nat} {M : List Db} (h : IsQ w q mb M) (hM : M.length ≤ 1000) (now : Int) :
    Calls Tryz.prog 38 #[.pointer (some ⟨q.b, q.o, none⟩), .int .u64 now] w fun e w' => ∃ v L, e = .returned v ∧ OverIs w w' q mb v now M L := by
  obtain ⟨j0, hj, hj2⟩ : ∃ i0, Tryz.prog.info? 52 = some i0 ∧ (i0.zero, i0.size, i0.bytes) = (some (.agg #[.int .i64 0, .int .u64 0, .int .i64 0]), 3, 24) := by
    have := info52
    rw [Option.map_eq_some_iff] at this
    exact this
  simp only [Prod.mk.injEq] at hj2
  obtain ⟨hy0, hy1, hy2⟩ := hj2
  have Hj := Lib.hid hj
  have Hy0 := Lib.hid hy0
  have Hy1 := Lib.hid hy1
  have Hy2 := Lib.hid hy2
  clear hj hy0 hy1 hy2
  have H := Lib.hid h
  have QB : Hid (∀ B, mb = some B → B < w.heap.size) := Lib.hid (fun B hB => by subst hB; exact h.blt)
  clear h
  go_enter Tryz.func38, Tryz.ntmps38
  go_wp2_with fail
  refine (all_any H.out hM).mono ?_
  rintro e w5 ⟨v, L, rfl, hA⟩
  obtain ⟨hp, hs, ⟨A, c, rfl, hc, hrow⟩, hk5⟩ := hA
  have HP := Lib.hid hp
  have HS := Lib.hid hs
  have HR := Lib.hid hrow
  have K5 := Lib.hid hk5
  have hLl : L.length ≤ 1000 := by rw [hp.length_eq]; exact hM
  have NOD : Hid ((L.map Db.n).Nodup) := Lib.hid ((hp.map Db.n).nodup_iff.2 H.out.nod)
  have Q5 : Hid (IsQ w5 q mb (leftL now L 0)) := Lib.hid ((H.out.keep0 hk5).perm (by unfold leftL; simpa using hp.symm))
  clear hp hs hrow hk5
  go_wp2_with fail
  go_loopg [4, 6, 10] L.length (fun z v4 v6 v10 wr => ∃ (i : Nat) (A2 : Option Addr) (c2 : Nat), i + z = L.length ∧ v10 = .int .i64 i ∧ v4 = .slice A2 ((L.take i).filter (goneB now)).length c2 ∧ wr.ownsRow w5.heap.size 52 3 (.slice A2 ((L.take i).filter (goneB now)).length c2) ((L.take i).filter (goneB now)).length (upCells ((L.take i).filter (goneB now))) ∧ IsQ wr q mb (leftL now L i) ∧ Keep (fun k => mb = some k ∨ w5.heap.size ≤ k) w5 wr)
  case atStart => exact ⟨0, none, 0, by omega, rfl, rfl, World.ownsRow_nil _ _ _ _, Q5.out, Keep.refl _ _⟩
  case round =>
    obtain ⟨i, A2, c2, hz, rfl, rfl, ho, hq, hk⟩ := hrel
    have HO := Lib.hid ho
    have Q := Lib.hid hq
    have K := Lib.hid hk
    have HZ := Lib.hid hz
    have hzz := hz
    clear ho hq hk hz Q5
    by_cases hlt : i < L.length
    · have t1 : decide ((i : Int) < (L.length : Int)) = true := by simp; omega
      have t2 : (i : Int) < (L.length : Int) := by omega
      obtain ⟨g, rfl, hg, hdr⟩ := HR.out (by omega)
      have hg5 : g < w5.heap.size := World.block_lt_of_cell? w5 _ ((hdr i hlt 0 (by omega)).trans (List.getElem?_eq_getElem (by simp [dbC])))
      have hd2 := hdr.keep K.out (by
        rintro (h | h)
        · have := QB.out g h
          omega
        · omega)
      have d0 := hd2 i hlt 0 (by omega)
      have d1 := hd2 i hlt 1 (by omega)
      have d2 := hd2 i hlt 2 (by omega)
      have d3 := hd2 i hlt 3 (by omega)
      have d4 := hd2 i hlt 4 (by omega)
      have d5 := hd2 i hlt 5 (by omega)
      have d6 := hd2 i hlt 6 (by omega)
      have hno := left_step_no (now := now) hlt
      have hyes := left_step_yes (now := now) hlt
      have htk : (L.take (i + 1)).filter (goneB now) = (L.take i).filter (goneB now) ++ (if goneB now (db L i) then [db L i] else []) := by
        rw [List.take_succ_eq_append_getElem hlt, List.filter_append, ← db_of hlt]
        congr 1
        by_cases c : goneB now (db L i) = true <;> simp [c]
      have htl : ((L.take i).filter (goneB now)).length ≤ i := Nat.le_trans (List.length_filter_le _ _) (by simp; omega)
      generalize db L i = x at d0 d1 d2 d3 d4 d5 d6 hno hyes htk
      obtain ⟨xn, xi, xs, xf, xc, xt, xu⟩ := x
      simp only [dbC, Nat.add_zero, List.getElem?_cons_zero, List.getElem?_cons_succ] at d0 d1 d2 d3 d4 d5 d6
      have hQi := Q.out.nod
      by_cases hle : xu ≤ now
      · have e1 : decide (xu ≤ now) = true := decide_eq_true hle
        have hgn : goneB now ⟨xn, xi, xs, xf, xc, xt, xu⟩ = true := e1
        rw [if_pos hgn] at htk
        have hly := hyes hgn hQi
        have HTK := Lib.hid htk
        have HLY := Lib.hid hly
        clear hno hyes htk hgn hly hQi hd2 hdr hzz
        generalize hT : (L.take i).filter (goneB now) = T at *
        go_wp2_with (at_builtin; refine wpList_append_own_at _ rfl _ _ 49 rfl w5.heap.size 52 j0 (.agg #[.int .i64 0, .int .u64 0, .int .i64 0]) 3 24 Tryz.underlying49 Hj.out Hy0.out Hy1.out Hy2.out rfl (by decide) _ _ _ rfl ((HO.out.alloc _).alloc _) ⟨wr.heap.size + 1, 0, none⟩ 1 1 (upCells [⟨xn, xi, xs, xf, xc, xt, xu⟩]) rfl rfl ?c1 ?c2 ?c3 ?c4 ?c5 ?_)
        case c1 =>
          intro j u h
          simpa [upCells, upC] using h
        case c2 => exact upCells_one _
        case c3 => simp only [maxLen]; omega
        case c4 => omega
        case c5 => have := K.out.size; simp; omega
        intro v' w' hown hg2 _ _
        obtain ⟨A', c', rfl⟩ := own_shape hown
        obtain ⟨wz, hwz⟩ : ∃ wz, wz = (wr.alloc (.cells #[.int .i64 xn, .int .u64 xi, .int .i64 xs, .int .u64 xf, .int .u64 xc, .int .u64 xt, .int .u64 xu] 153)).alloc (.cells #[.int .i64 xn, .int .u64 xi, .int .i64 3] 52) := ⟨_, rfl⟩
        rw [← hwz] at hg2
        have kz : Keep (fun _ => False) wr wz := by rw [hwz]; exact ((Keep.refl _ wr).alloc _).alloc _
        have bz : wz.heap[wr.heap.size]? = some (.cells #[.int .i64 xn, .int .u64 xi, .int .i64 xs, .int .u64 xf, .int .u64 xc, .int .u64 xt, .int .u64 xu] 153 (0, 0)) := by rw [hwz]; exact ((Keep.refl (fun _ => False) _).alloc _).old (heap_alloc_new wr _) id
        clear hwz
        have kg : Keep (fun k => w5.heap.size ≤ k ∧ k < wr.heap.size) wz w' := (Keep.refl _ wz).grown hg2 (fun k hk hlt => by
          have := own_block HO.out hk
          exact ⟨this.1, this.2.1⟩)
        have bx := kg.old bz (fun h => by omega)
        have x0 : w'.cell? ⟨wr.heap.size, 0, none⟩ = some (.int .i64 xn) := by simp [World.cell?, bx]
        have kw' : Keep (fun k => w5.heap.size ≤ k) wr w' := (kz.mono (fun _ h _ => absurd h id)).trans kg (fun k hk _ => hk.1)
        have Q2 : Hid (IsQ w' q mb (leftL now L i)) := Lib.hid (Q.out.keep kw' (by
          rintro j (h | h) hj
          · subst h
            have := H.out.lt
            have := K5.out.size
            omega
          · have := QB.out j h
            have := K5.out.size
            omega))
        have K2 : Hid (Keep (fun k => mb = some k ∨ w5.heap.size ≤ k) w5 w') := Lib.hid (K.out.step (kw'.mono (fun k hk _ => .inr hk)))
        have HO2 := Lib.hid hown
        clear hown hg2 kz bz kg bx kw'
        go_wp2_with fail
        refine (drop_any Q2.out xn).mono ?_
        rintro e w6 ⟨b, rfl, hdq⟩
        have Q6 : Hid (IsQ w6 q mb (leftL now L (i + 1))) := Lib.hid (by rw [HLY.out]; exact hdq.que)
        have K6 := Lib.hid (K2.out.step (hdq.keep.mono (T := fun k => mb = some k ∨ w5.heap.size ≤ k) (fun k hk _ => .inl hk)))
        have HO6 : Hid (w6.ownsRow w5.heap.size 52 3 (.slice A' ((L.take (i + 1)).filter (goneB now)).length c') ((L.take (i + 1)).filter (goneB now)).length (upCells ((L.take (i + 1)).filter (goneB now)))) := Lib.hid (by
          have := own_keepB HO2.out hdq.keep (fun g' hg' hm => by
            have h1 := (own_block HO2.out hg').1
            have h2 := QB.out g' hm
            have h3 := K5.out.size
            omega)
          rw [HTK.out, List.length_append, upCells_append]
          exact this)
        have HL6 : Hid (((L.take (i + 1)).filter (goneB now)).length = T.length + 1) := Lib.hid (by rw [HTK.out, List.length_append]; rfl)
        clear hdq Q2 K2 HO2
        go_wp2
        go_roundg (L.length - (i + 1))
        case measure => have := HZ.out; omega
        case rel => exact ⟨i + 1, A', c', by have := HZ.out; omega, by go_num, by rw [HL6.out], HO6.out, Q6.out, K6.out⟩
      · have e1 : decide (xu ≤ now) = false := decide_eq_false hle
        have hgn : goneB now ⟨xn, xi, xs, xf, xc, xt, xu⟩ = false := e1
        rw [if_neg (by rw [hgn]; simp), List.append_nil] at htk
        have hly := hno hgn
        have HTK := Lib.hid htk
        have HLY := Lib.hid hly
        have K2 : Hid (∀ o, Keep (fun k => mb = some k ∨ w5.heap.size ≤ k) w5 (wr.alloc o)) := Lib.hid (fun o => K.out.alloc o)
        have Q2 : Hid (∀ o, IsQ (wr.alloc o) q mb (leftL now L (i + 1))) := Lib.hid (fun o => by rw [HLY.out]; exact Q.out.keep0 ((Keep.refl _ wr).alloc o))
        have HO2 : Hid (∀ o, (wr.alloc o).ownsRow w5.heap.size 52 3 (.slice A2 ((L.take (i + 1)).filter (goneB now)).length c2) ((L.take (i + 1)).filter (goneB now)).length (upCells ((L.take (i + 1)).filter (goneB now)))) := Lib.hid (fun o => by
          rw [HTK.out]
          exact own_keepB HO.out ((Keep.refl (fun _ => False) wr).alloc o) (fun _ _ h => h))
        clear hno hyes htk hgn hly hQi hd2 hdr hzz
        go_wp2
        go_roundg (L.length - (i + 1))
        case measure => have := HZ.out; omega
        case rel => exact ⟨i + 1, A2, c2, by have := HZ.out; omega, by go_num, by rw [HTK.out], HO2.out _, Q2.out _, K2.out _⟩
    · obtain rfl : L.length = i := by omega
      have t1 : decide ((L.length : Int) < (L.length : Int)) = false := by simp
      have hwhole : L.take L.length = L := List.take_length
      have ho := HO.out
      have hq := Q.out
      unfold leftL at hq
      rw [hwhole, List.drop_length, List.append_nil] at hq
      rw [hwhole] at ho ⊢
      have D : Hid (OverIs w wr q mb (.slice A2 (L.filter (goneB now)).length c2) now M L) := Lib.hid ⟨HP.out, HS.out, hq, ⟨A2, c2, rfl, fun h0 => by
        rcases ho.2 with ⟨e0, h00⟩ | ⟨g, cap', cur, e0, hgb, r⟩
        · omega
        · injection e0 with e1 e2 e3
          subst e1; subst e3
          exact ⟨g, rfl, by have := K5.out.size; omega, own_urow ho⟩⟩, (K5.out.mono (fun _ h _ => absurd h id)).trans K.out (by
          rintro j (h | h) hj
          · exact h
          · have := K5.out.size
            omega)⟩
      clear hwhole ho hq hzz hlt
      go_wp2
      go_ret
      exact ⟨_, _, rfl, D.out⟩

end Go.Proofs.YtofonfohaocclaaGreatDoor.D
