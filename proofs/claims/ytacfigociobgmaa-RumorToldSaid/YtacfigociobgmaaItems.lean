/- Walk of Queue.Items. -/
import Derived.Test.YtacfigociobgmaaSortL
namespace Go.Proofs.Ytacfigociobgmaa
open Go.RowKit Sh
open Go.ChangeMaps (setBlock)
set_option linter.unusedVariables false

theorem own_made {w : World} {base n : Nat} {e : TypeId} {size : Nat} {v : Value} {xs : List Value} (h : w.ownsRow base e size v n xs) (hv : v ≠ .slice none 0 0) : ∃ g c, v = .slice (some ⟨g, 0, none⟩) n c := by
  rcases h.2 with ⟨rfl, rfl⟩ | ⟨g, cap, cur, rfl, _⟩
  · exact absurd rfl hv
  · exact ⟨g, cap, rfl⟩

theorem own_cap {w : World} {base n g c : Nat} {e : TypeId} {size : Nat} {xs : List Value} (h : w.ownsRow base e size (.slice (some ⟨g, 0, none⟩) n c) n xs) : n ≤ c := by
  rcases h.2 with ⟨e0, rfl⟩ | ⟨g', cap, cur, e0, _, _, h3, _⟩
  · cases e0
  · injection e0 with e1 e2 e3
    omega

structure ItemsIs (w w' : World) (v : Value) (M L : List It) : Prop where
  perm : L.Perm M
  srt : Srt L
  row : ∃ g c, v = .slice (some ⟨g, 0, none⟩) L.length c ∧ w.heap.size ≤ g ∧ L.length ≤ c ∧ RowAt w' g L
  keep : Keep (fun _ => False) w w'

set_option maxRecDepth 100000 in
set_option maxHeartbeats 2000000 in
theorem items_any {w : World} {q : Nat} {mb : Option Nat} {M : List It} (h : IsQ w q mb M) (hM : M.length ≤ 1000) :
    Calls Try.prog 11 #[.pointer (some ⟨q, 0, none⟩)] w fun e w' => ∃ v L, e = .returned v ∧ ItemsIs w w' v M L := by
  obtain ⟨i0, hi, hi2⟩ : ∃ i0, Try.prog.info? 41 = some i0 ∧ (i0.zero, i0.size, i0.bytes) = (some (.agg #[.int .i64 0, .int .u64 0, .int .i64 0, .int .i64 0]), 4, 32) := by
    have := info41
    rw [Option.map_eq_some_iff] at this
    exact this
  simp only [Prod.mk.injEq] at hi2
  obtain ⟨hz0, hz1, hz2⟩ := hi2
  have Hi := Lib.hid hi
  have Hz0 := Lib.hid hz0
  have Hz1 := Lib.hid hz1
  have Hz2 := Lib.hid hz2
  have H := Lib.hid h
  have c0 := h.c0
  have hlen := h.len 3
  obtain ⟨wm, hmk, hown, hgr⟩ := run_makeSlice_owned (P := Try.prog) w w.heap.size 35 41 i0 _ 4 Try.underlying35 hi hz0 hz1 .i64 .i64 M.length (by omega) (by rw [hz2]; omega) (by simp only [maxLen]; omega) (Nat.le_refl _)
  have km : Keep (fun _ => False) w wm := (Keep.refl _ w).grown hgr (by simp)
  have c1 := km.cell c0
  obtain ⟨o, M1, hp1, hrg, hit⟩ := h.range km
  have kr : Keep (fun _ => False) w (wm.alloc o) := km.alloc _
  have hw0 : w.heap.size < wm.heap.size := (own_block hown rfl).2.1
  have HO := Lib.hid (own_keepB hown ((Keep.refl (fun _ => False) wm).alloc o) (fun _ _ h => h))
  have HIT := Lib.hid hit
  have KR := Lib.hid kr
  have HP1 := Lib.hid hp1
  have HW0 := Lib.hid hw0
  have LM : Hid (M1.length ≤ 1000) := Lib.hid (by rw [hp1.length_eq]; exact hM)
  clear hi hz0 hz1 hz2 h hown hgr km hit kr hp1 hw0 hM
  go_enter Try.func11, Try.ntmps11
  go_wp2_with fail
  clear c0 c1 hlen hmk hrg
  go_loopg [3, 5] M1.length (fun n v3 v5 wr => ∃ (R L : List It) (g c : Nat), v3 = .slice (some ⟨g, 0, none⟩) R.length c ∧ wr.ownsRow w.heap.size 41 4 (.slice (some ⟨g, 0, none⟩) R.length c) R.length (itCells R) ∧ ItO wr wm.heap.size mb M1 L ∧ (R ++ L).Perm M1 ∧ n = L.length ∧ Keep (fun _ => False) w wr)
  case atStart => exact ⟨[], M1, w.heap.size, M.length, rfl, HO.out, HIT.out, List.Perm.refl _, rfl, KR.out⟩
  case round =>
    obtain ⟨R, L, g, c, rfl, hown, hit, hp, hn, hk⟩ := hrel
    clear HO HIT KR
    have HQN := Lib.hid hn
    have hRl : R.length + L.length ≤ 1000 := by
      have := hp.length_eq
      rw [List.length_append] at this
      rw [this]
      exact LM.out
    have HRL := Lib.hid hRl
    rcases hit.next 0 with ⟨hL, hnext⟩ | ⟨x, L', hpx, hx, wn, kn, hitn, hnext, hent⟩
    · subst hL
      rw [List.append_nil] at hp
      have hRM := hp.trans HP1.out
      have hnod : (R.map It.n).Nodup := (hRM.map It.n).nodup_iff.2 H.out.nod
      have HS := Lib.hid (sort_any hown hnod (by omega))
      have hg := (own_block hown rfl).1
      have HCP := Lib.hid (own_cap hown)
      have HG := Lib.hid hg
      have HRM := Lib.hid hRM
      have HK := Lib.hid hk
      clear hown hit hp hn hk hnod hRM hg hRl
      go_wp2_with fail
      refine HS.out.mono ?_
      rintro e w2 ⟨rfl, K, hKR, hKs, hrow, hk2⟩
      have E := Lib.hid (show ItemsIs w w2 (.slice (some ⟨g, 0, none⟩) R.length c) M K from ⟨hKR.trans HRM.out, hKs, ⟨g, c, by rw [hKR.length_eq], HG.out, by rw [hKR.length_eq]; exact HCP.out, hrow⟩, HK.out.trans hk2 (fun k hk hlt => by have := HG.out; omega)⟩)
      clear hKR hKs hrow hk2
      go_wp2
      go_ret
      exact ⟨_, K, rfl, E.out⟩
    · obtain ⟨blk, c5, hg5⟩ := own_block hown rfl
      have hgr : g ≠ wm.heap.size := by
        rintro rfl
        obtain ⟨_, _, _, _, h6⟩ := hit.block
        obtain ⟨cc, hcc⟩ := hg5
        rw [hcc] at h6
        cases h6
      have kwn : Keep (fun _ => False) w wn := hk.trans kn (fun k hk hlt => by have := HW0.out; omega)
      have HO := Lib.hid (own_keepB hown kn (fun g' hg' => by
        have e : g = g' := by simpa [Value.ownBlock] using hg'
        subst e
        exact hgr))
      have HIT := Lib.hid hitn
      have KN := Lib.hid kwn
      have HGR := Lib.hid hgr
      have HX := Lib.hid hpx
      have HP := Lib.hid hp
      have HG := Lib.hid blk
      obtain ⟨xn, xi, xs, xt⟩ := x
      have hnext2 : (Instr.next (.pointer (some ⟨wm.heap.size, 0, none⟩)) false 0).run Try.prog wr = .ok (.tuple #[.bool true, .int .i64 xn, .agg #[.int .i64 xn, .int .u64 xi, .int .i64 xs, .int .i64 xt]]) wn := hnext
      have hent2 : (Instr.entry (.pointer (some ⟨wm.heap.size, 0, none⟩))).run Try.prog wn = .ok (.tuple #[.int .i64 xn, .agg #[.int .i64 xn, .int .u64 xi, .int .i64 xs, .int .i64 xt]]) wn := hent
      clear hown hit hp hn hk hpx hx kn hitn hnext hent blk c5 hg5 kwn hgr hRl
      go_wp2_with (at_builtin; refine wpList_append_own_at _ rfl _ _ 35 rfl w.heap.size 41 i0 (.agg #[.int .i64 0, .int .u64 0, .int .i64 0, .int .i64 0]) 4 32 Try.underlying35 Hi.out Hz0.out Hz1.out Hz2.out rfl (by decide) _ _ _ rfl ((HO.out.alloc _).alloc _) ⟨wn.heap.size + 1, 0, none⟩ 1 1 (itCells [⟨xn, xi, xs, xt⟩]) rfl rfl ?c1 ?c2 ?c3 ?c4 ?c5 ?_)
      case c1 =>
        intro j u h
        simpa [itCells, itC] using h
      case c2 => exact itCells_one _
      case c3 => have := HRL.out; simp only [maxLen]; omega
      case c4 => have := HRL.out; omega
      case c5 => have := KN.out.size; simp; omega
      intro v' w' hown hg hni _
      obtain ⟨g', c', rfl⟩ := own_made hown hni
      have hK' : Keep (fun _ => False) w w' := ((KN.out.alloc _).alloc _).grown hg (by
        intro k hk hlt
        have e : g = k := by simpa [Value.ownBlock] using hk
        have := HG.out
        omega)
      have hI' : ItO w' wm.heap.size mb M1 L' := by
        have kg : Keep (fun k => k = g) wn w' := (((Keep.refl _ wn).alloc _).alloc _).grown hg (fun k hk hlt => by
            have e : g = k := by simpa [Value.ownBlock] using hk
            exact e.symm)
        refine HIT.out.keep kg ?_ ?_
        · intro B hB
          subst hB
          have := H.out.blt
          have := HG.out
          omega
        · exact fun e => HGR.out e.symm
      have HO2 : Hid (w'.ownsRow w.heap.size 41 4 (.slice (some ⟨g', 0, none⟩) (R ++ [(⟨xn, xi, xs, xt⟩ : It)]).length c') (R ++ [(⟨xn, xi, xs, xt⟩ : It)]).length (itCells (R ++ [(⟨xn, xi, xs, xt⟩ : It)]))) := by
        rw [List.length_append, itCells_append]; exact Lib.hid hown
      have HI2 := Lib.hid hI'
      have HK2 := Lib.hid hK'
      have HP2 : Hid ((R ++ [(⟨xn, xi, xs, xt⟩ : It)] ++ L').Perm M1) := Lib.hid (by
        rw [List.append_assoc]
        exact ((List.Perm.append_left R HX.out).symm).trans HP.out)
      clear hown hg hni hK' hI'
      go_wp2
      go_roundg L'.length
      case measure =>
        have := HX.out.length_eq
        have := HQN.out
        simp only [List.length_cons] at *
        omega
      case rel => exact ⟨R ++ [⟨xn, xi, xs, xt⟩], L', g', c', by simp, HO2.out, HI2.out, HP2.out, rfl, HK2.out⟩

end Go.Proofs.Ytacfigociobgmaa
