/- Walks of Roll.All, Live, Others, New. Walks of Roll.Others and roll.New. A detector in memory: its parts, and what becomes of it when a part changes. Equality of updates. -/
import Derived.Test.YtofonfohaocclaaGreatDoorRoH
import Derived.Test.YtofonfohaocclaaGreatDoorG13
import Derived.Test.YtofonfohaocclaaGreatDoorG14
import Derived.Test.YtofonfohaocclaaGreatDoorG19
namespace Go.Proofs.YtofonfohaocclaaGreatDoor
open Go.RowKit Sh
open Go.ChangeMaps (setBlock)
set_option linter.unusedVariables false

structure Info (e : TypeId) (z : Value) (k b : Nat) (i : TypeInfo) : Prop where
  has : Tryz.prog.info? e = some i
  zero : i.zero = some z
  size : i.size = k
  bytes : i.bytes = b
theorem Info.of {e : TypeId} {z : Value} {k b : Nat} (h : (Tryz.prog.info? e).map (fun i => (i.zero, i.size, i.bytes)) = some (some z, k, b)) : ∃ i, Info e z k b i := by
  rw [Option.map_eq_some_iff] at h
  obtain ⟨i, h1, h2⟩ := h
  simp only [Prod.mk.injEq] at h2
  exact ⟨i, h1, h2.1, h2.2.1, h2.2.2⟩
theorem info52 : ∃ i, Info 52 (.agg #[.int .i64 0, .int .u64 0, .int .i64 0]) 3 24 i := Info.of (by kernel_rfl)
theorem bList_mem {b : Nat} {n : Int} (h : n ∈ bList b) : ∃ k : Nat, n = (k : Int) ∧ k < 64 ∧ b.testBit k = true := by
  unfold bList bNat at h
  obtain ⟨k, hk, rfl⟩ := List.mem_map.1 h
  simp only [List.mem_filter, List.mem_range] at hk
  exact ⟨k, rfl, hk.1, hk.2⟩
theorem own_flat_one {L : List Up} : ∀ u ∈ flat uC L, u.oneCell' = true := by
  intro u hu
  unfold flat at hu
  obtain ⟨x, _, hx⟩ := List.mem_flatMap.1 hu
  exact uC_one x u hx
theorem own_keepB {w w' : World} {base n : Nat} {e : TypeId} {size : Nat} {v : Value} {xs : List Value} {S : Nat → Prop} (h : w.ownsRow base e size v n xs) (k : Keep S w w') (hS : ∀ g, v.ownBlock = some g → ¬ S g) : w'.ownsRow base e size v n xs := by
  obtain ⟨h1, h2⟩ := h
  refine ⟨h1, ?_⟩
  rcases h2 with h2 | ⟨g, cap, cur, hv, hg, hh, r⟩
  · exact .inl h2
  · exact .inr ⟨g, cap, cur, hv, hg, k.old hh (hS g (by rw [hv]; rfl)), r⟩
theorem own_block {w : World} {base n : Nat} {e : TypeId} {size : Nat} {v : Value} {xs : List Value} (h : w.ownsRow base e size v n xs) {k : Nat} (hk : v.ownBlock = some k) : base ≤ k ∧ k < w.heap.size := by
  rcases h.2 with ⟨hv, _⟩ | ⟨g, cap, cur, hv, hg, hh, r⟩
  · rw [hv] at hk; cases hk
  · rw [hv] at hk
    injection hk with hk
    subst hk
    exact ⟨hg, (Array.getElem?_eq_some_iff.1 hh).1⟩
structure OwnUps (w w' : World) (v : Value) (L : List Up) : Prop where
  own : w'.ownsRow w.heap.size 52 3 v L.length (flat uC L)
  keep : Keep (fun _ => False) w w'
theorem own_mono {w : World} {b b' n : Nat} {e : TypeId} {size : Nat} {v : Value} {xs : List Value} (h : w.ownsRow b e size v n xs) (hb : b' ≤ b) : w.ownsRow b' e size v n xs := by
  obtain ⟨h1, h2⟩ := h
  refine ⟨h1, ?_⟩
  rcases h2 with h2 | ⟨g, cap, cur, hv, hg, r⟩
  · exact .inl h2
  · exact .inr ⟨g, cap, cur, hv, by omega, r⟩

set_option maxRecDepth 100000 in
set_option maxHeartbeats 2000000 in
theorem rall_any {w : World} {b : Nat} {r : Rol} (h : IsRoll w b r) (hr : RolOk r) (hT : TabAt 0 B.tabS w) :
    Calls Tryz.prog 15 #[.pointer (some ⟨b, 0, none⟩)] w fun e w' => ∃ v, e = .returned v ∧ OwnUps w w' v r.all := by
  obtain ⟨j0, hj⟩ := info52
  have HJ := Lib.hid hj
  have HR := Lib.hid h
  have HL := Lib.hid (list_all r.has hr.has w hT)
  have ch := h.chas
  have hlen : (bList r.has).length ≤ 64 := by rw [bList_len]; exact bMany_le _
  have HLN : Hid (r.all = (bList r.has).map r.at) := Lib.hid rfl
  have HMM := Lib.hid (fun n (h : n ∈ bList r.has) => bList_mem h)
  clear hj h hT hr
  generalize bList r.has = L at *
  go_enter Tryz.func15, Tryz.ntmps15
  go_wp2_with fail
  refine HL.out.mono ?_
  rintro e w1 ⟨v0, rfl, ho, hk⟩
  obtain ⟨A0, c0, rfl⟩ := own_shape ho
  have HO := Lib.hid (Row.of_own ho)
  have HK := Lib.hid hk
  have HR1 := Lib.hid (HR.out.keep0 hk)
  clear ho hk ch HL
  go_wp2_with fail
  go_loopg [2, 4, 11] L.length (fun z v2 v4 v11 wr => ∃ (i : Nat) (A2 : Option Addr) (c2 : Nat), i + z = L.length ∧ v11 = .int .i64 i ∧ v2 = .slice A2 i c2 ∧ wr.ownsRow w1.heap.size 52 3 (.slice A2 i c2) i (flat uC ((L.take i).map r.at)) ∧ Keep (fun _ => False) w1 wr)
  case atStart => exact ⟨0, none, 0, by omega, rfl, rfl, World.ownsRow_nil _ _ _ _, Keep.refl _ _⟩
  case round =>
    obtain ⟨i, A2, c2, hz, rfl, rfl, ho2, hk2⟩ := hrel
    have HO2 := Lib.hid ho2
    have HK2 := Lib.hid hk2
    have HZ := Lib.hid hz
    have hil : i ≤ L.length := by omega
    clear ho2 hk2 hz
    by_cases hlt : i < L.length
    · have t1 : decide ((i : Int) < (L.length : Int)) = true := by simp; omega
      have t2 : (i : Int) < (L.length : Int) := by omega
      obtain ⟨g, o, c, cs, hv, _⟩ := HO.out.pos (by omega)
      cases hv
      have ci := HK2.out.cell (HO.out.int_at i hlt)
      obtain ⟨k, hk1, hk64, _⟩ := HMM.out L[i] (List.getElem_mem hlt)
      have htk : (L.take (i + 1)).map r.at = (L.take i).map r.at ++ [r.kn k] := by
        rw [List.take_succ_eq_append_getElem hlt, List.map_append, List.map_cons, List.map_nil, hk1]
        rfl
      rw [hk1] at ci
      clear hk1
      have hk3 : (k : Int) < 64 := by omega
      obtain ⟨k0, k1, k2⟩ := (HR1.out.keep0 HK2.out).ckn k hk64
      generalize r.kn k = y at k0 k1 k2 htk
      obtain ⟨yn, yi, ys⟩ := y
      simp only at k0 k1 k2
      have HTK := Lib.hid htk
      clear htk
      go_wp2_with (at_builtin; refine wpList_append_own_at _ rfl _ _ 49 rfl w1.heap.size 52 j0 (.agg #[.int .i64 0, .int .u64 0, .int .i64 0]) 3 24 Tryz.underlying49 HJ.out.has HJ.out.zero HJ.out.size HJ.out.bytes rfl (by decide) _ _ _ rfl (HO2.out.alloc _) ⟨wr.heap.size, 0, none⟩ 1 1 (uC ⟨yn, yi, ys⟩) rfl rfl ?c1 ?c2 ?c3 ?c4 ?c5 ?_)
      case c1 =>
        refine World.news_of_block (cs := (uC ⟨yn, yi, ys⟩).toArray) (t := 52) (fr := (0, 0)) ?_
        exact heap_alloc_new wr (.cells (uC ⟨yn, yi, ys⟩).toArray 52)
      case c2 => exact uC_one _
      case c3 => simp only [maxLen]; omega
      case c4 => omega
      case c5 => have := HK2.out.size; simp; omega
      intro v' w' hown hg2 _ _
      obtain ⟨A', c', rfl⟩ := own_shape hown
      have hK' : Keep (fun _ => False) w1 w' := (HK2.out.alloc _).grown hg2 (fun k hk hlt => by
        have := (own_block HO2.out hk).1
        omega)
      have HO3 : Hid (w'.ownsRow w1.heap.size 52 3 (.slice A' (i + 1) c') (i + 1) (flat uC ((L.take (i + 1)).map r.at))) := Lib.hid (by
        rw [HTK.out, flat_append, flat_one, List.map_take]; exact hown)
      have HK3 := Lib.hid hK'
      clear hown hg2 hK'
      go_wp2
      go_roundg (L.length - (i + 1))
      case measure => have := HZ.out; omega
      case rel => exact ⟨i + 1, A', c', by have := HZ.out; omega, by go_num, rfl, HO3.out, HK3.out⟩
    · obtain rfl : L.length = i := by omega
      have t1 : decide ((L.length : Int) < (L.length : Int)) = false := by simp
      have hfin : Hid (OwnUps w wr (.slice A2 L.length c2) r.all) := Lib.hid ⟨by
        have := HO2.out
        rw [List.take_length] at this
        rw [HLN.out, List.length_map]
        exact own_mono this HK.out.size, HK.out.step HK2.out⟩
      clear hlt hil
      go_wp2
      go_ret
      exact ⟨_, rfl, hfin.out⟩

theorem bWith_lt {b : Nat} (hb : b < 18446744073709551616) (n : Int) : bWith b n < 18446744073709551616 := by
  have := Nat.or_lt_two_pow (n := 64) (x := b) (y := bitN n) (by omega) (by have := bitN_lt n; omega)
  unfold bWith
  omega
theorem bLess_lt {b : Nat} (hb : b < 18446744073709551616) (n : Int) : bLess b n < 18446744073709551616 := by
  have := Nat.and_le_left (n := b) (m := 18446744073709551615 - bitN n)
  unfold bLess
  omega
theorem liveF_eq (b : Nat) (u : Up) : liveF b u = if liveS u.s then bWith b u.n else b := rfl
theorem liveF_lt {b : Nat} (hb : b < 18446744073709551616) (u : Up) : liveF b u < 18446744073709551616 := by
  unfold liveF
  split
  · exact bWith_lt hb _
  · exact hb
theorem foldl_live_lt : ∀ (L : List Up) {b : Nat}, b < 18446744073709551616 → L.foldl liveF b < 18446744073709551616
  | [], _, h => h
  | u :: L, _, h => foldl_live_lt L (liveF_lt h u)
theorem live_lt (r : Rol) : r.live < 18446744073709551616 := foldl_live_lt _ (by omega)
theorem all_len (r : Rol) : r.all.length ≤ 64 := by
  unfold Rol.all
  rw [List.length_map, bList_len]
  exact bMany_le _
theorem Row.up_at {w : World} {g o c : Nat} {l : List Up} (h : Row w 52 3 (.slice (some ⟨g, o, none⟩) l.length c) l.length (flat uC l)) (i : Nat) (hi : i < l.length) : w.cell? ⟨g, o + i * 3, none⟩ = some (.int .i64 l[i].n) ∧ w.cell? ⟨g, o + i * 3 + 1, none⟩ = some (.int .u64 l[i].i) ∧ w.cell? ⟨g, o + i * 3 + 2, none⟩ = some (.int .i64 l[i].s) := by
  have h1 := fun t u (hu : (uC l[i])[t]? = some u) => h.cell (flat_at (k := 3) uC (fun _ => rfl) hi hu)
  exact ⟨by simpa [Nat.add_assoc] using h1 0 _ rfl, by simpa [Nat.add_assoc] using h1 1 _ rfl, by simpa [Nat.add_assoc] using h1 2 _ rfl⟩

set_option maxRecDepth 100000 in
set_option maxHeartbeats 2000000 in
theorem rlive_any {w : World} {b : Nat} {r : Rol} (h : IsRoll w b r) (hr : RolOk r) (hT : TabAt 0 B.tabS w) :
    Calls Tryz.prog 14 #[.pointer (some ⟨b, 0, none⟩)] w fun e w' => e = .returned (.int .u64 (r.live : Int)) ∧ Keep (fun _ => False) w w' := by
  have HL := Lib.hid (rall_any h hr hT)
  have hlen := all_len r
  have HLV : Hid (r.live = r.all.foldl liveF 0) := Lib.hid rfl
  clear h hr hT
  generalize r.all = L at *
  generalize r.live = rl at *
  go_enter Tryz.func14, Tryz.ntmps14
  go_wp2_with fail
  refine HL.out.mono ?_
  rintro e w1 ⟨v0, rfl, ho⟩
  have HK := Lib.hid ho.keep
  have ho := ho.own
  obtain ⟨A0, c0, rfl⟩ := own_shape ho
  have HO := Lib.hid (Row.of_own ho)
  clear ho HL
  go_wp2_with fail
  go_loopg [2, 4, 8] L.length (fun z v2 v4 v8 wr => ∃ (i : Nat), i + z = L.length ∧ v8 = .int .i64 i ∧ v2 = .int .u64 (((L.take i).foldl liveF 0 : Nat) : Int) ∧ Keep (fun _ => False) w1 wr)
  case atStart => exact ⟨0, by omega, rfl, rfl, Keep.refl _ _⟩
  case round =>
    obtain ⟨i, hz, rfl, rfl, hk2⟩ := hrel
    have HK2 := Lib.hid hk2
    have HZ := Lib.hid hz
    have hil : i ≤ L.length := by omega
    clear hk2 hz
    by_cases hlt : i < L.length
    · have t1 : decide ((i : Int) < (L.length : Int)) = true := by simp; omega
      have t2 : (i : Int) < (L.length : Int) := by omega
      obtain ⟨g, o, c, cs, hv, _⟩ := HO.out.pos (by omega)
      cases hv
      obtain ⟨k0, k1, k2⟩ := HO.out.up_at i hlt
      have k0 := HK2.out.cell k0
      have k1 := HK2.out.cell k1
      have k2 := HK2.out.cell k2
      have htk : (L.take (i + 1)).foldl liveF 0 = liveF ((L.take i).foldl liveF 0) L[i] := by
        rw [List.take_succ_eq_append_getElem hlt, List.foldl_append]
        rfl
      have hbl := foldl_live_lt (L.take i) (b := 0) (by omega)
      have HLU := Lib.hid (fun W => live_up L[i] W)
      have HW := Lib.hid (fun W => with_all ((L.take i).foldl liveF 0) L[i].n hbl W)
      rw [liveF_eq] at htk
      have HTK := Lib.hid htk
      unfold uV at HLU
      generalize (L.take i).foldl liveF 0 = bv at HTK HW
      generalize L[i] = y at *
      clear htk hbl
      obtain ⟨yn, yi, ys⟩ := y
      simp only at k0 k1 k2 HTK HLU HW
      cases hs : liveS ys
      · rw [hs] at HLU HTK
        simp only [Bool.false_eq_true, if_false] at HTK
        clear hs
        go_wp2_with fail
        refine (HLU.out _).mono ?_
        rintro e w3 ⟨rfl, hk3⟩
        have HK3 := Lib.hid ((HK2.out.alloc _).step hk3)
        clear hk3
        go_wp2
        go_roundg (L.length - (i + 1))
        case measure => have := HZ.out; omega
        case rel => exact ⟨i + 1, by have := HZ.out; omega, by go_num, by rw [HTK.out], HK3.out⟩
      · rw [hs] at HLU HTK
        simp only [if_true] at HTK
        clear hs
        go_wp2_with fail
        refine (HLU.out _).mono ?_
        rintro e w3 ⟨rfl, hk3⟩
        have hb3 := hk3.old (heap_alloc_new wr _) (fun h => h)
        have b0 : w3.cell? ⟨wr.heap.size, 0, none⟩ = some (.int .i64 yn) := by simp [World.cell?, hb3]
        have HK3 := Lib.hid ((HK2.out.alloc _).step hk3)
        clear hk3 hb3
        go_wp2_with fail
        refine (HW.out _).mono ?_
        rintro e w' ⟨rfl, rfl⟩
        go_wp2
        go_roundg (L.length - (i + 1))
        case measure => have := HZ.out; omega
        case rel => exact ⟨i + 1, by have := HZ.out; omega, by go_num, by rw [HTK.out], HK3.out⟩
    · obtain rfl : L.length = i := by omega
      have t1 : decide ((L.length : Int) < (L.length : Int)) = false := by simp
      have hfin : Hid ((((L.take L.length).foldl liveF 0 : Nat) : Int) = (rl : Int)) := Lib.hid (by rw [List.take_length, HLV.out])
      clear hlt hil
      go_wp2
      go_ret
      exact ⟨congrArg (fun x => Ending.returned (Value.int .u64 x)) hfin.out, HK.out.step HK2.out⟩
end Go.Proofs.YtofonfohaocclaaGreatDoor

namespace Go.Proofs.YtofonfohaocclaaGreatDoor
open Go.RowKit Sh
open Go.ChangeMaps (setBlock)
set_option linter.unusedVariables false

set_option maxRecDepth 100000 in
set_option maxHeartbeats 2000000 in
theorem rothers_any {w : World} {b : Nat} {r : Rol} (h : IsRoll w b r) (hr : RolOk r) (hT : TabAt 0 B.tabS w) :
    Calls Tryz.prog 34 #[.pointer (some ⟨b, 0, none⟩)] w fun e w' => ∃ v, e = .returned v ∧ w'.ownsRow (w.heap.size + 2) 3 1 v r.others.length (intsC r.others) ∧ Keep (fun _ => False) w w' := by
  have HO : Hid (r.others = bList (bLess r.live r.me)) := Lib.hid rfl
  have HV := Lib.hid (fun W (k : Keep (fun _ => False) w W) => rlive_any (h.keep0 k) hr (B.tab_keep hT k id))
  have HE := Lib.hid (fun W => less_all r.live r.me (live_lt r) W)
  have HL := Lib.hid (fun W (k : Keep (fun _ => False) w W) => list_all (bLess r.live r.me) (bLess_lt (live_lt r) _) W (B.tab_keep hT k id))
  have cm := h.cme
  clear h hr hT
  generalize r.others = ro at *
  generalize (bLess r.live r.me) = bl at *
  generalize (r.live : Int) = lv at *
  generalize r.me = m at *
  have k0 := (Keep.refl (fun _ => False) w).drew
  go_enter Tryz.func34, Tryz.ntmps34
  go_upto_region 1 with fail
  go_region_held3 (fun W => W.cell? ⟨b, 0, none⟩ = some (.int .i64 m) ∧ Keep (fun _ => False) w W) (first | assumption | exact ⟨cm, k0⟩) (first | (go_at_call 14; refine (HV.out _ (by assumption)).mono ?_; rintro e w1 ⟨rfl, hk1⟩; have s1 : w1.cell? ⟨b, 0, none⟩ = some (.int .i64 m) ∧ Keep (fun _ => False) w w1 := ⟨hk1.cell cm, k0.step hk1⟩) | (go_at_call 81; refine (HE.out _).mono ?_; rintro e w' ⟨rfl, rfl⟩) | (go_at_call 44; refine (HL.out _ s1.2).mono ?_; rintro e w2 ⟨v, rfl, ho, hk2⟩; have s2 : w2.cell? ⟨b, 0, none⟩ = some (.int .i64 m) ∧ Keep (fun _ => False) w w2 := ⟨hk2.cell s1.1, s1.2.step hk2⟩))
  all_goals
    have HK := Lib.hid s2.2
    have HS := Lib.hid s1.2.size
    have HR := Lib.hid ho
    clear s1 s2 ho hk1 hk2 k0 cm
    go_wp2
    go_ret
    rw [HO.out]
    exact ⟨v, rfl, own_mono HR.out (by have := HS.out; omega), HK.out⟩

theorem zeroRol : Tryz.zeroCells114 = (Value.int .i64 0 :: (flat uC (List.replicate 64 zUp) ++ [Value.int .u64 0])).toArray := by kernel_rfl
theorem isroll_zero (w : World) (me : Int) : IsRoll (w.alloc (.cells (Tryz.zeroCells114.setIfInBounds 0 (.int .i64 me)) 114)) w.heap.size (Rol.mk me (fun _ => zUp) 0) := by
  have hl : (flat uC (List.replicate 64 zUp)).length = 192 := by rw [flat_len (k := 3) uC (fun _ => rfl), List.length_replicate]
  refine ⟨⟨_, heap_alloc_new w _, ?_, ?_, ?_, ?_⟩⟩
  · rw [Array.size_setIfInBounds, zeroRol, List.size_toArray, List.length_cons, List.length_append, hl]; rfl
  · rw [zeroRol]; simp
  · intro k hk t u hu
    have ht : t < 3 := (List.getElem?_eq_some_iff.1 hu).1
    rw [Array.getElem?_setIfInBounds_ne (by omega), zeroRol, List.getElem?_toArray, show 1 + k * 3 + t = (k * 3 + t) + 1 by omega, List.getElem?_cons_succ, List.getElem?_append_left (by omega)]
    have hk' : k < (List.replicate 64 zUp).length := by simpa using hk
    exact flat_at (k := 3) uC (fun _ => rfl) hk' (by rw [List.getElem_replicate]; exact hu)
  · rw [Array.getElem?_setIfInBounds_ne (by omega), zeroRol, List.getElem?_toArray, show 193 = 192 + 1 by omega, List.getElem?_cons_succ, List.getElem?_append_right (by omega), hl]
    rfl
set_option maxRecDepth 100000 in
set_option maxHeartbeats 2000000 in
theorem rolnew_bad {w : World} (me : Int) (hm : ¬ (0 ≤ me ∧ me < 64)) : Calls Tryz.prog 46 #[.int .i64 me] w fun e w' => e = .returned (.pointer none) ∧ w = w' := by
  by_cases h0 : me < 0
  · have d1 : decide (me < 0) = true := decide_eq_true h0
    go_enter Tryz.func46, Tryz.ntmps46
    go_wp2
    go_ret
    exact ⟨rfl, rfl⟩
  · have d1 : decide (me < 0) = false := decide_eq_false h0
    have d2 : decide (64 ≤ me) = true := decide_eq_true (by omega)
    go_enter Tryz.func46, Tryz.ntmps46
    go_wp2
    go_ret
    exact ⟨rfl, rfl⟩
set_option maxRecDepth 100000 in
set_option maxHeartbeats 2000000 in
theorem rolnew_any {w : World} (me : Int) (hm : 0 ≤ me ∧ me < 64) : Calls Tryz.prog 46 #[.int .i64 me] w fun e w' => ∃ b, e = .returned (.pointer (some ⟨b, 0, none⟩)) ∧ w.heap.size ≤ b ∧ IsRoll w' b (Rol.new me) ∧ Keep (fun _ => False) w w' := by
  have d1 : decide (me < 0) = false := decide_eq_false (by omega)
  have d2 : decide (64 ≤ me) = false := decide_eq_false (by omega)
  go_enter Tryz.func46, Tryz.ntmps46
  have hz := isroll_zero w me
  have HP := Lib.hid (put_any hz ⟨hm, by show (0 : Nat) < _; omega⟩ ⟨me, 0, 0⟩ hm)
  unfold uV at HP
  clear hz hm
  go_wp2_with fail
  refine HP.out.mono ?_
  rintro e w2 ⟨rfl, hr, hk⟩
  have HR := Lib.hid hr
  have HK : Hid (Keep (fun _ => False) w w2) := Lib.hid (((Keep.refl (fun _ => False) w).alloc _).trans hk fun i hi hlt => by omega)
  clear hr hk
  go_wp2
  go_ret
  exact ⟨_, rfl, Nat.le_refl _, HR.out, HK.out⟩
end Go.Proofs.YtofonfohaocclaaGreatDoor

namespace Go.Proofs.YtofonfohaocclaaGreatDoor
open Go.RowKit Sh
open Go.ChangeMaps (setBlock)
set_option linter.unusedVariables false

structure Parts where
  rb : Nat
  vl : Value
  vw : Value
  ve : Value
  qm : Option Nat
  dm : Option Nat
def detC (p : Parts) (d : Det) : Array Value := #[.pointer (some ⟨p.rb, 0, none⟩), p.vl, .int .i64 d.r.me, .map p.qm, .map p.dm, p.vw, p.ve, .int .u64 d.seq, .int .u64 d.now, .bool d.gone]
structure Parts.has (p : Parts) (b k : Nat) : Prop where
  or : k = b ∨ k = p.rb ∨ p.vl.ownBlock = some k ∨ p.vw.ownBlock = some k ∨ p.ve.ownBlock = some k ∨ p.qm = some k ∨ p.dm = some k
def qL (b : Nat) (p : Parts) (d : Det) : Loc := ⟨b, 3, detC p d, 48⟩
def dL (b : Nat) (p : Parts) (d : Det) : Loc := ⟨b, 4, detC p d, 48⟩
def lL (b : Nat) (p : Parts) (d : Det) : Loc := ⟨b, 1, detC p d, 48⟩
structure IsDet (w : World) (b : Nat) (d : Det) (p : Parts) : Prop where
  blk : w.heap[b]? = some (.cells (detC p d) 48 (0, 0))
  rol : IsRoll w p.rb d.r
  left : Row w 3 1 p.vl d.left.length (intsC d.left)
  ws : Row w 96 4 p.vw d.ws.length (flat wtC d.ws)
  es : Row w 105 5 p.ve d.es.length (flat erC d.es)
  q : Q.IsQ w (qL b p d) p.qm d.q
  d : D.IsQ w (dL b p d) p.dm d.d
  ne : ∀ k, p.qm = some k → p.dm ≠ some k
  pos : ∀ k, p.has b k → 0 < k
theorem Q_move {S : Nat → Prop} {w w' : World} {q q' : Loc} {mb : Option Nat} {M : List Q.It} (h : Q.IsQ w q mb M) (k : Keep S w w') (hn : ∀ B, mb = some B → ¬ S B) (hb : q'.b = q.b) (hc : w'.heap[q'.b]? = some (.cells q'.cs q'.t (0, 0))) (hh : q'.cs[q'.o]? = some (.map mb)) : Q.IsQ w' q' mb M :=
  ⟨hc, hh, fun B hB => by
    obtain ⟨h1, M1, h2, h3⟩ := h.mp B hB
    exact ⟨by rw [hb]; exact h1, M1, h2, h3.keep k (hn B hB)⟩, h.non⟩
theorem D_move {S : Nat → Prop} {w w' : World} {q q' : Loc} {mb : Option Nat} {M : List D.Db} (h : D.IsQ w q mb M) (k : Keep S w w') (hn : ∀ B, mb = some B → ¬ S B) (hb : q'.b = q.b) (hc : w'.heap[q'.b]? = some (.cells q'.cs q'.t (0, 0))) (hh : q'.cs[q'.o]? = some (.map mb)) : D.IsQ w' q' mb M :=
  ⟨hc, hh, fun B hB => by
    obtain ⟨h1, M1, h2, h3⟩ := h.mp B hB
    exact ⟨by rw [hb]; exact h1, M1, h2, h3.keep k (hn B hB)⟩, h.non⟩
theorem Q_map {w : World} {q : Loc} {B : Nat} {M : List Q.It} (h : Q.IsQ w q (some B) M) : ∃ a c, w.heap[B]? = some (.map a c) := by
  obtain ⟨h1, M1, h2, h3⟩ := h.mp B rfl
  obtain ⟨E, c, h4, _⟩ := h3.out
  exact ⟨_, _, h4⟩
theorem D_map {w : World} {q : Loc} {B : Nat} {M : List D.Db} (h : D.IsQ w q (some B) M) : ∃ a c, w.heap[B]? = some (.map a c) := by
  obtain ⟨h1, M1, h2, h3⟩ := h.mp B rfl
  obtain ⟨E, c, h4, _⟩ := h3.out
  exact ⟨_, _, h4⟩
/-- What lies in each block of a detector. -/
structure Kind (w : World) (k : Nat) (t : Option TypeId) : Prop where
  is : match t with
    | some t => ∃ cs, w.heap[k]? = some (.cells cs t (0, 0))
    | none => ∃ a c, w.heap[k]? = some (.map a c)
theorem Kind.ne {w : World} {i j : Nat} {s t : Option TypeId} (h : Kind w i s) (k : Kind w j t) (hst : s ≠ t) : i ≠ j := by
  rintro rfl
  have h1 := h.is
  have h2 := k.is
  cases s with
  | none =>
    cases t with
    | none => exact hst rfl
    | some t =>
      obtain ⟨a, c, h1⟩ := h1
      obtain ⟨cs, h2⟩ := h2
      rw [h1] at h2
      cases h2
  | some s =>
    cases t with
    | none =>
      obtain ⟨cs, h1⟩ := h1
      obtain ⟨a, c, h2⟩ := h2
      rw [h1] at h2
      cases h2
    | some t =>
      obtain ⟨cs, h1⟩ := h1
      obtain ⟨cs', h2⟩ := h2
      rw [h1] at h2
      injection h2 with h2
      injection h2 with _ h2 _
      exact hst (by rw [h2])
section
variable {w : World} {b : Nat} {d : Det} {p : Parts}
theorem IsDet.kb (h : IsDet w b d p) : Kind w b (some 48) := ⟨_, h.blk⟩
theorem IsDet.krb (h : IsDet w b d p) : Kind w p.rb (some 114) := by
  obtain ⟨cs, h1, _⟩ := h.rol.ex
  exact ⟨_, h1⟩
theorem IsDet.kl (h : IsDet w b d p) {k : Nat} (hk : p.vl.ownBlock = some k) : Kind w k (some 3) := ⟨h.left.typed hk⟩
theorem IsDet.kw (h : IsDet w b d p) {k : Nat} (hk : p.vw.ownBlock = some k) : Kind w k (some 96) := ⟨h.ws.typed hk⟩
theorem IsDet.ke (h : IsDet w b d p) {k : Nat} (hk : p.ve.ownBlock = some k) : Kind w k (some 105) := ⟨h.es.typed hk⟩
theorem IsDet.kq (h : IsDet w b d p) {k : Nat} (hk : p.qm = some k) : Kind w k none := ⟨Q_map (hk ▸ h.q)⟩
theorem IsDet.kd (h : IsDet w b d p) {k : Nat} (hk : p.dm = some k) : Kind w k none := ⟨D_map (hk ▸ h.d)⟩
theorem IsDet.khas (h : IsDet w b d p) {k : Nat} (hk : p.has b k) : ∃ t, Kind w k t ∧ t ≠ some 29 ∧ t ≠ some 95 ∧ t ≠ some 52 ∧ t ≠ some 62 := by
  rcases hk.or with rfl | rfl | hk | hk | hk | hk | hk
  · exact ⟨_, h.kb, by decide, by decide, by decide, by decide⟩
  · exact ⟨_, h.krb, by decide, by decide, by decide, by decide⟩
  · exact ⟨_, h.kl hk, by decide, by decide, by decide, by decide⟩
  · exact ⟨_, h.kw hk, by decide, by decide, by decide, by decide⟩
  · exact ⟨_, h.ke hk, by decide, by decide, by decide, by decide⟩
  · exact ⟨_, h.kq hk, by decide, by decide, by decide, by decide⟩
  · exact ⟨_, h.kd hk, by decide, by decide, by decide, by decide⟩
theorem IsDet.lt (h : IsDet w b d p) {k : Nat} (hk : p.has b k) : k < w.heap.size := by
  obtain ⟨t, ht, _⟩ := h.khas hk
  have := ht.is
  cases t with
  | none => obtain ⟨_, _, h⟩ := this; exact (Array.getElem?_eq_some_iff.1 h).1
  | some t => obtain ⟨_, h⟩ := this; exact (Array.getElem?_eq_some_iff.1 h).1
theorem hb (p : Parts) (b : Nat) : p.has b b := ⟨.inl rfl⟩
theorem IsDet.keep (h : IsDet w b d p) {S : Nat → Prop} {w' : World} (k : Keep S w w') (hn : ∀ j, p.has b j → ¬ S j) : IsDet w' b d p where
  blk := k.old h.blk (hn _ ⟨.inl rfl⟩)
  rol := h.rol.keep k (hn _ ⟨.inr (.inl rfl)⟩)
  left := h.left.keep k fun g hg => hn _ ⟨.inr (.inr (.inl hg))⟩
  ws := h.ws.keep k fun g hg => hn _ ⟨.inr (.inr (.inr (.inl hg)))⟩
  es := h.es.keep k fun g hg => hn _ ⟨.inr (.inr (.inr (.inr (.inl hg))))⟩
  q := Q_move h.q k (fun B hB => hn _ ⟨.inr (.inr (.inr (.inr (.inr (.inl hB)))))⟩) rfl (k.old h.blk (hn _ ⟨.inl rfl⟩)) rfl
  d := D_move h.d k (fun B hB => hn _ ⟨.inr (.inr (.inr (.inr (.inr (.inr hB)))))⟩) rfl (k.old h.blk (hn _ ⟨.inl rfl⟩)) rfl
  ne := h.ne
  pos := h.pos
theorem IsDet.keep0 (h : IsDet w b d p) {w' : World} (k : Keep (fun _ => False) w w') : IsDet w' b d p := h.keep k fun _ _ h => h
/-- the roll changes. -/
theorem IsDet.set_roll (h : IsDet w b d p) {w' : World} {r : Rol} (k : Keep (fun j => j = p.rb) w w') (hr : IsRoll w' p.rb r) (hm : r.me = d.r.me) : IsDet w' b { d with r := r } p := by
  have e : detC p { d with r := r } = detC p d := by unfold detC; simp only [hm]
  have hbb : w'.heap[b]? = some (.cells (detC p { d with r := r }) 48 (0, 0)) := by rw [e]; exact k.old h.blk (h.kb.ne h.krb (by decide))
  exact ⟨hbb, hr, h.left.keep k fun g hg => (h.kl hg).ne h.krb (by decide), h.ws.keep k fun g hg => (h.kw hg).ne h.krb (by decide), h.es.keep k fun g hg => (h.ke hg).ne h.krb (by decide),
    Q_move h.q k (fun B hB => (h.kq hB).ne h.krb (by decide)) rfl hbb rfl, D_move h.d k (fun B hB => (h.kd hB).ne h.krb (by decide)) rfl hbb rfl, h.ne, h.pos⟩
/-- the detector's own block changes, and one of its parts with it. -/
theorem IsDet.set_q (h : IsDet w b d p) {w' : World} {mb' : Option Nat} {M : List Q.It} (k : Keep (Q.QS (qL b p d) p.qm) w w') (hq : Q.IsQ w' ((qL b p d).to (.map mb')) mb' M) (hN : NewMap w p.qm mb') : IsDet w' b { d with q := M } { p with qm := mb' } := by
  have hbb : w'.heap[b]? = some (.cells (detC { p with qm := mb' } { d with q := M }) 48 (0, 0)) := hq.cell
  have hS : ∀ t j, Kind w j t → t ≠ some 48 → t ≠ none → ¬ Q.QS (qL b p d) p.qm j := by
    rintro t j hj h1 h2 (hj' | hj')
    · exact hj.ne h.kb h1 hj'
    · exact hj.ne (h.kq hj') h2 rfl
  refine ⟨hbb, h.rol.keep k (hS _ _ h.krb (by decide) (by decide)), h.left.keep k fun g hg => hS _ _ (h.kl hg) (by decide) (by decide), h.ws.keep k fun g hg => hS _ _ (h.kw hg) (by decide) (by decide), h.es.keep k fun g hg => hS _ _ (h.ke hg) (by decide) (by decide), ?_, D_move h.d k ?_ rfl hbb rfl, ?_, ?_⟩
  · exact hq
  · rintro B hB (hB' | hB')
    · exact (h.kd hB).ne h.kb (by decide) hB'
    · exact h.ne B hB' hB
  · intro j hj hd
    rcases hN.or with rfl | ⟨_, B, rfl, hB⟩
    · exact h.ne j hj hd
    · injection hj with hj
      subst hj
      have := h.lt ⟨.inr (.inr (.inr (.inr (.inr (.inr hd)))))⟩
      omega
  · intro j hj
    rcases hj.or with hj | hj | hj | hj | hj | hj | hj
    · exact h.pos j ⟨.inl hj⟩
    · exact h.pos j ⟨.inr (.inl hj)⟩
    · exact h.pos j ⟨.inr (.inr (.inl hj))⟩
    · exact h.pos j ⟨.inr (.inr (.inr (.inl hj)))⟩
    · exact h.pos j ⟨.inr (.inr (.inr (.inr (.inl hj))))⟩
    · rcases hN.or with h2 | ⟨_, B, h2, hB⟩
      · exact h.pos j ⟨.inr (.inr (.inr (.inr (.inr (.inl (h2 ▸ hj))))))⟩
      · have e : some B = some j := h2.symm.trans hj
        injection e with e
        have := h.lt (hb p b)
        omega
    · exact h.pos j ⟨.inr (.inr (.inr (.inr (.inr (.inr hj)))))⟩
theorem IsDet.set_d (h : IsDet w b d p) {w' : World} {mb' : Option Nat} {M : List D.Db} (k : Keep (D.QS (dL b p d) p.dm) w w') (hq : D.IsQ w' ((dL b p d).to (.map mb')) mb' M) (hN : NewMap w p.dm mb') : IsDet w' b { d with d := M } { p with dm := mb' } := by
  have hbb : w'.heap[b]? = some (.cells (detC { p with dm := mb' } { d with d := M }) 48 (0, 0)) := hq.cell
  have hS : ∀ t j, Kind w j t → t ≠ some 48 → t ≠ none → ¬ D.QS (dL b p d) p.dm j := by
    rintro t j hj h1 h2 (hj' | hj')
    · exact hj.ne h.kb h1 hj'
    · exact hj.ne (h.kd hj') h2 rfl
  refine ⟨hbb, h.rol.keep k (hS _ _ h.krb (by decide) (by decide)), h.left.keep k fun g hg => hS _ _ (h.kl hg) (by decide) (by decide), h.ws.keep k fun g hg => hS _ _ (h.kw hg) (by decide) (by decide), h.es.keep k fun g hg => hS _ _ (h.ke hg) (by decide) (by decide), Q_move h.q k ?_ rfl hbb rfl, ?_, ?_, ?_⟩
  · rintro B hB (hB' | hB')
    · exact (h.kq hB).ne h.kb (by decide) hB'
    · exact h.ne B hB hB'
  · exact hq
  · intro j hj hd
    rcases hN.or with h2 | ⟨_, B, h2, hB⟩
    · exact h.ne j hj (h2 ▸ hd)
    · have e : some B = some j := h2.symm.trans hd
      injection e with e
      have := h.lt ⟨.inr (.inr (.inr (.inr (.inr (.inl hj)))))⟩
      omega
  · intro j hj
    rcases hj.or with hj | hj | hj | hj | hj | hj | hj
    · exact h.pos j ⟨.inl hj⟩
    · exact h.pos j ⟨.inr (.inl hj)⟩
    · exact h.pos j ⟨.inr (.inr (.inl hj))⟩
    · exact h.pos j ⟨.inr (.inr (.inr (.inl hj)))⟩
    · exact h.pos j ⟨.inr (.inr (.inr (.inr (.inl hj))))⟩
    · exact h.pos j ⟨.inr (.inr (.inr (.inr (.inr (.inl hj)))))⟩
    · rcases hN.or with h2 | ⟨_, B, h2, hB⟩
      · exact h.pos j ⟨.inr (.inr (.inr (.inr (.inr (.inr (h2 ▸ hj))))))⟩
      · have e : some B = some j := h2.symm.trans hj
        injection e with e
        have := h.lt (hb p b)
        omega
/-- the block alone changes: rows and words are put anew. -/
theorem IsDet.set_own (h : IsDet w b d p) {w' : World} {d' : Det} {p' : Parts} {S : Nat → Prop} (k : Keep S w w') (hS : ∀ j t, Kind w j t → t ≠ some 48 → t ≠ some 95 → t ≠ some 3 → t ≠ some 96 → t ≠ some 105 → ¬ S j) (hbb : w'.heap[b]? = some (.cells (detC p' d') 48 (0, 0)))
    (e1 : p'.rb = p.rb) (e2 : p'.qm = p.qm) (e3 : p'.dm = p.dm) (e4 : d'.r = d.r) (e5 : d'.q = d.q) (e6 : d'.d = d.d)
    (hl : Row w' 3 1 p'.vl d'.left.length (intsC d'.left)) (hw : Row w' 96 4 p'.vw d'.ws.length (flat wtC d'.ws)) (he : Row w' 105 5 p'.ve d'.es.length (flat erC d'.es))
    (hpos : ∀ k, p'.vl.ownBlock = some k ∨ p'.vw.ownBlock = some k ∨ p'.ve.ownBlock = some k → 0 < k) : IsDet w' b d' p' := by
  refine ⟨hbb, ?_, hl, hw, he, ?_, ?_, by rw [e2, e3]; exact h.ne, ?_⟩
  · rw [e1, e4]; exact h.rol.keep k (hS _ _ h.krb (by decide) (by decide) (by decide) (by decide) (by decide))
  · rw [e2, e5]
    exact Q_move (q' := qL b p' d') h.q k (fun B hB => hS _ _ (h.kq hB) (by decide) (by decide) (by decide) (by decide) (by decide)) rfl hbb (by show some (Value.map p'.qm) = _; rw [e2])
  · rw [e3, e6]
    exact D_move (q' := dL b p' d') h.d k (fun B hB => hS _ _ (h.kd hB) (by decide) (by decide) (by decide) (by decide) (by decide)) rfl hbb (by show some (Value.map p'.dm) = _; rw [e3])
  · intro j hj
    rcases hj.or with hj | hj | hj | hj | hj | hj | hj
    · exact h.pos j ⟨.inl hj⟩
    · exact h.pos j ⟨.inr (.inl (hj.trans e1))⟩
    · exact hpos j (.inl hj)
    · exact hpos j (.inr (.inl hj))
    · exact hpos j (.inr (.inr hj))
    · exact h.pos j ⟨.inr (.inr (.inr (.inr (.inr (.inl (e2 ▸ hj))))))⟩
    · exact h.pos j ⟨.inr (.inr (.inr (.inr (.inr (.inr (e3 ▸ hj))))))⟩
end
end Go.Proofs.YtofonfohaocclaaGreatDoor

namespace Go.Proofs.YtofonfohaocclaaGreatDoor
open Go.RowKit Sh
open Go.ChangeMaps (setBlock)
set_option linter.unusedVariables false

section
variable {P : Program} {w : World} {d : Nat} {xs ys : Array Value} {f : Field} {fs : List Field} {a b : Value} {r s : Bool}
theorem eqField_cons (hn : (f.name == "_") = false) (ha : (part f.type xs f.offset).run P w = .ok a w) (hb : (part f.type ys f.offset).run P w = .ok b w) (he : (Op.equalIn d f.type a b).run P w = .ok r w) (hr : (Op.eqFields d xs ys fs).run P w = .ok s w) : (Op.eqFields d xs ys (f :: fs)).run P w = .ok (r && s) w := by
  have hn' : f.name ≠ "_" := by simpa using hn
  rw [Op.eqFields]
  simp only [if_pos hn', Sem.run_bind, ha, hb, he, Result.andThen_ok]
  cases r
  · simp
  · simpa using hr
theorem eqField_nil : (Op.eqFields d xs ys []).run P w = .ok true w := by simp [Op.eqFields]
theorem eqAgg {t : TypeId} {fs : Array Field} (hu : P.underlying t = some (.struct fs)) (hp : P.stoodInHeld t = false) (h : (Op.eqFields d xs ys fs.toList).run P w = .ok r w) : (Op.equalIn (d + 1) t (.agg xs) (.agg ys)).run P w = .ok r w := by
  have hf : P.fieldsOf t = fs := by simp [Program.fieldsOf, hu]
  rw [run_equalIn_struct (P := P) w d t xs ys (by rw [hf]; exact hu) hp, hf]
  exact h
end
theorem eqs52 (d : Nat) (w : World) (a b : Up) : (Op.equalIn (d + 2) 52 (uV a) (uV b)).run Tryz.prog w = .ok (decide (a = b)) w := by
  obtain ⟨a1, a2, a3⟩ := a; obtain ⟨b1, b2, b3⟩ := b
  have h : (Op.equalIn (d + 2) 52 (uV ⟨a1, a2, a3⟩) (uV ⟨b1, b2, b3⟩)).run Tryz.prog w = .ok (a1 == b1 && (a2 == b2 && ((a3 == b3) && true))) w := by
    refine eqAgg Tryz.underlying52 (by kernel_rfl) ?_
    refine eqField_cons (by rfl) (by go_simp; rfl) (by go_simp; rfl) (by go_simp) ?_
    refine eqField_cons (by rfl) (by go_simp; rfl) (by go_simp; rfl) (by go_simp) ?_
    refine eqField_cons (by rfl) (by go_simp; rfl) (by go_simp; rfl) (by go_simp) ?_
    exact eqField_nil
  have e : (a1 == b1 && (a2 == b2 && ((a3 == b3) && true))) = decide ((⟨a1, a2, a3⟩ : Up) = ⟨b1, b2, b3⟩) := by
    rw [Bool.eq_iff_iff]
    simp [Up.mk.injEq]
  rw [h, e]
theorem eql52 (a b : Up) (w : World) : (binOp .eql 52 (uV a) (uV b)).run Tryz.prog w = .ok (.bool (decide (a = b))) w := by
  have h := eqs52 9998 w a b
  unfold uV at h ⊢
  simp only [binOp, Op.equal, Op.maxDepth, Sem.run_bind, h, Result.andThen_ok]
  rfl
theorem neq52 (a b : Up) (w : World) : (binOp .neq 52 (uV a) (uV b)).run Tryz.prog w = .ok (.bool !(decide (a = b))) w := by
  have h := eqs52 9998 w a b
  unfold uV at h ⊢
  simp only [binOp, Op.equal, Op.maxDepth, Sem.run_bind, h, Result.andThen_ok]
  rfl
end Go.Proofs.YtofonfohaocclaaGreatDoor
