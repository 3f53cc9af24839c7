/-
  Holds of a solution.
-/
import Derived.Test.YtjbmnbdlicmpoaaDoorConcat
namespace Go.Proofs.YtjbmnbdlicmpoaaDoor
open Go.RowKit
open Go.Proofs.YtjbmnbdlicmpoaaDoorW.PrintWords

/-- Errors and times are a solution. -/
structure IsSol (evs : List Ev) (ties : List Ti) (E T : List Int) : Prop where
  len1 : E.length = (clocksOf evs).length
  len2 : T.length = evs.length
  rng : ∀ x ∈ E ++ T, -4294967295 ≤ x ∧ x ≤ 4294967295
  ev : ∀ (i : Nat) (e : Ev), evs[i]? = some e → ∃ t k, T[i]? = some t ∧ E[idxB (clocksOf evs) e.clock]? = some k ∧ e.shown - e.wide ≤ t - k ∧ t - k ≤ e.shown + e.wide
  ti : ∀ x : Ti, x ∈ ties → ∃ tb, T[x.b.toNat]? = some tb ∧ (x.a < 0 → x.low ≤ tb ∧ tb ≤ x.high) ∧ (0 ≤ x.a → ∃ ta, T[x.a.toNat]? = some ta ∧ x.low ≤ tb - ta ∧ tb - ta ≤ x.high)

theorem mem_rng {E T : List Int} {x : Int} (h : ∀ x ∈ E ++ T, -4294967295 ≤ x ∧ x ≤ 4294967295) (hx : x ∈ E ∨ x ∈ T) : -4294967295 ≤ x ∧ x ≤ 4294967295 := h x (List.mem_append.2 hx)

set_option maxRecDepth 100000 in
set_option maxHeartbeats 4000000 in
theorem holds_ok (A : Option Addr) (c : Nat) (evs : List Ev) (At : Option Addr) (ct : Nat) (ties : List Ti) (Ae Am : Option Addr) (ce cm : Nat) (E T : List Int) (w : World) (h : kEv.C w A evs.length evs) (hc : evs.length ≤ c) (ht : kTi.C w At ties.length ties) (hG : Good evs ties)
    (hE : (Kd.int .i64).C w Ae E.length E) (hT : (Kd.int .i64).C w Am T.length T) (hS : IsSol evs ties E T) :
    Calls Tryd.prog 10 #[.slice A evs.length c, .slice At ties.length ct, .slice Ae E.length ce, .slice Am T.length cm] w fun e w' => e = .returned (.tuple #[.bool true, .int .i64 0]) ∧ Below w.heap.size w w' := by
  have hck := hG.nck
  have hnev := hG.nev
  have hnti := hG.nti
  have l1 := hS.len1
  have l2 := hS.len2
  have hl1 : E.length ≤ 100000 := by omega
  have hl2 : T.length ≤ 100000 := by omega
  have q1 : ((E.length : Int) != ((clocksOf evs).length : Int)) = false := by rw [l1]; simp
  have q2 : ((T.length : Int) != (evs.length : Int)) = false := by rw [l2]; simp
  have q3 : (E.length != (clocksOf evs).length) = false := by rw [l1]; simp
  have q4 : (T.length != evs.length) = false := by rw [l2]; simp
  have L1 := Lib.hid l1
  have L2 := Lib.hid l2
  clear l1 l2
  go_enter Tryd.func10, Tryd.ntmps10
  go_wp2_with fail
  refine (check_ok A c evs At ct ties w h hc ht hG).mono ?_
  rintro e w1 ⟨rfl, hB1⟩
  go_wp2_with fail
  refine (clocks_any A c evs w1 (Kd.C_below h hB1) hc (by omega)).mono ?_
  rintro e w2 ⟨v, rfl, hR, hB2⟩
  obtain ⟨Ac, cc, rfl, hcc, hC⟩ := Kd.R_reads hR
  clear hR
  have hB12 : Below w.heap.size w w2 := below_then hB1 hB1.size hB2
  go_wp2_with fail
  obtain ⟨W, hW⟩ : ∃ W, W = w2.alloc (Obj.cells #[Value.slice Ae E.length ce, Value.slice Am T.length cm] 22) := ⟨_, rfl⟩
  have hbW : W.heap[w2.heap.size]? = some (.cells #[Value.slice Ae E.length ce, Value.slice Am T.length cm] 22 (0, 0)) := by rw [hW]; exact blk_new w2 _
  have hBW : Below w2.heap.size w2 W := by rw [hW]; exact below_alloc (Below.refl _ _) _
  rw [← hW]
  clear hW
  have hB2W : Below w.heap.size w W := below_then hB12 hB12.size hBW
  refine (concat2_any w2.heap.size Ae Am ce cm 2 E T W ((blk_cell hbW 0).trans rfl) ((blk_cell hbW 1).trans rfl) (Kd.C_below hE hB2W) (Kd.C_below hT hB2W) hl1 hl2).mono ?_
  rintro e w3 ⟨v3, rfl, hR3, hB3⟩
  obtain ⟨A3, c3, rfl, hc3, hC3⟩ := Kd.R_reads hR3
  clear hR3 hbW
  have hBw3 : Below w.heap.size w w3 := below_then hB2W hB2W.size hB3
  have hC' := Kd.C_below (Kd.C_below hC hBW) hB3
  clear hBW hB3 hB2W hC
  have hlen : (E ++ T).length = E.length + T.length := List.length_append
  rw [hlen] at hC3 hc3 ⊢
  clear hlen
  go_wp2_with fail
  go_loop [47] (fun i => ∃ m : Nat, m ≤ E.length + T.length ∧ i = .int .i64 m) (fun i => E.length + T.length - (intOf i).toNat)
  case atStart => exact ⟨0, by omega, rfl⟩
  case round =>
    obtain ⟨m, hm, rfl⟩ := hrel
    by_cases hmt : m < E.length + T.length
    · have hC3' := hC3
      rw [← List.length_append] at hC3'
      obtain ⟨b, o, rfl, hb, hcell⟩ := C_cells hC3' (by rw [List.length_append]; omega)
      obtain ⟨x, hx⟩ : ∃ x, (E ++ T)[m]? = some x := ⟨_, List.getElem?_eq_getElem (by rw [List.length_append]; omega)⟩
      have c0 := hcell m x hx
      obtain ⟨r1, r2⟩ := hS.rng x (List.mem_of_getElem? hx)
      clear hcell hx hC3'
      go_wp2_with fail
      go_round
      case rel => exact ⟨m + 1, by omega, by go_num⟩
      case measure => simp [intOf]; omega
    · clear hm
      go_wp2_with fail
      go_loopw [60] (fun i wr => ∃ m : Nat, m ≤ evs.length ∧ i = .int .i64 m ∧ Fr w3 wr (fun _ => False)) (fun i _ => evs.length - (intOf i).toNat)
      case atStart => exact ⟨0, by omega, rfl, Fr.refl _ _⟩
      case round =>
        obtain ⟨m, hm, rfl, hF⟩ := hrel
        have hBr : Below w3.heap.size w3 wr := hF.toBelow (Nat.le_refl _) (fun _ hk => hk.elim)
        have hBwr : Below w.heap.size w wr := below_then hBw3 hBw3.size hBr
        by_cases hmt : m < evs.length
        · obtain ⟨x, hx⟩ : ∃ x, evs[m]? = some x := ⟨_, List.getElem?_eq_getElem hmt⟩
          obtain ⟨b, o, rfl, hb, hcell⟩ := ev_addr h (by omega)
          obtain ⟨c0, c1, c2⟩ := hcell m x hx
          replace c0 := (hBwr.cell hb).trans c0
          replace c1 := (hBwr.cell hb).trans c1
          replace c2 := (hBwr.cell hb).trans c2
          have hxm : x ∈ evs := List.mem_of_getElem? hx
          obtain ⟨v1, v2, v3, v4⟩ := hG.ev x hxm
          obtain ⟨t, k, ht1, hk1, s1, s2⟩ := hS.ev m x hx
          obtain ⟨tb, tof, rfl, htb, htc⟩ := C_cells hT (by have := L2.out; omega)
          have hki := idxB_lt (mem_clocksOf hxm)
          obtain ⟨eb, eo, rfl, heb, hec⟩ := C_cells hE (by have := L1.out; omega)
          have d0 := (hBwr.cell (p := ⟨tb, tof + m, none⟩) htb).trans (htc m t ht1)
          have d1 := (hBwr.cell (p := ⟨eb, eo + idxB (clocksOf evs) x.clock, none⟩) heb).trans (hec _ k hk1)
          have htb' : tb < wr.heap.size := Nat.lt_of_lt_of_le htb hBwr.size
          have heb' : eb < wr.heap.size := Nat.lt_of_lt_of_le heb hBwr.size
          have rt := mem_rng hS.rng (.inr (List.mem_of_getElem? ht1))
          have rk := mem_rng hS.rng (.inl (List.mem_of_getElem? hk1))
          obtain ⟨rt1, rt2⟩ := rt
          obtain ⟨rk1, rk2⟩ := rk
          have n1 : m < T.length := by have := L2.out; omega
          have n2 : idxB (clocksOf evs) x.clock < E.length := by have := L1.out; omega
          clear hx hcell htc hec ht1 hk1
          go_wp2_with fail
          refine (bsearch_any Ac cc _ x.clock _ (Kd.C_alloc (Kd.C_below hC' hBr) _) (clocksOf_sorted evs) (mem_clocksOf hxm) (by omega)).mono ?_
          rintro e w4 ⟨rfl, q, rfl⟩
          generalize hxq : idxB (clocksOf evs) x.clock = xi at *
          clear hxq
          go_wp2_with fail
          go_quiet (fail)
          all_goals go_wp2_with fail
          all_goals go_roundw
          case rel => exact ⟨m + 1, by omega, by go_num, by repeat (first | exact hF | apply Fr.drewN | apply Fr.alloc | apply Fr.drew)⟩
          case measure => simp [intOf]; omega
        · clear hm
          go_wp2_with fail
          go_loopw [100] (fun i wr => ∃ m : Nat, m ≤ ties.length ∧ i = .int .i64 m ∧ Fr w3 wr (fun _ => False)) (fun i _ => ties.length - (intOf i).toNat)
          case atStart => exact ⟨0, by omega, rfl, hF⟩
          case round =>
            obtain ⟨m, hm, rfl, hF⟩ := hrel
            have hBr : Below w3.heap.size w3 wr := hF.toBelow (Nat.le_refl _) (fun _ hk => hk.elim)
            have hBwr : Below w.heap.size w wr := below_then hBw3 hBw3.size hBr
            by_cases hmt : m < ties.length
            · obtain ⟨x, hx⟩ : ∃ x, ties[m]? = some x := ⟨_, List.getElem?_eq_getElem hmt⟩
              obtain ⟨b, o, rfl, hb, hcell⟩ := ti_addr ht (by omega)
              obtain ⟨c0, c1, c2, c3⟩ := hcell m x hx
              replace c0 := (hBwr.cell hb).trans c0
              replace c1 := (hBwr.cell hb).trans c1
              replace c2 := (hBwr.cell hb).trans c2
              replace c3 := (hBwr.cell hb).trans c3
              have hxm : x ∈ ties := List.mem_of_getElem? hx
              obtain ⟨v1, v2, v3, v4, v5, v6, v7, v8⟩ := hG.ti x hxm
              obtain ⟨tb, ht1, s1, s2⟩ := hS.ti x hxm
              obtain ⟨tk, tof, rfl, htb, htc⟩ := C_cells hT (by have := L2.out; omega)
              have d0 := (hBwr.cell (p := ⟨tk, tof + x.b.toNat, none⟩) htb).trans (htc _ tb ht1)
              have htb' : tk < wr.heap.size := Nat.lt_of_lt_of_le htb hBwr.size
              have rt := mem_rng hS.rng (.inr (List.mem_of_getElem? ht1))
              obtain ⟨rt1, rt2⟩ := rt
              have n1 : x.b < (T.length : Int) := by have := L2.out; omega
              clear v5
              by_cases ha : x.a < 0
              · obtain ⟨s3, s4⟩ := s1 ha
                have ha' : decide (0 ≤ x.a) = false := decide_eq_false (by omega)
                clear hx hcell htc ht1 s1 s2
                go_wp2_with fail
                go_roundw
                case rel => exact ⟨m + 1, by omega, by go_num, by repeat (first | exact hF | apply Fr.drewN | apply Fr.alloc | apply Fr.drew)⟩
                case measure => simp [intOf]; omega
              · obtain ⟨ta, ht2, s3, s4⟩ := s2 (by omega)
                have d1 := (hBwr.cell (p := ⟨tk, tof + x.a.toNat, none⟩) htb).trans (htc _ ta ht2)
                have rt := mem_rng hS.rng (.inr (List.mem_of_getElem? ht2))
                obtain ⟨rt3, rt4⟩ := rt
                have ha' : decide (0 ≤ x.a) = true := decide_eq_true (by omega)
                have n2 : x.a < (T.length : Int) := by have := L2.out; omega
                have n3 : 0 ≤ x.a := by omega
                clear hx hcell htc ht1 ht2 s1 s2
                go_wp2_with fail
                go_roundw
                case rel => exact ⟨m + 1, by omega, by go_num, by repeat (first | exact hF | apply Fr.drewN | apply Fr.alloc | apply Fr.drew)⟩
                case measure => simp [intOf]; omega
            · go_wp2_with fail
              go_ret2
              exact ⟨rfl, hBwr⟩
end Go.Proofs.YtjbmnbdlicmpoaaDoor
