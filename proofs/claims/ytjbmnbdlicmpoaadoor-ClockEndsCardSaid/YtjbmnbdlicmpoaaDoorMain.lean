/-
  ClockEnds answers true.
-/
import Derived.Test.YtjbmnbdlicmpoaaDoorTimed
import Derived.Test.YtjbmnbdlicmpoaaDoorOne
import Derived.Test.YtjbmnbdlicmpoaaDoorHolds
namespace Go.Proofs.YtjbmnbdlicmpoaaDoor
open Go.RowKit
open Go.Proofs.YtjbmnbdlicmpoaaDoorW.PrintWords

theorem equal_any (A1 A2 : Option Addr) (c1 c2 : Nat) (l : List Int) (w : World) (h1 : (Kd.int .i64).C w A1 l.length l) (h2 : (Kd.int .i64).C w A2 l.length l) (hn : l.length ≤ 1000000) :
    Calls Tryd.prog 12 #[.slice A1 l.length c1, .slice A2 l.length c2] w fun e w' => e = .returned (.bool true) ∧ Below w.heap.size w w' := by
  by_cases h0 : 0 < l.length
  · obtain ⟨b1, o1, rfl, hb1, hc1⟩ := C_cells h1 h0
    obtain ⟨b2, o2, rfl, hb2, hc2⟩ := C_cells h2 h0
    refine (Tryd.slices_Equal_int b1 o1 l.length c1 b2 o2 l.length c2 l l w (Nat.le_refl _) (Nat.le_refl _) (by omega) (by omega) (fun j hj => ?_) (fun j hj => ?_)).mono ?_
    · rw [hc1 j _ (List.getElem?_eq_getElem hj)]; simp [List.getD_eq_getElem?_getD, hj]
    · rw [hc2 j _ (List.getElem?_eq_getElem hj)]; simp [List.getD_eq_getElem?_getD, hj]
    · rintro e w' ⟨rfl, q, rfl⟩
      exact ⟨by simp, pw_below_drewN (Below.refl _ _) q⟩
  · have e0 : l.length = 0 := by omega
    rw [e0]
    refine (Tryd.slices_Equal_int_empty A1 A2 c1 0 c2 w (by omega)).mono ?_
    rintro e w' ⟨rfl, rfl⟩
    exact ⟨rfl, Below.refl _ _⟩

theorem bthen {w a b : World} (h1 : Below w.heap.size w a) (h2 : Below a.heap.size a b) : Below w.heap.size w b := below_then h1 h1.size h2
theorem odd_of {l : List Int} (h : nextV l 2 ≠ 0) : ∃ x r, l = x :: r ∧ x % 2 = 1 := by
  cases l with
  | nil => exact absurd rfl h
  | cons x r =>
    refine ⟨x, r, rfl, ?_⟩
    have : x % 2 ≠ 0 := by simpa [nextV] using h
    omega

set_option maxRecDepth 100000 in
set_option maxHeartbeats 1000000 in
theorem ends_any (A : Option Addr) (c : Nat) (l : List Int) (w : World) (h : (Kd.int .i64).C w A l.length l) (hc : l.length ≤ c) :
    Calls Tryd.prog 3 #[.slice A l.length c] w fun e w' => e = .returned (.bool true) ∧ Below w.heap.size w w' := by
  go_enter Tryd.func3, Tryd.ntmps3
  go_wp2_with fail
  refine (make_any A c l w h hc).mono ?_
  rintro e w1 ⟨v1, v2, es, evs, ts, ties, rfl, hR1, hR2, hM, hB1⟩
  obtain ⟨A1, c1, rfl, hc1, hC1⟩ := Kd.R_reads hR1
  obtain ⟨A2, c2, rfl, hc2, hC2⟩ := Kd.R_reads hR2
  have hG := made_good hM
  have hck := hG.nck
  have hnev := hG.nev
  obtain ⟨n, hn⟩ : ∃ n, n = 1 + (clocksOf evs).length + evs.length := ⟨_, rfl⟩
  have hsafe := safe_of hG n hn
  have hsm : ∀ M', kl n n (netOf evs ties) = some M' → SmallNet n M' := fun M' hM' => (closed_sols hG n hn hM').1
  have SV := fun W (hB : Below w1.heap.size w1 W) => solve_any A1 c1 evs A2 c2 ties W (Kd.C_below hC1 hB) hc1 (Kd.C_below hC2 hB) hG hc2 n hn hsafe hsm
  have ER := fun W (hB : Below w1.heap.size w1 W) => errors_any A1 c1 evs A2 c2 ties W (Kd.C_below hC1 hB) hc1 (Kd.C_below hC2 hB) hG hc2 n hn hsafe hsm
  clear hR1 hR2
  cases hk : kl n n (netOf evs ties) with
  | none =>
    have hodd : nextV l 2 ≠ 0 := fun h0 => by
      obtain ⟨D, hD, _⟩ := solvable hG n hn (made_sol hM h0)
      rw [hk] at hD
      cases hD
    obtain ⟨x, r, rfl, hx⟩ := odd_of hodd
    rw [hk] at SV ER
    simp only [Option.map_none] at SV ER
    have HSV := Lib.hid SV
    have HER := Lib.hid ER
    obtain ⟨ab, ao, rfl, hab, hcell⟩ := C_cells h (by simp)
    have hx0 : w.cell? ⟨ab, ao, none⟩ = some (.int .i64 x) := by simpa using hcell 0 x rfl
    clear SV ER hk hn hsafe hsm hM hG hcell hC1 hC2 hck hnev hodd
    go_wp2_with fail
    refine (HSV.out w1 (Below.refl _ _)).mono ?_
    rintro e w2 ⟨rfl, hB2⟩
    go_wp2_with fail
    refine (HER.out w2 hB2).mono ?_
    rintro e w3 ⟨rfl, hB3⟩
    go_wp2_with fail
    refine (timed_any w3).mono ?_
    rintro e w4 ⟨rfl, hB4⟩
    go_wp2_with fail
    refine (timed_any w4).mono ?_
    rintro e w5 ⟨rfl, hB5⟩
    have hB15 : Below w.heap.size w w5 := bthen (bthen (bthen (bthen hB1 hB2) hB3) hB4) hB5
    have hx5 : w5.cell? ⟨ab, ao, none⟩ = some (.int .i64 x) := (hB15.cell (p := ⟨ab, ao, none⟩) hab).trans hx0
    clear hx0 h HSV HER
    go_wp2_with fail
    refine (below_any x 2 w5 (by omega) (by omega)).mono ?_
    rintro e w6 ⟨rfl, rfl⟩
    rw [hx]
    go_wp2_with fail
    go_ret
    exact ⟨rfl, hB15⟩
  | some D =>
    obtain ⟨hsD, hS1, hS2⟩ := closed_sols hG n hn hk
    have hOne := fun W (hB : Below w1.heap.size w1 W) => one_any A1 c1 evs A2 c2 ties W (Kd.C_below hC1 hB) hc1 (Kd.C_below hC2 hB) hG hc2 n hn hsafe D hk hsD
    have hHold := fun (E T : List Int) (hS : IsSol evs ties E T) W (hB : Below w1.heap.size w1 W) Ae Am ce cm (hE : (Kd.int .i64).C W Ae E.length E) (hT : (Kd.int .i64).C W Am T.length T) => holds_ok A1 c1 evs A2 c2 ties Ae Am ce cm E T W (Kd.C_below hC1 hB) hc1 (Kd.C_below hC2 hB) hG hE hT hS
    rw [hk] at SV ER
    simp only [Option.map_some] at SV ER
    have ll1 : (ivs D 1 (clocksOf evs).length).length ≤ 1000 := by rw [ivs_length]; omega
    have ll2 : (ivs D (1 + (clocksOf evs).length) evs.length).length ≤ 1000 := by rw [ivs_length]; omega
    generalize ivs D 1 (clocksOf evs).length = le at *
    generalize ivs D (1 + (clocksOf evs).length) evs.length = lt at *
    obtain ⟨E1, hE1⟩ : ∃ E, le.map (·.1) = E := ⟨_, rfl⟩
    obtain ⟨E2, hE2⟩ : ∃ E, le.map (·.2) = E := ⟨_, rfl⟩
    obtain ⟨T1, hT1⟩ : ∃ E, lt.map (·.1) = E := ⟨_, rfl⟩
    obtain ⟨T2, hT2⟩ : ∃ E, lt.map (·.2) = E := ⟨_, rfl⟩
    rw [hE1, hT1] at hOne hS1
    rw [hE2, hT2] at hS2
    have lE1 : E1.length ≤ 1000 := by rw [← hE1, List.length_map]; exact ll1
    have lT1 : T1.length ≤ 1000 := by rw [← hT1, List.length_map]; exact ll2
    have HE1 := Lib.hid hE1
    have HE2 := Lib.hid hE2
    have HT1 := Lib.hid hT1
    have HT2 := Lib.hid hT2
    clear hE1 hE2 hT1 hT2
    have HSV := Lib.hid SV
    have HER := Lib.hid ER
    have HON := Lib.hid hOne
    have HHO := Lib.hid hHold
    have HS1 := Lib.hid hS1
    have HS2 := Lib.hid hS2
    clear SV ER hk hn hsafe hsm hM hG hC1 hC2 hck hnev hOne hHold hS1 hS2 hsD h
    go_wp2_with fail
    refine (HSV.out w1 (Below.refl _ _)).mono ?_
    rintro e w2 ⟨v3, rfl, hR3, hB2⟩
    obtain ⟨A3, c3, rfl, hc3, hC3⟩ := Kd.R_reads hR3
    clear hR3
    go_wp2_with fail
    refine (HER.out w2 hB2).mono ?_
    rintro e w3 ⟨v4, rfl, hR4, hB3⟩
    obtain ⟨A4, c4, rfl, hc4, hC4⟩ := Kd.R_reads hR4
    clear hR4
    go_wp2_with fail
    refine (timed_any w3).mono ?_
    rintro e w4 ⟨rfl, hB4⟩
    have b14 : Below w1.heap.size w1 w4 := bthen (bthen hB2 hB3) hB4
    have hC3' := Kd.C_below hC3 (bthen hB3 hB4)
    have hC4' := Kd.C_below hC4 hB4
    clear hC3 hC4
    go_wp2_with fail
    refine (HON.out w4 b14).mono ?_
    rintro e w5 ⟨v5, v6, rfl, hR5, hR6, hB5⟩
    obtain ⟨A5, c5, rfl, hc5, hC5⟩ := Kd.R_reads hR5
    obtain ⟨A6, c6, rfl, hc6, hC6⟩ := Kd.R_reads hR6
    have b15 := bthen b14 hB5
    clear hR5 hR6
    go_wp2_with fail
    refine (HHO.out _ _ HS1.out w5 b15 A5 A6 c5 c6 hC5 hC6).mono ?_
    rintro e w6 ⟨rfl, hB6⟩
    have b16 := bthen b15 hB6
    have hC36 := Kd.C_below hC3' (bthen hB5 hB6)
    have hC46 := Kd.C_below hC4' (bthen hB5 hB6)
    have hC56 := Kd.C_below hC5 hB6
    have hC66 := Kd.C_below hC6 hB6
    clear hC3' hC4' hC5 hC6
    go_wp2_with fail
    refine (ends1_any A4 c4 le w6 hC46 hc4 (by omega)).mono ?_
    rintro e w7 ⟨v7, rfl, hR7, hB7⟩
    rw [HE2.out] at hR7
    obtain ⟨A7, c7, rfl, hc7, hC7⟩ := Kd.R_reads hR7
    clear hR7
    go_wp2_with fail
    refine (ends1_any A3 c3 lt w7 (Kd.C_below hC36 hB7) hc3 (by omega)).mono ?_
    rintro e w8 ⟨v8, rfl, hR8, hB8⟩
    rw [HT2.out] at hR8
    obtain ⟨A8, c8, rfl, hc8, hC8⟩ := Kd.R_reads hR8
    have hC78 := Kd.C_below hC7 hB8
    clear hR8 hC7
    go_wp2_with fail
    refine (HHO.out _ _ HS2.out w8 (bthen (bthen b16 hB7) hB8) A7 A8 c7 c8 hC78 hC8).mono ?_
    rintro e w9 ⟨rfl, hB9⟩
    have b69 := bthen (bthen hB7 hB8) hB9
    have b19 := bthen b16 b69
    have hC39 := Kd.C_below hC36 b69
    have hC49 := Kd.C_below hC46 b69
    have hC59 := Kd.C_below hC56 b69
    have hC69 := Kd.C_below hC66 b69
    clear hC36 hC46 hC56 hC66 hC78 hC8
    go_wp2_with fail
    refine (ends0_any A4 c4 le w9 hC49 hc4 (by omega)).mono ?_
    rintro e w10 ⟨v10, rfl, hR10, hB10⟩
    rw [HE1.out] at hR10
    obtain ⟨A10, c10, rfl, hc10, hC10⟩ := Kd.R_reads hR10
    clear hR10
    go_wp2_with fail
    refine (equal_any A5 A10 c5 c10 E1 w10 (Kd.C_below hC59 hB10) hC10 (by omega)).mono ?_
    rintro e w11 ⟨rfl, hB11⟩
    have b911 := bthen hB10 hB11
    go_wp2_with fail
    refine (ends0_any A3 c3 lt w11 (Kd.C_below hC39 b911) hc3 (by omega)).mono ?_
    rintro e w12 ⟨v12, rfl, hR12, hB12⟩
    rw [HT1.out] at hR12
    obtain ⟨A12, c12, rfl, hc12, hC12⟩ := Kd.R_reads hR12
    clear hR12
    go_wp2_with fail
    refine (equal_any A6 A12 c6 c12 T1 w12 (Kd.C_below hC69 (bthen b911 hB12)) hC12 (by omega)).mono ?_
    rintro e w13 ⟨rfl, hB13⟩
    have hfin := bthen (bthen hB1 b19) (bthen (bthen b911 hB12) hB13)
    go_wp2_with fail
    go_ret
    exact ⟨rfl, hfin⟩
end Go.Proofs.YtjbmnbdlicmpoaaDoor
