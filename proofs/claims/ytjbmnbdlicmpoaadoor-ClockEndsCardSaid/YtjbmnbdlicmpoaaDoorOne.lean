/-
  One: the least errors and times.
-/
import Derived.Test.YtjbmnbdlicmpoaaDoorEnds
namespace Go.Proofs.YtjbmnbdlicmpoaaDoor
open Go.RowKit
open Go.Proofs.YtjbmnbdlicmpoaaDoorW.PrintWords

set_option maxRecDepth 100000 in
set_option maxHeartbeats 4000000 in
theorem one_any (A : Option Addr) (c : Nat) (evs : List Ev) (At : Option Addr) (ct : Nat) (ties : List Ti) (w : World) (h : kEv.C w A evs.length evs) (hc : evs.length ≤ c) (ht : kTi.C w At ties.length ties) (hG : Good evs ties) (hct : ties.length ≤ ct) (n : Nat) (hcn : n = 1 + (clocksOf evs).length + evs.length) (hS : SafeNet n (netOf evs ties))
    (D : Nat → Nat → Int) (hk : kl n n (netOf evs ties) = some D) (hDs : SmallNet n D) :
    Calls Tryd.prog 9 #[.slice A evs.length c, .slice At ties.length ct] w (OneEnd (some ((ivs D 1 (clocksOf evs).length).map (·.1), (ivs D (1 + (clocksOf evs).length) evs.length).map (·.1))) w) := by
  have hck := hG.nck
  have hnev := hG.nev
  have hD : ∀ M', kl n n (netOf evs ties) = some M' → SmallNet n M' := fun M' hM' => by rw [hk] at hM'; cases hM'; exact hDs
  have hE := fun W (hB : Below w.heap.size w W) => errors_any A c evs At ct ties W (Kd.C_below h hB) hc (Kd.C_below ht hB) hG hct n hcn hS hD
  have hV := fun W (hB : Below w.heap.size w W) => solve_any A c evs At ct ties W (Kd.C_below h hB) hc (Kd.C_below ht hB) hG hct n hcn hS hD
  simp only [hk, Option.map_some] at hE hV
  have hle : (ivs D 1 (clocksOf evs).length).length ≤ 12 := by rw [ivs_length]; exact hck
  have hlv : (ivs D (1 + (clocksOf evs).length) evs.length).length ≤ 40 := by rw [ivs_length]; exact hnev
  generalize ivs D 1 (clocksOf evs).length = le at *
  generalize ivs D (1 + (clocksOf evs).length) evs.length = lv at *
  clear hk hcn
  have HE := Lib.hid hE
  have HV := Lib.hid hV
  clear hE hV
  go_enter Tryd.func9, Tryd.ntmps9
  go_wp2_with fail
  refine (HE.out w (Below.refl _ _)).mono ?_
  rintro e w1 ⟨v1, rfl, hR1, hB1⟩
  obtain ⟨A1, c1, rfl, hc1, hC1⟩ := Kd.R_reads hR1
  clear hR1
  go_wp2_with fail
  refine (HV.out w1 hB1).mono ?_
  rintro e w2 ⟨v2, rfl, hR2, hB2⟩
  obtain ⟨A2, c2, rfl, hc2, hC2⟩ := Kd.R_reads hR2
  clear hR2
  have hB12 : Below w.heap.size w w2 := below_then hB1 hB1.size hB2
  have hC1' := Kd.C_below hC1 hB2
  clear hC1
  go_wp2_with fail
  go_loopw [10, 36] (fun v i wr => ∃ k : Nat, k ≤ le.length ∧ i = .int .i64 k ∧ (Kd.int .i64).R 3 wr w2.heap.size (fun k => w2.heap.size ≤ k) v ((le.take k).map (·.1)) ∧ Below w2.heap.size w2 wr) (fun _ i _ => le.length - (intOf i).toNat)
  case atStart => exact ⟨0, by omega, rfl, Kd.R_nil _ _ _ _ _, Below.refl _ _⟩
  case round =>
    obtain ⟨k, hk, rfl, hR, hB⟩ := hrel
    by_cases hlt : k < le.length
    · obtain ⟨b, o, rfl, hb, hcell⟩ := iv_addr hC1' (by omega)
      obtain ⟨x, hx⟩ : ∃ x, le[k]? = some x := ⟨_, List.getElem?_eq_getElem hlt⟩
      obtain ⟨c0, c1⟩ := hcell k x hx
      have Hx := Lib.hid hx
      clear hx hcell
      replace c0 := (hB.cell hb).trans c0
      replace c1 := (hB.cell hb).trans c1
      have hB1 := hB.alloc hB.size (.cells #[.int .i64 x.1, .int .i64 x.2] 58)
      have hR1 := Kd.R_alloc hR (.cells #[.int .i64 x.1, .int .i64 x.2] 58)
      have hsz := hB1.size
      have HZ := Lib.hid (World.size_alloc wr (.cells #[.int .i64 x.1, .int .i64 x.2] 58))
      have hl : ((List.map (fun e => e.1) (List.take k le)).length + 1) * 8 ≤ 140737488355328 := by simp; omega
      go_wp2_with (at_builtin; refine app_one (Kd.int .i64) (w0 := w2) w2.heap.size HZ.out rfl (.tmp 40) (.tmp 43) 22 3 (.int .i64 0) 8 rfl Tryd.underlying22 info_int rfl (by decide) (by decide) _ _ x.1 [.int .i64 x.1] (fun k => w2.heap.size ≤ k) (fun _ => False) rfl rfl rfl (fun _ h => h.elim) (fun k hk => Nat.le_trans hsz hk) hR1 hB1 hsz hl ?_; intro v1 w1 HO1 HB1 hg hat)
      go_roundw
      case rel => exact ⟨k + 1, by omega, by go_num, by rw [take_snoc_map _ Hx.out]; exact HO1, HB1⟩
      case measure => simp [intOf]; omega
    · obtain rfl : le.length = k := by omega
      rw [List.take_length] at hR
      obtain ⟨w4, rfl⟩ : ∃ w4 : World, w4 = wr := ⟨_, rfl⟩
      have hRa := Kd.R_mono (Kd.R_bound hR) (ok' := fun k => w2.heap.size ≤ k ∧ k < w4.heap.size) (fun k hk => ⟨hk.1, hk.2.2.1⟩)
      have hC2' := Kd.C_below hC2 hB
      clear hR
      go_wp2_with fail
      go_loopw [11, 48] (fun v i wr => ∃ k : Nat, k ≤ lv.length ∧ i = .int .i64 k ∧ (Kd.int .i64).R 3 wr w4.heap.size (fun k => w4.heap.size ≤ k) v ((lv.take k).map (·.1)) ∧ Below w4.heap.size w4 wr) (fun _ i _ => lv.length - (intOf i).toNat)
      case atStart => exact ⟨0, by omega, rfl, Kd.R_nil _ _ _ _ _, Below.refl _ _⟩
      case round =>
        obtain ⟨k, hk, rfl, hR, hBx⟩ := hrel
        by_cases hlt : k < lv.length
        · obtain ⟨b, o, rfl, hb, hcell⟩ := iv_addr hC2' (by omega)
          obtain ⟨x, hx⟩ : ∃ x, lv[k]? = some x := ⟨_, List.getElem?_eq_getElem hlt⟩
          obtain ⟨c0, c1⟩ := hcell k x hx
          have Hx := Lib.hid hx
          clear hx hcell
          replace c0 := (hBx.cell hb).trans c0
          replace c1 := (hBx.cell hb).trans c1
          have hB1 := hBx.alloc hBx.size (.cells #[.int .i64 x.1, .int .i64 x.2] 58)
          have hR1 := Kd.R_alloc hR (.cells #[.int .i64 x.1, .int .i64 x.2] 58)
          have hsz := hB1.size
          have HZ := Lib.hid (World.size_alloc wr (.cells #[.int .i64 x.1, .int .i64 x.2] 58))
          have hl : ((List.map (fun e => e.1) (List.take k lv)).length + 1) * 8 ≤ 140737488355328 := by simp; omega
          go_wp2_with (at_builtin; refine app_one (Kd.int .i64) (w0 := w4) w4.heap.size HZ.out rfl (.tmp 52) (.tmp 55) 22 3 (.int .i64 0) 8 rfl Tryd.underlying22 info_int rfl (by decide) (by decide) _ _ x.1 [.int .i64 x.1] (fun k => w4.heap.size ≤ k) (fun _ => False) rfl rfl rfl (fun _ h => h.elim) (fun k hk => Nat.le_trans hsz hk) hR1 hB1 hsz hl ?_; intro v1 w1 HO1 HB1 hg hat)
          go_roundw
          case rel => exact ⟨k + 1, by omega, by go_num, by rw [take_snoc_map _ Hx.out]; exact HO1, HB1⟩
          case measure => simp [intOf]; omega
        · obtain rfl : lv.length = k := by omega
          rw [List.take_length] at hR
          go_wp2_with fail
          go_ret3
          have hz := hB12.size
          have hz2 := hB.size
          have hRa' := Kd.R_below hRa hBx
          exact ⟨_, _, rfl, Kd.R_mono (Kd.R_lower hRa' hz) (fun k hk => Nat.le_trans hz hk.1), Kd.R_mono (Kd.R_lower hR (Nat.le_trans hz hz2)) (fun k hk => Nat.le_trans (Nat.le_trans hz hz2) hk), below_then (below_then hB12 hz hB) (Nat.le_trans hz hz2) hBx⟩
end Go.Proofs.YtjbmnbdlicmpoaaDoor
