/-
  solved, intervals, Solve, Errors of right events and ties.
-/
import Derived.Test.YtjbmnbdlicmpoaaDoorBuild
import Derived.Test.YtjbmnbdlicmpoaaDoorChk
import Derived.Deep.RegionLaw
import Derived.IntWalk
namespace Go.Proofs.YtjbmnbdlicmpoaaDoor
open Go.RowKit
open Go.Proofs.YtjbmnbdlicmpoaaDoorW.PrintWords

def SolvedEnd (evs : List Ev) (ties : List Ti) (n : Nat) (w : World) (e : Ending) (w' : World) : Prop :=
  ∃ g rows, e = .returned (.tuple #[.slice (some ⟨g, 0, none⟩) n n, .bool (kl n n (netOf evs ties)).isSome]) ∧ (∀ M', kl n n (netOf evs ties) = some M' → Net w' g rows n M') ∧ Below w.heap.size w w'

set_option maxRecDepth 100000 in
set_option maxHeartbeats 1000000 in
theorem solved_any (A : Option Addr) (c : Nat) (evs : List Ev) (At : Option Addr) (ct : Nat) (ties : List Ti) (w : World) (h : kEv.C w A evs.length evs) (hc : evs.length ≤ c) (ht : kTi.C w At ties.length ties) (hG : Good evs ties) (hct : ties.length ≤ ct) (n : Nat) (hcn : n = 1 + (clocksOf evs).length + evs.length) (hS : SafeNet n (netOf evs ties)) :
    Calls Tryd.prog 16 #[.slice A evs.length c, .slice At ties.length ct] w (SolvedEnd evs ties n w) := by
  have HB := build_any A c evs At ct ties w h hc ht hct hG.nev hG.nti hG.nck hG.ev hG.ti n hcn
  have hn : n ≤ 1000000 := by have := hG.nev; have := hG.nck; omega
  clear hcn
  go_enter Tryd.func16, Tryd.ntmps16
  go_wp2_with fail
  refine HB.mono ?_
  rintro e w1 ⟨g, rows, rfl, hN, hg, hr, hB⟩
  go_wp2_with fail
  refine (close_any g n n rows _ w1 hN hn hS).mono ?_
  rintro e w2 ⟨rfl, h2, k2⟩
  have hB2 : Below w.heap.size w w2 := hB.trans (k2.toBelow hB.size (fun k hk => by obtain ⟨i, hi, rfl⟩ := hk; exact hr i hi))
  go_wp2_with fail
  go_ret2
  exact ⟨g, rows, rfl, h2, hB2⟩

def kIv : Kd (Int × Int) := Kd.pair (Kd.int .i64) (Kd.int .i64)
theorem kIv_open {w : World} {x : Int × Int} {cs : List Value} (h : kIv.K w x cs) : cs = [.int .i64 x.1, .int .i64 x.2] := by
  obtain ⟨_, _, rfl, rfl, rfl⟩ := h
  rfl
theorem kIv_mk (w : World) (base : Nat) (ok : Nat → Prop) (x : Int × Int) : kIv.M w base ok x [.int .i64 x.1, .int .i64 x.2] := ⟨[.int .i64 x.1], [.int .i64 x.2], rfl, rfl, rfl⟩
theorem iv_addr {w : World} {A : Option Addr} {n : Nat} {xs : List (Int × Int)} (h : kIv.C w A n xs) (hn : 0 < n) :
    ∃ b o, A = some ⟨b, o, none⟩ ∧ b < w.heap.size ∧ ∀ j x, xs[j]? = some x → w.cell? ⟨b, o + j * 2, none⟩ = some (.int .i64 x.1) ∧ w.cell? ⟨b, o + j * 2 + 1, none⟩ = some (.int .i64 x.2) := by
  obtain ⟨b, o, rfl, hb, hc⟩ := C_addr h hn (by decide)
  refine ⟨b, o, rfl, hb, fun j x hx => ?_⟩
  obtain ⟨c, _, hK, hcell⟩ := hc j x hx
  obtain rfl := kIv_open hK
  exact ⟨hcell 0 _ rfl, hcell 1 _ rfl⟩
theorem info_iv : (Tryd.prog.info? 58).map (fun i => (i.zero, i.size, i.bytes)) = some (some (.agg #[.int .i64 0, .int .i64 0]), 2, 16) := by kernel_rfl

/-- The intervals of m variables from one on. -/
def ivs (D : Nat → Nat → Int) (f : Nat) : Nat → List (Int × Int)
  | 0 => []
  | i + 1 => ivs D f i ++ [(-D (f + i) 0, D 0 (f + i))]
theorem ivs_length (D : Nat → Nat → Int) (f m : Nat) : (ivs D f m).length = m := by
  induction m with
  | zero => rfl
  | succ m ih => simp [ivs, ih]

set_option maxRecDepth 100000 in
set_option maxHeartbeats 1000000 in
theorem intervals_any (g n c f m : Nat) (rows : Nat → Nat) (D : Nat → Nat → Int) (w : World) (h : Net w g rows n D) (hn : n ≤ 1000000) (hf : f + m ≤ n) (hf0 : 0 < f) (hD : ∀ a b, a < n → b < n → -1000000000000000 ≤ D a b ∧ D a b ≤ 1000000000000000) :
    Calls Tryd.prog 17 #[.slice (some ⟨g, 0, none⟩) n c, .int .i64 f, .int .i64 m] w (RetsRow kIv 58 (ivs D f m) w) := by
  go_enter Tryd.func17, Tryd.ntmps17
  go_wp2_with fail
  go_loopw [7, 10] (fun v i wr => ∃ k : Nat, k ≤ m ∧ i = .int .i64 k ∧ kIv.R 58 wr w.heap.size (fun k => w.heap.size ≤ k) v (ivs D f k) ∧ Below w.heap.size w wr) (fun _ i _ => m - (intOf i).toNat)
  case atStart => exact ⟨0, by omega, rfl, Kd.R_nil _ _ _ _ _, Below.refl _ _⟩
  case round =>
    obtain ⟨k, hk, rfl, hR, hB⟩ := hrel
    have hsz := hB.size
    by_cases hlt : k < m
    · have hN : Net wr g rows n D := h.kept (Kept.of_below hB (fun _ => False)) (fun h => h) (fun _ _ h => h)
      have c1 := hN.outer_cell (i := f + k) (by omega)
      have c2 := hN.cell (i := f + k) (j := 0) (by omega) (by omega)
      have c3 := hN.outer_cell (i := 0) (by omega)
      have c4 := hN.cell (i := 0) (j := f + k) (by omega) (by omega)
      obtain ⟨b1, b2⟩ := hD (f + k) 0 (by omega) (by omega)
      have e1 : ((f : Int) + (k : Int)).toNat = f + k := by omega
      have e2 : (f : Int) + (k : Int) < (n : Int) := by omega
      have HZ := Lib.hid (show wr.drew.heap.size = wr.heap.size from rfl)
      have HR := Lib.hid (Kd.R_drew hR)
      have hg1 : g < wr.heap.size := World.block_lt_of_cell? _ _ c3
      have hg2 : rows (f + k) < wr.heap.size := World.block_lt_of_cell? _ _ c2
      have hg3 : rows 0 < wr.heap.size := World.block_lt_of_cell? _ _ c4
      have hl : ((ivs D f k).length + 1) * 16 ≤ 140737488355328 := by rw [ivs_length]; omega
      have e3 : 0 ≤ (f : Int) + (k : Int) := by omega
      have e4 : 0 < n := by omega
      go_wp2_with fail
      have q1 : IntKind.i64.wrap ((f : Int) + (k : Int)) = (f : Int) + (k : Int) := IntWalk.i64_in _ (by omega)
      have q2 : IntKind.i64.wrap (-D (f + k) 0) = -D (f + k) 0 := IntWalk.i64_in _ (by omega)
      go_region_law (refine app_one_step kIv (w0 := w) (W := wr.drew) w.heap.size HZ.out (by rfl) (.tmp 13) (.tmp 32) 27 58 (.agg #[.int .i64 0, .int .i64 0]) 16 rfl Tryd.underlying27 info_iv rfl (by decide) (by decide) _ _ (-D (f + k) 0, D 0 (f + k)) [.int .i64 (-D (f + k) 0), .int .i64 (D 0 (f + k))] (fun k => w.heap.size ≤ k) (fun _ => False) rfl rfl (kIv_mk _ _ _ _) (fun _ h => h.elim) (fun k hk => Nat.le_trans hsz hk) HR.out (below_drew hB) hsz hl ?_; intro v1 w1 HO1 HB1 hg hat)
      all_goals
        clear q1 q2
        go_wp2
        go_roundw
        case rel => exact ⟨k + 1, by omega, by go_num, HO1, HB1⟩
        case measure => simp [intOf]; omega
    · obtain rfl : m = k := by omega
      go_wp2_with fail
      go_ret
      exact ⟨_, rfl, hR, hB⟩

/-- The numbers of a closed net are small. -/
def SmallNet (n : Nat) (D : Nat → Nat → Int) : Prop := ∀ a b, a < n → b < n → -1000000000000000 ≤ D a b ∧ D a b ≤ 1000000000000000

/-- What Solve and Errors hand back: the intervals of m variables from f on, or that there is no solution. -/
def IvEnd (r : Option (List (Int × Int))) (w : World) (e : Ending) (w' : World) : Prop :=
  match r with
  | some l => ∃ v, e = .returned (.tuple #[v, .int .i64 0]) ∧ kIv.R 58 w' w.heap.size (fun k => w.heap.size ≤ k) v l ∧ Below w.heap.size w w'
  | none => e = .returned (.tuple #[.slice none 0 0, .int .i64 17]) ∧ Below w.heap.size w w'

set_option maxRecDepth 100000 in
set_option maxHeartbeats 1000000 in
theorem solve_any (A : Option Addr) (c : Nat) (evs : List Ev) (At : Option Addr) (ct : Nat) (ties : List Ti) (w : World) (h : kEv.C w A evs.length evs) (hc : evs.length ≤ c) (ht : kTi.C w At ties.length ties) (hG : Good evs ties) (hct : ties.length ≤ ct) (n : Nat) (hcn : n = 1 + (clocksOf evs).length + evs.length) (hS : SafeNet n (netOf evs ties))
    (hD : ∀ M', kl n n (netOf evs ties) = some M' → SmallNet n M') :
    Calls Tryd.prog 5 #[.slice A evs.length c, .slice At ties.length ct] w (IvEnd ((kl n n (netOf evs ties)).map fun D => ivs D (1 + (clocksOf evs).length) evs.length) w) := by
  have hn : n ≤ 1000000 := by have := hG.nev; have := hG.nck; omega
  have hck := hG.nck
  have hnev := hG.nev
  have Hcn := Lib.hid hcn
  clear hcn
  go_enter Tryd.func5, Tryd.ntmps5
  go_wp2_with fail
  refine (check_ok A c evs At ct ties w h hc ht hG).mono ?_
  rintro e w1 ⟨rfl, hB1⟩
  go_wp2_with fail
  refine (solved_any A c evs At ct ties w1 (Kd.C_below h hB1) hc (Kd.C_below ht hB1) hG hct n Hcn.out hS).mono ?_
  rintro e w2 ⟨g, rows, rfl, hN, hB2⟩
  have hB12 : Below w.heap.size w w2 := below_then hB1 hB1.size hB2
  cases hk : kl n n (netOf evs ties) with
  | none =>
    have Hk := Lib.hid hk
    clear hN hk
    simp only [Option.isSome_none]
    go_wp2_with fail
    go_ret2
    change IvEnd _ w _ _
    rw [Hk.out]
    exact ⟨rfl, hB12⟩
  | some D =>
    have hNet := hN D hk
    have hDs := hD D hk
    have Hk := Lib.hid hk
    clear hN hk
    simp only [Option.isSome_some]
    go_wp2_with fail
    refine (clocks_any A c evs w2 (Kd.C_below h hB12) hc (by omega)).mono ?_
    rintro e w3 ⟨v, rfl, hR3, hB3⟩
    obtain ⟨Ac, cc, rfl, hcc, hC3⟩ := Kd.R_reads hR3
    have hN3 : Net w3 g rows n D := hNet.kept (Kept.of_below hB3 (fun _ => False)) (fun h => h) (fun _ _ h => h)
    clear hR3 hC3
    go_wp2_with fail
    rw [show (1 + ((clocksOf evs).length : Int)) = ((1 + (clocksOf evs).length : Nat) : Int) from by omega]
    refine (intervals_any g n n (1 + (clocksOf evs).length) evs.length rows D w3 hN3 hn (by have := Hcn.out; omega) (by omega) hDs).mono ?_
    rintro e w4 ⟨v4, rfl, hR4, hB4⟩
    have hB14 : Below w.heap.size w w3 := below_then hB12 hB12.size hB3
    go_wp2_with fail
    go_ret2
    change IvEnd _ w _ _
    rw [Hk.out]
    exact ⟨_, rfl, Kd.R_mono (Kd.R_lower hR4 hB14.size) (fun k hk => Nat.le_trans hB14.size hk), below_then hB14 hB14.size hB4⟩

set_option maxRecDepth 100000 in
set_option maxHeartbeats 1000000 in
theorem errors_any (A : Option Addr) (c : Nat) (evs : List Ev) (At : Option Addr) (ct : Nat) (ties : List Ti) (w : World) (h : kEv.C w A evs.length evs) (hc : evs.length ≤ c) (ht : kTi.C w At ties.length ties) (hG : Good evs ties) (hct : ties.length ≤ ct) (n : Nat) (hcn : n = 1 + (clocksOf evs).length + evs.length) (hS : SafeNet n (netOf evs ties))
    (hD : ∀ M', kl n n (netOf evs ties) = some M' → SmallNet n M') :
    Calls Tryd.prog 6 #[.slice A evs.length c, .slice At ties.length ct] w (IvEnd ((kl n n (netOf evs ties)).map fun D => ivs D 1 (clocksOf evs).length) w) := by
  have hn : n ≤ 1000000 := by have := hG.nev; have := hG.nck; omega
  have hck := hG.nck
  have hnev := hG.nev
  have Hcn := Lib.hid hcn
  clear hcn
  go_enter Tryd.func6, Tryd.ntmps6
  go_wp2_with fail
  refine (check_ok A c evs At ct ties w h hc ht hG).mono ?_
  rintro e w1 ⟨rfl, hB1⟩
  go_wp2_with fail
  refine (solved_any A c evs At ct ties w1 (Kd.C_below h hB1) hc (Kd.C_below ht hB1) hG hct n Hcn.out hS).mono ?_
  rintro e w2 ⟨g, rows, rfl, hN, hB2⟩
  have hB12 : Below w.heap.size w w2 := below_then hB1 hB1.size hB2
  cases hk : kl n n (netOf evs ties) with
  | none =>
    have Hk := Lib.hid hk
    clear hN hk
    simp only [Option.isSome_none]
    go_wp2_with fail
    go_ret2
    change IvEnd _ w _ _
    rw [Hk.out]
    exact ⟨rfl, hB12⟩
  | some D =>
    have hNet := hN D hk
    have hDs := hD D hk
    have Hk := Lib.hid hk
    clear hN hk
    simp only [Option.isSome_some]
    go_wp2_with fail
    refine (clocks_any A c evs w2 (Kd.C_below h hB12) hc (by omega)).mono ?_
    rintro e w3 ⟨v, rfl, hR3, hB3⟩
    obtain ⟨Ac, cc, rfl, hcc, hC3⟩ := Kd.R_reads hR3
    have hN3 : Net w3 g rows n D := hNet.kept (Kept.of_below hB3 (fun _ => False)) (fun h => h) (fun _ _ h => h)
    clear hR3 hC3
    go_wp2_with fail
    rw [show (1 : Int) = ((1 : Nat) : Int) from rfl]
    refine (intervals_any g n n 1 (clocksOf evs).length rows D w3 hN3 hn (by have := Hcn.out; omega) (by omega) hDs).mono ?_
    rintro e w4 ⟨v4, rfl, hR4, hB4⟩
    have hB14 : Below w.heap.size w w3 := below_then hB12 hB12.size hB3
    go_wp2_with fail
    go_ret2
    change IvEnd _ w _ _
    rw [Hk.out]
    exact ⟨_, rfl, Kd.R_mono (Kd.R_lower hR4 hB14.size) (fun k hk => Nat.le_trans hB14.size hk), below_then hB14 hB14.size hB4⟩
end Go.Proofs.YtjbmnbdlicmpoaaDoor
