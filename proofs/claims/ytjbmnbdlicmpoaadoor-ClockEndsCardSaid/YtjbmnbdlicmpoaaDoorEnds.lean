/-
  ends: the one end or the other of intervals.
-/
import Derived.Test.YtjbmnbdlicmpoaaDoorSolve
namespace Go.Proofs.YtjbmnbdlicmpoaaDoor
open Go.RowKit
open Go.Proofs.YtjbmnbdlicmpoaaDoorW.PrintWords

theorem info_int : (Tryd.prog.info? 3).map (fun i => (i.zero, i.size, i.bytes)) = some (some (.int .i64 0), 1, 8) := by kernel_rfl

set_option maxRecDepth 100000 in
set_option maxHeartbeats 1000000 in
theorem ends0_any (A : Option Addr) (c : Nat) (l : List (Int × Int)) (w : World) (h : kIv.C w A l.length l) (_hc : l.length ≤ c) (hn : l.length ≤ 1000000) :
    Calls Tryd.prog 11 #[.slice A l.length c, .int .i64 0] w (RetsRow (Kd.int .i64) 3 (l.map (·.1)) w) := by
  go_enter Tryd.func11, Tryd.ntmps11
  go_wp2_with fail
  go_loopw [5, 10] (fun v i wr => ∃ k : Nat, k ≤ l.length ∧ i = .int .i64 k ∧ (Kd.int .i64).R 3 wr w.heap.size (fun k => w.heap.size ≤ k) v ((l.take k).map (·.1)) ∧ Below w.heap.size w wr) (fun _ i _ => l.length - (intOf i).toNat)
  case atStart => exact ⟨0, by omega, rfl, Kd.R_nil _ _ _ _ _, Below.refl _ _⟩
  case round =>
    obtain ⟨k, hk, rfl, hR, hB⟩ := hrel
    by_cases hlt : k < l.length
    · obtain ⟨b, o, rfl, hb, hcell⟩ := iv_addr h (by omega)
      obtain ⟨x, hx⟩ : ∃ x, l[k]? = some x := ⟨_, List.getElem?_eq_getElem hlt⟩
      obtain ⟨c0, c1⟩ := hcell k x hx
      have Hx := Lib.hid hx
      clear hx hcell
      replace c0 := (hB.cell hb).trans c0
      replace c1 := (hB.cell hb).trans c1
      have hB1 := hB.alloc hB.size (.cells #[.int .i64 x.1, .int .i64 x.2] 58)
      have hR1 := Kd.R_alloc hR (.cells #[.int .i64 x.1, .int .i64 x.2] 58)
      have hsz := hB1.size
      have HZ := Lib.hid (World.size_alloc wr (.cells #[.int .i64 x.1, .int .i64 x.2] 58))
      have hl : ((List.map (fun e => e.1) (List.take k l)).length + 1) * 8 ≤ 140737488355328 := by simp; omega
      go_wp2_with (at_builtin; refine app_one (Kd.int .i64) (w0 := w) w.heap.size HZ.out rfl (.tmp 14) (.tmp 18) 22 3 (.int .i64 0) 8 rfl Tryd.underlying22 info_int rfl (by decide) (by decide) _ _ x.1 [.int .i64 x.1] (fun k => w.heap.size ≤ k) (fun _ => False) rfl rfl rfl (fun _ h => h.elim) (fun k hk => Nat.le_trans hsz hk) hR1 hB1 hsz hl ?_; intro v1 w1 HO1 HB1 hg hat)
      go_roundw
      case rel => exact ⟨k + 1, by omega, by go_num, by rw [take_snoc_map _ Hx.out]; exact HO1, HB1⟩
      case measure => simp [intOf]; omega
    · obtain rfl : l.length = k := by omega
      rw [List.take_length] at hR
      go_wp2_with fail
      go_ret
      exact ⟨_, rfl, hR, hB⟩
set_option maxRecDepth 100000 in
set_option maxHeartbeats 1000000 in
theorem ends1_any (A : Option Addr) (c : Nat) (l : List (Int × Int)) (w : World) (h : kIv.C w A l.length l) (_hc : l.length ≤ c) (hn : l.length ≤ 1000000) :
    Calls Tryd.prog 11 #[.slice A l.length c, .int .i64 1] w (RetsRow (Kd.int .i64) 3 (l.map (·.2)) w) := by
  go_enter Tryd.func11, Tryd.ntmps11
  go_wp2_with fail
  go_loopw [5, 10] (fun v i wr => ∃ k : Nat, k ≤ l.length ∧ i = .int .i64 k ∧ (Kd.int .i64).R 3 wr w.heap.size (fun k => w.heap.size ≤ k) v ((l.take k).map (·.2)) ∧ Below w.heap.size w wr) (fun _ i _ => l.length - (intOf i).toNat)
  case atStart => exact ⟨0, by omega, rfl, Kd.R_nil _ _ _ _ _, Below.refl _ _⟩
  case round =>
    obtain ⟨k, hk, rfl, hR, hB⟩ := hrel
    by_cases hlt : k < l.length
    · obtain ⟨b, o, rfl, hb, hcell⟩ := iv_addr h (by omega)
      obtain ⟨x, hx⟩ : ∃ x, l[k]? = some x := ⟨_, List.getElem?_eq_getElem hlt⟩
      obtain ⟨c0, c1⟩ := hcell k x hx
      have Hx := Lib.hid hx
      clear hx hcell
      replace c0 := (hB.cell hb).trans c0
      replace c1 := (hB.cell hb).trans c1
      have hB1 := hB.alloc hB.size (.cells #[.int .i64 x.1, .int .i64 x.2] 58)
      have hR1 := Kd.R_alloc hR (.cells #[.int .i64 x.1, .int .i64 x.2] 58)
      have hsz := hB1.size
      have HZ := Lib.hid (World.size_alloc wr (.cells #[.int .i64 x.1, .int .i64 x.2] 58))
      have hl : ((List.map (fun e => e.2) (List.take k l)).length + 1) * 8 ≤ 140737488355328 := by simp; omega
      go_wp2_with (at_builtin; refine app_one (Kd.int .i64) (w0 := w) w.heap.size HZ.out rfl (.tmp 14) (.tmp 18) 22 3 (.int .i64 0) 8 rfl Tryd.underlying22 info_int rfl (by decide) (by decide) _ _ x.2 [.int .i64 x.2] (fun k => w.heap.size ≤ k) (fun _ => False) rfl rfl rfl (fun _ h => h.elim) (fun k hk => Nat.le_trans hsz hk) hR1 hB1 hsz hl ?_; intro v1 w1 HO1 HB1 hg hat)
      go_roundw
      case rel => exact ⟨k + 1, by omega, by go_num, by rw [take_snoc_map _ Hx.out]; exact HO1, HB1⟩
      case measure => simp [intOf]; omega
    · obtain rfl : l.length = k := by omega
      rw [List.take_length] at hR
      go_wp2_with fail
      go_ret
      exact ⟨_, rfl, hR, hB⟩

/-- What One hands back. -/
def OneEnd (r : Option (List Int × List Int)) (w : World) (e : Ending) (w' : World) : Prop :=
  match r with
  | some (l, m) => ∃ v v', e = .returned (.tuple #[v, v', .int .i64 0]) ∧ (Kd.int .i64).R 3 w' w.heap.size (fun k => w.heap.size ≤ k) v l ∧ (Kd.int .i64).R 3 w' w.heap.size (fun k => w.heap.size ≤ k) v' m ∧ Below w.heap.size w w'
  | none => e = .returned (.tuple #[.slice none 0 0, .slice none 0 0, .int .i64 17]) ∧ Below w.heap.size w w'
end Go.Proofs.YtjbmnbdlicmpoaaDoor
