/-
  slices.Concat of two rows of numbers; slices.Grow of nil.
-/
import Derived.Test.YtjbmnbdlicmpoaaDoorEnds
import Derived.Test.YtjbmnbdlicmpoaaDoorWZeros
namespace Go.Proofs.YtjbmnbdlicmpoaaDoor
open Go.RowKit
open Go.Proofs.YtjbmnbdlicmpoaaDoorW.PrintWords

set_option maxRecDepth 100000 in
set_option maxHeartbeats 1000000 in
theorem grow_any (n : Nat) (w : World) (hn : n ≤ 1000000) :
    Calls Tryd.prog 27 #[.slice none 0 0, .int .i64 n] w (RetsRow (Kd.int .i64) 3 [] w) := by
  have hR0 : (Kd.int .i64).R 3 w w.heap.size (fun k => w.heap.size ≤ k) (.slice none 0 0) [] := Kd.R_nil _ _ _ _ _
  by_cases h0 : n = 0
  · subst h0
    go_enter Tryd.func27, Tryd.ntmps27
    go_wp2
    go_ret
    exact ⟨_, rfl, hR0, Below.refl _ _⟩
  · have h1 : 0 < (n : Int) := by omega
    have hl : (([] : List Int).length + ((n : Int)).toNat) * 8 ≤ 140737488355328 := by simp; omega
    go_enter Tryd.func27, Tryd.ntmps27
    go_wp2_with (at_builtin; refine Kd.R_append_zeros (Kd.int .i64) (w0 := w) w.heap.size rfl (.tmp 20) (.tmp 21) 22 3 3 (.int .i64 0) 8 rfl Tryd.underlying22 Tryd.underlying3 info_int rfl (by decide) (by decide) _ [] (0 : Int) (n : Int) (fun k => w.heap.size ≤ k) rfl rfl rfl (fun k hk => hk) hR0 (by omega) (Below.refl _ _) (Nat.le_refl _) hl ?_; intro v1 w1 HO1 HB1 hg hat; obtain ⟨A1, c1, rfl⟩ := Kd.R_slice HO1)
    have hT := Kd.R_take (m := 0) HO1 (by omega)
    rw [List.take_zero] at hT
    all_goals go_ret
    exact ⟨_, rfl, hT, HB1⟩
set_option maxRecDepth 100000 in
set_option maxHeartbeats 2000000 in
theorem concat2_any (g : Nat) (A1 A2 : Option Addr) (c1 c2 cg : Nat) (l1 l2 : List Int) (w : World) (hg0 : w.cell? ⟨g, 0, none⟩ = some (.slice A1 l1.length c1)) (hg1 : w.cell? ⟨g, 1, none⟩ = some (.slice A2 l2.length c2))
    (h1 : (Kd.int .i64).C w A1 l1.length l1) (h2 : (Kd.int .i64).C w A2 l2.length l2) (hn1 : l1.length ≤ 100000) (hn2 : l2.length ≤ 100000) :
    Calls Tryd.prog 19 #[.slice (some ⟨g, 0, none⟩) 2 cg] w (RetsRow (Kd.int .i64) 3 (l1 ++ l2) w) := by
  have hgl : g < w.heap.size := World.block_lt_of_cell? _ _ hg0
  go_enter Tryd.func19, Tryd.ntmps19
  go_wp2_with fail
  go_loop [3, 11] (fun s i => (i = .int .i64 0 ∧ s = .int .i64 0) ∨ (i = .int .i64 1 ∧ s = .int .i64 l1.length) ∨ (i = .int .i64 2 ∧ s = .int .i64 ((l1.length + l2.length : Nat) : Int))) (fun _ i => 2 - (intOf i).toNat)
  case atStart => exact .inl ⟨rfl, rfl⟩
  case round =>
    rcases hrel with ⟨rfl, rfl⟩ | ⟨rfl, rfl⟩ | ⟨rfl, rfl⟩
    · go_wp2_with fail
      go_round
      case rel => exact .inr (.inl ⟨by go_num, by go_num⟩)
      case measure => simp [intOf]
    · go_wp2_with fail
      go_round
      case rel => exact .inr (.inr ⟨by go_num, by go_num⟩)
      case measure => simp [intOf]
    · go_wp2_with fail
      refine (grow_any (l1.length + l2.length) w (by omega)).mono ?_
      rintro e w1 ⟨v, rfl, hR, hB⟩
      have hR' : (Kd.int .i64).R 3 w1 w.heap.size (fun k => w.heap.size ≤ k) v ((l1 ++ l2).take 0) := hR
      go_wp2_with fail
      go_loopw [6, 27] (fun v i wr => ((i = .int .i64 0 ∧ (Kd.int .i64).R 3 wr w.heap.size (fun k => w.heap.size ≤ k) v []) ∨ (i = .int .i64 1 ∧ (Kd.int .i64).R 3 wr w.heap.size (fun k => w.heap.size ≤ k) v l1) ∨ (i = .int .i64 2 ∧ (Kd.int .i64).R 3 wr w.heap.size (fun k => w.heap.size ≤ k) v (l1 ++ l2))) ∧ Below w.heap.size w wr) (fun _ i _ => 2 - (intOf i).toNat)
      case atStart => exact ⟨.inl ⟨rfl, hR⟩, hB⟩
      case round =>
        obtain ⟨hc, hBr⟩ := hrel
        have hsz := hBr.size
        have k0 := (hBr.cell (p := ⟨g, 0, none⟩) hgl).trans hg0
        have k1 := (hBr.cell (p := ⟨g, 1, none⟩) hgl).trans hg1
        rcases hc with ⟨rfl, hR1⟩ | ⟨rfl, hR1⟩ | ⟨rfl, hR1⟩
        · have hC := Kd.C_below h1 hBr
          have hl : (([] : List Int).length + l1.length) * 8 ≤ 140737488355328 := by simp; omega
          go_wp2_with (at_builtin; refine Kd.R_append_row (Value.int .i64) (0 : Int) (w0 := w) w.heap.size rfl (.tmp 31) (.tmp 32) 22 3 (.int .i64 0) 8 rfl Tryd.underlying22 info_int rfl (by decide) _ [] l1 A1 l1.length c1 (fun k => w.heap.size ≤ k) rfl rfl (fun k hk => Nat.le_trans hsz hk) hR1 hC hBr hsz hl ?_; intro v1 w1 HO1 HB1 hg hat)
          go_roundw
          case rel => exact ⟨.inr (.inl ⟨by go_num, HO1⟩), HB1⟩
          case measure => simp [intOf]
        · have hC := Kd.C_below h2 hBr
          have hl : (l1.length + l2.length) * 8 ≤ 140737488355328 := by omega
          go_wp2_with (at_builtin; refine Kd.R_append_row (Value.int .i64) (0 : Int) (w0 := w) w.heap.size rfl (.tmp 31) (.tmp 32) 22 3 (.int .i64 0) 8 rfl Tryd.underlying22 info_int rfl (by decide) _ l1 l2 A2 l2.length c2 (fun k => w.heap.size ≤ k) rfl rfl (fun k hk => Nat.le_trans hsz hk) hR1 hC hBr hsz hl ?_; intro v1 w1 HO1 HB1 hg hat)
          go_roundw
          case rel => exact ⟨.inr (.inr ⟨by go_num, HO1⟩), HB1⟩
          case measure => simp [intOf]
        · go_wp2_with fail
          go_ret
          exact ⟨_, rfl, hR1, hBr⟩
end Go.Proofs.YtjbmnbdlicmpoaaDoor
