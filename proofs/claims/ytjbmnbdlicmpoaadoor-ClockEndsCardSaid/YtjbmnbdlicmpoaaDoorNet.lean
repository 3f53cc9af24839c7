/-
  The net of clocks in memory: rows of numbers, each a block of its own; what limit and between do to it.
-/
import Derived.Test.YtjbmnbdlicmpoaaDoorMk1
import Derived.RegionTactic
import Derived.ChangeAlike
import Derived.BigRegion
namespace Go.Proofs.YtjbmnbdlicmpoaaDoor
open Go.RowKit
open Go.Proofs.YtjbmnbdlicmpoaaDoorW.PrintWords

/-- A table of numbers with one place changed. -/
def upd (M : Nat → Nat → Int) (i j : Nat) (v : Int) : Nat → Nat → Int := fun a b => if a = i ∧ b = j then v else M a b

/-- A net in memory: the outer row in block g, row i in block rows i. -/
structure Net (w : World) (g : Nat) (rows : Nat → Nat) (n : Nat) (M : Nat → Nat → Int) : Prop where
  outer : ∃ cs : Array Value, w.heap[g]? = some (.cells cs 22 (0, 0)) ∧ cs.size = n ∧ ∀ i, i < n → cs[i]? = some (.slice (some ⟨rows i, 0, none⟩) n n)
  row : ∀ i, i < n → ∃ cs : Array Value, w.heap[rows i]? = some (.cells cs 3 (0, 0)) ∧ cs.size = n ∧ ∀ j, j < n → cs[j]? = some (.int .i64 (M i j))
  inj : ∀ i j, i < n → j < n → rows i = rows j → i = j
  ne : ∀ i, i < n → rows i ≠ g

namespace Net
variable {w w' : World} {g n : Nat} {rows : Nat → Nat} {M : Nat → Nat → Int}
theorem outer_cell (h : Net w g rows n M) {i : Nat} (hi : i < n) : w.cell? ⟨g, i, none⟩ = some (.slice (some ⟨rows i, 0, none⟩) n n) := by
  obtain ⟨cs, hb, _, hc⟩ := h.outer
  exact (blk_cell hb i).trans (hc i hi)
theorem cell (h : Net w g rows n M) {i j : Nat} (hi : i < n) (hj : j < n) : w.cell? ⟨rows i, j, none⟩ = some (.int .i64 (M i j)) := by
  obtain ⟨cs, hb, _, hc⟩ := h.row i hi
  exact (blk_cell hb j).trans (hc j hj)
theorem frozen (h : Net w g rows n M) {i j : Nat} (hi : i < n) : w.frozen? ⟨rows i, j, none⟩ = false := by
  obtain ⟨cs, hb, _, _⟩ := h.row i hi
  exact blk_frozen hb j
theorem heap (h : Net w g rows n M) (e : w'.heap = w.heap) : Net w' g rows n M := by
  obtain ⟨h1, h2, h3, h4⟩ := h
  exact ⟨by rw [e]; exact h1, by rw [e]; exact h2, h3, h4⟩
theorem set (h : Net w g rows n M) {i j : Nat} (hi : i < n) (hj : j < n) (v : Int) : Net (w.setCell ⟨rows i, j, none⟩ (.int .i64 v)) g rows n (upd M i j v) := by
  refine ⟨?_, ?_, h.inj, h.ne⟩
  · obtain ⟨cs, hb, hs, hc⟩ := h.outer
    exact ⟨cs, blk_far hb (p := ⟨rows i, j, none⟩) (Ne.symm (h.ne i hi)) _, hs, hc⟩
  · intro a ha
    obtain ⟨cs, hb, hs, hc⟩ := h.row a ha
    by_cases e : a = i
    · subst e
      refine ⟨_, blk_set hb j _, by simpa using hs, fun b hb' => ?_⟩
      by_cases e2 : b = j
      · subst e2
        simp [upd, hs, hb']
      · rw [Array.getElem?_setIfInBounds_ne (Ne.symm e2), hc b hb']
        simp [upd, e2]
    · refine ⟨cs, blk_far hb (p := ⟨rows i, j, none⟩) (fun e2 => e (h.inj a i ha hi e2)) _, hs, fun b hb' => ?_⟩
      rw [hc b hb']
      simp [upd, e]
theorem kept {S : Nat → Prop} (h : Net w g rows n M) (hk : Kept w w' S) (hg : ¬ S g) (hr : ∀ i, i < n → ¬ S (rows i)) : Net w' g rows n M := by
  refine ⟨?_, ?_, h.inj, h.ne⟩
  · obtain ⟨cs, hb, hs, hc⟩ := h.outer
    exact ⟨cs, blk_kept hb hk hg, hs, hc⟩
  · intro a ha
    obtain ⟨cs, hb, hs, hc⟩ := h.row a ha
    exact ⟨cs, blk_kept hb hk (hr a ha), hs, hc⟩
theorem congr {M' : Nat → Nat → Int} (h : Net w g rows n M) (e : ∀ i j, i < n → j < n → M i j = M' i j) : Net w g rows n M' :=
  ⟨h.outer, fun i hi => by
    obtain ⟨cs, hb, hs, hc⟩ := h.row i hi
    exact ⟨cs, hb, hs, fun j hj => by rw [hc j hj, e i j hi hj]⟩, h.inj, h.ne⟩
end Net

set_option maxHeartbeats 400000 in
theorem limit_any (g n c : Nat) (rows : Nat → Nat) (M : Nat → Nat → Int) (i j : Nat) (most : Int) (w : World) (h : Net w g rows n M) (hi : i < n) (hj : j < n) (_hn : n ≤ 1000000) :
    Calls Tryd.prog 40 #[.slice (some ⟨g, 0, none⟩) n c, .int .i64 i, .int .i64 j, .int .i64 most] w fun e w' =>
      e = .returned (.tuple #[]) ∧ Net w' g rows n (upd M i j (min (M i j) most)) ∧ Fr w w' (fun k => k = rows i) := by
  have c0 := h.outer_cell hi
  have c1 := h.cell hi hj
  have f1 := h.frozen (j := j) hi
  go_enter Tryd.func40, Tryd.ntmps40
  go_wp2
  go_region
  all_goals go_end0
  all_goals
    rw [show (if most < M i j then most else M i j) = min (M i j) most from by split <;> omega]
    exact ⟨rfl, (h.set hi hj _).heap rfl, (Fr.setCell (p := ⟨rows i, j, none⟩) (Fr.refl w (fun k => k = rows i)) (.inl rfl) _).drew⟩

set_option maxHeartbeats 400000 in
theorem between_any (g n c : Nat) (rows : Nat → Nat) (M : Nat → Nat → Int) (i j : Nat) (low high : Int) (w : World) (h : Net w g rows n M) (hi : i < n) (hj : j < n) (hn : n ≤ 1000000) (hl : -1000000000000 ≤ low ∧ low ≤ 1000000000000) :
    Calls Tryd.prog 31 #[.slice (some ⟨g, 0, none⟩) n c, .int .i64 i, .int .i64 j, .int .i64 low, .int .i64 high] w fun e w' =>
      e = .returned (.tuple #[]) ∧ Net w' g rows n (upd (upd M i j (min (M i j) high)) j i (min (upd M i j (min (M i j) high) j i) (-low))) ∧ Fr w w' (fun k => k = rows i ∨ k = rows j) := by
  obtain ⟨hl1, hl2⟩ := hl
  go_enter Tryd.func31, Tryd.ntmps31
  go_wp2_with fail
  refine (limit_any g n c rows M i j high w h hi hj hn).mono ?_
  rintro e w1 ⟨rfl, h1, k1⟩
  go_wp2_with fail
  refine (limit_any g n c rows _ j i (-low) w1 h1 hj hi hn).mono ?_
  rintro e w2 ⟨rfl, h2, k2⟩
  go_wp2_with fail
  go_end0
  exact ⟨rfl, h2, (k1.mono (fun _ => .inl)).then_ k2 (fun k hk => .inl (.inr hk))⟩
end Go.Proofs.YtjbmnbdlicmpoaaDoor
