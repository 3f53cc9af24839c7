/-
  Clocks: the names of clocks, sorted, each once.
-/
import Derived.Test.YtjbmnbdlicmpoaaDoorEv
import Derived.WalkKit
import Derived.WalkSpells
import Derived.WalkLawsBesides
import Derived.LoopTactic
import Derived.Outline
import Derived.Deep.LoopGhost
import Derived.Deep.QuietTactic
import Derived.BigQuiet
import Derived.Sort.OwnSorted
import Derived.Lib.OwnBridge
import Derived.Test.YtjbmnbdlicmpoaaDoorShelf
namespace Go.Proofs.YtjbmnbdlicmpoaaDoor
open Go.RowKit
open Go.Proofs.YtjbmnbdlicmpoaaDoorW.PrintWords

theorem info_string : (Tryd.prog.info? 9).map (fun i => (i.zero, i.size, i.bytes)) = some (some (.string ⟨#[]⟩), 1, 16) := by kernel_rfl

/-- A row of the call's own is handed back. -/
theorem take_snoc_map {α β : Type} {l : List α} {k : Nat} {x : α} (f : α → β) (h : l[k]? = some x) : (l.take (k + 1)).map f = (l.take k).map f ++ [f x] := by
  rw [List.take_add_one, h]; simp
def RetsRow {α : Type} (d : Kd α) (t : Nat) (xs : List α) (w : World) (e : Ending) (w' : World) : Prop :=
  ∃ v, e = .returned v ∧ d.R t w' w.heap.size (fun k => w.heap.size ≤ k) v xs ∧ Below w.heap.size w w'

def bytesL (s : ByteArray) : List UInt8 := s.data.toList
def ofL (l : List UInt8) : ByteArray := ⟨l.toArray⟩
theorem ofL_bytesL (s : ByteArray) : ofL (bytesL s) = s := by simp [ofL, bytesL]
theorem bytesL_ofL (l : List UInt8) : bytesL (ofL l) = l := by simp [ofL, bytesL]
theorem encStr_bytesL (s : ByteArray) : encStr (bytesL s) = .string s := by unfold encStr; exact congrArg Value.string (ofL_bytesL s)
theorem encStr_ofL (l : List UInt8) : Value.string (ofL l) = encStr l := rfl
theorem encs_string (xs : List ByteArray) : encs Value.string xs = (xs.map bytesL).map encStr := by
  simp only [encs, List.map_map]
  exact List.map_congr_left fun s _ => (encStr_bytesL s).symm
theorem encs_ofL (ls : List (List UInt8)) : encs Value.string (ls.map ofL) = ls.map encStr := by
  simp only [encs, List.map_map]
  rfl

/-- Strings sorted by their bytes. -/
def sortS (xs : List ByteArray) : List ByteArray := ((xs.map bytesL).mergeSort fun x y => decide (x ≤ y)).map ofL
/-- Of equal neighbours one. -/
def compactS (xs : List ByteArray) : List ByteArray := (Lib.compact (xs.map bytesL)).map ofL
theorem sortS_length (xs : List ByteArray) : (sortS xs).length = xs.length := by simp [sortS]

open Go.Sort in
theorem sort_own {w : World} {base : Nat} {ok : Nat → Prop} {v : Value} {xs : List ByteArray} (h : Kd.string.R 9 w base ok v xs) (hn : xs.length ≤ 1000000) :
    Calls Tryd.prog 25 #[v] w fun e w' => e = .returned (.tuple #[]) ∧ Kd.string.R 9 w' base ok v (sortS xs) ∧ w.grownBy w' v.ownBlock := by
  have ho := Kd.own_of_R h
  rw [encs_string] at ho
  rcases ho.2 with ⟨rfl, h0⟩ | ⟨g, cap, cur, rfl, hbase, hb, h1, h2, h3, h4⟩
  · have hx : xs = [] := List.length_eq_zero_iff.1 h0
    subst hx
    refine (Tryd.slices_Sort_string_none none 0 w).mono ?_
    rintro e w' ⟨rfl, rfl⟩
    exact ⟨rfl, by rw [show sortS [] = [] from by simp [sortS]]; exact h, by constructor <;> simp⟩
  · have hH : Holds encStr w g 0 (xs.map bytesL).toArray := holds_of_block hb (by simpa using h4)
    have hc := Tryd.slices_Sort_string g 0 cap (xs.map bytesL) w hH (Array.getElem?_eq_some_iff.1 hb).1 (by simp; omega)
    rw [List.length_map] at hc
    refine hc.mono ?_
    rintro e w' ⟨rfl, n, os, rfl⟩
    have h1' : (xs.map bytesL).length ≤ cap := by simpa using h1
    refine ⟨rfl, Kd.R_of_own ?_ h.1, grownBy_sorted _⟩
    have := ownsRow_sorted (n := n) (os := os) (ss := xs.map bytesL) (ts := (xs.map bytesL).mergeSort fun x y => decide (x ≤ y)) (by simp) hbase hb h1' h2 h3
    rw [sortS, encs_ofL]
    simpa using this

open Go.Sort in
theorem compact_own {w : World} {base : Nat} {ok : Nat → Prop} {v : Value} {xs : List ByteArray} (h : Kd.string.R 9 w base ok v xs) (hn : xs.length ≤ 1000000) :
    Calls Tryd.prog 26 #[v] w fun e w' => ∃ v', e = .returned v' ∧ Kd.string.R 9 w' base ok v' (compactS xs) ∧ w.grownBy w' v.ownBlock := by
  have ho := Kd.own_of_R h
  rw [encs_string] at ho
  rcases ho.2 with ⟨rfl, h0⟩ | ⟨g, cap, cur, rfl, hbase, hb, h1, h2, h3, h4⟩
  · have hx : xs = [] := List.length_eq_zero_iff.1 h0
    subst hx
    refine (Tryd.slices_Compact_string_empty none 0 w).mono ?_
    rintro e w' ⟨rfl, rfl⟩
    exact ⟨_, rfl, by rw [show compactS [] = [] from rfl]; exact h, by constructor <;> simp⟩
  · have hH : Holds encStr w g 0 (xs.map bytesL).toArray := holds_of_block hb (by simpa using h4)
    have hc := Tryd.slices_Compact_string g 0 cap (xs.map bytesL) w hH (by simp; omega) (by simpa using h1)
    rw [List.length_map] at hc
    refine hc.mono ?_
    rintro e w' ⟨rfl, q, rfl⟩
    have hle : (Lib.compact (xs.map bytesL)).length ≤ xs.length := by simpa using Lib.compact_length_le (xs.map bytesL)
    have hk := Lib.ownsRow_putRow (q := q) (k := (Lib.compact (xs.map bytesL)).length) (ys := Lib.compact (xs.map bytesL) ++ List.replicate (xs.length - (Lib.compact (xs.map bytesL)).length) []) ho (by simp; omega) hle
    refine ⟨_, rfl, Kd.R_of_own ?_ (fun k hk => h.1 k (by simpa [Value.ownBlock] using hk)), ?_⟩
    · rw [compactS, encs_ofL]
      simpa using hk
    · have := grownBy_sorted (w := w) (g := g) (n := q) (os := #[]) (Lib.compact (xs.map bytesL) ++ List.replicate (xs.length - (Lib.compact (xs.map bytesL)).length) []).toArray
      rw [grow_empty] at this
      exact this

/-- The names of clocks, sorted, each once. -/
def clocksOf (evs : List Ev) : List ByteArray := compactS (sortS (evs.map (·.clock)))

set_option maxRecDepth 100000 in
set_option maxHeartbeats 1000000 in
theorem clocks_any (A : Option Addr) (c : Nat) (evs : List Ev) (w : World) (h : kEv.C w A evs.length evs) (hc : evs.length ≤ c) (hn : evs.length ≤ 1000000) :
    Calls Tryd.prog 18 #[.slice A evs.length c] w (RetsRow Kd.string 9 (clocksOf evs) w) := by
  by_cases hz : evs.length = 0
  · obtain rfl : evs = [] := List.length_eq_zero_iff.1 hz
    have hB0 := Below.refl w.heap.size w
    go_enter Tryd.func18, Tryd.ntmps18
    go_wp2
    refine wp_loop_rounds 1 ?_
    rw [rounds_succ]
    go_wp2_with fail
    refine (Tryd.slices_Sort_string_none none 0 w).mono ?_
    rintro e w' ⟨rfl, rfl⟩
    go_wp2_with fail
    refine (Tryd.slices_Compact_string_empty none 0 w').mono ?_
    rintro e w' ⟨rfl, rfl⟩
    go_wp2_with fail
    go_ret
    exact ⟨_, rfl, by rw [show clocksOf [] = [] from by rw [clocksOf, List.map_nil, show sortS [] = [] from by simp [sortS]]; rfl]; exact Kd.R_nil _ _ _ _ _, Below.refl _ _⟩
  · obtain ⟨b, o, rfl, hb, hcell⟩ := ev_addr h (by omega)
    go_enter Tryd.func18, Tryd.ntmps18
    go_wp2
    go_loopw [3, 8] (fun v i wr => ∃ k : Nat, k ≤ evs.length ∧ i = .int .i64 k ∧ Kd.string.R 9 wr w.heap.size (fun k => w.heap.size ≤ k) v ((evs.take k).map (·.clock)) ∧ Below w.heap.size w wr) (fun _ i _ => evs.length - (intOf i).toNat)
    case atStart => exact ⟨0, by omega, rfl, Kd.R_nil _ _ _ _ _, Below.refl _ _⟩
    case round =>
      obtain ⟨k, hk, rfl, hR, hB⟩ := hrel
      by_cases hlt : k < evs.length
      · obtain ⟨x, hx⟩ : ∃ x, evs[k]? = some x := ⟨_, List.getElem?_eq_getElem hlt⟩
        obtain ⟨c0, c1, c2⟩ := hcell k x hx
        have Hx := Lib.hid hx
        clear hx hcell
        replace c0 := (hB.cell hb).trans c0
        replace c1 := (hB.cell hb).trans c1
        replace c2 := (hB.cell hb).trans c2
        have hB1 := hB.alloc hB.size (.cells #[.string x.clock, .int .i64 x.shown, .int .i64 x.wide] 47)
        have hR1 := Kd.R_alloc hR (.cells #[.string x.clock, .int .i64 x.shown, .int .i64 x.wide] 47)
        have hsz := hB1.size
        have HZ := Lib.hid (World.size_alloc wr (.cells #[.string x.clock, .int .i64 x.shown, .int .i64 x.wide] 47))
        have hl : ((List.map (fun e => e.clock) (List.take k evs)).length + 1) * 16 ≤ 140737488355328 := by simp; omega
        go_wp2_with (at_builtin; refine app_one Kd.string (w0 := w) w.heap.size HZ.out rfl (.tmp 12) (.tmp 15) 56 9 (.string ⟨#[]⟩) 16 rfl Tryd.underlying56 info_string rfl (by decide) (by decide) _ _ x.clock [.string x.clock] (fun k => w.heap.size ≤ k) (fun _ => False) rfl rfl rfl (fun _ h => h.elim) (fun k hk => Nat.le_trans hsz hk) hR1 hB1 hsz hl ?_; intro v1 w1 HO1 HB1 hg hat)
        go_roundw
        case rel => exact ⟨k + 1, by omega, by go_num, by rw [take_snoc_map _ Hx.out]; exact HO1, HB1⟩
        case measure => simp [intOf]; omega
      · obtain rfl : evs.length = k := by omega
        rw [List.take_length] at hR
        have hsz := hB.size
        go_wp2_with fail
        refine (sort_own hR (by simpa using hn)).mono ?_
        rintro e w1 ⟨rfl, hR1, hg1⟩
        have hB1 := hB.grown hg1 hsz (Kd.R_base hR)
        go_wp2_with fail
        refine (compact_own hR1 (by simpa [sortS_length] using hn)).mono ?_
        rintro e w2 ⟨v2, rfl, hR2, hg2⟩
        have hB2 := hB1.grown hg2 hB1.size (Kd.R_base hR1)
        go_wp2_with fail
        go_ret
        exact ⟨_, rfl, hR2, hB2⟩
end Go.Proofs.YtjbmnbdlicmpoaaDoor
