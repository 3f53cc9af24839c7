/-
  What build lays: the net of right events and ties.
-/
import Derived.Test.YtjbmnbdlicmpoaaDoorClose
import Derived.Test.YtjbmnbdlicmpoaaDoorClocks
import Derived.Test.YtjbmnbdlicmpoaaDoorBs
import Derived.StillTailTactics
import Derived.Deep.RegionWith
namespace Go.Proofs.YtjbmnbdlicmpoaaDoor
open Go.RowKit
open Go.Proofs.YtjbmnbdlicmpoaaDoorW.PrintWords

/-- The variable of an event, -1 being the beginning of the axis; c clocks. -/
def atT (c : Nat) (e : Int) : Nat := if e < 0 then 0 else 1 + c + e.toNat
def btw (M : Nat → Nat → Int) (i j : Nat) (low high : Int) : Nat → Nat → Int := upd (upd M i j (min (M i j) high)) j i (min (upd M i j (min (M i j) high) j i) (-low))
def net0 : Nat → Nat → Int := fun i j => if i = j then 0 else 17179869180
def net1 : Nat → (Nat → Nat → Int)
  | 0 => net0
  | m + 1 => btw (net1 m) 0 (m + 1) (-4294967295) 4294967295
def net2 (ck : List ByteArray) (evs : List Ev) (M : Nat → Nat → Int) : Nat → (Nat → Nat → Int)
  | 0 => M
  | i + 1 => match evs[i]? with
    | some e => btw (net2 ck evs M i) (1 + idxB ck e.clock) (1 + ck.length + i) (e.shown - e.wide) (e.shown + e.wide)
    | none => net2 ck evs M i
def net3 (c : Nat) (ties : List Ti) (M : Nat → Nat → Int) : Nat → (Nat → Nat → Int)
  | 0 => M
  | i + 1 => match ties[i]? with
    | some t => btw (net3 c ties M i) (atT c t.a) (atT c t.b) t.low t.high
    | none => net3 c ties M i
/-- The net of events and ties. -/
def netOf (evs : List Ev) (ties : List Ti) : Nat → Nat → Int :=
  net3 (clocksOf evs).length ties (net2 (clocksOf evs) evs (net1 ((clocksOf evs).length + evs.length)) evs.length) ties.length

set_option maxHeartbeats 400000 in
theorem at_any (gb : Nat) (A : Option Addr) (c cc : Nat) (e : Int) (w : World) (hc : w.cell? ⟨gb, 0, none⟩ = some (.slice A c cc)) (_h1 : c ≤ 1000000) (_h2 : e ≤ 1000000) :
    Calls Tryd.prog 32 #[.int .i64 e, .pointer (some ⟨gb, 0, none⟩)] w fun e' w' => e' = .returned (.int .i64 (atT c e)) ∧ w' = w := by
  by_cases he : e < 0
  · have hd := decide_eq_true he
    go_enter Tryd.func32, Tryd.ntmps32
    go_wp2
    go_ret
    exact ⟨by simp [atT, he], rfl⟩
  · have hd := decide_eq_false he
    go_enter Tryd.func32, Tryd.ntmps32
    go_wp2
    go_ret
    exact ⟨by rw [atT, if_neg (by omega)]; exact ret_int (by omega), rfl⟩

/-- A net that is being laid: k rows are. -/
structure NetUp (w : World) (g : Nat) (rows : Nat → Nat) (n k : Nat) : Prop where
  outer : ∃ cs : Array Value, w.heap[g]? = some (.cells cs 22 (0, 0)) ∧ cs.size = n ∧ ∀ i, i < k → cs[i]? = some (.slice (some ⟨rows i, 0, none⟩) n n)
  row : ∀ i, i < k → ∃ cs : Array Value, w.heap[rows i]? = some (.cells cs 3 (0, 0)) ∧ cs.size = n ∧ ∀ j, j < n → cs[j]? = some (.int .i64 (net0 i j))
  inj : ∀ i j, i < k → j < k → rows i = rows j → i = j
  ne : ∀ i, i < k → g < rows i
  lt : ∀ i, i < k → rows i < w.heap.size
namespace NetUp
variable {w w' : World} {g n k : Nat} {rows : Nat → Nat}
theorem done (h : NetUp w g rows n n) : Net w g rows n net0 := ⟨h.outer, h.row, h.inj, fun i hi => Nat.ne_of_gt (h.ne i hi)⟩
theorem outer_some (h : NetUp w g rows n k) {i : Nat} (hi : i < n) : ∃ v, w.cell? ⟨g, i, none⟩ = some v := by
  obtain ⟨cs, hb, hs, _⟩ := h.outer
  exact ⟨cs[i]'(by omega), (blk_cell hb i).trans (Array.getElem?_eq_getElem (by omega))⟩
theorem outer_frozen (h : NetUp w g rows n k) {i : Nat} : w.frozen? ⟨g, i, none⟩ = false := by
  obtain ⟨cs, hb, hs, _⟩ := h.outer
  exact blk_frozen hb i
theorem extend {wb : World} (h : NetUp w g rows n k) (hk : k < n) (o : Obj)
    (hkeep : Fr ((w.setCell ⟨g, k, none⟩ (.slice (some ⟨w.heap.size, 0, none⟩) n n)).alloc o) wb (fun i => i = w.heap.size))
    (hb : ∃ cs : Array Value, wb.heap[w.heap.size]? = some (.cells cs 3 (0, 0)) ∧ cs.size = n ∧ ∀ j, j < n → cs[j]? = some (.int .i64 (net0 k j))) :
    NetUp wb g (fun i => if i = k then w.heap.size else rows i) n (k + 1) ∧ Fr w wb (fun i => i = g) := by
  obtain ⟨cs, hc, hs, hcs⟩ := h.outer
  have hgl := blk_lt hc
  have hz : (w.setCell ⟨g, k, none⟩ (.slice (some ⟨w.heap.size, 0, none⟩) n n)).heap.size = w.heap.size := by simp [World.setCell]
  have hlb : w.heap.size < wb.heap.size := by
    have := hkeep.size
    simp at this
    omega
  have hold : ∀ i, i < w.heap.size → i ≠ g → wb.heap[i]? = w.heap[i]? := fun i hi hne => by
    rw [hkeep.block (by simp; omega) (by omega), Below.heap_alloc _ _ _ (by omega), Below.heap_setCell _ _ _ _ hne]
  refine ⟨⟨?_, ?_, ?_, ?_, ?_⟩, ?_⟩
  · refine ⟨cs.setIfInBounds k (.slice (some ⟨w.heap.size, 0, none⟩) n n), ?_, by simpa using hs, fun i hi => ?_⟩
    · rw [hkeep.block (by simp; omega) (by omega), Below.heap_alloc _ _ _ (by omega)]
      exact blk_set hc k _
    · by_cases e : i = k
      · subst e
        simp [hs, hk]
      · rw [Array.getElem?_setIfInBounds_ne (Ne.symm e), if_neg e]
        exact hcs i (by omega)
  · intro i hi
    by_cases e : i = k
    · subst e
      simpa using hb
    · obtain ⟨ds, hd, hds, hd2⟩ := h.row i (by omega)
      exact ⟨ds, by rw [if_neg e, hold _ (h.lt i (by omega)) (Nat.ne_of_gt (h.ne i (by omega)))]; exact hd, hds, hd2⟩
  · intro i j hi hj hij
    split at hij <;> split at hij
    · omega
    · have := h.lt j (by omega); omega
    · have := h.lt i (by omega); omega
    · exact h.inj i j (by omega) (by omega) hij
  · intro i hi
    split
    · exact hgl
    · exact h.ne i (by omega)
  · intro i hi
    split
    · exact hlb
    · have := h.lt i (by omega); omega
  · exact ⟨⟨by omega, fun i hi hne => hold i hi hne⟩, hkeep.os, hkeep.tape, hkeep.output⟩
end NetUp

def BuildEnd (evs : List Ev) (ties : List Ti) (n : Nat) (w : World) (e : Ending) (w' : World) : Prop :=
  ∃ g rows, e = .returned (.slice (some ⟨g, 0, none⟩) n n) ∧ Net w' g rows n (netOf evs ties) ∧ w.heap.size ≤ g ∧ (∀ i, i < n → w.heap.size ≤ rows i) ∧ Below w.heap.size w w'

set_option maxRecDepth 100000 in
set_option maxHeartbeats 2000000 in
theorem build_any (A : Option Addr) (c : Nat) (evs : List Ev) (At : Option Addr) (ct : Nat) (ties : List Ti) (w : World) (h : kEv.C w A evs.length evs) (hc : evs.length ≤ c) (ht : kTi.C w At ties.length ties) (hct : ties.length ≤ ct)
    (hn : evs.length ≤ 40) (hnt : ties.length ≤ 80) (hck : (clocksOf evs).length ≤ 12) (hev : ∀ e ∈ evs, 0 ≤ e.shown ∧ e.shown ≤ 4294967295 ∧ 0 ≤ e.wide ∧ e.wide ≤ 4294967295) (hti : ∀ t ∈ ties, -1 ≤ t.a ∧ t.a < evs.length ∧ 0 ≤ t.b ∧ t.b < evs.length ∧ t.a ≠ t.b ∧ -4294967295 ≤ t.low ∧ t.low ≤ t.high ∧ t.high ≤ 4294967295) (n : Nat) (hcn : n = 1 + (clocksOf evs).length + evs.length) :
    Calls Tryd.prog 23 #[.slice A evs.length c, .slice At ties.length ct] w (BuildEnd evs ties n w) := by
  have hn' : (1 + ((clocksOf evs).length : Int) + (evs.length : Int)) = (n : Int) := by omega
  have Hcn := Lib.hid hcn
  clear hcn
  go_enter Tryd.func23, Tryd.ntmps23
  go_wp2_with fail
  refine (clocks_any A c evs w h hc (by omega)).mono ?_
  rintro e w1 ⟨v, rfl, hR, hB⟩
  obtain ⟨Ac, cc, rfl, hcc, hC⟩ := Kd.R_reads hR
  have hmk := print_make_of (P := Tryd.prog) 52 22 (.slice none 0 0) 24 (by kernel_rfl) (by kernel_rfl) rfl (by decide) n (by omega)
  have hmk2 := print_make_of (P := Tryd.prog) 22 3 (.int .i64 0) 8 (by kernel_rfl) (by kernel_rfl) rfl (by decide) n (by omega)
  go_wp2_with fail
  obtain ⟨W0, hW0⟩ : ∃ W0, W0 = (w1.alloc (Obj.cells #[Value.slice Ac (clocksOf evs).length cc] 56)).alloc (Obj.cells (madeCells #[Value.slice none 0 0] n) 22) := ⟨_, rfl⟩
  have hB0 : Below w1.heap.size w1 W0 := by rw [hW0]; exact below_alloc (below_alloc (Below.refl _ _) _) _
  have hz0 : w1.heap.size + 2 = W0.heap.size := by rw [hW0]; simp
  have hbox : W0.heap[w1.heap.size]? = some (.cells #[Value.slice Ac (clocksOf evs).length cc] 56 (0, 0)) := by rw [hW0]; exact blk_alloc (blk_new w1 _) _
  have hup : ∀ rows, NetUp W0 (w1.heap.size + 1) rows n 0 := fun rows => ⟨⟨_, by rw [hW0]; have := blk_new (w1.alloc (Obj.cells #[Value.slice Ac (clocksOf evs).length cc] 56)) (Obj.cells (madeCells #[Value.slice none 0 0] n) 22); simpa using this, size_madeCells _ _, fun i hi => absurd hi (by omega)⟩, fun i hi => absurd hi (by omega), fun i j hi => absurd hi (by omega), fun i hi => absurd hi (by omega), fun i hi => absurd hi (by omega)⟩
  rw [← hW0]
  clear hW0
  have hB0' := hB0
  generalize hgb : w1.heap.size = gb at hB0 hz0 hbox hup ⊢
  generalize hg : gb + 1 = g at hup ⊢
  have Hgb := Lib.hid hgb
  have Hg := Lib.hid hg
  clear hgb hg
  go_loopw [30] (fun i wr => ∃ k : Nat, k ≤ n ∧ i = .int .i64 k ∧ (∃ rows, NetUp wr g rows n k) ∧ Fr W0 wr (fun i => i = g)) (fun i _ => n - (intOf i).toNat)
  case atStart => exact ⟨0, by omega, rfl, ⟨fun _ => 0, hup _⟩, Fr.refl _ _⟩
  case round =>
    obtain ⟨k, hk, rfl, ⟨rows, hu⟩, hK⟩ := hrel
    by_cases hlt : k < n
    · obtain ⟨wo, rfl⟩ : ∃ wo : World, wo = wr := ⟨_, rfl⟩
      obtain ⟨v0, hv0⟩ := hu.outer_some hlt
      have hf0 := hu.outer_frozen (i := k)
      have hgl : g < wo.heap.size := World.block_lt_of_cell? _ _ hv0
      go_wp2
      obtain ⟨Wa, hWa⟩ : ∃ Wa, Wa = (wo.setCell { block := g, off := k } (Value.slice (some { block := wo.heap.size, off := 0 }) n n)).alloc (Obj.cells (madeCells #[Value.int IntKind.i64 0] n) 3) := ⟨_, rfl⟩
      have hrow : ∃ cs : Array Value, Wa.heap[wo.heap.size]? = some (.cells cs 3 (0, 0)) ∧ cs.size = n ∧ ∀ j, j < 0 → cs[j]? = some (.int .i64 17179869180) := ⟨_, by rw [hWa]; have := blk_new (wo.setCell { block := g, off := k } (Value.slice (some { block := wo.heap.size, off := 0 }) n n)) (Obj.cells (madeCells #[Value.int IntKind.i64 0] n) 3); simpa [World.setCell] using this, size_madeCells _ _, fun j hj => absurd hj (by omega)⟩
      have hca : Wa.cell? ⟨g, k, none⟩ = some (.slice (some { block := wo.heap.size, off := 0 }) n n) := by rw [hWa]; go_simp
      have HWa := Lib.hid hWa
      rw [← hWa]
      clear hWa
      have hrg : g ≠ wo.heap.size := Nat.ne_of_lt hgl
      go_loopw [43] (fun j wr => ∃ q : Nat, q ≤ n ∧ j = .int .i64 q ∧ (∃ cs : Array Value, wr.heap[wo.heap.size]? = some (.cells cs 3 (0, 0)) ∧ cs.size = n ∧ ∀ j, j < q → cs[j]? = some (.int .i64 17179869180)) ∧ Fr Wa wr (fun i => i = wo.heap.size)) (fun j _ => n - (intOf j).toNat)
      case atStart => exact ⟨0, by omega, rfl, hrow, Fr.refl _ _⟩
      case round =>
        obtain ⟨q, hq, rfl, ⟨cs, hcs, hcz, hcv⟩, hK2⟩ := hrel
        have hca' : wr.cell? ⟨g, k, none⟩ = some (.slice (some { block := wo.heap.size, off := 0 }) n n) := hK2.cell hca hrg
        have hfr : ∀ j, wr.frozen? ⟨wo.heap.size, j, none⟩ = false := fun j => blk_frozen hcs j
        by_cases hqt : q < n
        · have hold : wr.cell? ⟨wo.heap.size, q, none⟩ = some (cs[q]'(by omega)) := (blk_cell hcs q).trans (Array.getElem?_eq_getElem (by omega))
          generalize cs[q]'(by omega) = vq at hold
          go_wp2
          go_roundw
          case rel => exact ⟨q + 1, by omega, by go_num, ⟨_, blk_set hcs q _, by simpa using hcz, fun j hj => by
            by_cases e : j = q
            · subst e; simp [hcz, hqt]
            · rw [Array.getElem?_setIfInBounds_ne (Ne.symm e)]; exact hcv j (by omega)⟩, Fr.setCell (p := ⟨wo.heap.size, q, none⟩) hK2 (.inl rfl) _⟩
          case measure => simp [intOf]; omega
        · obtain rfl : n = q := by omega
          have hold : wr.cell? ⟨wo.heap.size, k, none⟩ = some (.int .i64 17179869180) := (blk_cell hcs k).trans (hcv k hlt)
          have E := hu.extend hlt (Obj.cells (madeCells #[Value.int IntKind.i64 0] n) 3) (wb := wr.setCell ⟨wo.heap.size, k, none⟩ (.int .i64 0)) (by rw [← HWa.out]; exact Fr.setCell (p := ⟨wo.heap.size, k, none⟩) hK2 (.inl rfl) _) ⟨_, blk_set hcs k _, by simpa using hcz, fun j hj => by
            by_cases e : j = k
            · subst e; simp [net0, hcz, hlt]
            · rw [Array.getElem?_setIfInBounds_ne (Ne.symm e), hcv j hj, net0, if_neg (Ne.symm e)]⟩
          have HE := Lib.hid E
          clear E
          go_wp2
          go_roundw
          case rel => exact ⟨k + 1, by omega, by go_num, ⟨_, HE.out.1⟩, hK.then_ HE.out.2 (fun _ hk => .inl hk)⟩
          case measure => simp [intOf]; omega
    · obtain rfl : n = k := by omega
      have hnet := hu.done
      have hgr : ∀ i, i < n → g < rows i := hu.ne
      have hKg : Fr W0 wr (fun i => g ≤ i) := hK.mono (fun k hk => Nat.le_of_eq hk.symm)
      clear hu hK
      have Hgr := Lib.hid hgr
      clear hgr
      go_wp2_with fail
      go_loopw [10] (fun i wr => ∃ m : Nat, 1 ≤ m ∧ m ≤ n ∧ i = .int .i64 m ∧ Net wr g rows n (net1 (m - 1)) ∧ Fr W0 wr (fun i => g ≤ i)) (fun i _ => n - (intOf i).toNat)
      case atStart => exact ⟨1, by omega, by have := Hcn.out; omega, rfl, hnet, hKg⟩
      case round =>
        obtain ⟨m, hm1, hm, rfl, h1, hK1⟩ := hrel
        by_cases hmt : m < n
        · go_wp2_with fail
          refine (between_any g n n rows (net1 (m - 1)) 0 m (-4294967295) 4294967295 wr h1 (by omega) hmt (by omega) (by omega)).mono ?_
          rintro e w2 ⟨rfl, h2, k2⟩
          have hK2 : Fr W0 w2 (fun i => g ≤ i) := hK1.then_ k2 (fun k hk => .inl (by have a1 := Hgr.out 0 (by omega); have a2 := Hgr.out m hmt; rcases hk with rfl | rfl <;> omega))
          go_wp2_with fail
          go_roundw
          case rel => exact ⟨m + 1, by omega, by omega, by go_num, by obtain ⟨q, rfl⟩ : ∃ q, m = q + 1 := ⟨m - 1, by omega⟩; exact h2, hK2⟩
          case measure => simp [intOf]; omega
        · obtain rfl : n = m := by omega
          have hold0 : ∀ k, k < gb → W0.heap[k]? = w1.heap[k]? := fun k hk => hB0.block k (by have := Hgb.out; omega)
          have hgg : g = gb + 1 := Hg.out.symm
          have hszw : w.heap.size ≤ gb := by have := hB.size; have := Hgb.out; omega
          have Hgg := Lib.hid hgg
          clear hgg
          go_wp2_with fail
          go_loopw [71] (fun i wr => ∃ m : Nat, m ≤ evs.length ∧ i = .int .i64 m ∧ Net wr g rows n (net2 (clocksOf evs) evs (net1 (n - 1)) m) ∧ Fr W0 wr (fun i => g ≤ i)) (fun i _ => evs.length - (intOf i).toNat)
          case atStart => exact ⟨0, by omega, rfl, h1, hK1⟩
          case round =>
            obtain ⟨m, hm, rfl, h1, hK1⟩ := hrel
            have hold1 : ∀ k, k < gb → wr.heap[k]? = w1.heap[k]? := fun k hk => (hK1.block (by omega) (by have := Hgg.out; omega)).trans (hold0 k hk)
            have hcellold : ∀ a v, a.block < w.heap.size → w.cell? a = some v → wr.cell? a = some v := fun a v ha hv => by
              have e1 := (hold1 a.block (by omega)).trans (hB.block a.block ha)
              simpa [World.cell?, e1] using hv
            have hbk := hK1.blk hbox (by have := Hgg.out; omega)
            have hbx : wr.cell? ⟨gb, 0, none⟩ = some (.slice Ac (clocksOf evs).length cc) := (blk_cell hbk 0).trans rfl
            by_cases hmt : m < evs.length
            · obtain ⟨x, hx⟩ : ∃ x, evs[m]? = some x := ⟨_, List.getElem?_eq_getElem hmt⟩
              obtain ⟨b, o, rfl, hb, hcell⟩ := ev_addr h (by omega)
              obtain ⟨c0, c1, c2⟩ := hcell m x hx
              replace c0 := hcellold _ _ hb c0
              replace c1 := hcellold _ _ hb c1
              replace c2 := hcellold _ _ hb c2
              have hxm : x ∈ evs := List.mem_of_getElem? hx
              have Hx := Lib.hid hx
              have hC1 : Kd.string.C wr Ac (clocksOf evs).length (clocksOf evs) := Kd.heap_string.C (fun k hk => hold1 k (by have := Hgb.out; omega)) hC
              have hgbl : gb < wr.heap.size := World.block_lt_of_cell? _ _ hbx
              clear hx hcell hcellold hold1
              go_wp2_with fail
              refine (bsearch_any Ac cc _ x.clock _ (Kd.C_alloc hC1 _) (clocksOf_sorted evs) (mem_clocksOf hxm) (by omega)).mono ?_
              rintro e w2 ⟨rfl, q, rfl⟩
              go_wp2_with fail
              have hxi := idxB_lt (mem_clocksOf hxm)
              obtain ⟨hv1, hv2, hv3, hv4⟩ := hev x hxm
              generalize hxq : idxB (clocksOf evs) x.clock = xi at *
              have Hxq := Lib.hid hxq
              clear hxq
              generalize hW2 : (wr.alloc (Obj.cells #[Value.string x.clock, Value.int IntKind.i64 x.shown, Value.int IntKind.i64 x.wide] 47)).drewN q = W2
              have hb0 : W2.heap[wr.heap.size]? = some (.cells #[Value.string x.clock, Value.int IntKind.i64 x.shown, Value.int IntKind.i64 x.wide] 47 (0, 0)) := by rw [← hW2]; exact blk_drewN (blk_new wr _) q
              have d1 : W2.cell? ⟨wr.heap.size, 1, none⟩ = some (.int .i64 x.shown) := (blk_cell hb0 1).trans rfl
              have d2 : W2.cell? ⟨wr.heap.size, 2, none⟩ = some (.int .i64 x.wide) := (blk_cell hb0 2).trans rfl
              have hbx2 : W2.cell? ⟨gb, 0, none⟩ = some (.slice Ac (clocksOf evs).length cc) := by rw [← hW2]; exact (blk_cell (blk_drewN (blk_alloc hbk _) q) 0).trans rfl
              have hNW : Net W2 g rows n (net2 (clocksOf evs) evs (net1 (n - 1)) m) := by rw [← hW2]; exact (h1.kept ((Kept.refl wr (fun _ => False)).alloc _) (fun h => h) (fun _ _ h => h)).heap rfl
              have hKW : Fr W0 W2 (fun i => g ≤ i) := by rw [← hW2]; exact (hK1.alloc _).drewN q
              clear hb0 hW2 c0 c1 c2 hbx hbk h1 hK1
              go_still_tail 16, (by kernel_rfl)
              still_call (at_any gb Ac _ cc m W2.drew hbx2 (by omega) (by omega))
              repeat still_step
              try refine wpStill_nil ?_
              change wpList _ _ _ _ _ W2.drew
              have hN3 : Net W2.drew g rows n _ := hNW.heap rfl
              have hK3 : Fr W0 W2.drew (fun i => g ≤ i) := hKW.drew
              clear hNW hKW hbx2 d1 d2
              generalize W2.drew = W3 at *
              have hat : atT (clocksOf evs).length m = 1 + (clocksOf evs).length + m := by rw [atT, if_neg (by omega)]; omega
              have Hat := Lib.hid hat
              clear hat
              go_wp2_with fail
              rw [show (1 + (xi : Int)) = ((1 + xi : Nat) : Int) from by omega, Hat.out]
              refine (between_any g n n rows _ (1 + xi) (1 + (clocksOf evs).length + m) _ _ _ hN3 (by have := Hcn.out; omega) (by have := Hcn.out; omega) (by omega) (by omega)).mono ?_
              rintro e w4 ⟨rfl, h4, k4⟩
              have hK4 : Fr W0 w4 (fun i => g ≤ i) := hK3.then_ k4 (fun k hk => .inl (by have hh := Hcn.out; have a1 := Hgr.out (1 + xi) (by omega); have a2 := Hgr.out (1 + (clocksOf evs).length + m) (by omega); rcases hk with rfl | rfl <;> omega))
              go_wp2_with fail
              go_roundw
              case rel => exact ⟨m + 1, by omega, by go_num, by rw [net2, Hx.out]; dsimp only; rw [Hxq.out]; exact h4, hK4⟩
              case measure => simp [intOf]; omega
            · obtain rfl : evs.length = m := by omega
              have hM2 : Net wr g rows n (net2 (clocksOf evs) evs (net1 (n - 1)) evs.length) := h1
              generalize hMM : net2 (clocksOf evs) evs (net1 (n - 1)) evs.length = M2 at hM2
              have HM2 := Lib.hid hMM
              clear hMM
              clear h1
              go_wp2_with fail
              go_loopw [103] (fun i wr => ∃ m : Nat, m ≤ ties.length ∧ i = .int .i64 m ∧ Net wr g rows n (net3 (clocksOf evs).length ties M2 m) ∧ Fr W0 wr (fun i => g ≤ i)) (fun i _ => ties.length - (intOf i).toNat)
              case atStart => exact ⟨0, by omega, rfl, hM2, hK1⟩
              case round =>
                obtain ⟨m, hm, rfl, h1, hK1⟩ := hrel
                have hold1 : ∀ k, k < gb → wr.heap[k]? = w1.heap[k]? := fun k hk => (hK1.block (by omega) (by have := Hgg.out; omega)).trans (hold0 k hk)
                have hcellold : ∀ a v, a.block < w.heap.size → w.cell? a = some v → wr.cell? a = some v := fun a v ha hv => by
                  have e1 := (hold1 a.block (by omega)).trans (hB.block a.block ha)
                  simpa [World.cell?, e1] using hv
                have hbk := hK1.blk hbox (by have := Hgg.out; omega)
                by_cases hmt : m < ties.length
                · obtain ⟨x, hx⟩ : ∃ x, ties[m]? = some x := ⟨_, List.getElem?_eq_getElem hmt⟩
                  obtain ⟨b, o, rfl, hb, hcell⟩ := ti_addr ht (by omega)
                  obtain ⟨c0, c1, c2, c3⟩ := hcell m x hx
                  replace c0 := hcellold _ _ hb c0
                  replace c1 := hcellold _ _ hb c1
                  replace c2 := hcellold _ _ hb c2
                  replace c3 := hcellold _ _ hb c3
                  have hxm : x ∈ ties := List.mem_of_getElem? hx
                  have Hx := Lib.hid hx
                  clear hx hcell hcellold hold1
                  go_wp2_with fail
                  obtain ⟨hv1, hv2, hv3, hv4, hv5, hv6, hv7, hv8⟩ := hti x hxm
                  generalize hW2 : wr.alloc (Obj.cells #[Value.int IntKind.i64 x.a, Value.int IntKind.i64 x.b, Value.int IntKind.i64 x.low, Value.int IntKind.i64 x.high] 49) = W2
                  have hb0 : W2.heap[wr.heap.size]? = some (.cells #[Value.int IntKind.i64 x.a, Value.int IntKind.i64 x.b, Value.int IntKind.i64 x.low, Value.int IntKind.i64 x.high] 49 (0, 0)) := by rw [← hW2]; exact blk_new wr _
                  have d0 : W2.cell? ⟨wr.heap.size, 0, none⟩ = some (.int .i64 x.a) := (blk_cell hb0 0).trans rfl
                  have d1 : W2.cell? ⟨wr.heap.size, 1, none⟩ = some (.int .i64 x.b) := (blk_cell hb0 1).trans rfl
                  have d2 : W2.cell? ⟨wr.heap.size, 2, none⟩ = some (.int .i64 x.low) := (blk_cell hb0 2).trans rfl
                  have d3 : W2.cell? ⟨wr.heap.size, 3, none⟩ = some (.int .i64 x.high) := (blk_cell hb0 3).trans rfl
                  have hbx2 : W2.cell? ⟨gb, 0, none⟩ = some (.slice Ac (clocksOf evs).length cc) := by rw [← hW2]; exact (blk_cell (blk_alloc hbk _) 0).trans rfl
                  have hNW : Net W2 g rows n (net3 (clocksOf evs).length ties M2 m) := by rw [← hW2]; exact h1.kept ((Kept.refl wr (fun _ => False)).alloc _) (fun h => h) (fun _ _ h => h)
                  have hKW : Fr W0 W2 (fun i => g ≤ i) := by rw [← hW2]; exact hK1.alloc _
                  clear hb0 hW2 c0 c1 c2 c3 hbk h1 hK1
                  go_still_tail 13, (by kernel_rfl)
                  still_call (at_any gb Ac _ cc x.a W2.drew hbx2 (by omega) (by omega))
                  repeat still_step
                  still_call (at_any gb Ac _ cc x.b W2.drew hbx2 (by omega) (by omega))
                  repeat still_step
                  try refine wpStill_nil ?_
                  change wpList _ _ _ _ _ W2.drew
                  have hN3 : Net W2.drew g rows n _ := hNW.heap rfl
                  have hK3 : Fr W0 W2.drew (fun i => g ≤ i) := hKW.drew
                  clear hNW hKW hbx2 d0 d1 d2 d3
                  generalize W2.drew = W3 at *
                  have ha1 : atT (clocksOf evs).length x.a < n := by have := Hcn.out; rw [atT]; split <;> omega
                  have ha2 : atT (clocksOf evs).length x.b < n := by have := Hcn.out; rw [atT]; split <;> omega
                  go_wp2_with fail
                  refine (between_any g n n rows _ _ _ _ _ _ hN3 ha1 ha2 (by omega) (by omega)).mono ?_
                  rintro e w4 ⟨rfl, h4, k4⟩
                  have hK4 : Fr W0 w4 (fun i => g ≤ i) := hK3.then_ k4 (fun k hk => .inl (by have a1 := Hgr.out _ ha1; have a2 := Hgr.out _ ha2; rcases hk with rfl | rfl <;> omega))
                  go_wp2_with fail
                  go_roundw
                  case rel => exact ⟨m + 1, by omega, by go_num, by rw [net3, Hx.out]; exact h4, hK4⟩
                  case measure => simp [intOf]; omega
                · obtain rfl : ties.length = m := by omega
                  go_wp2_with fail
                  go_ret
                  have hh := Hcn.out
                  refine ⟨g, rows, rfl, ?_, by have := Hgg.out; omega, fun i hi => by have := Hgr.out i hi; have := Hgg.out; omega, ?_⟩
                  · rw [netOf, show (clocksOf evs).length + evs.length = n - 1 from by omega, HM2.out]
                    exact h1
                  · exact hB.trans ((Fr.of_below hB0' (fun i => g ≤ i)).then_ hK1 (fun _ hk => .inl hk) |>.toBelow (by have := hB.size; omega) (fun k hk => by have := Hgg.out; omega))
end Go.Proofs.YtjbmnbdlicmpoaaDoor
