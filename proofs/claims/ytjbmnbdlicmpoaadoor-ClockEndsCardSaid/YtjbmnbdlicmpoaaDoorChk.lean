/-
  Check of right events and ties; Named of a name.
-/
import Derived.Test.YtjbmnbdlicmpoaaDoorBs
import Derived.Test.YtjbmnbdlicmpoaaDoorRead
namespace Go.Proofs.YtjbmnbdlicmpoaaDoor
open Go.RowKit
open Go.Proofs.YtjbmnbdlicmpoaaDoorW.PrintWords

/-- The byte of a string at a place, as a number. -/
def byteAt (s : ByteArray) (i : Nat) : Int := if h : i < s.size then ((s[i]'h).toNat : Int) else 0
theorem byteAt_eq {s : ByteArray} {i : Nat} (h : i < s.size) : ((s[i]'h).toNat : Int) = byteAt s i := by simp [byteAt, h]
def chOk (c : Int) : Prop := (97 ≤ c ∧ c ≤ 122) ∨ (48 ≤ c ∧ c ≤ 57) ∨ c = 45
instance (c : Int) : Decidable (chOk c) := inferInstanceAs (Decidable (_ ∨ _))
/-- A name: a small letter, then letters, digits and hyphens; at most 12. -/
def nameOk (s : ByteArray) : Prop := 0 < s.size ∧ s.size ≤ 12 ∧ 97 ≤ byteAt s 0 ∧ byteAt s 0 ≤ 122 ∧ ∀ i, i < s.size → chOk (byteAt s i)

set_option maxRecDepth 100000 in
set_option maxHeartbeats 1000000 in
theorem named_ok (s : ByteArray) (w : World) (h : nameOk s) : Calls Tryd.prog 22 #[.string s] w fun e w' => e = .returned (.bool true) ∧ w = w' := by
  obtain ⟨h1, h2, h3, h4, h5⟩ := h
  have e0 : s.toList.isEmpty = false := by
    rw [ByteArray.toList_eq]
    have : s.data.toList.length = s.size := by simp
    cases hl : s.data.toList with
    | nil => rw [hl] at this; simp at this; omega
    | cons a b => rfl
  have e1 : (s.toList == []) = false := by
    cases hl : s.toList with
    | nil => rw [hl] at e0; simp at e0
    | cons a b => rfl
  rw [← byteAt_eq h1] at h3 h4
  go_enter Tryd.func22, Tryd.ntmps22
  go_wp2
  go_loop [24] (fun i => ∃ k : Nat, k ≤ s.size ∧ i = .int .i64 k) (fun i => s.size - (intOf i).toNat)
  case atStart => exact ⟨0, by omega, rfl⟩
  case round =>
    obtain ⟨k, hk, rfl⟩ := hrel
    by_cases hlt : k < s.size
    · have hch := h5 k hlt
      rw [← byteAt_eq hlt] at hch
      clear h5
      rcases hch with ⟨a1, a2⟩ | ⟨a1, a2⟩ | a1
      · go_wp2
        go_round
        case rel => exact ⟨k + 1, by omega, by go_num⟩
        case measure => simp [intOf]; omega
      · go_wp2
        go_round
        case rel => exact ⟨k + 1, by omega, by go_num⟩
        case measure => simp [intOf]; omega
      · have a2 : ((s[k].toNat : Int) != 45) = false := by rw [a1]; rfl
        have a3 : (s[k].toNat : Int) ≤ 45 := by omega
        clear a1
        go_wp2
        go_round
        case rel => exact ⟨k + 1, by omega, by go_num⟩
        case measure => simp [intOf]; omega
    · go_wp2
      go_ret
      exact ⟨rfl, rfl⟩

/-- Right events and ties. -/
structure Good (evs : List Ev) (ties : List Ti) : Prop where
  nev : evs.length ≤ 40
  nti : ties.length ≤ 80
  nck : (clocksOf evs).length ≤ 12
  name : ∀ e ∈ evs, nameOk e.clock
  ev : ∀ e ∈ evs, 0 ≤ e.shown ∧ e.shown ≤ 4294967295 ∧ 0 ≤ e.wide ∧ e.wide ≤ 4294967295
  ti : ∀ t ∈ ties, -1 ≤ t.a ∧ t.a < evs.length ∧ 0 ≤ t.b ∧ t.b < evs.length ∧ t.a ≠ t.b ∧ -4294967295 ≤ t.low ∧ t.low ≤ t.high ∧ t.high ≤ 4294967295

set_option maxRecDepth 100000 in
set_option maxHeartbeats 2000000 in
theorem check_ok (A : Option Addr) (c : Nat) (evs : List Ev) (At : Option Addr) (ct : Nat) (ties : List Ti) (w : World) (h : kEv.C w A evs.length evs) (hc : evs.length ≤ c) (ht : kTi.C w At ties.length ties) (hG : Good evs ties) :
    Calls Tryd.prog 15 #[.slice A evs.length c, .slice At ties.length ct] w fun e w' => e = .returned (.int .i64 0) ∧ Below w.heap.size w w' := by
  obtain ⟨g1, g2, g3, g4, g5, g6⟩ := hG
  have G4 := Lib.hid g4
  have G5 := Lib.hid g5
  have G6 := Lib.hid g6
  clear g4 g5 g6
  go_enter Tryd.func15, Tryd.ntmps15
  go_wp2_with fail
  refine (clocks_any A c evs w h hc (by omega)).mono ?_
  rintro e w1 ⟨v, rfl, hR, hB⟩
  obtain ⟨Ac, cc, rfl, hcc, hC⟩ := Kd.R_reads hR
  clear hR hC
  go_wp2_with fail
  go_loopw [25] (fun i wr => ∃ m : Nat, m ≤ evs.length ∧ i = .int .i64 m ∧ Below w.heap.size w wr) (fun i _ => evs.length - (intOf i).toNat)
  case atStart => exact ⟨0, by omega, rfl, hB⟩
  case round =>
    obtain ⟨m, hm, rfl, hBr⟩ := hrel
    by_cases hmt : m < evs.length
    · obtain ⟨x, hx⟩ : ∃ x, evs[m]? = some x := ⟨_, List.getElem?_eq_getElem hmt⟩
      obtain ⟨b, o, rfl, hb, hcell⟩ := ev_addr h (by omega)
      obtain ⟨c0, c1, c2⟩ := hcell m x hx
      replace c0 := (hBr.cell hb).trans c0
      replace c1 := (hBr.cell hb).trans c1
      replace c2 := (hBr.cell hb).trans c2
      have hxm : x ∈ evs := List.mem_of_getElem? hx
      obtain ⟨v1, v2, v3, v4⟩ := G5.out x hxm
      have hN := G4.out x hxm
      clear hx hcell
      go_wp2_with fail
      refine (named_ok x.clock _ hN).mono ?_
      rintro e w2 ⟨rfl, rfl⟩
      go_wp2_with fail
      go_roundw
      case rel => exact ⟨m + 1, by omega, by go_num, hBr.alloc hBr.size _⟩
      case measure => simp [intOf]; omega
    · obtain rfl : evs.length = m := by omega
      go_wp2_with fail
      go_loopw [54] (fun i wr => ∃ m : Nat, m ≤ ties.length ∧ i = .int .i64 m ∧ Below w.heap.size w wr) (fun i _ => ties.length - (intOf i).toNat)
      case atStart => exact ⟨0, by omega, rfl, hBr⟩
      case round =>
        obtain ⟨m, hm, rfl, hBr⟩ := hrel
        by_cases hmt : m < ties.length
        · obtain ⟨x, hx⟩ : ∃ x, ties[m]? = some x := ⟨_, List.getElem?_eq_getElem hmt⟩
          obtain ⟨b, o, rfl, hb, hcell⟩ := ti_addr ht (by omega)
          obtain ⟨c0, c1, c2, c3⟩ := hcell m x hx
          replace c0 := (hBr.cell hb).trans c0
          replace c1 := (hBr.cell hb).trans c1
          replace c2 := (hBr.cell hb).trans c2
          replace c3 := (hBr.cell hb).trans c3
          have hxm : x ∈ ties := List.mem_of_getElem? hx
          obtain ⟨v1, v2, v3, v4, v5, v6, v7, v8⟩ := G6.out x hxm
          have v9 : (x.a == x.b) = false := beq_eq_false_iff_ne.2 v5
          clear hx hcell v5
          go_wp2_with fail
          go_roundw
          case rel => exact ⟨m + 1, by omega, by go_num, hBr.alloc hBr.size _⟩
          case measure => simp [intOf]; omega
        · obtain rfl : ties.length = m := by omega
          go_wp2_with fail
          go_ret
          exact ⟨rfl, hBr⟩
end Go.Proofs.YtjbmnbdlicmpoaaDoor
