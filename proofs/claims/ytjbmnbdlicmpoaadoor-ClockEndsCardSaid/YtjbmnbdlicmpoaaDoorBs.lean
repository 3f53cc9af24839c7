/-
  The names of clocks are strictly sorted and are just the events' own; where a name of them is found.
-/
import Derived.Test.YtjbmnbdlicmpoaaDoorClocks
import Derived.Test.YtjbmnbdlicmpoaaDoorSorted
namespace Go.Proofs.YtjbmnbdlicmpoaaDoor
open Go.RowKit
open Go.Proofs.YtjbmnbdlicmpoaaDoorW.PrintWords

def leB (x y : List UInt8) : Bool := decide (x ≤ y)
theorem leB_anti (x y : List UInt8) (h1 : leB x y = true) (h2 : leB y x = true) : x = y := List.le_antisymm (of_decide_eq_true h1) (of_decide_eq_true h2)
theorem leB_trans (x y z : List UInt8) (h1 : leB x y = true) (h2 : leB y z = true) : leB x z = true := decide_eq_true (List.le_trans (of_decide_eq_true h1) (of_decide_eq_true h2))
theorem leB_total (x y : List UInt8) : (leB x y || leB y x) = true := by
  rcases List.le_total x y with h | h <;> simp [leB, h]
theorem leB_lt {x y : List UInt8} (h : leB x y = true) (hne : x ≠ y) : x < y := by
  have h1 : x ≤ y := of_decide_eq_true h
  by_cases h2 : x < y
  · exact h2
  · exact absurd (List.le_antisymm h1 (List.not_lt.1 h2)) hne
theorem bytesL_inj {a b : ByteArray} (h : bytesL a = bytesL b) : a = b := by rw [← ofL_bytesL a, h, ofL_bytesL]

theorem strict_sorted (xs : List ByteArray) : (compactS (sortS xs)).Pairwise (fun x y => bytesL x < bytesL y) ∧ ∀ x, x ∈ compactS (sortS xs) ↔ x ∈ xs := by
  have hp : ((xs.map bytesL).mergeSort leB).Pairwise (fun x y => leB x y = true) := List.pairwise_mergeSort leB_trans leB_total _
  have hm : (sortS xs).map bytesL = (xs.map bytesL).mergeSort leB := by
    unfold sortS
    rw [List.map_map, show (bytesL ∘ ofL) = id from funext bytesL_ofL, List.map_id]
    rfl
  obtain ⟨h1, h2⟩ := compact_sorted leB_anti leB_trans _ _ rfl hp
  unfold compactS
  rw [hm]
  refine ⟨?_, fun x => ?_⟩
  · rw [List.pairwise_map]
    refine h1.imp fun hxy => ?_
    rw [bytesL_ofL, bytesL_ofL]
    exact leB_lt hxy.1 hxy.2
  · rw [List.mem_map]
    constructor
    · rintro ⟨l, hl, rfl⟩
      have := (h2 l).1 hl
      rw [List.mem_mergeSort, List.mem_map] at this
      obtain ⟨a, ha, rfl⟩ := this
      rw [ofL_bytesL]
      exact ha
    · intro hx
      exact ⟨bytesL x, (h2 _).2 (by rw [List.mem_mergeSort]; exact List.mem_map_of_mem hx), ofL_bytesL x⟩
theorem clocksOf_sorted (evs : List Ev) : (clocksOf evs).Pairwise (fun x y => bytesL x < bytesL y) := (strict_sorted _).1
theorem mem_clocksOf {evs : List Ev} {e : Ev} (h : e ∈ evs) : e.clock ∈ clocksOf evs := ((strict_sorted _).2 _).2 (List.mem_map_of_mem h)

/-- Where a string stands in a list. -/
def idxB (ck : List ByteArray) (x : ByteArray) : Nat := (ck.map bytesL).idxOf (bytesL x)
theorem idxB_get {ck : List ByteArray} {x : ByteArray} (h : x ∈ ck) : ck[idxB ck x]? = some x := by
  have h0 : bytesL x ∈ ck.map bytesL := List.mem_map_of_mem h
  have h1 : idxB ck x < (ck.map bytesL).length := List.idxOf_lt_length_of_mem h0
  have h2 : (ck.map bytesL)[idxB ck x] = bytesL x := List.getElem_idxOf h1
  rw [List.getElem_map] at h2
  rw [List.getElem?_eq_getElem (by simpa using h1), bytesL_inj h2]
theorem idxB_lt {ck : List ByteArray} {x : ByteArray} (h : x ∈ ck) : idxB ck x < ck.length := (List.getElem?_eq_some_iff.1 (idxB_get h)).1

theorem bsearch_any (A : Option Addr) (c : Nat) (ck : List ByteArray) (x : ByteArray) (w : World) (h : Kd.string.C w A ck.length ck) (hs : ck.Pairwise (fun x y => bytesL x < bytesL y)) (hx : x ∈ ck) (hn : ck.length ≤ 1000000) :
    Calls Tryd.prog 20 #[.slice A ck.length c, .string x] w fun e w' => e = .returned (.tuple #[.int .i64 (idxB ck x), .bool true]) ∧ ∃ q, w' = w.drewN q := by
  have hpos : 0 < ck.length := List.length_pos_of_mem hx
  obtain ⟨b, o, rfl, hb, hcell⟩ := C_cells h hpos
  have hk := idxB_lt hx
  have hkx := idxB_get hx
  rw [List.getElem?_eq_getElem hk, Option.some.injEq] at hkx
  generalize hq : idxB ck x = k at hk hkx
  have hc := Any2.slices_BinarySearch_string Tryd.laysBSS b o ck.length c (fun t => ck.getD t x) x w (by omega) (fun j hj => by
    rw [hcell j _ (List.getElem?_eq_getElem hj)]
    simp [List.getD_eq_getElem?_getD, hj])
  have hgo : Lib.bsGo (fun t => Op.bytesLess (ck.getD t x).toList x.toList) ck.length 0 ck.length = k := by
    rw [List.pairwise_iff_getElem] at hs
    refine Lib.bsGo_spec _ k ?_ ?_ _ _ _ (by omega) (by omega) (by omega)
    · intro t ht
      have := hs t k (by omega) hk ht
      rw [hkx] at this
      rw [bytesLess_eq, ByteArray.toList_eq, ByteArray.toList_eq]
      simpa [List.getD_eq_getElem?_getD, show t < ck.length by omega, bytesL] using this
    · intro t ht
      rw [bytesLess_eq, ByteArray.toList_eq, ByteArray.toList_eq]
      by_cases htl : t < ck.length
      · have h3 : ¬ bytesL ck[t] < bytesL x := by
          rcases Nat.lt_or_eq_of_le ht with h4 | h4
          · have := hs k t hk htl h4
            rw [hkx] at this
            exact fun h5 => List.lt_irrefl _ (List.lt_trans this h5)
          · subst h4
            rw [hkx]
            exact List.lt_irrefl _
        simpa [List.getD_eq_getElem?_getD, htl, bytesL] using h3
      · have : ck.getD t x = x := by simp [List.getD_eq_getElem?_getD, List.getElem?_eq_none (Nat.not_lt.1 htl)]
        rw [this]
        simp
  rw [hgo] at hc
  refine hc.mono ?_
  rintro e w' ⟨rfl, hw⟩
  refine ⟨?_, hw⟩
  simp [hk, hkx]
end Go.Proofs.YtjbmnbdlicmpoaaDoor
