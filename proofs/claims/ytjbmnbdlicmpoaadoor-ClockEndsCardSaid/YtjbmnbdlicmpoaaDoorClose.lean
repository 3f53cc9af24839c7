/-
  What close does to a net: the stages, one row after the other, with an end where a diagonal number is below zero.
-/
import Derived.Test.YtjbmnbdlicmpoaaDoorNet
import Derived.LoopTactic
import Derived.Deep.LoopGhost
namespace Go.Proofs.YtjbmnbdlicmpoaaDoor
open Go.RowKit
open Go.Proofs.YtjbmnbdlicmpoaaDoorW.PrintWords

def jl (k i : Nat) : Nat → (Nat → Nat → Int) → (Nat → Nat → Int)
  | 0, M => M
  | j + 1, M => upd (jl k i j M) i j (min (jl k i j M i j) (jl k i j M i k + jl k i j M k j))
def il (n k : Nat) : Nat → (Nat → Nat → Int) → Option (Nat → Nat → Int)
  | 0, M => some M
  | m + 1, M => (il n k m M).bind fun M1 => if jl k m n M1 m m < 0 then none else some (jl k m n M1)
def kl (n : Nat) : Nat → (Nat → Nat → Int) → Option (Nat → Nat → Int)
  | 0, M => some M
  | m + 1, M => (kl n m M).bind (il n m n)

/-- Every number on the way is small. -/
def SafeNet (n : Nat) (M : Nat → Nat → Int) : Prop :=
  ∀ k m j M1 M2, k < n → m < n → j ≤ n → kl n k M = some M1 → il n k m M1 = some M2 → ∀ a b, a < n → b < n → -1000000000000000 ≤ jl k m j M2 a b ∧ jl k m j M2 a b ≤ 1000000000000000

theorem il_none {n k : Nat} {M : Nat → Nat → Int} {m : Nat} (h : il n k m M = none) : ∀ d, il n k (m + d) M = none
  | 0 => h
  | d + 1 => by rw [← Nat.add_assoc, il, il_none h d]; rfl
theorem kl_none {n : Nat} {M : Nat → Nat → Int} {m : Nat} (h : kl n m M = none) : ∀ d, kl n (m + d) M = none
  | 0 => h
  | d + 1 => by rw [← Nat.add_assoc, kl, kl_none h d]; rfl
theorem kl_stop {n k m : Nat} {M M1 M2 : Nat → Nat → Int} (hk : k < n) (hm : m < n) (h1 : kl n k M = some M1) (h2 : il n k m M1 = some M2) (hneg : jl k m n M2 m m < 0) : kl n n M = none := by
  have e1 : il n k (m + 1) M1 = none := by rw [il, h2, Option.bind_some, if_pos hneg]
  have e2 : il n k n M1 = none := by
    have := il_none e1 (n - (m + 1))
    rwa [show m + 1 + (n - (m + 1)) = n by omega] at this
  have e3 : kl n (k + 1) M = none := by rw [kl, h1, Option.bind_some, e2]
  have := kl_none e3 (n - (k + 1))
  rwa [show k + 1 + (n - (k + 1)) = n by omega] at this
theorem if_min (a b : Int) : (if a < b then a else b) = min b a := by split <;> omega

def CloseEnd (g n : Nat) (rows : Nat → Nat) (M : Nat → Nat → Int) (w : World) (e : Ending) (w' : World) : Prop :=
  e = .returned (.bool (kl n n M).isSome) ∧ (∀ M', kl n n M = some M' → Net w' g rows n M') ∧ Fr w w' (fun k => ∃ i, i < n ∧ k = rows i)

set_option maxHeartbeats 1000000 in
set_option maxRecDepth 100000 in
theorem close_any (g n c : Nat) (rows : Nat → Nat) (M : Nat → Nat → Int) (w : World) (h : Net w g rows n M) (hn : n ≤ 1000000) (hs : SafeNet n M) :
    Calls Tryd.prog 24 #[.slice (some ⟨g, 0, none⟩) n c] w (CloseEnd g n rows M w) := by
  go_enter Tryd.func24, Tryd.ntmps24
  go_wp2
  go_loopw [8] (fun k wr => ∃ kk : Nat, kk ≤ n ∧ k = .int .i64 kk ∧ (∃ M1, kl n kk M = some M1 ∧ Net wr g rows n M1) ∧ Fr w wr (fun k => ∃ i, i < n ∧ k = rows i)) (fun k _ => n - (intOf k).toNat)
  case atStart => exact ⟨0, by omega, rfl, ⟨M, rfl, h⟩, Fr.refl _ _⟩
  case round =>
    obtain ⟨k, hk, rfl, ⟨M1, hM1, h1⟩, hK1⟩ := hrel
    have HM1 := Lib.hid hM1
    clear hM1
    by_cases hlt : k < n
    · go_wp2
      obtain ⟨wo, rfl⟩ : ∃ wo : World, wo = wr := ⟨_, rfl⟩
      go_loopw [13] (fun i wr => ∃ m : Nat, m ≤ n ∧ i = .int .i64 m ∧ (∃ M2, il n k m M1 = some M2 ∧ Net wr g rows n M2) ∧ Fr w wr (fun k => ∃ i, i < n ∧ k = rows i)) (fun i _ => n - (intOf i).toNat)
      case atStart => exact ⟨0, by omega, rfl, ⟨M1, rfl, h1⟩, hK1⟩
      case round =>
        obtain ⟨m, hm, rfl, ⟨M2, hM2, h2⟩, hK2⟩ := hrel
        have HM2 := Lib.hid hM2
        clear hM2
        by_cases hmt : m < n
        · go_wp2
          obtain ⟨wp, rfl⟩ : ∃ wp : World, wp = wr := ⟨_, rfl⟩
          go_loopw [18] (fun j wr => ∃ q : Nat, q ≤ n ∧ j = .int .i64 q ∧ Net wr g rows n (jl k m q M2) ∧ Fr w wr (fun k => ∃ i, i < n ∧ k = rows i)) (fun j _ => n - (intOf j).toNat)
          case atStart => exact ⟨0, by omega, rfl, h2, hK2⟩
          case round =>
            obtain ⟨q, hq, rfl, h3, hK3⟩ := hrel
            by_cases hqt : q < n
            · have c1 := h3.outer_cell hmt
              have c2 := h3.outer_cell hlt
              have c3 := h3.cell hmt hqt
              have c4 := h3.cell hmt hlt
              have c5 := h3.cell hlt hqt
              have f1 := h3.frozen (j := q) hmt
              obtain ⟨b1, b2⟩ := hs k m q M1 M2 hlt hmt hq HM1.out HM2.out m k hmt hlt
              obtain ⟨b3, b4⟩ := hs k m q M1 M2 hlt hmt hq HM1.out HM2.out k q hlt hqt
              go_wp2
              go_region
              all_goals
                go_wp2
                go_roundw
                case rel => exact ⟨q + 1, by omega, by go_num, by rw [if_min]; exact (h3.set hmt hqt _).heap rfl, (Fr.setCell (p := ⟨rows m, q, none⟩) hK3 (.inl ⟨m, hmt, rfl⟩) _).drew⟩
                case measure => simp [intOf]; omega
            · obtain rfl : n = q := by omega
              have c1 := h3.outer_cell hmt
              have c2 := h3.cell hmt hmt
              by_cases hneg : jl k m n M2 m m < 0
              · go_wp2
                go_ret
                have e := kl_stop hlt hmt HM1.out HM2.out hneg
                refine ⟨by rw [e]; rfl, ?_, hK3⟩
                intro M' hM'
                rw [e] at hM'
                cases hM'

              · have hd := decide_eq_false hneg
                go_wp2
                go_roundw
                case rel => exact ⟨m + 1, by omega, by go_num, ⟨_, by rw [il, HM2.out, Option.bind_some, if_neg hneg], h3⟩, hK3⟩
                case measure => simp [intOf]; omega
        · obtain rfl : n = m := by omega
          go_wp2
          go_roundw
          case rel => exact ⟨k + 1, by omega, by go_num, ⟨M2, by rw [kl, HM1.out, Option.bind_some, HM2.out], h2⟩, hK2⟩
          case measure => simp [intOf]; omega
    · obtain rfl : n = k := by omega
      go_wp2
      go_ret
      have e := HM1.out
      refine ⟨by rw [e]; rfl, fun M' hM' => ?_, hK1⟩
      rw [e] at hM'
      cases hM'
      exact h1
end Go.Proofs.YtjbmnbdlicmpoaaDoor
