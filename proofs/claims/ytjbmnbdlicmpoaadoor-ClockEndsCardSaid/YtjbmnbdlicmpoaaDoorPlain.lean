/-
  What close computes, in plain numbers: potentials, closedness, and how small the numbers stay.
-/
import Derived.Test.YtjbmnbdlicmpoaaDoorClose
namespace Go.Proofs.YtjbmnbdlicmpoaaDoor

/-- y is a potential of M. -/
def Pot (n : Nat) (y : Nat → Int) (M : Nat → Nat → Int) : Prop := ∀ i j, i < n → j < n → y j - y i ≤ M i j
def Diag (n : Nat) (M : Nat → Nat → Int) : Prop := ∀ i, i < n → M i i = 0
def Lo (n : Nat) (L : Int) (M : Nat → Nat → Int) : Prop := ∀ i j, i < n → j < n → -L ≤ M i j
def Hi (n : Nat) (U : Int) (M : Nat → Nat → Int) : Prop := ∀ i j, i < n → j < n → M i j ≤ U
def Tri (n k : Nat) (M : Nat → Nat → Int) : Prop := ∀ m, m < k → ∀ i j, i < n → j < n → M i j ≤ M i m + M m j

theorem upd_at (M : Nat → Nat → Int) (i j : Nat) (v : Int) (a b : Nat) : upd M i j v a b = if a = i ∧ b = j then v else M a b := rfl

/-- One row of a stage, done in place, where the stage's own diagonal is zero. -/
theorem jl_row {n k i : Nat} {M : Nat → Nat → Int} (hkk : M k k = 0) (a b : Nat) : ∀ j, jl k i j M a b = if a = i ∧ b < j then min (M i b) (M i k + M k b) else M a b
  | 0 => by rw [jl, if_neg (by omega)]
  | j + 1 => by
    have h1 := jl_row (n := n) (i := i) hkk i j j
    have h2 := jl_row (n := n) (i := i) hkk i k j
    have h3 := jl_row (n := n) (i := i) hkk k j j
    have h4 := jl_row (n := n) (i := i) hkk a b j
    rw [jl, upd_at, h1, h2, h3, h4]
    by_cases e1 : a = i
    · subst e1
      by_cases e2 : b = j
      · subst e2
        have q : b < b + 1 := by omega
        simp only [Nat.lt_irrefl, and_false, if_false, q, and_self, if_true, true_and]
        split <;> omega
      · rw [if_neg (by omega)]
        by_cases e5 : b < j
        · rw [if_pos ⟨rfl, e5⟩, if_pos ⟨rfl, by omega⟩]
        · rw [if_neg (by omega), if_neg (by omega)]
    · rw [if_neg (by omega), if_neg (by omega), if_neg (by omega)]

/-- One stage, in place, row for row. -/
theorem il_rows {n k : Nat} {M M2 : Nat → Nat → Int} (hk : k < n) (hd : Diag n M) : ∀ m, m ≤ n → il n k m M = some M2 →
    (∀ a b, b < n → M2 a b = if a < m then min (M a b) (M a k + M k b) else M a b) ∧ Diag n M2
  | 0, _, h => by
    rw [il] at h
    cases h
    exact ⟨fun a b _ => by rw [if_neg (by omega)], hd⟩
  | m + 1, hm, h => by
    rw [il] at h
    obtain ⟨M1, h1, h2⟩ := Option.bind_eq_some_iff.1 h
    obtain ⟨i1, i2⟩ := il_rows hk hd m (by omega) h1
    split at h2
    · cases h2
    rename_i hneg
    cases h2
    have hr := fun a b => jl_row (n := n) (i := m) (i2 k hk) a b n
    have hkk := hd k hk
    refine ⟨fun a b hb => ?_, fun i hi => ?_⟩
    · rw [hr a b]
      by_cases e1 : a = m
      · subst e1
        rw [if_pos ⟨rfl, hb⟩, if_pos (by omega), i1 _ b hb, i1 _ k hk, i1 k b hb, if_neg (by omega)]
        by_cases e2 : k < a
        · rw [if_pos e2]
          rw [if_neg (by omega)]
          omega
        · rw [if_neg e2, if_neg (by omega)]
      · rw [if_neg (by omega), i1 a b hb]
        by_cases e2 : a < m
        · rw [if_pos e2, if_pos (by omega)]
        · rw [if_neg e2, if_neg (by omega)]
    · rw [hr i i]
      by_cases e1 : i = m
      · subst e1
        rw [if_pos ⟨rfl, hi⟩]
        rw [hr i i, if_pos ⟨rfl, hi⟩] at hneg
        have := i2 i hi
        omega
      · rw [if_neg (by omega)]
        exact i2 i hi

theorem il_stage {n k : Nat} {M M2 : Nat → Nat → Int} (hk : k < n) (hd : Diag n M) (h : il n k n M = some M2) :
    (∀ a b, a < n → b < n → M2 a b = min (M a b) (M a k + M k b)) ∧ Diag n M2 := by
  obtain ⟨h1, h2⟩ := il_rows hk hd n (Nat.le_refl _) h
  exact ⟨fun a b ha hb => by rw [h1 a b hb, if_pos ha], h2⟩

theorem kl_facts {n : Nat} {M M2 : Nat → Nat → Int} (hd : Diag n M) {U : Int} (hU : Hi n U M) (hU0 : 0 ≤ U) (hL : Lo n U M) : ∀ k, k ≤ n → kl n k M = some M2 →
    Diag n M2 ∧ Tri n k M2 ∧ Hi n U M2 ∧ Lo n (U * (k + 1)) M2 ∧ (∀ a b, a < n → b < n → M2 a b ≤ M a b) ∧ ∀ y, Pot n y M → Pot n y M2
  | 0, _, h => by
    rw [kl] at h
    cases h
    exact ⟨hd, fun m hm => absurd hm (by omega), hU, fun i j hi hj => by have := hL i j hi hj; simp; omega, fun _ _ _ _ => Int.le_refl _, fun _ hy => hy⟩
  | k + 1, hk, h => by
    rw [kl] at h
    obtain ⟨M1, h1, h2⟩ := Option.bind_eq_some_iff.1 h
    obtain ⟨d1, t1, u1, l1, e1, p1⟩ := kl_facts hd hU hU0 hL k (by omega) h1
    have hkn : k < n := by omega
    obtain ⟨s1, s2⟩ := il_stage hkn d1 h2
    refine ⟨s2, fun m hm i j hi hj => ?_, fun i j hi hj => ?_, fun i j hi hj => ?_, fun a b ha hb => ?_, fun y hy i j hi hj => ?_⟩
    · have hm' : m < n := by omega
      have hkk := d1 k hkn
      rw [s1 i j hi hj, s1 i m hi hm', s1 m j hm' hj]
      by_cases e : m = k
      · subst e
        omega
      · have q1 := t1 m (by omega) i j hi hj
        have q2 := t1 m (by omega) k j hkn hj
        have q3 := t1 m (by omega) i k hi hkn
        have q4 := t1 m (by omega) k k hkn hkn
        omega
    · have := u1 i j hi hj
      rw [s1 i j hi hj]
      omega
    · -- a row whose number at k is far below has a diagonal below zero
      have q1 := l1 i j hi hj
      have q2 := l1 k j hkn hj
      have q3 := s2 i hi
      have q4 := s1 i i hi hi
      have q5 := u1 k i hkn hi
      have e : U * ((k + 1 : Nat) + 1 : Int) = U * ((k : Int) + 1) + U := by rw [Int.natCast_add, Int.mul_add (b := ((k : Int) + (1 : Nat))), Int.mul_one]; rfl
      rw [s1 i j hi hj, e]
      omega
    · have := e1 a b ha hb
      rw [s1 a b ha hb]
      omega
    · have hp := p1 y hy
      have q1 := hp i j hi hj
      have q2 := hp i k hi hkn
      have q3 := hp k j hkn hj
      rw [s1 i j hi hj]
      omega

/-- With a potential there is a solution. -/
theorem il_some {n k : Nat} {M : Nat → Nat → Int} {y : Nat → Int} (hk : k < n) (hd : Diag n M) (hp : Pot n y M) : ∀ m, m ≤ n → ∃ M2, il n k m M = some M2
  | 0, _ => ⟨_, rfl⟩
  | m + 1, hm => by
    obtain ⟨M1, h1⟩ := il_some hk hd hp m (by omega)
    obtain ⟨r1, r2⟩ := il_rows hk hd m (by omega) h1
    refine ⟨jl k m n M1, ?_⟩
    · rw [il, h1, Option.bind_some, if_neg]
      have hmm : m < n := by omega
      rw [jl_row (n := n) (r2 k hk) m m n, if_pos ⟨rfl, hmm⟩, r1 m m hmm, r1 m k hk, r1 k m hmm, if_neg (by omega), if_neg (by omega)]
      have q1 := hp m m hmm hmm
      have q2 := hp m k hmm hk
      have q3 := hp k m hk hmm
      have q4 := hd k hk
      split <;> omega
theorem kl_some {n : Nat} {M : Nat → Nat → Int} {y : Nat → Int} (hd : Diag n M) {U : Int} (hU : Hi n U M) (hU0 : 0 ≤ U) (hL : Lo n U M) (hp : Pot n y M) : ∀ k, k ≤ n → ∃ M2, kl n k M = some M2
  | 0, _ => ⟨_, rfl⟩
  | k + 1, hk => by
    obtain ⟨M1, h1⟩ := kl_some hd hU hU0 hL hp k (by omega)
    obtain ⟨d1, _, _, _, _, p1⟩ := kl_facts hd hU hU0 hL k (by omega) h1
    obtain ⟨M2, h2⟩ := il_some (show k < n by omega) d1 (p1 y hp) n (Nat.le_refl _)
    exact ⟨M2, by rw [kl, h1, Option.bind_some, h2]⟩

theorem safe_net {n : Nat} {M : Nat → Nat → Int} (hn : n ≤ 1000) (hd : Diag n M) (hU : Hi n 17179869180 M) (hL : Lo n 17179869180 M) : SafeNet n M := by
  intro k m j M1 M2 hk hm _ h1 h2 a b ha hb
  obtain ⟨d1, _, u1, l1, _, _⟩ := kl_facts hd hU (by omega) hL k (by omega) h1
  obtain ⟨r1, r2⟩ := il_rows hk d1 m (by omega) h2
  have hb2 : ∀ x z, x < n → z < n → -17179869180000000 ≤ M1 x z ∧ True := fun x z hx hz => ⟨by have := l1 x z hx hz; omega, trivial⟩
  have key : ∀ x z, x < n → z < n → -(17179869180 * ((k : Int) + 1)) ≤ M1 x z ∧ M1 x z ≤ 17179869180 := fun x z hx hz => ⟨l1 x z hx hz, u1 x z hx hz⟩
  have k1 := key a b ha hb
  have k2 := key a k ha hk
  have k3 := key k b hk hb
  have k4 := key m b hm hb
  have k5 := key m k hm hk
  have k6 := key k k hk hk
  rw [jl_row (n := n) (r2 k hk) a b j, r1 a b hb, r1 m b hb, r1 m k hk, r1 k b hb, if_neg (show ¬ m < m by omega), if_neg (show ¬ m < m by omega)]
  have d := d1 k hk
  constructor <;> (repeat' split) <;> omega
end Go.Proofs.YtjbmnbdlicmpoaaDoor
