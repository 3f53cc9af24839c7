/-
  Plain facts about a sorted list whose runs of equal elements are cut to one.
-/
import Derived.Lib.SlicesCompact
import Derived.Sort.Walk0
namespace Go.Proofs.YtjbmnbdlicmpoaaDoor
open Go.Lib
theorem nil_or_snoc {α : Type} (l : List α) : l = [] ∨ ∃ ys y, l = ys ++ [y] := by
  rcases List.eq_nil_or_concat l with rfl | ⟨ys, y, rfl⟩
  · exact .inl rfl
  · exact .inr ⟨ys, y, by simp⟩
section
variable {α : Type} [Inhabited α] [DecidableEq α]
theorem compactUpTo_congr {d d' : Array α} {m : Nat} (h : ∀ j, j < m → d[j]! = d'[j]!) : compactUpTo d m = compactUpTo d' m := by
  induction m with
  | zero => rfl
  | succ m ih =>
    rw [compactUpTo_succ, compactUpTo_succ, ih fun j hj => h j (by omega)]
    have e1 := h m (by omega)
    have e2 := h (m - 1) (by omega)
    have : keeps d m = keeps d' m := by unfold keeps; rw [e1, e2]
    rw [this, e1]
omit [DecidableEq α] in
theorem get_append_left (zs : List α) (x : α) {j : Nat} (h : j < zs.length) : (zs ++ [x]).toArray[j]! = zs.toArray[j]! := by
  rw [getElem!_pos _ j (by simp; omega), getElem!_pos _ j (by simpa using h)]
  simp [List.getElem_append_left h]
theorem compact_snoc (zs : List α) (x : α) : compact (zs ++ [x]) = compact zs ++ (if zs.getLast? = some x then [] else [x]) := by
  unfold compact
  rw [List.length_append, List.length_singleton, compactUpTo_succ, compactUpTo_congr (d' := zs.toArray) fun j hj => get_append_left zs x hj]
  congr 1
  have e0 : (zs ++ [x]).toArray[zs.length]! = x := by
    rw [getElem!_pos _ _ (by simp)]
    simp
  rw [e0]
  rcases nil_or_snoc zs with rfl | ⟨ys, y, rfl⟩
  · simp [keeps]
  · have e1 : (ys ++ [y] ++ [x]).toArray[(ys ++ [y]).length - 1]! = y := by
      rw [get_append_left _ _ (by simp)]
      rw [getElem!_pos _ _ (by simp)]
      simp
    by_cases hxy : y = x
    · subst hxy
      have : keeps (ys ++ [y] ++ [y]).toArray (ys ++ [y]).length = false := by
        unfold keeps
        rw [e0, e1]
        simp
      rw [this]
      simp
    · have : keeps (ys ++ [y] ++ [x]).toArray (ys ++ [y]).length = true := by
        unfold keeps
        rw [e0, e1]
        simp [Ne.symm hxy]
      rw [this]
      simp [hxy]
theorem compact_sorted {le : α → α → Bool} (anti : ∀ x y, le x y = true → le y x = true → x = y) (tr : ∀ x y z, le x y = true → le y z = true → le x z = true) (n : Nat) : ∀ zs : List α, zs.length = n → zs.Pairwise (fun x y => le x y = true) →
    (compact zs).Pairwise (fun x y => le x y = true ∧ x ≠ y) ∧ ∀ y, y ∈ compact zs ↔ y ∈ zs := by
  induction n with
  | zero =>
    intro zs hz _
    obtain rfl := List.length_eq_zero_iff.1 hz
    exact ⟨List.Pairwise.nil, fun y => Iff.rfl⟩
  | succ n ih =>
    intro zs hz hp
    rcases nil_or_snoc zs with rfl | ⟨ys, x, rfl⟩
    · simp at hz
    · rw [List.pairwise_append] at hp
      obtain ⟨hp1, _, hp2⟩ := hp
      obtain ⟨h1, h2⟩ := ih ys (by simpa using hz) hp1
      rw [compact_snoc]
      by_cases hl : ys.getLast? = some x
      · rw [if_pos hl, List.append_nil]
        have hx : x ∈ ys := List.mem_of_getLast? hl
        exact ⟨h1, fun y => by rw [h2 y]; simp; rintro rfl; exact hx⟩
      · rw [if_neg hl]
        refine ⟨List.pairwise_append.2 ⟨h1, List.pairwise_singleton _ _, fun y hy z hz => ?_⟩, fun y => by simp [h2 y]⟩
        obtain rfl := List.mem_singleton.1 hz
        have hy' := (h2 y).1 hy
        refine ⟨hp2 y hy' z (List.mem_singleton.2 rfl), ?_⟩
        rintro rfl
        rcases nil_or_snoc ys with rfl | ⟨us, u, rfl⟩
        · simp at hy'
        · have hne : u ≠ y := fun e => hl (by simp [e])
          rw [List.mem_append] at hy'
          rcases hy' with hy' | hy'
          · rw [List.pairwise_append] at hp1
            have a1 := hp1.2.2 y hy' u (List.mem_singleton.2 rfl)
            have a2 := hp2 u (by simp) y (List.mem_singleton.2 rfl)
            exact hne (anti _ _ a2 a1)
          · exact hne (List.mem_singleton.1 hy').symm
end
end Go.Proofs.YtjbmnbdlicmpoaaDoor
