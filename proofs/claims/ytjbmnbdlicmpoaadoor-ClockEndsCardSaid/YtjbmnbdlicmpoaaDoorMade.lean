/-
  What the maker hands back is right; if the first number is even, it has a solution.
-/
import Derived.Test.YtjbmnbdlicmpoaaDoorMake
import Derived.Test.YtjbmnbdlicmpoaaDoorSol
namespace Go.Proofs.YtjbmnbdlicmpoaaDoor
open Go.RowKit

theorem nm0 : nm 0 = ⟨#[99, 108, 111, 99, 107, 45, 48]⟩ := by rw [nm, Lib.decDigits_one (by omega)]; rfl
theorem nm1 : nm 1 = ⟨#[99, 108, 111, 99, 107, 45, 49]⟩ := by rw [nm, Lib.decDigits_one (by omega)]; rfl
theorem nm2 : nm 2 = ⟨#[99, 108, 111, 99, 107, 45, 50]⟩ := by rw [nm, Lib.decDigits_one (by omega)]; rfl
theorem nm3 : nm 3 = ⟨#[99, 108, 111, 99, 107, 45, 51]⟩ := by rw [nm, Lib.decDigits_one (by omega)]; rfl
theorem name_lit (d : UInt8) (h : d = 48 ∨ d = 49 ∨ d = 50 ∨ d = 51) : nameOk ⟨#[99, 108, 111, 99, 107, 45, d]⟩ := by
  rcases h with rfl | rfl | rfl | rfl
  all_goals
    refine ⟨by decide, by decide, by decide, by decide, fun i hi => ?_⟩
    have hi' : i < 7 := hi
    match i, hi' with
    | 0, _ => decide
    | 1, _ => decide
    | 2, _ => decide
    | 3, _ => decide
    | 4, _ => decide
    | 5, _ => decide
    | 6, _ => decide
theorem nm_ok {c : Nat} (h : c < 4) : nameOk (nm c) := by
  match c, h with
  | 0, _ => rw [nm0]; exact name_lit _ (by decide)
  | 1, _ => rw [nm1]; exact name_lit _ (by decide)
  | 2, _ => rw [nm2]; exact name_lit _ (by decide)
  | 3, _ => rw [nm3]; exact name_lit _ (by decide)

theorem compact_length {α : Type} [Inhabited α] [DecidableEq α] (n : Nat) : ∀ zs : List α, zs.length = n → (Lib.compact zs).length ≤ zs.length := by
  induction n with
  | zero => intro zs h; cases zs with
    | nil => exact Nat.le_of_eq rfl
    | cons => cases h
  | succ n ih =>
    intro zs h
    rcases nil_or_snoc zs with rfl | ⟨ys, y, rfl⟩
    · cases h
    · have := ih ys (by simpa using h)
      rw [compact_snoc]
      split <;> simp <;> omega
theorem clocksOf_le (evs : List Ev) : (clocksOf evs).length ≤ evs.length := by
  unfold clocksOf compactS
  rw [List.length_map]
  refine Nat.le_trans (compact_length _ _ rfl) ?_
  rw [List.length_map, sortS_length, List.length_map]
  exact Nat.le_refl _

section
variable {even : Prop} {es : Nat → Int} {evs : List Ev} {ts : List Int} {ties : List Ti}
theorem Made.at (h : Made even es evs ts ties) {j : Nat} {e : Ev} (he : evs[j]? = some e) : ∃ t, ts[j]? = some t ∧ OkEv es e t := by
  have hj := (List.getElem?_eq_some_iff.1 he).1
  have h2 := h.row.l2
  exact ⟨_, List.getElem?_eq_getElem (by omega), h.row.ev j e _ he (List.getElem?_eq_getElem (by omega))⟩
theorem made_good (h : Made even es evs ts ties) : Good evs ties := by
  have hn := h.nev
  have hc := clocksOf_le evs
  have l2 := h.row.l2
  refine ⟨by omega, by have := h.nti; omega, by omega, fun e he => ?_, fun e he => ?_, fun x hx => ?_⟩
  · obtain ⟨j, hj, rfl⟩ := List.getElem_of_mem he
    obtain ⟨t, _, ok⟩ := h.at (List.getElem?_eq_getElem hj)
    obtain ⟨c, hc, hn, _⟩ := ok.name
    rw [hn]
    exact nm_ok hc
  · obtain ⟨j, hj, rfl⟩ := List.getElem_of_mem he
    obtain ⟨t, _, ok⟩ := h.at (List.getElem?_eq_getElem hj)
    have := ok.wide
    have := ok.shown
    omega
  · have q := h.ti x hx
    have a := q.a
    have b := q.b
    have c := q.ne
    have d := q.rng
    omega

/-- The error of a clock of the maker, by its name. -/
def errOf (es : Nat → Int) (s : ByteArray) : Int :=
  if bytesL s = [99, 108, 111, 99, 107, 45, 48] then es 0 else if bytesL s = [99, 108, 111, 99, 107, 45, 49] then es 1 else if bytesL s = [99, 108, 111, 99, 107, 45, 50] then es 2 else es 3
theorem errOf_nm (es : Nat → Int) {c : Nat} (h : c < 4) : errOf es (nm c) = es c := by
  match c, h with
  | 0, _ => rw [nm0]; rfl
  | 1, _ => rw [nm1]; rfl
  | 2, _ => rw [nm2]; rfl
  | 3, _ => rw [nm3]; rfl
theorem errOf_rng {es : Nat → Int} (h : ErrsOk es) (s : ByteArray) : -30 ≤ errOf es s ∧ errOf es s ≤ 30 := by
  unfold errOf
  split
  · exact h 0
  split
  · exact h 1
  split
  · exact h 2
  · exact h 3
theorem made_sol (h : Made even es evs ts ties) (he : even) : IsSol evs ties ((clocksOf evs).map (errOf es)) ts := by
  have l2 := h.row.l2
  refine ⟨by simp, l2, fun x hx => ?_, fun i e hi => ?_, fun x hx => ?_⟩
  · rcases List.mem_append.1 hx with hx | hx
    · obtain ⟨s, _, rfl⟩ := List.mem_map.1 hx
      have := errOf_rng h.errs s
      omega
    · obtain ⟨j, hj, rfl⟩ := List.getElem_of_mem hx
      obtain ⟨t, ht, ok⟩ := h.at (j := j) (List.getElem?_eq_getElem (by omega))
      rw [List.getElem?_eq_getElem hj, Option.some.injEq] at ht
      have := ok.t
      omega
  · obtain ⟨t, ht, ok⟩ := h.at hi
    obtain ⟨c, hc, hn, h1, h2⟩ := ok.name
    refine ⟨t, errOf es e.clock, ht, by rw [List.getElem?_map, idxB_get (mem_clocksOf (List.mem_of_getElem? hi))]; rfl, ?_⟩
    rw [hn, errOf_nm es hc]
    exact ⟨h1, h2⟩
  · have q := h.ti x hx
    have a := q.a
    have b := q.b
    obtain ⟨h1, h2⟩ := q.hit he
    have hb : ts[x.b.toNat]? = some (tsAt ts x.b) := by rw [tsAt, if_neg (by omega), List.getElem?_eq_getElem (by omega)]; rfl
    refine ⟨_, hb, fun ha => ?_, fun ha => ?_⟩
    · have : tsAt ts x.a = 0 := by rw [tsAt, if_pos ha]
      omega
    · exact ⟨tsAt ts x.a, by rw [tsAt, if_neg (by omega), List.getElem?_eq_getElem (by omega)]; rfl, h1, h2⟩
end
end Go.Proofs.YtjbmnbdlicmpoaaDoor
