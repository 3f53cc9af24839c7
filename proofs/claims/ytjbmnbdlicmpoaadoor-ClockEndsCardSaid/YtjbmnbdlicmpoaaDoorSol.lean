/-
  The net of right events and ties, in plain numbers: what it bounds; the ends of the intervals are solutions; a solution keeps it from a contradiction.
-/
import Derived.Test.YtjbmnbdlicmpoaaDoorPlain
import Derived.Test.YtjbmnbdlicmpoaaDoorBuild
import Derived.Test.YtjbmnbdlicmpoaaDoorChk
import Derived.Test.YtjbmnbdlicmpoaaDoorSolve
import Derived.Test.YtjbmnbdlicmpoaaDoorHolds
namespace Go.Proofs.YtjbmnbdlicmpoaaDoor

theorem btw_le (M : Nat → Nat → Int) (i j : Nat) (low high : Int) (a b : Nat) : btw M i j low high a b ≤ M a b := by
  simp only [btw, upd_at]
  split
  · rename_i h
    obtain ⟨rfl, rfl⟩ := h
    split
    · rename_i h2
      obtain ⟨rfl, _⟩ := h2
      omega
    · omega
  · split
    · rename_i h
      obtain ⟨rfl, rfl⟩ := h
      omega
    · exact Int.le_refl _
theorem btw_high (M : Nat → Nat → Int) (i j : Nat) (low high : Int) : btw M i j low high i j ≤ high := by
  simp only [btw, upd_at]
  split
  · rename_i h
    obtain ⟨rfl, _⟩ := h
    simp
    omega
  · simp
    omega
theorem btw_low (M : Nat → Nat → Int) (i j : Nat) (low high : Int) : btw M i j low high j i ≤ -low := by
  simp only [btw, upd_at]
  simp
  omega
theorem btw_pot {n : Nat} {y : Nat → Int} {M : Nat → Nat → Int} (h : Pot n y M) (i j : Nat) {low high : Int} (h1 : low ≤ y j - y i) (h2 : y j - y i ≤ high) : Pot n y (btw M i j low high) := by
  intro a b ha hb
  have h0 := h a b ha hb
  simp only [btw, upd_at]
  split
  · rename_i q
    obtain ⟨rfl, rfl⟩ := q
    split
    · rename_i q2
      obtain ⟨rfl, _⟩ := q2
      omega
    · omega
  · split
    · rename_i q
      obtain ⟨rfl, rfl⟩ := q
      omega
    · exact h0

/-- The numbers of a net: a diagonal of zeros, and none far off. -/
structure Tame (n : Nat) (M : Nat → Nat → Int) : Prop where
  diag : Diag n M
  hi : Hi n 17179869180 M
  lo : Lo n 17179869180 M
theorem Tame.btw {n : Nat} {M : Nat → Nat → Int} (h : Tame n M) {i j : Nat} (hne : i ≠ j) {low high : Int} (h1 : low ≤ 17179869180) (h2 : -17179869180 ≤ high) : Tame n (btw M i j low high) := by
  refine ⟨fun a ha => ?_, fun a b ha hb => Int.le_trans (btw_le _ _ _ _ _ _ _) (h.hi a b ha hb), fun a b ha hb => ?_⟩
  · simp only [Go.Proofs.YtjbmnbdlicmpoaaDoor.btw, upd_at]
    rw [if_neg (by omega), if_neg (by omega)]
    exact h.diag a ha
  · have h0 := h.lo a b ha hb
    simp only [Go.Proofs.YtjbmnbdlicmpoaaDoor.btw, upd_at]
    split
    · rename_i q
      obtain ⟨rfl, rfl⟩ := q
      split
      · omega
      · omega
    · split
      · rename_i q
        obtain ⟨rfl, rfl⟩ := q
        omega
      · exact h0

theorem tame0 (n : Nat) : Tame n net0 :=
  ⟨fun i _ => by simp [net0], fun i j _ _ => by simp only [net0]; split <;> omega, fun i j _ _ => by simp only [net0]; split <;> omega⟩
theorem tame1 (n : Nat) : ∀ m, Tame n (net1 m)
  | 0 => tame0 n
  | m + 1 => (tame1 n m).btw (by omega) (by omega) (by omega)
theorem net1_le : ∀ (m i : Nat), 1 ≤ i → i ≤ m → net1 m 0 i ≤ 4294967295 ∧ net1 m i 0 ≤ 4294967295
  | 0, i, h1, h2 => by omega
  | m + 1, i, h1, h2 => by
    by_cases e : i = m + 1
    · subst e
      have a := btw_high (net1 m) 0 (m + 1) (-4294967295) 4294967295
      have b := btw_low (net1 m) 0 (m + 1) (-4294967295) 4294967295
      exact ⟨a, b⟩
    · obtain ⟨a, b⟩ := net1_le m i h1 (by omega)
      exact ⟨Int.le_trans (btw_le _ _ _ _ _ _ _) a, Int.le_trans (btw_le _ _ _ _ _ _ _) b⟩
theorem net1_pot {n : Nat} {y : Nat → Int} (h0 : ∀ i j, i < n → j < n → y j - y i ≤ 17179869180) (hy0 : y 0 = 0) (hb : ∀ i, 1 ≤ i → i < n → -4294967295 ≤ y i ∧ y i ≤ 4294967295) : ∀ m, m < n → Pot n y (net1 m)
  | 0, _ => fun i j hi hj => by
    simp only [net1, net0]
    split
    · rename_i e
      subst e
      omega
    · exact h0 i j hi hj
  | m + 1, hm => by
    have := hb (m + 1) (by omega) hm
    exact btw_pot (net1_pot h0 hy0 hb m (by omega)) 0 (m + 1) (by omega) (by omega)

section
variable {evs : List Ev} {ties : List Ti}
theorem net2_some {ck : List ByteArray} {M : Nat → Nat → Int} {m : Nat} {e : Ev} (h : evs[m]? = some e) : net2 ck evs M (m + 1) = btw (net2 ck evs M m) (1 + idxB ck e.clock) (1 + ck.length + m) (e.shown - e.wide) (e.shown + e.wide) := by rw [net2, h]
theorem net2_none {ck : List ByteArray} {M : Nat → Nat → Int} {m : Nat} (h : evs[m]? = none) : net2 ck evs M (m + 1) = net2 ck evs M m := by rw [net2, h]
theorem net3_some {c : Nat} {M : Nat → Nat → Int} {m : Nat} {t : Ti} (h : ties[m]? = some t) : net3 c ties M (m + 1) = btw (net3 c ties M m) (atT c t.a) (atT c t.b) t.low t.high := by rw [net3, h]
theorem net3_none {c : Nat} {M : Nat → Nat → Int} {m : Nat} (h : ties[m]? = none) : net3 c ties M (m + 1) = net3 c ties M m := by rw [net3, h]
theorem net2_le (ck : List ByteArray) (M : Nat → Nat → Int) (a b : Nat) : ∀ m, net2 ck evs M m a b ≤ M a b
  | 0 => Int.le_refl _
  | m + 1 => by
    cases q : evs[m]? with
    | some e => rw [net2_some q]; exact Int.le_trans (btw_le _ _ _ _ _ _ _) (net2_le ck M a b m)
    | none => rw [net2_none q]; exact net2_le ck M a b m
theorem net3_le (c : Nat) (M : Nat → Nat → Int) (a b : Nat) : ∀ m, net3 c ties M m a b ≤ M a b
  | 0 => Int.le_refl _
  | m + 1 => by
    cases q : ties[m]? with
    | some e => rw [net3_some q]; exact Int.le_trans (btw_le _ _ _ _ _ _ _) (net3_le c M a b m)
    | none => rw [net3_none q]; exact net3_le c M a b m
theorem net2_ev (ck : List ByteArray) (M : Nat → Nat → Int) {i : Nat} {e : Ev} (he : evs[i]? = some e) : ∀ m, i < m →
    net2 ck evs M m (1 + idxB ck e.clock) (1 + ck.length + i) ≤ e.shown + e.wide ∧ net2 ck evs M m (1 + ck.length + i) (1 + idxB ck e.clock) ≤ -(e.shown - e.wide)
  | 0, h => by omega
  | m + 1, h => by
    by_cases q : i = m
    · subst q
      rw [net2_some he]
      exact ⟨btw_high _ _ _ _ _, btw_low _ _ _ _ _⟩
    · obtain ⟨a, b⟩ := net2_ev ck M he m (by omega)
      cases q : evs[m]? with
      | some e => rw [net2_some q]; exact ⟨Int.le_trans (btw_le _ _ _ _ _ _ _) a, Int.le_trans (btw_le _ _ _ _ _ _ _) b⟩
      | none => rw [net2_none q]; exact ⟨a, b⟩
theorem net3_ti (c : Nat) (M : Nat → Nat → Int) {i : Nat} {x : Ti} (he : ties[i]? = some x) : ∀ m, i < m →
    net3 c ties M m (atT c x.a) (atT c x.b) ≤ x.high ∧ net3 c ties M m (atT c x.b) (atT c x.a) ≤ -x.low
  | 0, h => by omega
  | m + 1, h => by
    by_cases q : i = m
    · subst q
      rw [net3_some he]
      exact ⟨btw_high _ _ _ _ _, btw_low _ _ _ _ _⟩
    · obtain ⟨a, b⟩ := net3_ti c M he m (by omega)
      cases q : ties[m]? with
      | some e => rw [net3_some q]; exact ⟨Int.le_trans (btw_le _ _ _ _ _ _ _) a, Int.le_trans (btw_le _ _ _ _ _ _ _) b⟩
      | none => rw [net3_none q]; exact ⟨a, b⟩
theorem tame2 {n : Nat} {M : Nat → Nat → Int} (h : Tame n M) (hG : Good evs ties) : ∀ m, Tame n (net2 (clocksOf evs) evs M m)
  | 0 => h
  | m + 1 => by
    cases he : evs[m]? with
    | some e =>
      rw [net2_some he]
      have hm := List.mem_of_getElem? he
      have q := hG.ev e hm
      have q2 := idxB_lt (mem_clocksOf hm)
      exact (tame2 h hG m).btw (by omega) (by omega) (by omega)
    | none => rw [net2_none he]; exact tame2 h hG m
theorem atT_ne {c : Nat} {a b : Int} (h : a ≠ b) (_ha : -1 ≤ a) (hb : 0 ≤ b) : atT c a ≠ atT c b := by
  unfold atT
  split <;> split <;> omega
theorem tame3 {n c : Nat} {M : Nat → Nat → Int} (h : Tame n M) (hG : Good evs ties) : ∀ m, Tame n (net3 c ties M m)
  | 0 => h
  | m + 1 => by
    cases hx : ties[m]? with
    | some x =>
      rw [net3_some hx]
      have q := hG.ti x (List.mem_of_getElem? hx)
      exact (tame3 h hG m).btw (atT_ne q.2.2.2.2.1 q.1 q.2.2.1) (by omega) (by omega)
    | none => rw [net3_none hx]; exact tame3 h hG m
theorem tame_net (hG : Good evs ties) (n : Nat) : Tame n (netOf evs ties) := tame3 (tame2 (tame1 n _) hG _) hG _

/-- A solution as a potential: variable 0, the errors, the times. -/
def potOf (c : Nat) (E T : List Int) (i : Nat) : Int := if i = 0 then 0 else if i < 1 + c then (E[i - 1]?).getD 0 else (T[i - 1 - c]?).getD 0
theorem potOf_err {c : Nat} {E T : List Int} {i : Nat} {k : Int} (h : E[i]? = some k) (hi : i < c) : potOf c E T (1 + i) = k := by
  unfold potOf
  rw [if_neg (by omega), if_pos (by omega), show 1 + i - 1 = i by omega, h]
  rfl
theorem potOf_time {c : Nat} {E T : List Int} {i : Nat} {t : Int} (h : T[i]? = some t) : potOf c E T (1 + c + i) = t := by
  unfold potOf
  rw [if_neg (by omega), if_neg (by omega), show 1 + c + i - 1 - c = i by omega, h]
  rfl
theorem potOf_rng {c : Nat} {E T : List Int} (h : ∀ x ∈ E ++ T, -4294967295 ≤ x ∧ x ≤ 4294967295) (i : Nat) : -4294967295 ≤ potOf c E T i ∧ potOf c E T i ≤ 4294967295 := by
  unfold potOf
  split
  · omega
  split
  · cases q : E[i - 1]? with
    | none => simp
    | some k => exact h k (List.mem_append.2 (.inl (List.mem_of_getElem? q)))
  · cases q : T[i - 1 - c]? with
    | none => simp
    | some k => exact h k (List.mem_append.2 (.inr (List.mem_of_getElem? q)))

theorem sol_pot (hG : Good evs ties) {E T : List Int} (hS : IsSol evs ties E T) (n : Nat) (hn : n = 1 + (clocksOf evs).length + evs.length) : Pot n (potOf (clocksOf evs).length E T) (netOf evs ties) := by
  have hr := fun i => potOf_rng (c := (clocksOf evs).length) hS.rng i
  have p1 : Pot n (potOf (clocksOf evs).length E T) (net1 ((clocksOf evs).length + evs.length)) :=
    net1_pot (n := n) (y := potOf (clocksOf evs).length E T) (fun i j _ _ => by have := hr i; have := hr j; omega) rfl (fun i _ _ => hr i) _ (by omega)
  have p2 : ∀ m, Pot n (potOf (clocksOf evs).length E T) (net2 (clocksOf evs) evs (net1 ((clocksOf evs).length + evs.length)) m) := by
    intro m
    induction m with
    | zero => exact p1
    | succ m ih =>
      cases he : evs[m]? with
      | some e =>
        rw [net2_some he]
        obtain ⟨t, k, ht, hk, h1, h2⟩ := hS.ev m e he
        have q2 := idxB_lt (mem_clocksOf (List.mem_of_getElem? he))
        have e1 := potOf_err (c := (clocksOf evs).length) (T := T) hk q2
        have e2 := potOf_time (c := (clocksOf evs).length) (E := E) ht
        exact btw_pot ih _ _ (by omega) (by omega)
      | none => rw [net2_none he]; exact ih
  have p3 : ∀ m, Pot n (potOf (clocksOf evs).length E T) (net3 (clocksOf evs).length ties (net2 (clocksOf evs) evs (net1 ((clocksOf evs).length + evs.length)) evs.length) m) := by
    intro m
    induction m with
    | zero => exact p2 _
    | succ m ih =>
      cases hx : ties[m]? with
      | some x =>
        rw [net3_some hx]
        have hb0 := (hG.ti x (List.mem_of_getElem? hx)).2.2.1
        obtain ⟨tb, hb, h1, h2⟩ := hS.ti x (List.mem_of_getElem? hx)
        have eb : atT (clocksOf evs).length x.b = 1 + (clocksOf evs).length + x.b.toNat := by rw [atT, if_neg (by omega)]
        have e2 := potOf_time (c := (clocksOf evs).length) (E := E) hb
        by_cases ha : x.a < 0
        · obtain ⟨h3, h4⟩ := h1 ha
          have ea : atT (clocksOf evs).length x.a = 0 := by rw [atT, if_pos ha]
          have e1 : potOf (clocksOf evs).length E T 0 = 0 := rfl
          rw [ea, eb]
          exact btw_pot ih _ _ (by omega) (by omega)
        · obtain ⟨ta, hta, h3, h4⟩ := h2 (by omega)
          have ea : atT (clocksOf evs).length x.a = 1 + (clocksOf evs).length + x.a.toNat := by rw [atT, if_neg ha]
          have e1 := potOf_time (c := (clocksOf evs).length) (E := E) hta
          rw [ea, eb]
          exact btw_pot ih _ _ (by omega) (by omega)
      | none => rw [net3_none hx]; exact ih
  exact p3 _

theorem ivs_get (D : Nat → Nat → Int) (f : Nat) {i : Nat} : ∀ m, i < m → (ivs D f m)[i]? = some (-D (f + i) 0, D 0 (f + i))
  | 0, h => by omega
  | m + 1, h => by
    rw [ivs]
    by_cases q : i = m
    · subst q
      rw [List.getElem?_append_right (by rw [ivs_length]; omega), ivs_length]
      simp
    · rw [List.getElem?_append_left (by rw [ivs_length]; omega)]
      exact ivs_get D f m (by omega)

/-- A closed net's numbers y, read off variable 0, are a solution, if they are a potential. -/
theorem pot_sol (hG : Good evs ties) (y : Nat → Int) (hy0 : y 0 = 0) (n : Nat) (hn : n = 1 + (clocksOf evs).length + evs.length) (hp : Pot n y (netOf evs ties)) (E T : List Int)
    (hE : E.length = (clocksOf evs).length) (hT : T.length = evs.length) (gE : ∀ i, i < (clocksOf evs).length → E[i]? = some (y (1 + i))) (gT : ∀ i, i < evs.length → T[i]? = some (y (1 + (clocksOf evs).length + i))) : IsSol evs ties E T := by
  have ax : ∀ i, 1 ≤ i → i < n → -4294967295 ≤ y i ∧ y i ≤ 4294967295 := fun i h1 h2 => by
    obtain ⟨a, b⟩ := net1_le ((clocksOf evs).length + evs.length) i h1 (by omega)
    have q1 := hp 0 i (by omega) h2
    have q2 := hp i 0 h2 (by omega)
    have r1 : netOf evs ties 0 i ≤ net1 ((clocksOf evs).length + evs.length) 0 i := Int.le_trans (net3_le _ _ _ _ _) (net2_le _ _ _ _ _)
    have r2 : netOf evs ties i 0 ≤ net1 ((clocksOf evs).length + evs.length) i 0 := Int.le_trans (net3_le _ _ _ _ _) (net2_le _ _ _ _ _)
    omega
  refine ⟨hE, hT, fun x hx => ?_, fun i e he => ?_, fun x hx => ?_⟩
  · rcases List.mem_append.1 hx with h | h
    · obtain ⟨j, hj, rfl⟩ := List.getElem_of_mem h
      have q := gE j (by omega)
      rw [List.getElem?_eq_getElem hj, Option.some.injEq] at q
      rw [q]
      exact ax _ (by omega) (by omega)
    · obtain ⟨j, hj, rfl⟩ := List.getElem_of_mem h
      have q := gT j (by omega)
      rw [List.getElem?_eq_getElem hj, Option.some.injEq] at q
      rw [q]
      exact ax _ (by omega) (by omega)
  · have hi : i < evs.length := (List.getElem?_eq_some_iff.1 he).1
    have hk := idxB_lt (mem_clocksOf (List.mem_of_getElem? he))
    obtain ⟨a, b⟩ := net2_ev (clocksOf evs) (net1 ((clocksOf evs).length + evs.length)) he evs.length hi
    have r1 : netOf evs ties (1 + idxB (clocksOf evs) e.clock) (1 + (clocksOf evs).length + i) ≤ _ := Int.le_trans (net3_le _ _ _ _ _) a
    have r2 : netOf evs ties (1 + (clocksOf evs).length + i) (1 + idxB (clocksOf evs) e.clock) ≤ _ := Int.le_trans (net3_le _ _ _ _ _) b
    have q1 := hp (1 + idxB (clocksOf evs) e.clock) (1 + (clocksOf evs).length + i) (by omega) (by omega)
    have q2 := hp (1 + (clocksOf evs).length + i) (1 + idxB (clocksOf evs) e.clock) (by omega) (by omega)
    exact ⟨_, _, gT i hi, gE _ hk, by omega, by omega⟩
  · have q := hG.ti x hx
    obtain ⟨j, hj, hjx⟩ := List.getElem_of_mem hx
    obtain ⟨r1, r2⟩ := net3_ti (clocksOf evs).length (net2 (clocksOf evs) evs (net1 ((clocksOf evs).length + evs.length)) evs.length) (show ties[j]? = some x by rw [List.getElem?_eq_getElem hj, hjx]) ties.length hj
    have eb : atT (clocksOf evs).length x.b = 1 + (clocksOf evs).length + x.b.toNat := by rw [atT, if_neg (by omega)]
    refine ⟨_, gT x.b.toNat (by omega), fun ha => ?_, fun ha => ?_⟩
    · have ea : atT (clocksOf evs).length x.a = 0 := by rw [atT, if_pos ha]
      rw [ea, eb] at r1 r2
      have q1 := hp 0 (1 + (clocksOf evs).length + x.b.toNat) (by omega) (by omega)
      have q2 := hp (1 + (clocksOf evs).length + x.b.toNat) 0 (by omega) (by omega)
      have s1 : netOf evs ties 0 (1 + (clocksOf evs).length + x.b.toNat) ≤ x.high := r1
      have s2 : netOf evs ties (1 + (clocksOf evs).length + x.b.toNat) 0 ≤ -x.low := r2
      constructor <;> omega
    · have ea : atT (clocksOf evs).length x.a = 1 + (clocksOf evs).length + x.a.toNat := by rw [atT, if_neg (by omega)]
      rw [ea, eb] at r1 r2
      have q1 := hp (1 + (clocksOf evs).length + x.a.toNat) (1 + (clocksOf evs).length + x.b.toNat) (by omega) (by omega)
      have q2 := hp (1 + (clocksOf evs).length + x.b.toNat) (1 + (clocksOf evs).length + x.a.toNat) (by omega) (by omega)
      have s1 : netOf evs ties (1 + (clocksOf evs).length + x.a.toNat) (1 + (clocksOf evs).length + x.b.toNat) ≤ x.high := r1
      have s2 : netOf evs ties (1 + (clocksOf evs).length + x.b.toNat) (1 + (clocksOf evs).length + x.a.toNat) ≤ -x.low := r2
      exact ⟨_, gT x.a.toNat (by omega), by omega, by omega⟩

/-- What is known of right events and ties: the walk stays among small numbers; where it ends in a closed net, its ends are solutions. -/
theorem closed_sols (hG : Good evs ties) (n : Nat) (hn : n = 1 + (clocksOf evs).length + evs.length) {D : Nat → Nat → Int} (hk : kl n n (netOf evs ties) = some D) :
    SmallNet n D ∧ IsSol evs ties ((ivs D 1 (clocksOf evs).length).map (·.1)) ((ivs D (1 + (clocksOf evs).length) evs.length).map (·.1)) ∧ IsSol evs ties ((ivs D 1 (clocksOf evs).length).map (·.2)) ((ivs D (1 + (clocksOf evs).length) evs.length).map (·.2)) := by
  have hck := hG.nck
  have hne := hG.nev
  have ht := tame_net hG n
  obtain ⟨d, t, u, lo, le, _⟩ := kl_facts ht.diag ht.hi (by omega) ht.lo n (Nat.le_refl _) hk
  have tri : ∀ i m j, i < n → m < n → j < n → D i j ≤ D i m + D m j := fun i m j hi hm hj => t m hm i j hi hj
  refine ⟨fun a b ha hb => ?_, ?_, ?_⟩
  · have h1 := u a b ha hb
    have h2 := lo a b ha hb
    constructor <;> omega
  · refine pot_sol hG (fun i => -D i 0) (by have := d 0 (by omega); simp [this]) n hn (fun i j hi hj => ?_) _ _ (by simp [ivs_length]) (by simp [ivs_length]) (fun i hi => by rw [List.getElem?_map, ivs_get D 1 _ hi]; rfl) (fun i hi => by rw [List.getElem?_map, ivs_get D _ _ hi]; rfl)
    have := tri i j 0 hi hj (by omega)
    have := le i j hi hj
    dsimp only
    omega
  · refine pot_sol hG (fun i => D 0 i) (d 0 (by omega)) n hn (fun i j hi hj => ?_) _ _ (by simp [ivs_length]) (by simp [ivs_length]) (fun i hi => by rw [List.getElem?_map, ivs_get D 1 _ hi]; rfl) (fun i hi => by rw [List.getElem?_map, ivs_get D _ _ hi]; rfl)
    have := tri 0 i j (by omega) hi hj
    have := le i j hi hj
    dsimp only
    omega
theorem safe_of (hG : Good evs ties) (n : Nat) (hn : n = 1 + (clocksOf evs).length + evs.length) : SafeNet n (netOf evs ties) := by
  have hck := hG.nck
  have hne := hG.nev
  have ht := tame_net hG n
  exact safe_net (by omega) ht.diag ht.hi ht.lo
theorem solvable (hG : Good evs ties) (n : Nat) (hn : n = 1 + (clocksOf evs).length + evs.length) {E T : List Int} (hS : IsSol evs ties E T) : ∃ D, kl n n (netOf evs ties) = some D ∧ Pot n (potOf (clocksOf evs).length E T) D := by
  have ht := tame_net hG n
  have hp := sol_pot hG hS n hn
  obtain ⟨D, hD⟩ := kl_some ht.diag ht.hi (by omega) ht.lo hp n (Nat.le_refl _)
  exact ⟨D, hD, (kl_facts ht.diag ht.hi (by omega) ht.lo n (Nat.le_refl _) hD).2.2.2.2.2 _ hp⟩
end
end Go.Proofs.YtjbmnbdlicmpoaaDoor
