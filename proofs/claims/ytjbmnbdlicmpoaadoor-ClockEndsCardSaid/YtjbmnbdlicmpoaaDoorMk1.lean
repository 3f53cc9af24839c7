/-
  Contracts of the makers: Below, Stream.Next.
-/
import Derived.Test.YtjbmnbdlicmpoaaDoorProg
import Derived.WalkKit
import Derived.WalkSpells
import Derived.WalkLawsBesides
import Derived.KernelRfl
import Derived.RowKit3
import Derived.Outline
import Derived.Deep.QuietTactic
import Derived.BigQuiet
import Derived.Lib.Hide
import Derived.Test.YtjbmnbdlicmpoaaDoorWWords
import Derived.Test.YtjbmnbdlicmpoaaDoorWKept
import Derived.Test.YtjbmnbdlicmpoaaDoorRead
namespace Go.Proofs.YtjbmnbdlicmpoaaDoor
open Go.RowKit
open Go.Proofs.YtjbmnbdlicmpoaaDoorW.PrintWords

theorem tmod_neg {x n : Int} (hn : 0 < n) (h : x.tmod n < 0) : x.tmod n + n = x % n := by
  have e := @Int.tmod_eq_emod x n
  have h1 := Int.emod_nonneg x (show n ≠ 0 by omega)
  have h2 := Int.emod_lt_of_pos x hn
  have h3 : (n.natAbs : Int) = n := by omega
  by_cases c : 0 ≤ x ∨ n ∣ x
  · rw [if_pos c] at e; omega
  · rw [if_neg c] at e; omega
theorem tmod_pos {x n : Int} (hn : 0 < n) (h : 0 ≤ x.tmod n) : x.tmod n = x % n := by
  have e := @Int.tmod_eq_emod x n
  have h1 := Int.emod_nonneg x (show n ≠ 0 by omega)
  have h2 := Int.emod_lt_of_pos x hn
  have h3 : (n.natAbs : Int) = n := by omega
  by_cases c : 0 ≤ x ∨ n ∣ x
  · rw [if_pos c] at e; omega
  · rw [if_neg c] at e; omega
theorem tmod_in {x n : Int} (hn : 0 < n) : -n < x.tmod n ∧ x.tmod n < n := by
  have e := @Int.tmod_eq_emod x n
  have h1 := Int.emod_nonneg x (show n ≠ 0 by omega)
  have h2 := Int.emod_lt_of_pos x hn
  have h3 : (n.natAbs : Int) = n := by omega
  by_cases c : 0 ≤ x ∨ n ∣ x
  · rw [if_pos c] at e; omega
  · rw [if_neg c] at e
    have : x % n ≠ 0 := fun h => c (.inr (Int.dvd_of_emod_eq_zero h))
    omega

theorem ret_int {k : IntKind} {a b : Int} (h : a = b) : Ending.returned (.int k a) = .returned (.int k b) := by rw [h]

set_option maxHeartbeats 400000 in
theorem below_any (x n : Int) (w : World) (hn : 0 < n) (hn2 : n ≤ 9223372036854775807) :
    Calls Tryd.prog 8 #[.int .i64 x, .int .i64 n] w fun e w' => e = .returned (.int .i64 (x % n)) ∧ w = w' := by
  obtain ⟨hb1, hb2⟩ := @tmod_in x n hn
  have hn0 : (n == 0) = false := by simp; omega
  go_enter Tryd.func8, Tryd.ntmps8
  go_wp2
  · have h : x.tmod n < 0 := by assumption
    go_ret
    exact ⟨ret_int (tmod_neg hn h), rfl⟩
  · have h : 0 ≤ x.tmod n := by assumption
    go_ret
    exact ⟨ret_int (tmod_pos hn h), rfl⟩

/-- What Next gives of a list of numbers, and what it leaves. -/
def nextV (l : List Int) (n : Int) : Int := match l with
  | [] => 0
  | x :: _ => if n < 1 then 0 else x % n
def nextL (l : List Int) (n : Int) : List Int := match l with
  | [] => []
  | x :: r => if n < 1 then x :: r else r

/-- A stream stands in block g: its numbers lie in blocks below base and are not written. -/
def IsStream (w : World) (g : Nat) (l : List Int) : Prop :=
  ∃ A c, w.heap[g]? = some (.cells #[.slice A l.length c] 42 (0, 0)) ∧ l.length ≤ c ∧ (Kd.int .i64).C w A l.length l ∧ (l ≠ [] → ∀ a, A = some a → a.block < g)

set_option maxHeartbeats 400000 in
theorem next_any (g : Nat) (l : List Int) (n : Int) (w : World) (h : IsStream w g l) (hn : n ≤ 9223372036854775807) :
    Calls Tryd.prog 13 #[.pointer (some ⟨g, 0, none⟩), .int .i64 n] w fun e w' => e = .returned (.int .i64 (nextV l n)) ∧ IsStream w' g (nextL l n) ∧ Fr w w' (fun k => k = g) := by
  obtain ⟨A, c, hb, hc, hC, hA⟩ := h
  have c0 : w.cell? ⟨g, 0, none⟩ = some (.slice A l.length c) := (blk_cell hb 0).trans rfl
  have f0 : w.frozen? ⟨g, 0, none⟩ = false := blk_frozen hb 0
  cases l with
  | nil =>
    go_enter Tryd.func13, Tryd.ntmps13
    go_wp2
    go_ret
    exact ⟨rfl, ⟨A, c, hb, hc, hC, hA⟩, Fr.refl _ _⟩
  | cons x r =>
    obtain ⟨ad, rfl, h0⟩ := Kd.at_int hC 0 (by omega) (by simp)
    have hlt := hA (by simp) ad rfl
    have hne : ad.block ≠ g := Nat.ne_of_lt hlt
    have hl : ((r.length : Int) + 1 == 0) = false := by simp; omega
    have h0' : w.cell? ad = some (.int .i64 x) := h0
    have hmax := Kd.C_max hC
    have hlen : (x :: r).length = r.length + 1 := rfl
    rw [hlen] at c0 hc hmax
    by_cases h1 : n < 1
    · have hd : decide (n < 1) = true := decide_eq_true h1
      go_enter Tryd.func13, Tryd.ntmps13
      go_wp2
      go_ret
      exact ⟨by simp [nextV, h1], by simp only [nextL, if_pos h1]; exact ⟨some ad, c, hb, hc, hC, hA⟩, Fr.refl _ _⟩
    · have hd : decide (n < 1) = false := decide_eq_false h1
      have hdr := Kd.C_drop (m := 1) (c := c) hC (by simp) hc
      simp only [List.drop_succ_cons, List.drop_zero] at hdr
      have Hdr := Lib.hid hdr
      clear hdr
      have hB := fun W => below_any x n W (by omega) hn
      go_enter Tryd.func13, Tryd.ntmps13
      go_wp2_with (go_at_call 8; refine (hB _).mono ?_; rintro e w' ⟨rfl, rfl⟩)
      all_goals go_ret
      all_goals have hdr := Hdr.out
      all_goals
        refine ⟨by simp [nextV, show ¬ n < 1 by omega], ?_, Fr.setCell (p := ⟨g, 0, none⟩) (Fr.refl w (fun k => k = g)) (.inl rfl) _⟩
        simp only [nextL, if_neg (show ¬ n < 1 by omega)]
        refine ⟨_, _, by simpa using blk_set hb 0 _, ?_, ?_, ?_⟩
      · omega
      · have h2 := Kd.C_keep 0 hdr ((KeepBut.refl w g none).set_ 0 (.slice (some ad) r.length 0)) (by intro a ha _; split at ha <;> (simp at ha; subst ha; first | exact hne | (simp [Addr.add]; split <;> exact hne)))
        rw [if_pos h] at h2
        exact h2
      · intro _ a ha; simp at ha; subst ha; exact hlt
      · omega
      · have h2 := Kd.C_keep 0 hdr ((KeepBut.refl w g none).set_ 0 (.slice (some ⟨ad.block, ad.off + 1, none⟩) r.length (c - 1))) (by intro a ha _; split at ha <;> (simp at ha; subst ha; first | exact hne | (simp [Addr.add]; split <;> exact hne)))
        rw [if_neg h] at h2
        exact h2
      · intro _ a ha; simp at ha; subst ha; exact hlt
theorem stream_new {w : World} {A : Option Addr} {c : Nat} {l : List Int} (h : (Kd.int .i64).C w A l.length l) (hc : l.length ≤ c) :
    IsStream (w.alloc (.cells #[.slice A l.length c] 42)) w.heap.size l := by
  refine ⟨A, c, blk_new _ _, hc, Kd.C_alloc h _, fun hl a ha => ?_⟩
  obtain ⟨b, o, rfl, hb, _⟩ := C_addr h (by cases l with | nil => exact absurd rfl hl | cons => simp) (by simp [Kd.int, Kd.scalar])
  cases ha
  exact hb
theorem C_int_at {w w' : World} {A : Option Addr} {n : Nat} {l : List Int} (h : (Kd.int .i64).C w A n l) (hk : l ≠ [] → ∀ a, A = some a → w'.heap[a.block]? = w.heap[a.block]?) : (Kd.int .i64).C w' A n l := by
  obtain ⟨h1, h2, h3⟩ := h
  refine ⟨h1, h2, fun hn => ?_⟩
  obtain ⟨ad, rfl, hc⟩ := h3 hn
  refine ⟨ad, rfl, fun j x hx => ?_⟩
  obtain ⟨c, c1, c2, c3⟩ := hc j x hx
  refine ⟨c, c1, c2, fun i u hu => ?_⟩
  have e := hk (fun h => by subst h; simp at hx) ad rfl
  have e2 : (ad.add (j * (Kd.int .i64).sz + i)).block = ad.block := by unfold Addr.add; split <;> rfl
  have := c3 i u hu
  simpa [World.cell?, e2, e] using this
theorem IsStream.keep {w w' : World} {g : Nat} {l : List Int} (h : IsStream w g l) (hk : ∀ k, k ≤ g → w'.heap[k]? = w.heap[k]?) : IsStream w' g l := by
  obtain ⟨A, c, hb, hc, hC, hA⟩ := h
  exact ⟨A, c, (hk g (Nat.le_refl _)).trans hb, hc, C_int_at hC (fun hl a ha => hk _ (Nat.le_of_lt (hA hl a ha))), hA⟩
theorem IsStream.lt {w : World} {g : Nat} {l : List Int} (h : IsStream w g l) : g < w.heap.size := by
  obtain ⟨A, c, hb, _⟩ := h
  exact blk_lt hb
theorem IsStream.alloc {w : World} {g : Nat} {l : List Int} (h : IsStream w g l) (o : Obj) : IsStream (w.alloc o) g l := h.keep fun k hk => Below.heap_alloc w o k (Nat.lt_of_le_of_lt hk h.lt)
theorem IsStream.drew {w : World} {g : Nat} {l : List Int} (h : IsStream w g l) : IsStream w.drew g l := h.keep fun _ _ => rfl
theorem IsStream.base {w w' : World} {g B : Nat} {l : List Int} (h : IsStream w g l) (hb : Below B w w') (hB : g < B) : IsStream w' g l := h.keep fun k hk => hb.block k (by omega)
theorem IsStream.far {w : World} {g : Nat} {l : List Int} (h : IsStream w g l) {p : Addr} (hp : g < p.block) (v : Value) : IsStream (w.setCell p v) g l := h.keep fun k hk => Below.heap_setCell _ _ _ _ (by omega)
end Go.Proofs.YtjbmnbdlicmpoaaDoor
