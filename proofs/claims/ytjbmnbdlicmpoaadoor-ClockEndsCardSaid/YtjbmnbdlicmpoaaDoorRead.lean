/-
  Reading a row of elements at a known address; an own row as a row that is read.
-/
import Derived.Test.YtjbmnbdlicmpoaaDoorWWords
import Derived.Test.YtjbmnbdlicmpoaaDoorWKept
import Derived.Lib.Hide
namespace Go.Proofs.YtjbmnbdlicmpoaaDoor
open Go.RowKit
open Go.Proofs.YtjbmnbdlicmpoaaDoorW.PrintWords

theorem add_spot {b o j : Nat} : (⟨b, o, none⟩ : Addr).add j = ⟨b, o + j, none⟩ := by unfold Addr.add; split <;> simp_all
theorem spot_none {w : World} {a : Addr} {v : Value} (h : w.cell? a = some v) : a.spot = none := by
  unfold World.cell? at h
  split at h
  · split at h
    · cases h
    · rename_i hs; simpa using hs
  · cases h

/-- A row that is read stands at a plain address. -/
theorem C_addr {α : Type} {d : Kd α} {w : World} {A : Option Addr} {n : Nat} {xs : List α} (h : d.C w A n xs) (hn : 0 < n) (hs : 0 < d.sz) :
    ∃ b o, A = some ⟨b, o, none⟩ ∧ b < w.heap.size ∧ ∀ j x, xs[j]? = some x → ∃ c, c.length = d.sz ∧ d.K w x c ∧ ∀ i u, c[i]? = some u → w.cell? ⟨b, o + (j * d.sz + i), none⟩ = some u := by
  obtain ⟨hl, _, hr⟩ := h
  obtain ⟨⟨b, o, sp⟩, rfl, hc⟩ := hr hn
  have h0 : xs[0]? = some (xs[0]'(by omega)) := List.getElem?_eq_getElem (by omega)
  obtain ⟨c, hcl, hK, hcell⟩ := hc 0 _ h0
  have h1 : c[0]? = some (c[0]'(by omega)) := List.getElem?_eq_getElem (by omega)
  have h2 := hcell 0 _ h1
  have hsp : sp = none := by
    have := spot_none h2
    simpa [Addr.add] using this
  subst hsp
  refine ⟨b, o, rfl, World.block_lt_of_cell? w _ (by simpa [add_spot] using h2), fun j x hx => ?_⟩
  obtain ⟨c, hcl, hK, hcell⟩ := hc j x hx
  exact ⟨c, hcl, hK, fun i u hu => by simpa [add_spot] using hcell i u hu⟩
/-- A row of one cell each. -/
theorem C_cells {α : Type} {enc : α → Value} {h1 : ∀ x, (enc x).oneCell' = true} {w : World} {A : Option Addr} {n : Nat} {xs : List α} (h : (Kd.scalar enc h1).C w A n xs) (hn : 0 < n) :
    ∃ b o, A = some ⟨b, o, none⟩ ∧ b < w.heap.size ∧ ∀ j x, xs[j]? = some x → w.cell? ⟨b, o + j, none⟩ = some (enc x) := by
  obtain ⟨b, o, rfl, hb, hc⟩ := C_addr h hn (by simp [Kd.scalar])
  refine ⟨b, o, rfl, hb, fun j x hx => ?_⟩
  obtain ⟨c, _, hK, hcell⟩ := hc j x hx
  have hK' : c = [enc x] := hK
  subst hK'
  simpa [Kd.scalar] using hcell 0 _ rfl
/-- What a call keeps: all old blocks but those of S; nothing of the outside world turns. -/
structure Fr (w W : World) (S : Nat → Prop) : Prop where
  kept : Kept w W S
  os : W.os = w.os
  tape : W.tape = w.tape
  output : W.output = w.output
namespace Fr
variable {w W W2 : World} {S S2 S' : Nat → Prop}
theorem refl (w : World) (S : Nat → Prop) : Fr w w S := ⟨Kept.refl w S, rfl, rfl, rfl⟩
theorem size (h : Fr w W S) : w.heap.size ≤ W.heap.size := h.kept.1
theorem block (h : Fr w W S) {i : Nat} (hi : i < w.heap.size) (hn : ¬ S i) : W.heap[i]? = w.heap[i]? := h.kept.2 i hi hn
theorem of_below (h : Below w.heap.size w W) (S : Nat → Prop) : Fr w W S := ⟨Kept.of_below h S, h.os, h.tape, h.output⟩
theorem mono (h : Fr w W S) (hs : ∀ k, S k → S' k) : Fr w W S' := ⟨h.kept.mono hs, h.os, h.tape, h.output⟩
theorem then_ (h : Fr w W S) (k : Fr W W2 S2) (hs : ∀ k, S2 k → S k ∨ w.heap.size ≤ k) : Fr w W2 S := ⟨h.kept.then_ k.kept hs, k.os.trans h.os, k.tape.trans h.tape, k.output.trans h.output⟩
theorem below (h : Fr w W S) (hb : Below W.heap.size W W2) : Fr w W2 S := ⟨h.kept.below hb, hb.os.trans h.os, hb.tape.trans h.tape, hb.output.trans h.output⟩
theorem alloc (h : Fr w W S) (o : Obj) : Fr w (W.alloc o) S := h.below (below_alloc (Below.refl _ _) o)
theorem drew (h : Fr w W S) : Fr w W.drew S := ⟨h.kept.drew, h.os, h.tape, h.output⟩
theorem drewN (h : Fr w W S) (m : Nat) : Fr w (W.drewN m) S := ⟨h.kept.drewN m, h.os, h.tape, h.output⟩
theorem setCell (h : Fr w W S) {p : Addr} (hp : S p.block ∨ w.heap.size ≤ p.block) (u : Value) : Fr w (W.setCell p u) S := ⟨h.kept.setCell hp u, h.os, h.tape, h.output⟩
theorem grown (h : Fr w W S) {row : Option Nat} (hg : W.grownBy W2 row) (hr : ∀ k, row = some k → S k ∨ w.heap.size ≤ k) : Fr w W2 S := ⟨Kept.of_grown hg h.kept hr, hg.os.trans h.os, hg.tape.trans h.tape, hg.output.trans h.output⟩
/-- Nothing below B turned. -/
theorem toBelow (h : Fr w W S) {B : Nat} (hB : B ≤ w.heap.size) (hs : ∀ k, S k → B ≤ k) : Below B w W :=
  ⟨h.os, h.tape, h.output, h.size, fun k hk => h.block (by omega) (fun hS => by have := hs k hS; omega)⟩
theorem cell (h : Fr w W S) {a : Addr} {v : Value} (hc : w.cell? a = some v) (hn : ¬ S a.block) : W.cell? a = some v := cell_kept hc h.kept hn
theorem blk (h : Fr w W S) {g : Nat} {o : Obj} (hb : w.heap[g]? = some o) (hn : ¬ S g) : W.heap[g]? = some o := blk_kept hb h.kept hn
end Fr
section
variable {P : Program} {ops : Array Oper} {o : Oper} {a : Act} {Q : Exit → Act → World → Prop} {rest : List Oper} {α : Type}
/-- 'append(s, x)' of one element, s a row of the call's own: with the new block's number as the walk spells it. -/
theorem app_one (d : Kd α) {w0 W : World} (base : Nat) {z0 : Nat} (hz0 : W.heap.size = z0) (hgd : o.guard = none) (s x : Operand) (t e : TypeId) (z : Value) (bytes : Nat)
    (ho : o.op = .call { callee := .builtin .append, args := #[s, x], argTypes := #[t, t] })
    (ht : P.underlying t = some (.slice e)) (hinfo : (P.info? e).map (fun i => (i.zero, i.size, i.bytes)) = some (some z, d.sz, bytes)) (hz : z.cells.size = d.sz) (hs0 : 0 < d.sz) (hb0 : 0 < bytes)
    (v : Value) (xs : List α) (p : α) (cs : List Value) (ok okp : Nat → Prop) (hs : a.eval s = v) (hx : a.eval x = .slice (some ⟨z0, 0, none⟩) 1 1) (hp : d.M W base okp p cs) (hokp : ∀ k, okp k → ok k ∧ some k ≠ v.ownBlock) (hfresh : ∀ k, W.heap.size ≤ k → ok k)
    (HO : d.R e W base ok v xs) (HB : Below base w0 W) (hbase : base ≤ W.heap.size) (hl : (xs.length + 1) * bytes ≤ 140737488355328)
    (h : ∀ v1 w1, d.R e w1 base ok v1 (xs ++ [p]) → Below base w0 w1 → W.grownBy w1 v.ownBlock → (v1.ownBlock = v.ownBlock ∨ ∃ b, v1.ownBlock = some b ∧ W.heap.size ≤ b) → wpList P ops Q rest (a.put o.dst v1) w1) :
    wpList P ops Q (o :: rest) a (W.alloc (.cells cs.toArray e)) := by
  subst hz0
  exact Kd.R_append d base hgd s x t e z bytes ho ht hinfo hz hs0 hb0 v xs p cs ok okp hs hx hp hokp hfresh HO HB hbase hl h
/-- The same as one step of a region that draws its order. -/
theorem app_one_step {K : Act → World → Prop} (d : Kd α) {w0 W : World} (base : Nat) {z0 : Nat} (hz0 : W.heap.size = z0) (hw : Region.wanted o (yielded ops a.tmps) = true) (s x : Operand) (t e : TypeId) (z : Value) (bytes : Nat)
    (ho : o.op = .call { callee := .builtin .append, args := #[s, x], argTypes := #[t, t] })
    (ht : P.underlying t = some (.slice e)) (hinfo : (P.info? e).map (fun i => (i.zero, i.size, i.bytes)) = some (some z, d.sz, bytes)) (hz : z.cells.size = d.sz) (hs0 : 0 < d.sz) (hb0 : 0 < bytes)
    (v : Value) (xs : List α) (p : α) (cs : List Value) (ok okp : Nat → Prop) (hs : a.eval s = v) (hx : a.eval x = .slice (some ⟨z0, 0, none⟩) 1 1) (hp : d.M W base okp p cs) (hokp : ∀ k, okp k → ok k ∧ some k ≠ v.ownBlock) (hfresh : ∀ k, W.heap.size ≤ k → ok k)
    (HO : d.R e W base ok v xs) (HB : Below base w0 W) (hbase : base ≤ W.heap.size) (hl : (xs.length + 1) * bytes ≤ 140737488355328)
    (h : ∀ v1 w1, d.R e w1 base ok v1 (xs ++ [p]) → Below base w0 w1 → W.grownBy w1 v.ownBlock → (v1.ownBlock = v.ownBlock ∨ ∃ b, v1.ownBlock = some b ∧ W.heap.size ≤ b) → K (a.put o.dst v1) w1) :
    if Region.wanted o (yielded ops a.tmps) = true then Oper.wp P o a (W.alloc (.cells cs.toArray e)) K Q else K (a.put o.dst undef) (W.alloc (.cells cs.toArray e)) := by
  subst hz0
  exact Kd.R_append_step d base hw s x t e z bytes ho ht hinfo hz hs0 hb0 v xs p cs ok okp hs hx hp hokp hfresh HO HB hbase hl h
end
end Go.Proofs.YtjbmnbdlicmpoaaDoor
