/-
  Events and ties as Lean structures; how their rows stand in memory.
-/
import Derived.Test.YtjbmnbdlicmpoaaDoorRead
import Derived.Test.YtjbmnbdlicmpoaaDoorProg
import Derived.KernelRfl
import Derived.RowKit3
import Derived.Below
namespace Go.Proofs.YtjbmnbdlicmpoaaDoor
open Go.RowKit
open Go.Proofs.YtjbmnbdlicmpoaaDoorW.PrintWords

structure Ev where
  clock : ByteArray
  shown : Int
  wide : Int
structure Ti where
  a : Int
  b : Int
  low : Int
  high : Int
def kEv : Kd Ev := Kd.iso (Kd.pair Kd.string (Kd.pair (Kd.int .i64) (Kd.int .i64))) (fun x => (x.clock, x.shown, x.wide))
def kTi : Kd Ti := Kd.iso (Kd.pair (Kd.int .i64) (Kd.pair (Kd.int .i64) (Kd.pair (Kd.int .i64) (Kd.int .i64)))) (fun x => (x.a, x.b, x.low, x.high))
theorem kEv_open {w : World} {x : Ev} {cs : List Value} (h : kEv.K w x cs) : cs = [.string x.clock, .int .i64 x.shown, .int .i64 x.wide] := by
  obtain ⟨_, _, rfl, rfl, _, _, rfl, rfl, rfl⟩ := h
  rfl
theorem kEv_mk (w : World) (base : Nat) (ok : Nat → Prop) (x : Ev) : kEv.M w base ok x [.string x.clock, .int .i64 x.shown, .int .i64 x.wide] :=
  ⟨[.string x.clock], [.int .i64 x.shown, .int .i64 x.wide], rfl, rfl, ⟨[.int .i64 x.shown], [.int .i64 x.wide], rfl, rfl, rfl⟩⟩
theorem kTi_open {w : World} {x : Ti} {cs : List Value} (h : kTi.K w x cs) : cs = [.int .i64 x.a, .int .i64 x.b, .int .i64 x.low, .int .i64 x.high] := by
  obtain ⟨_, _, rfl, rfl, _, _, rfl, rfl, _, _, rfl, rfl, rfl⟩ := h
  rfl
theorem kTi_mk (w : World) (base : Nat) (ok : Nat → Prop) (x : Ti) : kTi.M w base ok x [.int .i64 x.a, .int .i64 x.b, .int .i64 x.low, .int .i64 x.high] :=
  ⟨[.int .i64 x.a], [.int .i64 x.b, .int .i64 x.low, .int .i64 x.high], rfl, rfl, ⟨[.int .i64 x.b], [.int .i64 x.low, .int .i64 x.high], rfl, rfl, ⟨[.int .i64 x.low], [.int .i64 x.high], rfl, rfl, rfl⟩⟩⟩

/-- Events that stand at a plain address: element j's three cells. -/
theorem ev_addr {w : World} {A : Option Addr} {n : Nat} {xs : List Ev} (h : kEv.C w A n xs) (hn : 0 < n) :
    ∃ b o, A = some ⟨b, o, none⟩ ∧ b < w.heap.size ∧ ∀ j x, xs[j]? = some x → w.cell? ⟨b, o + j * 3, none⟩ = some (.string x.clock) ∧ w.cell? ⟨b, o + j * 3 + 1, none⟩ = some (.int .i64 x.shown) ∧ w.cell? ⟨b, o + j * 3 + 2, none⟩ = some (.int .i64 x.wide) := by
  obtain ⟨b, o, rfl, hb, hc⟩ := C_addr h hn (by decide)
  refine ⟨b, o, rfl, hb, fun j x hx => ?_⟩
  obtain ⟨c, _, hK, hcell⟩ := hc j x hx
  obtain rfl := kEv_open hK
  exact ⟨hcell 0 _ rfl, hcell 1 _ rfl, hcell 2 _ rfl⟩
theorem ti_addr {w : World} {A : Option Addr} {n : Nat} {xs : List Ti} (h : kTi.C w A n xs) (hn : 0 < n) :
    ∃ b o, A = some ⟨b, o, none⟩ ∧ b < w.heap.size ∧ ∀ j x, xs[j]? = some x → w.cell? ⟨b, o + j * 4, none⟩ = some (.int .i64 x.a) ∧ w.cell? ⟨b, o + j * 4 + 1, none⟩ = some (.int .i64 x.b) ∧ w.cell? ⟨b, o + j * 4 + 2, none⟩ = some (.int .i64 x.low) ∧ w.cell? ⟨b, o + j * 4 + 3, none⟩ = some (.int .i64 x.high) := by
  obtain ⟨b, o, rfl, hb, hc⟩ := C_addr h hn (by decide)
  refine ⟨b, o, rfl, hb, fun j x hx => ?_⟩
  obtain ⟨c, _, hK, hcell⟩ := hc j x hx
  obtain rfl := kTi_open hK
  exact ⟨hcell 0 _ rfl, hcell 1 _ rfl, hcell 2 _ rfl, hcell 3 _ rfl⟩
end Go.Proofs.YtjbmnbdlicmpoaaDoor
