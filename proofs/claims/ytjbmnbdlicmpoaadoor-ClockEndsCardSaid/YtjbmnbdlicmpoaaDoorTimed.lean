/-
  timed: the fact about clocks holds.
-/
import Derived.Test.YtjbmnbdlicmpoaaDoorMade
import Derived.Test.YtjbmnbdlicmpoaaDoorSolve
import Derived.ChangeKeysEq
namespace Go.Proofs.YtjbmnbdlicmpoaaDoor
open Go.RowKit
open Go.Proofs.YtjbmnbdlicmpoaaDoorW.PrintWords

def tEv : List Ev := [⟨⟨#[97]⟩, 5, 0⟩]
def tTi : List Ti := [⟨-1, 0, 10, 12⟩]
theorem t_clocks : clocksOf tEv = [⟨#[97]⟩] := by
  have h1 : (clocksOf tEv).length ≤ 1 := clocksOf_le tEv
  have h2 : (⟨#[97]⟩ : ByteArray) ∈ clocksOf tEv := mem_clocksOf (e := ⟨⟨#[97]⟩, 5, 0⟩) (List.mem_singleton.2 rfl)
  match h : clocksOf tEv, h1, h2 with
  | [x], _, h2 => rw [List.mem_singleton.1 h2]
  | [], _, h2 => simp at h2
theorem t_idx : idxB (clocksOf tEv) ⟨#[97]⟩ = 0 := by
  have := idxB_lt (ck := clocksOf tEv) (x := ⟨#[97]⟩) (by rw [t_clocks]; exact List.mem_singleton.2 rfl)
  rw [t_clocks] at this ⊢
  simpa using this
theorem t_good : Good tEv tTi := by
  refine ⟨by decide, by decide, by rw [t_clocks]; decide, fun e he => ?_, fun e he => ?_, fun x hx => ?_⟩
  · rw [List.mem_singleton.1 he]
    refine ⟨by decide, by decide, by decide, by decide, fun i hi => ?_⟩
    have hi' : i < 1 := hi
    match i, hi' with
    | 0, _ => decide
  · rw [List.mem_singleton.1 he]
    decide
  · rw [List.mem_singleton.1 hx]
    decide
theorem t_sol (k t : Int) (h1 : t - k = 5) (h2 : 10 ≤ t) (h3 : t ≤ 12) : IsSol tEv tTi [k] [t] := by
  refine ⟨by rw [t_clocks]; rfl, rfl, fun x hx => ?_, fun i e he => ?_, fun x hx => ?_⟩
  · have : x = k ∨ x = t := by simpa using hx
    omega
  · match i with
    | 0 =>
      cases he
      exact ⟨t, k, rfl, by rw [t_idx]; rfl, by dsimp only; omega, by dsimp only; omega⟩
    | i + 1 => cases he
  · rw [List.mem_singleton.1 hx]
    exact ⟨t, rfl, fun _ => ⟨h2, h3⟩, fun h => absurd h (by decide)⟩
theorem t_net : ∃ D, kl 3 3 (netOf tEv tTi) = some D ∧ SmallNet 3 D ∧ ivs D 2 1 = [(10, 12)] := by
  have e3 : 3 = 1 + (clocksOf tEv).length + tEv.length := by rw [t_clocks]; rfl
  obtain ⟨D, hD, p1⟩ := solvable t_good 3 e3 (t_sol 5 10 (by omega) (by omega) (by omega))
  obtain ⟨D2, hD2, p2⟩ := solvable t_good 3 e3 (t_sol 7 12 (by omega) (by omega) (by omega))
  rw [hD, Option.some.injEq] at hD2
  subst hD2
  obtain ⟨hs, s1, s2⟩ := closed_sols t_good 3 e3 hD
  rw [t_clocks] at p1 p2
  have q1 : (0 : Int) - 10 ≤ D 2 0 := p1 2 0 (by omega) (by omega)
  have q2 : (12 : Int) - 0 ≤ D 0 2 := p2 0 2 (by omega) (by omega)
  obtain ⟨tb, hb, h1, _⟩ := s1.ti ⟨-1, 0, 10, 12⟩ (List.mem_singleton.2 rfl)
  obtain ⟨tb', hb', h1', _⟩ := s2.ti ⟨-1, 0, 10, 12⟩ (List.mem_singleton.2 rfl)
  rw [t_clocks] at hb hb'
  have r1 : -D 2 0 = tb := by simpa [ivs, tEv] using hb
  have r2 : D 0 2 = tb' := by simpa [ivs, tEv] using hb'
  obtain ⟨a1, a2⟩ := h1 (by decide)
  obtain ⟨b1, b2⟩ := h1' (by decide)
  dsimp only at a1 a2 b1 b2
  refine ⟨D, hD, hs, ?_⟩
  have f1 : -D (2 + 0) 0 = 10 := by show -D 2 0 = 10; omega
  have f2 : D 0 (2 + 0) = 12 := by show D 0 2 = 12; omega
  rw [ivs, ivs, List.nil_append, f1, f2]

theorem C_one {α : Type} {d : Kd α} {w : World} {g : Nat} {x : α} {cs : List Value} {t : TypeId} (hb : w.heap[g]? = some (.cells cs.toArray t (0, 0))) (hK : d.K w x cs) (hl : cs.length = d.sz) : d.C w (some ⟨g, 0, none⟩) 1 [x] := by
  refine ⟨rfl, by omega, fun _ => ⟨_, rfl, fun j y hy => ?_⟩⟩
  match j, hy with
  | 0, hy =>
    cases hy
    refine ⟨cs, hl, hK, fun i u hu => ?_⟩
    rw [add_spot, blk_cell hb]
    simpa using hu
  | j + 1, hy => cases hy

theorem eq_pair (a b : Int) (W : World) : Sem.run Tryd.prog (Op.equalIn 10000 58 (.agg #[.int .i64 a, .int .i64 b]) (.agg #[.int .i64 a, .int .i64 b])) W = .ok true W := by
  obtain ⟨i, hi, _⟩ := Option.map_eq_some_iff.1 info_int
  have h := run_equalIn_array (P := Tryd.prog) (w := W) 9999 #[.int .i64 a, .int .i64 b] #[.int .i64 a, .int .i64 b] (t := 58) (e := 3) (n := 2) Tryd.underlying58 hi
  refine h.trans ?_
  have hc : Tryd.prog.cellsOf 3 = 1 := by kernel_rfl
  rw [hc, show List.range 2 = [0, 1] from rfl]
  simp only [Op.eqItems]
  go_simp
set_option maxRecDepth 100000 in
set_option maxHeartbeats 1000000 in
theorem timed_any (w : World) : Calls Tryd.prog 7 #[] w fun e w' => e = .returned (.bool true) ∧ Below w.heap.size w w' := by
  obtain ⟨D, hD, hs, hiv⟩ := t_net
  have e3 : 3 = 1 + (clocksOf tEv).length + tEv.length := by rw [t_clocks]; rfl
  have hS := fun (W : World) A At h ht => solve_any A 1 tEv At 1 tTi W h (Nat.le_refl _) ht t_good (Nat.le_refl _) 3 e3 (safe_of t_good 3 e3) (fun M' hM' => by rw [hD] at hM'; cases hM'; exact hs)
  rw [hD, t_clocks] at hS
  rw [show Option.map (fun D => ivs D (1 + [(⟨#[97]⟩ : ByteArray)].length) tEv.length) (some D) = some [(10, 12)] from congrArg some hiv] at hS
  have hS' : ∀ (W : World) (A At : Option Addr), kEv.C W A 1 tEv → kTi.C W At 1 tTi → Calls Tryd.prog 5 #[.slice A 1 1, .slice At 1 1] W (IvEnd (some [(10, 12)]) W) := hS
  have HS := Lib.hid hS'
  clear hS hS' e3 hD hs hiv
  go_enter Tryd.func7, Tryd.ntmps7
  go_wp2_with fail
  obtain ⟨W0, hW0⟩ : ∃ W0, W0 = (w.alloc (Obj.cells #[Value.string ⟨#[97]⟩, Value.int IntKind.i64 5, Value.int IntKind.i64 0] 47)).alloc (Obj.cells #[Value.int IntKind.i64 (-1), Value.int IntKind.i64 0, Value.int IntKind.i64 10, Value.int IntKind.i64 12] 49) := ⟨_, rfl⟩
  have hB0 : Below w.heap.size w W0 := by rw [hW0]; exact below_alloc (below_alloc (Below.refl _ _) _) _
  have hE : kEv.C W0 (some ⟨w.heap.size, 0, none⟩) 1 tEv := by rw [hW0]; exact C_one (cs := [.string ⟨#[97]⟩, .int .i64 5, .int .i64 0]) (blk_alloc (blk_new w _) _) (kEv.K_of_M (kEv_mk _ 0 (fun _ => True) ⟨⟨#[97]⟩, 5, 0⟩)) rfl
  have hT : kTi.C W0 (some ⟨w.heap.size + 1, 0, none⟩) 1 tTi := by rw [hW0]; exact C_one (cs := [.int .i64 (-1), .int .i64 0, .int .i64 10, .int .i64 12]) (by have := blk_new (w.alloc (Obj.cells #[Value.string ⟨#[97]⟩, Value.int IntKind.i64 5, Value.int IntKind.i64 0] 47)) (Obj.cells #[Value.int IntKind.i64 (-1), Value.int IntKind.i64 0, Value.int IntKind.i64 10, Value.int IntKind.i64 12] 49); simpa using this) (kTi.K_of_M (kTi_mk _ 0 (fun _ => True) ⟨-1, 0, 10, 12⟩)) rfl
  rw [← hW0]
  clear hW0
  refine (HS.out W0 _ _ hE hT).mono ?_
  rintro e w1 ⟨v, rfl, hR, hB⟩
  obtain ⟨A, c, rfl, hc, hC⟩ := Kd.R_reads hR
  obtain ⟨b, o, rfl, hb, hcell⟩ := iv_addr hC (by decide)
  obtain ⟨c0, c1⟩ := hcell 0 _ rfl
  have c0' : w1.cell? ⟨b, o, none⟩ = some (.int .i64 10) := by simpa using c0
  have c1' : w1.cell? ⟨b, o + 1, none⟩ = some (.int .i64 12) := by simpa using c1
  clear c0 c1
  have hBB := below_then hB0 hB0.size hB
  clear hcell hC hR HS hE hT
  have hq := fun W => eq_pair 10 12 W
  go_wp2_with fail
  go_ret
  exact ⟨rfl, hBB⟩
end Go.Proofs.YtjbmnbdlicmpoaaDoor
