/-
  Events of the maker: what it hands back.
-/
import Derived.Test.YtjbmnbdlicmpoaaDoorMk1
import Derived.Test.YtjbmnbdlicmpoaaDoorEv
import Derived.Test.YtjbmnbdlicmpoaaDoorClocks
import Derived.Test.YtjbmnbdlicmpoaaDoorShelf
import Derived.Test.YtjbmnbdlicmpoaaDoorEnds
import Derived.StillTailTactics
import Derived.Deep.RegionWith
import Derived.Deep.RegionLaw
import Derived.IntWalk
namespace Go.Proofs.YtjbmnbdlicmpoaaDoor
open Go.RowKit
open Go.Proofs.YtjbmnbdlicmpoaaDoorW.PrintWords

theorem nextV_in (l : List Int) (n : Int) (hn : 1 ≤ n) : 0 ≤ nextV l n ∧ nextV l n < n := by
  unfold nextV
  split
  · omega
  · rw [if_neg (by omega)]
    exact ⟨Int.emod_nonneg _ (by omega), Int.emod_lt_of_pos _ (by omega)⟩
theorem Fr.base {w W W2 : World} {S : Nat → Prop} (h : Fr w W S) (hb : Below w.heap.size W W2) : Fr w W2 S :=
  ⟨⟨Nat.le_trans h.size hb.size, fun i hi hn => (hb.block i hi).trans (h.block hi hn)⟩, hb.os.trans h.os, hb.tape.trans h.tape, hb.output.trans h.output⟩

/-- The name of clock k of the maker. -/
def nm (k : Nat) : ByteArray := ⟨#[99, 108, 111, 99, 107, 45]⟩ ++ ⟨(Lib.decDigits k).toArray⟩
theorem nm_len {c : Nat} (h : c < 4) : (Lib.decDigits c).length = 1 := by rw [Lib.decDigits_one (by omega)]; rfl
theorem info_ev : (Tryd.prog.info? 47).map (fun i => (i.zero, i.size, i.bytes)) = some (some (.agg #[.string ⟨#[]⟩, .int .i64 0, .int .i64 0]), 3, 32) := by kernel_rfl
theorem info_ti : (Tryd.prog.info? 49).map (fun i => (i.zero, i.size, i.bytes)) = some (some (.agg #[.int .i64 0, .int .i64 0, .int .i64 0, .int .i64 0]), 4, 32) := by kernel_rfl

structure OkEv (es : Nat → Int) (e : Ev) (t : Int) : Prop where
  name : ∃ c, c < 4 ∧ e.clock = nm c ∧ e.shown - e.wide ≤ t - es c ∧ t - es c ≤ e.shown + e.wide
  t : 100 ≤ t ∧ t ≤ 499
  wide : 0 ≤ e.wide ∧ e.wide ≤ 3
  shown : 0 ≤ e.shown ∧ e.shown ≤ 1000
def tsAt (ts : List Int) (a : Int) : Int := if a < 0 then 0 else (ts[a.toNat]?).getD 0
theorem tsAt_nat {ts : List Int} {n : Nat} {t : Int} (h : ts[n]? = some t) : tsAt ts n = t := by
  unfold tsAt
  rw [if_neg (by omega), Int.toNat_natCast, h]
  rfl
structure OkTi (even : Prop) (ts : List Int) (x : Ti) : Prop where
  a : -1 ≤ x.a ∧ x.a < ts.length
  b : 0 ≤ x.b ∧ x.b < ts.length
  ne : x.a ≠ x.b
  rng : -2000 ≤ x.low ∧ x.low ≤ x.high ∧ x.high ≤ 2000
  hit : even → x.low ≤ tsAt ts x.b - tsAt ts x.a ∧ tsAt ts x.b - tsAt ts x.a ≤ x.high
def ErrsOk (es : Nat → Int) : Prop := ∀ c, -30 ≤ es c ∧ es c ≤ 30
structure EvRow (es : Nat → Int) (evs : List Ev) (ts : List Int) (k : Nat) : Prop where
  l1 : evs.length = k
  l2 : ts.length = k
  ev : ∀ (j : Nat) e t, evs[j]? = some e → ts[j]? = some t → OkEv es e t
structure Made (even : Prop) (es : Nat → Int) (evs : List Ev) (ts : List Int) (ties : List Ti) : Prop where
  errs : ErrsOk es
  row : EvRow es evs ts evs.length
  nev : evs.length ≤ 8
  nti : ties.length ≤ 9
  ti : ∀ x ∈ ties, OkTi even ts x
def MakeEnd (l : List Int) (w : World) (e : Ending) (w' : World) : Prop :=
  ∃ v1 v2 es evs ts ties, e = .returned (.tuple #[v1, v2]) ∧ kEv.R 47 w' w.heap.size (fun k => w.heap.size ≤ k) v1 evs ∧ kTi.R 49 w' w.heap.size (fun k => w.heap.size ≤ k) v2 ties ∧ Made (nextV l 2 = 0) es evs ts ties ∧ Below w.heap.size w w'

theorem EvRow.snoc {es : Nat → Int} {evs : List Ev} {ts : List Int} {k : Nat} (h : EvRow es evs ts k) (e : Ev) (t : Int) (ok : OkEv es e t) : EvRow es (evs ++ [e]) (ts ++ [t]) (k + 1) := by
  obtain ⟨l1, l2, h3⟩ := h
  refine ⟨by simp [l1], by simp [l2], fun j e' t' he ht => ?_⟩
  by_cases hj : j < k
  · rw [List.getElem?_append_left (by omega)] at he ht
    exact h3 j e' t' he ht
  · rw [List.getElem?_append_right (by omega)] at he ht
    by_cases hj2 : j = k
    · subst hj2
      simp [l1] at he
      simp [l2] at ht
      subst he ht
      exact ok
    · rw [List.getElem?_eq_none (by simp; omega)] at he
      cases he
def ErrBlk (w : World) (ge : Nat) (es : Nat → Int) : Prop := ∃ (cs : Array Value) (t : TypeId), w.heap[ge]? = some (.cells cs t (0, 0)) ∧ cs.size = 4 ∧ ∀ i, i < 4 → cs[i]? = some (.int .i64 (es i))
theorem ErrBlk.cell {w : World} {ge : Nat} {es : Nat → Int} (h : ErrBlk w ge es) {i : Nat} (hi : i < 4) : w.cell? ⟨ge, i, none⟩ = some (.int .i64 (es i)) := by
  obtain ⟨cs, t, hb, _, hc⟩ := h
  exact (blk_cell hb i).trans (hc i hi)
theorem ErrBlk.frozen {w : World} {ge : Nat} {es : Nat → Int} (h : ErrBlk w ge es) (i : Nat) : w.frozen? ⟨ge, i, none⟩ = false := by
  obtain ⟨cs, t, hb, _, hc⟩ := h
  exact blk_frozen hb i
theorem ErrBlk.keep {w w' : World} {ge : Nat} {es : Nat → Int} (h : ErrBlk w ge es) (hk : w'.heap[ge]? = w.heap[ge]?) : ErrBlk w' ge es := by
  obtain ⟨cs, t, hb, hs, hc⟩ := h
  exact ⟨cs, t, hk.trans hb, hs, hc⟩
theorem ErrBlk.lt {w : World} {ge : Nat} {es : Nat → Int} (h : ErrBlk w ge es) : ge < w.heap.size := by
  obtain ⟨cs, t, hb, hs, hc⟩ := h
  exact blk_lt hb
theorem ErrBlk.set {w : World} {ge : Nat} {es : Nat → Int} (h : ErrBlk w ge es) (i : Nat) (v : Int) : ErrBlk (w.setCell ⟨ge, i, none⟩ (.int .i64 v)) ge (fun j => if j = i then v else es j) := by
  obtain ⟨cs, t, hb, hs, hc⟩ := h
  refine ⟨_, t, blk_set hb i _, by simpa using hs, fun j hj => ?_⟩
  by_cases e : j = i
  · subst e; simp [hs, hj]
  · rw [Array.getElem?_setIfInBounds_ne (Ne.symm e)]; simpa [e] using hc j hj

set_option maxRecDepth 100000 in
set_option maxHeartbeats 4000000 in
theorem make_any (A : Option Addr) (c : Nat) (l : List Int) (w : World) (h : (Kd.int .i64).C w A l.length l) (hc : l.length ≤ c) :
    Calls Tryd.prog 4 #[.slice A l.length c] w (MakeEnd l w) := by
  go_enter Tryd.func4, Tryd.ntmps4
  go_wp2_with fail
  refine (next_any w.heap.size l 2 _ (stream_new h hc) (by omega)).mono ?_
  rintro e w1 ⟨rfl, hS1, hF1⟩
  have hgl := hS1.lt
  have hB1 : Below w.heap.size w w1 := by
    have := (Fr.refl (w.alloc (Obj.cells #[Value.slice A l.length c] 42)) (fun k => k = w.heap.size)).then_ hF1 (fun k hk => .inl hk)
    exact (below_alloc (Below.refl _ _) _).trans (this.toBelow (by simp) (fun k hk => by omega))
  clear hF1
  generalize hv0 : nextV l 2 = v0
  generalize nextL l 2 = l1 at hS1
  generalize hg : w.heap.size = g at *
  go_wp2_with fail
  generalize hge : w1.heap.size = ge at hgl ⊢
  have hS2 : IsStream (w1.alloc (Obj.cells #[Value.int IntKind.i64 0, Value.int IntKind.i64 0, Value.int IntKind.i64 0, Value.int IntKind.i64 0] 44)) g l1 := hS1.alloc _
  have hE2 : ErrBlk (w1.alloc (Obj.cells #[Value.int IntKind.i64 0, Value.int IntKind.i64 0, Value.int IntKind.i64 0, Value.int IntKind.i64 0] 44)) ge (fun _ => 0) :=
    ⟨_, _, by rw [← hge]; exact blk_new _ _, rfl, fun i hi => by match i, hi with | 0, _ => rfl | 1, _ => rfl | 2, _ => rfl | 3, _ => rfl⟩
  have hB2 : Below g w (w1.alloc (Obj.cells #[Value.int IntKind.i64 0, Value.int IntKind.i64 0, Value.int IntKind.i64 0, Value.int IntKind.i64 0] 44)) := by subst hg; exact below_alloc hB1 _
  have hZ2 : (w1.alloc (Obj.cells #[Value.int IntKind.i64 0, Value.int IntKind.i64 0, Value.int IntKind.i64 0, Value.int IntKind.i64 0] 44)).heap.size = ge + 1 := by simp [hge]
  clear hS1 hB1
  generalize w1.alloc (Obj.cells #[Value.int IntKind.i64 0, Value.int IntKind.i64 0, Value.int IntKind.i64 0, Value.int IntKind.i64 0] 44) = W0 at *
  clear hge
  go_loopw [23] (fun i wr => ∃ k : Nat, k ≤ 4 ∧ i = .int .i64 k ∧ (∃ ls, IsStream wr g ls) ∧ (∃ es, ErrsOk es ∧ ErrBlk wr ge es) ∧ Fr W0 wr (fun i => i = g ∨ i = ge)) (fun i _ => 4 - (intOf i).toNat)
  case atStart => exact ⟨0, by omega, rfl, ⟨_, hS2⟩, ⟨_, fun _ => by omega, hE2⟩, Fr.refl _ _⟩
  case round =>
    obtain ⟨k, hk, rfl, ⟨ls, hS⟩, ⟨es, hes, hE⟩, hF⟩ := hrel
    by_cases hlt : k < 4
    · go_wp2_with fail
      refine (next_any g ls 61 _ hS (by omega)).mono ?_
      rintro e w2 ⟨rfl, hS2, hF2⟩
      have hv := nextV_in ls 61 (by omega)
      generalize nextV ls 61 = v at hv
      have hE2 : ErrBlk w2 ge es := hE.keep (hF2.block hE.lt (by omega))
      have hc1 := hE2.cell hlt
      have hf1 := hE2.frozen k
      go_wp2_with fail
      go_roundw
      case rel => exact ⟨k + 1, by omega, by go_num, ⟨_, hS2.far (p := ⟨ge, k, none⟩) hgl _⟩, ⟨_, fun j => by have := hes j; constructor <;> split <;> omega, hE2.set k _⟩, Fr.setCell (p := ⟨ge, k, none⟩) (hF.then_ hF2 (fun k hk => .inl (.inl hk))) (.inl (.inr rfl)) _⟩
      case measure => simp [intOf]; omega
    · obtain rfl : 4 = k := by omega
      clear hS2 hE2
      go_wp2_with fail
      refine (next_any g ls 9 _ hS (by omega)).mono ?_
      rintro e w2 ⟨rfl, hS2, hF2⟩
      have hv := nextV_in ls 9 (by omega)
      generalize nextV ls 9 = N at hv
      generalize nextL ls 9 = ls2 at hS2
      have hE2 : ErrBlk w2 ge es := hE.keep (hF2.block hE.lt (by omega))
      have hB3 : Below g w w2 := hB2.trans ((hF.then_ hF2 (fun k hk => .inl (.inl hk))).toBelow (by omega) (fun k hk => by omega))
      have hzz : ge < w2.heap.size := hE2.lt
      obtain ⟨n, rfl⟩ : ∃ n : Nat, N = n := ⟨N.toNat, by omega⟩
      clear hS hE hF hF2 hB2 hZ2
      generalize hB : w2.heap.size = B at hzz
      go_wp2_with fail
      go_loopw [8, 9, 34] (fun v8 v9 i wr => ∃ (k : Nat) (evs : List Ev) (ts ls : List Int), k ≤ n ∧ i = .int .i64 k ∧ kEv.R 47 wr B (fun k => B ≤ k) v8 evs ∧ (Kd.int .i64).R 3 wr B (fun k => B ≤ k) v9 ts ∧ EvRow es evs ts k ∧ IsStream wr g ls ∧ ErrBlk wr ge es ∧ Fr w2 wr (fun k => k = g)) (fun _ _ i _ => n - (intOf i).toNat)
      case atStart => exact ⟨0, [], [], ls2, by omega, rfl, Kd.R_nil _ _ _ _ _, Kd.R_nil _ _ _ _ _, ⟨rfl, rfl, fun j e t h => by simp at h⟩, hS2, hE2, Fr.refl _ _⟩
      case round =>
        obtain ⟨k, evs, ts, ls, hk, rfl, hR8, hR9, hrow, hS, hE, hF⟩ := hrel
        have hBr : B ≤ wr.heap.size := by have := hF.size; omega
        by_cases hlt : k < n
        · go_wp2_with fail
          refine (next_any g ls 4 _ hS (by omega)).mono ?_
          rintro e w3 ⟨rfl, hS3, hF3⟩
          have hv1 := nextV_in ls 4 (by omega)
          generalize nextV ls 4 = c1 at hv1
          go_wp2_with fail
          refine (next_any g _ 4 _ hS3 (by omega)).mono ?_
          rintro e w4 ⟨rfl, hS4, hF4⟩
          have hv2 := nextV_in (nextL ls 4) 4 (by omega)
          generalize nextV (nextL ls 4) 4 = wide at hv2
          go_wp2_with fail
          refine (next_any g _ 400 _ hS4 (by omega)).mono ?_
          rintro e w5 ⟨rfl, hS5, hF5⟩
          have hv3 := nextV_in (nextL (nextL ls 4) 4) 400 (by omega)
          generalize nextV (nextL (nextL ls 4) 4) 400 = tt at hv3
          generalize nextL (nextL (nextL ls 4) 4) 400 = ls5 at hS5
          have hF35 : Fr wr w5 (fun k => k = g) := (hF3.then_ hF4 (fun k hk => .inl hk)).then_ hF5 (fun k hk => .inl hk)
          clear hF3 hF4 hF5 hS3 hS4 hS
          have hR8' := Kd.R_kept hR8 hF35.kept (fun k hk => by omega)
          have hR9' := Kd.R_kept hR9 hF35.kept (fun k hk => by omega)
          have hE5 : ErrBlk w5 ge es := hE.keep (hF35.block hE.lt (by omega))
          have hFF : Fr w2 w5 (fun k => k = g) := hF.then_ hF35 (fun k hk => .inl hk)
          clear hR8 hR9 hE hF
          go_wp2_with fail
          obtain ⟨cn, rfl⟩ : ∃ cn : Nat, c1 = cn := ⟨c1.toNat, by omega⟩
          obtain ⟨v, hvv⟩ : ∃ v, nextV ls5 (2 * wide + 1) = v := ⟨_, rfl⟩
          obtain ⟨ls6, hl6⟩ : ∃ v, nextL ls5 (2 * wide + 1) = v := ⟨_, rfl⟩
          have hv4 := nextV_in ls5 (2 * wide + 1) (by omega)
          have hN := next_any g ls5 (2 * wide + 1) w5.drew hS5.drew (by omega)
          rw [hvv, hl6] at hN
          rw [hvv] at hv4
          have hdl : (Lib.decDigits cn).length = 1 := nm_len (by omega)
          have hI := fun W => Tryd.strconv_Itoa_small cn (by omega) W
          have c5 : w5.drew.cell? ⟨ge, cn, none⟩ = some (.int .i64 (es cn)) := hE5.cell (i := cn) (by omega)
          have hge5 := hE5.lt
          have hes5 := hes cn
          have q0 : IntKind.i64.wrap (2 * wide) = 2 * wide := IntWalk.i64_in _ (by omega)
          have q1 : IntKind.i64.wrap (2 * wide + 1) = 2 * wide + 1 := IntWalk.i64_in _ (by omega)
          have q2 : IntKind.i64.wrap (100 + tt - es cn) = 100 + tt - es cn := IntWalk.i64_in _ (by omega)
          have q3 : IntKind.i64.wrap (100 + tt - es cn + v) = 100 + tt - es cn + v := IntWalk.i64_in _ (by omega)
          have q4 : IntKind.i64.wrap (100 + tt - es cn + v - wide) = 100 + tt - es cn + v - wide := IntWalk.i64_in _ (by omega)
          have q5 : (cn : Int) < 4 := by omega
          have q6 : cn < 4 := by omega
          have hl : (evs.length + 1) * 32 ≤ 140737488355328 := by rw [hrow.l1]; omega
          have hBB : B ≤ w5.heap.size := by have := hFF.size; omega
          have HR8 := Lib.hid hR8'
          have HR9 := Lib.hid hR9'
          have HE5 := Lib.hid hE5
          have HFF := Lib.hid hFF
          have Hrow := Lib.hid hrow
          clear hR8' hR9' hE5 hFF hrow hS5
          go_region_law (first
            | (go_simp; go_at_call 14; refine (hI _).mono ?_; rintro e w' ⟨rfl, rfl⟩)
            | (go_simp; go_at_call 13; refine hN.mono ?_; rintro e w6 ⟨rfl, hS6, hF6⟩; have c6 := hF6.cell c5 (by dsimp only; omega); have HR8' := Lib.hid (Kd.R_kept HR8.out (hF6.kept) (fun k hk => by omega)))
            | (refine app_one_step kEv (w0 := w6) (W := w6) B rfl (by rfl) (.tmp 43) (.tmp 62) 23 47 (.agg #[.string ⟨#[]⟩, .int .i64 0, .int .i64 0]) 32 rfl Tryd.underlying23 info_ev rfl (by decide) (by decide) _ _ ⟨nm cn, 100 + tt - es cn + v - wide, wide⟩ [.string (nm cn), .int .i64 (100 + tt - es cn + v - wide), .int .i64 wide] (fun k => B ≤ k) (fun _ => False) rfl rfl (kEv_mk _ _ _ _) (fun _ h => h.elim) (fun k hk => Nat.le_trans (Nat.le_trans hBB hF6.size) hk) HR8'.out (Below.refl _ _) (Nat.le_trans hBB hF6.size) hl ?_; intro v1 w1 HO1 HB1 hg hat))
          all_goals
            clear q0 q1 q2 q3 q4 c5 c6
            have hR9'' := Kd.R_over (Kd.R_kept HR9.out hF6.kept (fun k hk => by omega)) HR8'.out (by decide) (show w6.grownBy w1 u8.ownBlock from hg)
            have hS1 : IsStream w1 g ls6 := hS6.base HB1 (by omega)
            have hE1 : ErrBlk w1 ge es := HE5.out.keep ((HB1.block ge (by omega)).trans (hF6.block (by simpa using hge5) (by omega)))
            have hF1 : Fr w2 w1 (fun k => k = g) := ((HFF.out.drew).then_ hF6 (fun k hk => .inl hk)).base (by rw [hB]; exact HB1)
            have hl1 : (ts.length + 1) * 8 ≤ 140737488355328 := by have := Hrow.out.l2; omega
            have hBB1 : B ≤ w1.heap.size := by have := hF1.size; omega
            clear hg hat HR8' HR8 HR9 hN hI HB1
            have HO1' := Lib.hid HO1
            clear HO1
            go_wp2_with (at_builtin; refine app_one (Kd.int .i64) (w0 := w1) B (by rfl) rfl (.tmp 64) (.tmp 66) 22 3 (.int .i64 0) 8 rfl Tryd.underlying22 info_int rfl (by decide) (by decide) _ _ (100 + tt) [.int .i64 (100 + tt)] (fun k => B ≤ k) (fun _ => False) rfl rfl (by rfl) (fun _ h => h.elim) (fun k hk => Nat.le_trans hBB1 hk) hR9'' (Below.refl _ _) hBB1 hl1 ?_; intro v2 w7 HO2 HB2 hg2 hat2)
            have hok : OkEv es ⟨nm cn, 100 + tt - es cn + v - wide, wide⟩ (100 + tt) := ⟨⟨cn, by omega, rfl, by dsimp only; omega, by dsimp only; omega⟩, by omega, by dsimp only; omega, by dsimp only; omega⟩
            go_roundw
            case rel => exact ⟨k + 1, _, _, ls6, by omega, by go_num, Kd.R_over HO1'.out hR9'' (by decide) (show w1.grownBy w7 u9.ownBlock from hg2), HO2, Hrow.out.snoc _ _ hok, hS1.base HB2 (by omega), hE1.keep (HB2.block ge (by omega)), hF1.base (by rw [hB]; exact HB2)⟩
            case measure => simp [intOf]; omega
        · obtain rfl : n = k := by omega
          clear hS2 hE2
          go_wp2_with fail
          refine (next_any g ls 10 _ hS (by omega)).mono ?_
          rintro e w3 ⟨rfl, hS3, hF3⟩
          have hv1 := nextV_in ls 10 (by omega)
          generalize nextV ls 10 = M at hv1
          generalize nextL ls 10 = ls3 at hS3
          obtain ⟨m, rfl⟩ : ∃ m : Nat, M = m := ⟨M.toNat, by omega⟩
          have hR8' := Kd.R_kept hR8 hF3.kept (fun k hk => by omega)
          have hR9' := Kd.R_kept hR9 hF3.kept (fun k hk => by omega)
          have hB4 : Below g w w3 := hB3.trans ((hF.then_ hF3 (fun k hk => .inl hk)).toBelow (by omega) (fun k hk => by omega))
          have hBw : B ≤ w3.heap.size := Nat.le_trans hBr hF3.size
          clear hE hR8 hR9 hS hF hF3 hB3
          obtain ⟨A9, c9, rfl, hc9, _⟩ := Kd.R_reads hR9'
          have l1 := hrow.l1
          have l2 := hrow.l2
          have hts : ∀ t ∈ ts, 100 ≤ t ∧ t ≤ 499 := fun t ht => by
            obtain ⟨j, hj, rfl⟩ := List.getElem_of_mem ht
            exact (hrow.ev j (evs[j]'(by omega)) _ (List.getElem?_eq_getElem _) (List.getElem?_eq_getElem hj)).t
          have Hrow := Lib.hid hrow
          have Hts := Lib.hid hts
          clear hrow hts
          go_wp2_with fail
          cases hev : (v0 == 0) with
          | true =>
            replace hev := Lib.hid hev
            go_loopw [13, 71] (fun v i wr => ∃ (k : Nat) (ties : List Ti) (ls : List Int), k ≤ m ∧ i = .int .i64 k ∧ kTi.R 49 wr w3.heap.size (fun k => w3.heap.size ≤ k) v ties ∧ ties.length = k ∧ (∀ x ∈ ties, OkTi (v0 = 0) ts x) ∧ IsStream wr g ls ∧ Fr w3 wr (fun k => k = g)) (fun _ i _ => m - (intOf i).toNat)
            case atStart => exact ⟨0, [], ls3, by omega, rfl, Kd.R_nil _ _ _ _ _, rfl, fun x hx => by simp at hx, hS3, Fr.refl _ _⟩
            case round =>
              obtain ⟨k, ties, ls, hk, rfl, hR, hkl, hties, hS, hF⟩ := hrel
              by_cases hlt : k < m ∧ 0 < n
              · obtain ⟨hlt, hpos⟩ := hlt
                have hne : ((n : Int) == 0) = false := by rw [beq_eq_false_iff_ne]; omega
                have hne2 : (n == 0) = false := by rw [beq_eq_false_iff_ne]; omega
                go_wp2_with fail
                refine (next_any g ls n _ hS (by omega)).mono ?_
                rintro e w4 ⟨rfl, hS4, hF4⟩
                have hv2 := nextV_in ls n (by omega)
                generalize nextV ls n = b at hv2
                go_wp2_with fail
                refine (next_any g _ (n + 1) _ hS4 (by omega)).mono ?_
                rintro e w5 ⟨rfl, hS5, hF5⟩
                have hv3 := nextV_in (nextL ls n) (n + 1) (by omega)
                generalize nextV (nextL ls n) (n + 1) = a1 at hv3
                generalize nextL (nextL ls n) (n + 1) = ls5 at hS5
                have hF45 : Fr wr w5 (fun k => k = g) := hF4.then_ hF5 (fun k hk => .inl hk)
                have hF35 : Fr w3 w5 (fun k => k = g) := hF.then_ hF45 (fun k hk => .inl hk)
                have hR5 := Kd.R_kept hR hF45.kept (fun k hk => by omega)
                clear hF4 hF5 hS4 hS hR hF
                obtain ⟨A9', c9', e9, hc9', hC9⟩ := Kd.R_reads (Kd.R_kept hR9' hF35.kept (fun k hk => by omega))
                cases e9
                obtain ⟨b9, o9, rfl, hb9, hcell⟩ := C_cells hC9 (by omega)
                obtain ⟨bn, rfl⟩ : ∃ bn : Nat, b = bn := ⟨b.toNat, by omega⟩
                obtain ⟨a, rfl⟩ : ∃ a, a1 = a + 1 := ⟨a1 - 1, by omega⟩
                have ea : a + 1 - 1 = a := by omega
                obtain ⟨tb, htb⟩ : ∃ tb, ts[bn]? = some tb := ⟨_, List.getElem?_eq_getElem (by omega)⟩
                have ct := hcell bn tb htb
                have htb2 := Hts.out tb (List.mem_of_getElem? htb)
                have HC := Lib.hid hcell
                have HR5 := Lib.hid hR5
                have HF35 := Lib.hid hF35
                have HS5 := Lib.hid hS5
                have Htb := Lib.hid htb
                have Hties := Lib.hid hties
                clear hcell hC9 hR5 hF35 hS5 hF45 htb hties
                have hT : tsAt ts bn = tb := tsAt_nat Htb.out
                by_cases hab : (bn : Int) = a
                · subst hab
                  have hA : tsAt ts (-1) = 0 := rfl
                  have hab2 : ((bn : Int) == (bn : Int)) = true := by simp
                  go_wp2_with fail
                  refine (next_any g ls5 20 _ HS5.out (by omega)).mono ?_
                  rintro e w7 ⟨rfl, hS7, hF7⟩
                  have hv7 := nextV_in ls5 20 (by omega)
                  generalize nextV ls5 20 = v7 at hv7
                  generalize nextL ls5 20 = ls7 at hS7
                  go_wp2_with fail
                  refine (next_any g ls7 20 _ hS7 (by omega)).mono ?_
                  rintro e w8 ⟨rfl, hS8, hF8⟩
                  have hv8 := nextV_in ls7 20 (by omega)
                  generalize nextV ls7 20 = v8 at hv8
                  generalize nextL ls7 20 = ls8 at hS8
                  have hF58 : Fr w5 w8 (fun k => k = g) := hF7.then_ hF8 (fun k hk => .inl hk)
                  have hR8 := Kd.R_kept HR5.out hF58.kept (fun k hk => by omega)
                  have hF38 : Fr w3 w8 (fun k => k = g) := HF35.out.then_ hF58 (fun k hk => .inl hk)
                  have hBB8 := hF38.size
                  have hl8 : (ties.length + 1) * 32 ≤ 140737488355328 := by omega
                  have hgw3 : g < w3.heap.size := by omega
                  have hok : OkTi (v0 = 0) ts ⟨-1, bn, tb - v7, tb + v8⟩ := ⟨by dsimp only; omega, by dsimp only; omega, by dsimp only; omega, by dsimp only; omega, fun _ => by constructor <;> (dsimp only; rw [hT, hA]; omega)⟩
                  clear hT hA hF58 hS7 hF7 hF8
                  go_wp2_with (at_builtin; refine app_one kTi (w0 := w8) w3.heap.size (by rfl) rfl (.tmp 108) (.tmp 120) 24 49 (.agg #[.int .i64 0, .int .i64 0, .int .i64 0, .int .i64 0]) 32 rfl Tryd.underlying24 info_ti rfl (by decide) (by decide) _ _ ⟨-1, bn, tb - v7, tb + v8⟩ [.int .i64 (-1), .int .i64 bn, .int .i64 (tb - v7), .int .i64 (tb + v8)] (fun k => w3.heap.size ≤ k) (fun _ => False) rfl rfl (kTi_mk _ _ _ _) (fun _ h => h.elim) (fun k hk => Nat.le_trans hBB8 hk) hR8 (Below.refl _ _) hBB8 hl8 ?_; intro v1 w9 HO HB hg2 hat)
                  go_roundw
                  case rel => exact ⟨k + 1, _, ls8, by omega, by go_num, HO, by simp [hkl], fun x hx => (List.mem_append.1 hx).elim (Hties.out x) (fun h => by rw [List.mem_singleton.1 h]; exact hok), hS8.base HB hgw3, hF38.base HB⟩
                  case measure => simp [intOf]; omega
                · have hab2 : (a == (bn : Int)) = false := by rw [beq_eq_false_iff_ne]; omega
                  by_cases ha0 : 0 ≤ a
                  · obtain ⟨an, rfl⟩ : ∃ an : Nat, a = an := ⟨a.toNat, by omega⟩
                    obtain ⟨ta, hta⟩ : ∃ ta, ts[an]? = some ta := ⟨_, List.getElem?_eq_getElem (by omega)⟩
                    have ct2 := HC.out an ta hta
                    have hta2 := Hts.out ta (List.mem_of_getElem? hta)
                    have hA : tsAt ts an = ta := tsAt_nat hta
                    clear hta
                    go_wp2_with fail
                    refine (next_any g ls5 20 _ HS5.out (by omega)).mono ?_
                    rintro e w7 ⟨rfl, hS7, hF7⟩
                    have hv7 := nextV_in ls5 20 (by omega)
                    generalize nextV ls5 20 = v7 at hv7
                    generalize nextL ls5 20 = ls7 at hS7
                    go_wp2_with fail
                    refine (next_any g ls7 20 _ hS7 (by omega)).mono ?_
                    rintro e w8 ⟨rfl, hS8, hF8⟩
                    have hv8 := nextV_in ls7 20 (by omega)
                    generalize nextV ls7 20 = v8 at hv8
                    generalize nextL ls7 20 = ls8 at hS8
                    have hF58 : Fr w5 w8 (fun k => k = g) := hF7.then_ hF8 (fun k hk => .inl hk)
                    have hR8 := Kd.R_kept HR5.out hF58.kept (fun k hk => by omega)
                    have hF38 : Fr w3 w8 (fun k => k = g) := HF35.out.then_ hF58 (fun k hk => .inl hk)
                    have hBB8 := hF38.size
                    have hl8 : (ties.length + 1) * 32 ≤ 140737488355328 := by omega
                    have hgw3 : g < w3.heap.size := by omega
                    have hok : OkTi (v0 = 0) ts ⟨(an : Int), bn, (tb - ta) - v7, (tb - ta) + v8⟩ := ⟨by dsimp only; omega, by dsimp only; omega, by dsimp only; omega, by dsimp only; omega, fun _ => by constructor <;> (dsimp only; rw [hT, hA]; omega)⟩
                    clear hT hA hF58 hS7 hF7 hF8
                    go_wp2_with (at_builtin; refine app_one kTi (w0 := w8) w3.heap.size (by rfl) rfl (.tmp 108) (.tmp 120) 24 49 (.agg #[.int .i64 0, .int .i64 0, .int .i64 0, .int .i64 0]) 32 rfl Tryd.underlying24 info_ti rfl (by decide) (by decide) _ _ ⟨(an : Int), bn, (tb - ta) - v7, (tb - ta) + v8⟩ [.int .i64 ((an : Int)), .int .i64 bn, .int .i64 ((tb - ta) - v7), .int .i64 ((tb - ta) + v8)] (fun k => w3.heap.size ≤ k) (fun _ => False) rfl rfl (kTi_mk _ _ _ _) (fun _ h => h.elim) (fun k hk => Nat.le_trans hBB8 hk) hR8 (Below.refl _ _) hBB8 hl8 ?_; intro v1 w9 HO HB hg2 hat)
                    go_roundw
                    case rel => exact ⟨k + 1, _, ls8, by omega, by go_num, HO, by simp [hkl], fun x hx => (List.mem_append.1 hx).elim (Hties.out x) (fun h => by rw [List.mem_singleton.1 h]; exact hok), hS8.base HB hgw3, hF38.base HB⟩
                    case measure => simp [intOf]; omega
                  · obtain rfl : a = -1 := by omega
                    have hA : tsAt ts (-1) = 0 := rfl
                    go_wp2_with fail
                    refine (next_any g ls5 20 _ HS5.out (by omega)).mono ?_
                    rintro e w7 ⟨rfl, hS7, hF7⟩
                    have hv7 := nextV_in ls5 20 (by omega)
                    generalize nextV ls5 20 = v7 at hv7
                    generalize nextL ls5 20 = ls7 at hS7
                    go_wp2_with fail
                    refine (next_any g ls7 20 _ hS7 (by omega)).mono ?_
                    rintro e w8 ⟨rfl, hS8, hF8⟩
                    have hv8 := nextV_in ls7 20 (by omega)
                    generalize nextV ls7 20 = v8 at hv8
                    generalize nextL ls7 20 = ls8 at hS8
                    have hF58 : Fr w5 w8 (fun k => k = g) := hF7.then_ hF8 (fun k hk => .inl hk)
                    have hR8 := Kd.R_kept HR5.out hF58.kept (fun k hk => by omega)
                    have hF38 : Fr w3 w8 (fun k => k = g) := HF35.out.then_ hF58 (fun k hk => .inl hk)
                    have hBB8 := hF38.size
                    have hl8 : (ties.length + 1) * 32 ≤ 140737488355328 := by omega
                    have hgw3 : g < w3.heap.size := by omega
                    have hok : OkTi (v0 = 0) ts ⟨-1, bn, tb - v7, tb + v8⟩ := ⟨by dsimp only; omega, by dsimp only; omega, by dsimp only; omega, by dsimp only; omega, fun _ => by constructor <;> (dsimp only; rw [hT, hA]; omega)⟩
                    clear hT hA hF58 hS7 hF7 hF8
                    go_wp2_with (at_builtin; refine app_one kTi (w0 := w8) w3.heap.size (by rfl) rfl (.tmp 108) (.tmp 120) 24 49 (.agg #[.int .i64 0, .int .i64 0, .int .i64 0, .int .i64 0]) 32 rfl Tryd.underlying24 info_ti rfl (by decide) (by decide) _ _ ⟨-1, bn, tb - v7, tb + v8⟩ [.int .i64 (-1), .int .i64 bn, .int .i64 (tb - v7), .int .i64 (tb + v8)] (fun k => w3.heap.size ≤ k) (fun _ => False) rfl rfl (kTi_mk _ _ _ _) (fun _ h => h.elim) (fun k hk => Nat.le_trans hBB8 hk) hR8 (Below.refl _ _) hBB8 hl8 ?_; intro v1 w9 HO HB hg2 hat)
                    go_roundw
                    case rel => exact ⟨k + 1, _, ls8, by omega, by go_num, HO, by simp [hkl], fun x hx => (List.mem_append.1 hx).elim (Hties.out x) (fun h => by rw [List.mem_singleton.1 h]; exact hok), hS8.base HB hgw3, hF38.base HB⟩
                    case measure => simp [intOf]; omega
              · have hN8 := Kd.R_mono (ok' := fun k => g ≤ k) (Kd.R_lower (Kd.R_kept hR8' hF.kept (fun k hk => by omega)) (show g ≤ B by omega)) (fun k hk => by omega)
                have hN13 := Kd.R_mono (ok' := fun k => g ≤ k) (Kd.R_lower hR (show g ≤ w3.heap.size by omega)) (fun k hk => by omega)
                have hBe : Below g w wr := hB4.trans (hF.toBelow (by omega) (fun k hk => by omega))
                have hM : Made (nextV l 2 = 0) es evs ts ties := ⟨hes, by rw [l1]; exact Hrow.out, by omega, by omega, by rw [hv0]; exact hties⟩
                clear hR8' hR9' hF hR hB4
                by_cases hkm : k < m
                · have hn0 : ((n : Int) == 0) = true := by rw [beq_iff_eq]; omega
                  have hn1 : (n == 0) = true := by rw [beq_iff_eq]; omega
                  go_wp2_with fail
                  go_ret2
                  exact ⟨_, _, es, evs, ts, ties, rfl, by rw [hg]; exact hN8, by rw [hg]; exact hN13, hM, by rw [hg]; exact hBe⟩
                · go_wp2_with fail
                  go_ret2
                  exact ⟨_, _, es, evs, ts, ties, rfl, by rw [hg]; exact hN8, by rw [hg]; exact hN13, hM, by rw [hg]; exact hBe⟩
          | false =>
            replace hev := Lib.hid hev
            go_loopw [13, 71] (fun v i wr => ∃ (k : Nat) (ties : List Ti) (ls : List Int), k ≤ m ∧ i = .int .i64 k ∧ kTi.R 49 wr w3.heap.size (fun k => w3.heap.size ≤ k) v ties ∧ ties.length = k ∧ (∀ x ∈ ties, OkTi (v0 = 0) ts x) ∧ IsStream wr g ls ∧ Fr w3 wr (fun k => k = g)) (fun _ i _ => m - (intOf i).toNat)
            case atStart => exact ⟨0, [], ls3, by omega, rfl, Kd.R_nil _ _ _ _ _, rfl, fun x hx => by simp at hx, hS3, Fr.refl _ _⟩
            case round =>
              obtain ⟨k, ties, ls, hk, rfl, hR, hkl, hties, hS, hF⟩ := hrel
              by_cases hlt : k < m ∧ 0 < n
              · obtain ⟨hlt, hpos⟩ := hlt
                have hne : ((n : Int) == 0) = false := by rw [beq_eq_false_iff_ne]; omega
                have hne2 : (n == 0) = false := by rw [beq_eq_false_iff_ne]; omega
                go_wp2_with fail
                refine (next_any g ls n _ hS (by omega)).mono ?_
                rintro e w4 ⟨rfl, hS4, hF4⟩
                have hv2 := nextV_in ls n (by omega)
                generalize nextV ls n = b at hv2
                go_wp2_with fail
                refine (next_any g _ (n + 1) _ hS4 (by omega)).mono ?_
                rintro e w5 ⟨rfl, hS5, hF5⟩
                have hv3 := nextV_in (nextL ls n) (n + 1) (by omega)
                generalize nextV (nextL ls n) (n + 1) = a1 at hv3
                generalize nextL (nextL ls n) (n + 1) = ls5 at hS5
                have hF45 : Fr wr w5 (fun k => k = g) := hF4.then_ hF5 (fun k hk => .inl hk)
                have hF35 : Fr w3 w5 (fun k => k = g) := hF.then_ hF45 (fun k hk => .inl hk)
                have hR5 := Kd.R_kept hR hF45.kept (fun k hk => by omega)
                clear hF4 hF5 hS4 hS hR hF
                obtain ⟨A9', c9', e9, hc9', hC9⟩ := Kd.R_reads (Kd.R_kept hR9' hF35.kept (fun k hk => by omega))
                cases e9
                obtain ⟨b9, o9, rfl, hb9, hcell⟩ := C_cells hC9 (by omega)
                obtain ⟨bn, rfl⟩ : ∃ bn : Nat, b = bn := ⟨b.toNat, by omega⟩
                obtain ⟨a, rfl⟩ : ∃ a, a1 = a + 1 := ⟨a1 - 1, by omega⟩
                have ea : a + 1 - 1 = a := by omega
                obtain ⟨tb, htb⟩ : ∃ tb, ts[bn]? = some tb := ⟨_, List.getElem?_eq_getElem (by omega)⟩
                have ct := hcell bn tb htb
                have htb2 := Hts.out tb (List.mem_of_getElem? htb)
                have HC := Lib.hid hcell
                have HR5 := Lib.hid hR5
                have HF35 := Lib.hid hF35
                have HS5 := Lib.hid hS5
                have Htb := Lib.hid htb
                have Hties := Lib.hid hties
                clear hcell hC9 hR5 hF35 hS5 hF45 htb hties
                have hT : tsAt ts bn = tb := tsAt_nat Htb.out
                by_cases hab : (bn : Int) = a
                · subst hab
                  have hA : tsAt ts (-1) = 0 := rfl
                  have hab2 : ((bn : Int) == (bn : Int)) = true := by simp
                  go_wp2_with fail
                  refine (next_any g ls5 90 _ HS5.out (by omega)).mono ?_
                  rintro e w6 ⟨rfl, hS6, hF6⟩
                  have hv6 := nextV_in ls5 90 (by omega)
                  generalize nextV ls5 90 = v6 at hv6
                  generalize nextL ls5 90 = ls6 at hS6
                  go_wp2_with fail
                  refine (next_any g ls6 20 _ hS6 (by omega)).mono ?_
                  rintro e w7 ⟨rfl, hS7, hF7⟩
                  have hv7 := nextV_in ls6 20 (by omega)
                  generalize nextV ls6 20 = v7 at hv7
                  generalize nextL ls6 20 = ls7 at hS7
                  go_wp2_with fail
                  refine (next_any g ls7 20 _ hS7 (by omega)).mono ?_
                  rintro e w8 ⟨rfl, hS8, hF8⟩
                  have hv8 := nextV_in ls7 20 (by omega)
                  generalize nextV ls7 20 = v8 at hv8
                  generalize nextL ls7 20 = ls8 at hS8
                  have hF58 : Fr w5 w8 (fun k => k = g) := (hF6.then_ hF7 (fun k hk => .inl hk)).then_ hF8 (fun k hk => .inl hk)
                  have hR8 := Kd.R_kept HR5.out hF58.kept (fun k hk => by omega)
                  have hF38 : Fr w3 w8 (fun k => k = g) := HF35.out.then_ hF58 (fun k hk => .inl hk)
                  have hBB8 := hF38.size
                  have hl8 : (ties.length + 1) * 32 ≤ 140737488355328 := by omega
                  have hgw3 : g < w3.heap.size := by omega
                  have hok : OkTi (v0 = 0) ts ⟨-1, bn, (tb + (v6 - 45)) - v7, (tb + (v6 - 45)) + v8⟩ := ⟨by dsimp only; omega, by dsimp only; omega, by dsimp only; omega, by dsimp only; omega, fun h => absurd hev.out (by rw [h]; decide)⟩
                  clear hT hA hF58 hS7 hF7 hF8
                  go_wp2_with (at_builtin; refine app_one kTi (w0 := w8) w3.heap.size (by rfl) rfl (.tmp 108) (.tmp 120) 24 49 (.agg #[.int .i64 0, .int .i64 0, .int .i64 0, .int .i64 0]) 32 rfl Tryd.underlying24 info_ti rfl (by decide) (by decide) _ _ ⟨-1, bn, (tb + (v6 - 45)) - v7, (tb + (v6 - 45)) + v8⟩ [.int .i64 (-1), .int .i64 bn, .int .i64 ((tb + (v6 - 45)) - v7), .int .i64 ((tb + (v6 - 45)) + v8)] (fun k => w3.heap.size ≤ k) (fun _ => False) rfl rfl (kTi_mk _ _ _ _) (fun _ h => h.elim) (fun k hk => Nat.le_trans hBB8 hk) hR8 (Below.refl _ _) hBB8 hl8 ?_; intro v1 w9 HO HB hg2 hat)
                  go_roundw
                  case rel => exact ⟨k + 1, _, ls8, by omega, by go_num, HO, by simp [hkl], fun x hx => (List.mem_append.1 hx).elim (Hties.out x) (fun h => by rw [List.mem_singleton.1 h]; exact hok), hS8.base HB hgw3, hF38.base HB⟩
                  case measure => simp [intOf]; omega
                · have hab2 : (a == (bn : Int)) = false := by rw [beq_eq_false_iff_ne]; omega
                  by_cases ha0 : 0 ≤ a
                  · obtain ⟨an, rfl⟩ : ∃ an : Nat, a = an := ⟨a.toNat, by omega⟩
                    obtain ⟨ta, hta⟩ : ∃ ta, ts[an]? = some ta := ⟨_, List.getElem?_eq_getElem (by omega)⟩
                    have ct2 := HC.out an ta hta
                    have hta2 := Hts.out ta (List.mem_of_getElem? hta)
                    have hA : tsAt ts an = ta := tsAt_nat hta
                    clear hta
                    go_wp2_with fail
                    refine (next_any g ls5 90 _ HS5.out (by omega)).mono ?_
                    rintro e w6 ⟨rfl, hS6, hF6⟩
                    have hv6 := nextV_in ls5 90 (by omega)
                    generalize nextV ls5 90 = v6 at hv6
                    generalize nextL ls5 90 = ls6 at hS6
                    go_wp2_with fail
                    refine (next_any g ls6 20 _ hS6 (by omega)).mono ?_
                    rintro e w7 ⟨rfl, hS7, hF7⟩
                    have hv7 := nextV_in ls6 20 (by omega)
                    generalize nextV ls6 20 = v7 at hv7
                    generalize nextL ls6 20 = ls7 at hS7
                    go_wp2_with fail
                    refine (next_any g ls7 20 _ hS7 (by omega)).mono ?_
                    rintro e w8 ⟨rfl, hS8, hF8⟩
                    have hv8 := nextV_in ls7 20 (by omega)
                    generalize nextV ls7 20 = v8 at hv8
                    generalize nextL ls7 20 = ls8 at hS8
                    have hF58 : Fr w5 w8 (fun k => k = g) := (hF6.then_ hF7 (fun k hk => .inl hk)).then_ hF8 (fun k hk => .inl hk)
                    have hR8 := Kd.R_kept HR5.out hF58.kept (fun k hk => by omega)
                    have hF38 : Fr w3 w8 (fun k => k = g) := HF35.out.then_ hF58 (fun k hk => .inl hk)
                    have hBB8 := hF38.size
                    have hl8 : (ties.length + 1) * 32 ≤ 140737488355328 := by omega
                    have hgw3 : g < w3.heap.size := by omega
                    have hok : OkTi (v0 = 0) ts ⟨(an : Int), bn, ((tb - ta) + (v6 - 45)) - v7, ((tb - ta) + (v6 - 45)) + v8⟩ := ⟨by dsimp only; omega, by dsimp only; omega, by dsimp only; omega, by dsimp only; omega, fun h => absurd hev.out (by rw [h]; decide)⟩
                    clear hT hA hF58 hS7 hF7 hF8
                    go_wp2_with (at_builtin; refine app_one kTi (w0 := w8) w3.heap.size (by rfl) rfl (.tmp 108) (.tmp 120) 24 49 (.agg #[.int .i64 0, .int .i64 0, .int .i64 0, .int .i64 0]) 32 rfl Tryd.underlying24 info_ti rfl (by decide) (by decide) _ _ ⟨(an : Int), bn, ((tb - ta) + (v6 - 45)) - v7, ((tb - ta) + (v6 - 45)) + v8⟩ [.int .i64 ((an : Int)), .int .i64 bn, .int .i64 (((tb - ta) + (v6 - 45)) - v7), .int .i64 (((tb - ta) + (v6 - 45)) + v8)] (fun k => w3.heap.size ≤ k) (fun _ => False) rfl rfl (kTi_mk _ _ _ _) (fun _ h => h.elim) (fun k hk => Nat.le_trans hBB8 hk) hR8 (Below.refl _ _) hBB8 hl8 ?_; intro v1 w9 HO HB hg2 hat)
                    go_roundw
                    case rel => exact ⟨k + 1, _, ls8, by omega, by go_num, HO, by simp [hkl], fun x hx => (List.mem_append.1 hx).elim (Hties.out x) (fun h => by rw [List.mem_singleton.1 h]; exact hok), hS8.base HB hgw3, hF38.base HB⟩
                    case measure => simp [intOf]; omega
                  · obtain rfl : a = -1 := by omega
                    have hA : tsAt ts (-1) = 0 := rfl
                    go_wp2_with fail
                    refine (next_any g ls5 90 _ HS5.out (by omega)).mono ?_
                    rintro e w6 ⟨rfl, hS6, hF6⟩
                    have hv6 := nextV_in ls5 90 (by omega)
                    generalize nextV ls5 90 = v6 at hv6
                    generalize nextL ls5 90 = ls6 at hS6
                    go_wp2_with fail
                    refine (next_any g ls6 20 _ hS6 (by omega)).mono ?_
                    rintro e w7 ⟨rfl, hS7, hF7⟩
                    have hv7 := nextV_in ls6 20 (by omega)
                    generalize nextV ls6 20 = v7 at hv7
                    generalize nextL ls6 20 = ls7 at hS7
                    go_wp2_with fail
                    refine (next_any g ls7 20 _ hS7 (by omega)).mono ?_
                    rintro e w8 ⟨rfl, hS8, hF8⟩
                    have hv8 := nextV_in ls7 20 (by omega)
                    generalize nextV ls7 20 = v8 at hv8
                    generalize nextL ls7 20 = ls8 at hS8
                    have hF58 : Fr w5 w8 (fun k => k = g) := (hF6.then_ hF7 (fun k hk => .inl hk)).then_ hF8 (fun k hk => .inl hk)
                    have hR8 := Kd.R_kept HR5.out hF58.kept (fun k hk => by omega)
                    have hF38 : Fr w3 w8 (fun k => k = g) := HF35.out.then_ hF58 (fun k hk => .inl hk)
                    have hBB8 := hF38.size
                    have hl8 : (ties.length + 1) * 32 ≤ 140737488355328 := by omega
                    have hgw3 : g < w3.heap.size := by omega
                    have hok : OkTi (v0 = 0) ts ⟨-1, bn, (tb + (v6 - 45)) - v7, (tb + (v6 - 45)) + v8⟩ := ⟨by dsimp only; omega, by dsimp only; omega, by dsimp only; omega, by dsimp only; omega, fun h => absurd hev.out (by rw [h]; decide)⟩
                    clear hT hA hF58 hS7 hF7 hF8
                    go_wp2_with (at_builtin; refine app_one kTi (w0 := w8) w3.heap.size (by rfl) rfl (.tmp 108) (.tmp 120) 24 49 (.agg #[.int .i64 0, .int .i64 0, .int .i64 0, .int .i64 0]) 32 rfl Tryd.underlying24 info_ti rfl (by decide) (by decide) _ _ ⟨-1, bn, (tb + (v6 - 45)) - v7, (tb + (v6 - 45)) + v8⟩ [.int .i64 (-1), .int .i64 bn, .int .i64 ((tb + (v6 - 45)) - v7), .int .i64 ((tb + (v6 - 45)) + v8)] (fun k => w3.heap.size ≤ k) (fun _ => False) rfl rfl (kTi_mk _ _ _ _) (fun _ h => h.elim) (fun k hk => Nat.le_trans hBB8 hk) hR8 (Below.refl _ _) hBB8 hl8 ?_; intro v1 w9 HO HB hg2 hat)
                    go_roundw
                    case rel => exact ⟨k + 1, _, ls8, by omega, by go_num, HO, by simp [hkl], fun x hx => (List.mem_append.1 hx).elim (Hties.out x) (fun h => by rw [List.mem_singleton.1 h]; exact hok), hS8.base HB hgw3, hF38.base HB⟩
                    case measure => simp [intOf]; omega
              · have hN8 := Kd.R_mono (ok' := fun k => g ≤ k) (Kd.R_lower (Kd.R_kept hR8' hF.kept (fun k hk => by omega)) (show g ≤ B by omega)) (fun k hk => by omega)
                have hN13 := Kd.R_mono (ok' := fun k => g ≤ k) (Kd.R_lower hR (show g ≤ w3.heap.size by omega)) (fun k hk => by omega)
                have hBe : Below g w wr := hB4.trans (hF.toBelow (by omega) (fun k hk => by omega))
                have hM : Made (nextV l 2 = 0) es evs ts ties := ⟨hes, by rw [l1]; exact Hrow.out, by omega, by omega, by rw [hv0]; exact hties⟩
                clear hR8' hR9' hF hR hB4
                by_cases hkm : k < m
                · have hn0 : ((n : Int) == 0) = true := by rw [beq_iff_eq]; omega
                  have hn1 : (n == 0) = true := by rw [beq_iff_eq]; omega
                  go_wp2_with fail
                  go_ret2
                  exact ⟨_, _, es, evs, ts, ties, rfl, by rw [hg]; exact hN8, by rw [hg]; exact hN13, hM, by rw [hg]; exact hBe⟩
                · go_wp2_with fail
                  go_ret2
                  exact ⟨_, _, es, evs, ts, ties, rfl, by rw [hg]; exact hN8, by rw [hg]; exact hN13, hM, by rw [hg]; exact hBe⟩
end Go.Proofs.YtjbmnbdlicmpoaaDoor
