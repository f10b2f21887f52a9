/-
  The document's list of the places of a number's bits (the reference's Ones); what a closure that counts is handed by scale.Ones.
-/
import Derived.Test.YtdnhjkmcogbaoaaCollA
import Derived.Test.YtdnhjkmcogbaoaaScaleC
import Derived.Laws.MakeOwn
import Derived.Laws.OwnMore
import Derived.OwnWalk
namespace Go.Proofs.Ytdnhjkmcogbaoaa
open Go.RowKit
/-- A list of numbers, in memory from some block on, as a slice. -/
def Coll (base : Nat) (L : List Nat) (w : World) (e : Ending) (W' : World) : Prop :=
  ∃ a cap, e = .returned (.slice a L.length cap) ∧ (0 < L.length → ∃ g, a = some ⟨g, 0, none⟩ ∧ base ≤ g ∧ ∀ i k, L[i]? = some k → W'.cell? ⟨g, i, none⟩ = some (.int .i64 (k : Nat))) ∧ Below base w W'
theorem coll_of {base : Nat} {L : List Nat} {w W' : World} {v : Value} (h : W'.ownsRow base 3 1 v L.length (ints L)) (hb : Below base w W') : Coll base L w (.returned v) W' := by
  have hh := h
  obtain ⟨h1, ⟨rfl, h2⟩ | ⟨g, cap, cur, rfl, hg, hc, hn, hm, hs, ht⟩⟩ := h
  · exact ⟨none, 0, by rw [h2], fun h => by omega, hb⟩
  · refine ⟨_, cap, rfl, fun _ => ⟨g, rfl, hg, fun i k hk => ?_⟩, hb⟩
    have hi : i < L.length := (List.getElem?_eq_some_iff.1 hk).1
    rw [hh.cellAt i (by omega)]
    simp [ints, hk]
theorem own_base {w : World} {base : Nat} {e : TypeId} {size : Nat} {v : Value} {n : Nat} {xs : List Value} (h : w.ownsRow base e size v n xs) (k : Nat) (hk : v.ownBlock = some k) : base ≤ k := by
  rcases h.2 with ⟨rfl, _⟩ | ⟨g, cap, cur, rfl, hg, _⟩
  · simp [Value.ownBlock] at hk
  · simp [Value.ownBlock] at hk; omega
set_option maxRecDepth 100000 in
theorem refones_any (x : Nat) (hx : x < 18446744073709551616) (w : World) :
    Calls Try.prog 26 #[.int .u64 x] w (Coll w.heap.size (onesTo x 64) w) := by
  obtain ⟨i0, hi, hz0, hz1, hz2⟩ := info_parts info3
  go_enter Try.func26, Try.ntmps26
  go_wp2
  go_loopw [3, 4] (fun v3 v4 wr => ∃ k : Nat, k ≤ 64 ∧ v4 = .int .i64 k ∧ wr.ownsRow w.heap.size 3 1 v3 (onesTo x k).length (ints (onesTo x k)) ∧ Below w.heap.size w wr) (fun _ v4 _ => (64 - intOf v4).toNat)
  case atStart => exact ⟨0, by decide, rfl, World.ownsRow_nil _ _ _ _, Below.refl _ _⟩
  case round =>
    obtain ⟨k, hk, rfl, hrow, hB⟩ := hrel
    by_cases hlt : k < 64
    · have HB := Lib.hid (bit64 x k hx)
      have hle := onesTo_le x k
      by_cases hb : x / 2 ^ k % 2 = 1
      · have e1 : (bits .and .u64 ((x : Int) / 2 ^ k) 1 == 1) = true := by rw [HB.out, hb]; rfl
        go_wp2_with (at_builtin; refine wpList_append_own _ rfl _ _ 37 rfl w.heap.size 3 i0 (.int .i64 0) 1 8 Try.underlying37 hi hz0 hz1 hz2 rfl (by decide) _ _ _ rfl (hrow.alloc _) ⟨wr.heap.size, 0, none⟩ 1 1 [.int .i64 k] rfl rfl (cell_one_new _ _ _) (by simp [Value.oneCell']) (by unfold maxLen; omega) (by omega) (by have := hB.size; simp; omega) ?_; intro v1 w1 hown1 hgrow1 _)
        have hB2 : Below w.heap.size w w1 := (hB.alloc hB.size _).grown hgrow1 (by have := hB.size; simp; omega) (fun j hj => own_base hrow j hj)
        go_roundw
        case rel => exact ⟨k + 1, by omega, by go_num, by rw [onesTo_hit hb, ints_snoc]; simpa using hown1, hB2⟩
        case measure => simp [intOf]; omega
      · have e1 : (bits .and .u64 ((x : Int) / 2 ^ k) 1 == 1) = false := by rw [HB.out, beq_eq_false_iff_ne]; omega
        go_wp2
        go_roundw
        case rel => exact ⟨k + 1, by omega, by go_num, by rw [onesTo_miss hb]; exact hrow, hB⟩
        case measure => simp [intOf]; omega
    · obtain rfl : k = 64 := by omega
      go_wp2
      go_ret
      exact coll_of hrow hB
theorem ret_b {a b : Bool} (h : a = b) : Ending.returned (.bool a) = .returned (.bool b) := by rw [h]
/-- The closure that counts: it tells whether there may be more. -/
theorem count_any (k c m : Nat) (bn bm : Nat) (hc64 : c ≤ 64) (w : World) (hcn : w.cell? ⟨bn, 0, none⟩ = some (.int .i64 c)) (hfn : w.frozen? ⟨bn, 0, none⟩ = false) (hcm : w.cell? ⟨bm, 0, none⟩ = some (.int .i64 m)) (hne : bm ≠ bn) :
    Calls Try.prog 27 #[.int .i64 k, .pointer (some ⟨bn, 0, none⟩), .pointer (some ⟨bm, 0, none⟩)] w fun e w' => e = .returned (.bool (decide (c + 1 ≤ m))) ∧ w' = w.setCell ⟨bn, 0, none⟩ (.int .i64 ((c + 1 : Nat) : Int)) := by
  go_enter Try.func27, Try.ntmps27
  go_wp2
  go_ret
  exact ⟨ret_b (by rw [Bool.eq_iff_iff, decide_eq_true_eq, decide_eq_true_eq]; omega), rfl⟩
/-- scale.Ones, handed the closure that counts: how often it is called. -/
theorem ones_counted (x m : Nat) (bx bm bn : Nat) (hx : x < 18446744073709551616) (hxn : bx < bn) (hmn : bm < bn) (w : World)
    (hcx : w.cell? ⟨bx, 0, none⟩ = some (.int .u64 x)) (hcm : w.cell? ⟨bm, 0, none⟩ = some (.int .i64 m)) (hcn : w.cell? ⟨bn, 0, none⟩ = some (.int .i64 0)) (hfn : w.frozen? ⟨bn, 0, none⟩ = false) :
    Calls Try.prog 60 #[.func (.func 27) #[] #[.pointer (some ⟨bn, 0, none⟩), .pointer (some ⟨bm, 0, none⟩)], .pointer (some ⟨bx, 0, none⟩)] w fun e w' =>
      (∃ v, e = .returned v) ∧ w'.cell? ⟨bn, 0, none⟩ = some (.int .i64 ((min (onesTo x 64).length (m + 1) : Nat) : Int)) ∧ Below bn w w' := by
  go_enter Try.func60, Try.ntmps60
  go_wp2
  go_loopw [4] (fun v4 wr => ∃ k : Nat, k ≤ 64 ∧ v4 = .int .i64 k ∧ (onesTo x k).length ≤ m ∧ wr.cell? ⟨bn, 0, none⟩ = some (.int .i64 ((onesTo x k).length : Nat)) ∧ wr.frozen? ⟨bn, 0, none⟩ = false ∧ Below bn w wr)
    (fun v4 _ => 64 - (intOf v4).toNat)
  case atStart => exact ⟨0, by decide, rfl, Nat.zero_le _, hcn, hfn, Below.refl _ _⟩
  case round =>
    obtain ⟨k, hk, rfl, hle, hcr, hfr, hB⟩ := hrel
    have hcx2 : wr.cell? ⟨bx, 0, none⟩ = some (.int .u64 x) := (hB.cell (p := ⟨bx, 0, none⟩) hxn).trans hcx
    have hcm2 : wr.cell? ⟨bm, 0, none⟩ = some (.int .i64 m) := (hB.cell (p := ⟨bm, 0, none⟩) hmn).trans hcm
    have h64 := onesTo_le x k
    by_cases hlt : k < 64
    · have HB := Lib.hid (bit64 x k hx)
      by_cases hb : x / 2 ^ k % 2 = 1
      · have e1 : (bits .and .u64 ((x : Int) / 2 ^ k) 1 == 1) = true := by rw [HB.out, hb]; rfl
        have H := Lib.hid (count_any k _ m bn bm (by omega) wr hcr hfr hcm2 (by omega))
        have hset := World.cell?_setCell_same' wr ⟨bn, 0, none⟩ (.int .i64 (((onesTo x k).length + 1 : Nat) : Int)) (by rw [hcr]; rfl)
        have hfz : (wr.setCell ⟨bn, 0, none⟩ (.int .i64 (((onesTo x k).length + 1 : Nat) : Int))).frozen? ⟨bn, 0, none⟩ = false := by rw [World.frozen?_setCell]; exact hfr
        have hB2 : Below bn w (wr.setCell ⟨bn, 0, none⟩ (.int .i64 (((onesTo x k).length + 1 : Nat) : Int))) := hB.setCell (p := ⟨bn, 0, none⟩) (Nat.le_refl _) _
        have HS := Lib.hid hset
        have HF := Lib.hid hfz
        clear hset hfz
        by_cases hm : (onesTo x k).length + 1 ≤ m
        · have e2 : decide ((onesTo x k).length + 1 ≤ m) = true := decide_eq_true hm
          rw [e2] at H
          go_wp2_with ((with_reducible (go_at_call 27; refine (H.out).mono ?_)); rintro e w1 ⟨rfl, hw1⟩; rw [← hw1] at HS HF hB2; clear hw1)
          go_roundw
          case rel => exact ⟨k + 1, by omega, by go_num, by rw [onesTo_hit hb]; simpa using hm, by rw [onesTo_hit hb]; simpa using HS.out, HF.out, hB2⟩
          case measure => simp [intOf]; omega
        · have e2 : decide ((onesTo x k).length + 1 ≤ m) = false := decide_eq_false hm
          rw [e2] at H
          go_wp2_with ((with_reducible (go_at_call 27; refine (H.out).mono ?_)); rintro e w1 ⟨rfl, hw1⟩; rw [← hw1] at HS hB2; clear hw1)
          refine bodyPost_ret (results_none rfl _ _ _) rfl ?_
          refine ⟨⟨_, rfl⟩, ?_, hB2⟩
          have hl : (onesTo x k).length + 1 ≤ (onesTo x 64).length := by
            have := (onesTo_prefix x (show k + 1 ≤ 64 by omega)).length_le
            rw [onesTo_hit hb] at this; simpa using this
          rw [show min (onesTo x 64).length (m + 1) = (onesTo x k).length + 1 from by omega]
          exact HS.out
      · have e1 : (bits .and .u64 ((x : Int) / 2 ^ k) 1 == 1) = false := by rw [HB.out, beq_eq_false_iff_ne]; omega
        go_wp2
        go_roundw
        case rel => exact ⟨k + 1, by omega, by go_num, by rw [onesTo_miss hb]; exact hle, by rw [onesTo_miss hb]; exact hcr, hfr, hB⟩
        case measure => simp [intOf]; omega
    · obtain rfl : k = 64 := by omega
      go_wp2
      go_end0
      refine ⟨⟨_, rfl⟩, ?_, hB⟩
      rw [show min (onesTo x 64).length (m + 1) = (onesTo x 64).length from by omega]
      exact hcr
/-- slices.Collect. -/
theorem collect_any (x bx : Nat) (hx : x < 18446744073709551616) (w : World) (hbx : bx < w.heap.size) (hcx : w.cell? ⟨bx, 0, none⟩ = some (.int .u64 x)) :
    Calls Try.prog 23 #[.func (.func 60) #[] #[.pointer (some ⟨bx, 0, none⟩)]] w (Coll w.heap.size (onesTo x 64) w) := by
  have H := Lib.hid (callsIn_wide.1 (appendSeq_in Fence.wide 3 trivial trivial rfl (by decide) bx x hx w hbx hcx))
  go_enter Try.func23, Try.ntmps23
  go_wp2_with ((with_reducible (go_at_call 61; refine (H.out).mono ?_)); rintro e w1 ⟨v, rfl, hrow, hb⟩)
  go_ret
  exact coll_of hrow hb
end Go.Proofs.Ytdnhjkmcogbaoaa
