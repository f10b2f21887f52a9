/-
  scale.Ones as an iterator, for any loop body; scale.Zeros; for any number of 64 bits.
-/
import Derived.RangeFuncNested
import Derived.RangeFuncBound
import Derived.RangeFuncCalls
import Derived.RangeFuncLeaves
import Derived.RangeFuncFrom
import Derived.Shelf.Abstract
import Derived.Shelf.RegionOpen
import Derived.WalkKit
import Derived.OwnWalkIn
import Derived.TacticsInMore
import Derived.LoopNIn
import Derived.LoopIn
import Derived.Lib.Hide
import Derived.Laws.BitsAllLaws
import Derived.Test.YtdnhjkmcogbaoaaRows
namespace Go.Proofs.Ytdnhjkmcogbaoaa
open Go.RowKit Go.Shelf
attribute [local go_sem] Oper.semAt_some
/-- The places of the bits below k that are 1, rising. -/
def onesTo (x k : Nat) : List Nat := (List.range k).filter fun j => x / 2 ^ j % 2 == 1
theorem onesTo_hit {x k : Nat} (h : x / 2 ^ k % 2 = 1) : onesTo x (k + 1) = onesTo x k ++ [k] := by simp [onesTo, List.range_succ, h]
theorem onesTo_miss {x k : Nat} (h : ¬ x / 2 ^ k % 2 = 1) : onesTo x (k + 1) = onesTo x k := by simp [onesTo, List.range_succ, h]
theorem onesTo_le (x k : Nat) : (onesTo x k).length ≤ k := by
  have := List.length_filter_le (fun j => x / 2 ^ j % 2 == 1) (List.range k)
  simpa [onesTo] using this
theorem onesTo_prefix (x : Nat) {j k : Nat} (h : j ≤ k) : onesTo x j <+: onesTo x k := by
  obtain ⟨d, rfl⟩ : ∃ d, k = j + d := ⟨k - j, by omega⟩
  clear h
  induction d with
  | zero => exact List.prefix_refl _
  | succ d ih =>
    rw [show j + (d + 1) = (j + d) + 1 from by omega]
    by_cases hb : x / 2 ^ (j + d) % 2 = 1
    · rw [onesTo_hit hb]; exact ih.trans (List.prefix_append _ _)
    · rw [onesTo_miss hb]; exact ih
theorem bit64 (x k : Nat) (hx : x < 18446744073709551616) : bits .and .u64 ((x : Int) / 2 ^ k) 1 = ((x / 2 ^ k % 2 : Nat) : Int) := by
  have e2 : ((x : Int) / 2 ^ k) = ((x / 2 ^ k : Nat) : Int) := by simp
  have h2 : x / 2 ^ k ≤ x := Nat.div_le_self _ _
  rw [e2]
  have := u64_and_nat (x / 2 ^ k) 1 (by omega) (by decide)
  rw [nat_mask1] at this
  exact this
set_option maxRecDepth 100000 in
set_option maxHeartbeats 1000000 in
theorem ones1_in (F : Fence) (n : Nat) (h60 : F.fn 60) (hro : F.round = none) (hn : 1 ≤ n) (l Bn n₀ x : Nat) (hx : x < 18446744073709551616) (hBn : Bn < n₀) (J Jx : List Nat → World → Prop)
    (hY : ∀ pre (k : Nat) W, J pre W → pre.length < 64 → YieldAt F (n - 1) Try.prog l #[.int .i64 k] W fun e W' =>
      (e = .returned (.bool true) ∧ J (pre ++ [k]) W' ∧ Below n₀ W W') ∨ (e = .returned (.bool false) ∧ Jx (pre ++ [k]) W'))
    (W : World) (hc : W.cell? ⟨Bn, 0, none⟩ = some (.int .u64 x)) (h0 : J [] W) :
    CallsIn F n Try.prog 60 #[.func (.yield l) #[] #[], .pointer (some ⟨Bn, 0, none⟩)] W fun e W' => (∃ v, e = .returned v) ∧
      ((∃ ys, ys = onesTo x 64 ∧ J ys W') ∨ (∃ pre, pre <+: onesTo x 64 ∧ Jx pre W')) := by
  refine callsIn_of_wp Try.func60 rfl h60 ?_ hro
  simp only [Try.ntmps60, List.size_toArray, List.length_cons, List.length_nil, Nat.reduceAdd, Nat.reduceSub, Array.replicate_succ, Array.replicate_zero, List.push_toArray, List.append_toArray, List.nil_append, List.cons_append]
  gi_wp2
  gi_loopw [4] (fun v4 wr => ∃ k : Nat, k ≤ 64 ∧ v4 = .int .i64 k ∧ wr.cell? ⟨Bn, 0, none⟩ = some (.int .u64 x) ∧ J (onesTo x k) wr)
    (fun v4 _ => 64 - (intOf v4).toNat)
  case atStart => exact ⟨0, by decide, rfl, hc, h0⟩
  case round =>
    obtain ⟨k, hk, rfl, hcx, hJ⟩ := hrel
    by_cases hlt : k < 64
    · have HB := Lib.hid (bit64 x k hx)
      by_cases hb : x / 2 ^ k % 2 = 1
      · have e1 : (bits .and .u64 ((x : Int) / 2 ^ k) 1 == 1) = true := by rw [HB.out, hb]; rfl
        obtain ⟨fn, tmps, assign, body, hy, hR⟩ := hY (onesTo x k) k wr hJ (by have := onesTo_le x k; omega)
        gi_wp2
        refine hR.mono ?_
        rintro e W3 (⟨rfl, hJ3, hk3⟩ | ⟨rfl, hJx3⟩)
        · have hc3 : W3.cell? ⟨Bn, 0, none⟩ = some (.int .u64 x) := (hk3.cell (p := ⟨Bn, 0, none⟩) hBn).trans hcx
          gi_wp2
          go_roundw
          case rel => exact ⟨k + 1, by omega, by go_num, hc3, by rw [onesTo_hit hb]; exact hJ3⟩
          case measure => simp [intOf]; omega
        · gi_wp2
          refine bodyPost_ret (results_none rfl _ _ _) rfl ?_
          exact ⟨⟨_, rfl⟩, .inr ⟨onesTo x k ++ [k], by rw [← onesTo_hit hb]; exact onesTo_prefix x (by omega), hJx3⟩⟩
      · have e1 : (bits .and .u64 ((x : Int) / 2 ^ k) 1 == 1) = false := by rw [HB.out, beq_eq_false_iff_ne]; omega
        gi_wp2
        refine ⟨fun _ h => (by cases h), ?_⟩
        gi_wp2
        go_roundw
        case rel => exact ⟨k + 1, by omega, by go_num, hcx, by rw [onesTo_miss hb]; exact hJ⟩
        case measure => simp [intOf]; omega
    · obtain rfl : k = 64 := by omega
      gi_wp2
      go_end0
      exact ⟨⟨_, rfl⟩, .inl ⟨_, rfl, hJ⟩⟩
set_option maxHeartbeats 1000000 in
/-- scale.Ones: the number is boxed; the function value captures the box. -/
theorem ones_in (F : Fence) (n : Nat) (h22 : F.fn 22) (hro : F.round = none) (x : Int) (w : World) :
    CallsIn F n Try.prog 22 #[.int .u64 x] w fun e w' => e = .returned (.func (.func 60) #[] #[.pointer (some ⟨w.heap.size, 0, none⟩)]) ∧ w' = w.alloc (.cells #[.int .u64 x] 22) := by
  refine callsIn_of_wp Try.func22 rfl h22 ?_ hro
  simp only [Try.ntmps22, List.size_toArray, List.length_cons, List.length_nil, Nat.reduceAdd, Nat.reduceSub, Array.replicate_succ, Array.replicate_zero, List.push_toArray, List.append_toArray, List.nil_append, List.cons_append]
  gi_wp2
  go_ret
  exact ⟨rfl, rfl⟩
/-- scale.Ones hands back a value that stops where a round says so. -/
theorem ones_stops (F : Fence) (n : Nat) (h60 : F.fn 60) (hro : F.round = none) (hn : 1 ≤ n) (Bn n₀ x : Nat) (hx : x < 18446744073709551616) (w : World) (hBn : Bn < n₀) (hn₀ : n₀ ≤ w.heap.size)
    (hc : w.cell? ⟨Bn, 0, none⟩ = some (.int .u64 x)) :
    SeqStopsK F n Try.prog 60 #[.pointer (some ⟨Bn, 0, none⟩)] (fun k : Nat => #[Value.int .i64 k]) (Below n₀) (fun ys => ys = onesTo x 64) (fun pre => pre <+: onesTo x 64) 64 w := fun l J Jx W hW _ _ hY h0 =>
  ones1_in F n h60 hro hn l Bn n₀ x hx hBn J Jx hY W ((hW.cell (p := ⟨Bn, 0, none⟩) (show Bn < w.heap.size by omega)).trans hc) h0
theorem cell_of_boxZ {W : World} {B : Nat} {v : Value} {t : TypeId} (h : W.heap[B]? = some (.cells #[v] t (0, 0))) : W.cell? ⟨B, 0, none⟩ = some v ∧ W.frozen? ⟨B, 0, none⟩ = false := by
  constructor <;> simp [World.cell?, World.frozen?, h]
theorem cell_newZ (W : World) (v : Value) (t : TypeId) : (W.alloc (.cells #[v] t)).cell? ⟨W.heap.size, 0, none⟩ = some v ∧ (W.alloc (.cells #[v] t)).frozen? ⟨W.heap.size, 0, none⟩ = false :=
  cell_of_boxZ (World.alloc_heap_new W _)
theorem cell_allocZ {W : World} {a : Addr} {v : Value} (o : Obj) (h : W.cell? a = some v) : (W.alloc o).cell? a = some v := cell_kept h (World.grownBy_alloc W o none) (fun r e => by cases e)
theorem frozen_allocZ {W : World} {a : Addr} {v : Value} (o : Obj) (h : W.cell? a = some v) (hf : W.frozen? a = false) : (W.alloc o).frozen? a = false := (frozen_kept h (World.grownBy_alloc W o none) (fun r e => by cases e)).trans hf
/-- The lowest bit's place; 64: there is none. -/
def zerosOf (x : Nat) : Nat := (onesTo x 64).headD 64
theorem zerosOf_none {x : Nat} (h : onesTo x 64 = []) : zerosOf x = 64 := by rw [zerosOf, h]; rfl
theorem zerosOf_some {x k : Nat} (h : [k] <+: onesTo x 64) : zerosOf x = k := by
  obtain ⟨t, ht⟩ := h
  rw [zerosOf, ← ht]; rfl
theorem ret_int {a b : Int} (h : a = b) : Ending.returned (.int .i64 a) = .returned (.int .i64 b) := by rw [h]
set_option maxRecDepth 100000 in
set_option maxHeartbeats 2000000 in
theorem zeros_in (F : Fence) (n : Nat) (h24 : F.fn 24) (h22 : F.fn 22) (h60 : F.fn 60) (hro : F.round = none) (hn : 3 ≤ n) (x : Nat) (hx : x < 18446744073709551616) (w : World) :
    CallsIn F n Try.prog 24 #[.int .u64 x] w fun e W' => e = .returned (.int .i64 (zerosOf x)) ∧ Below w.heap.size w W' := by
  have h1 : 1 ≤ n := by omega
  refine callsIn_of_wp_marks Try.func24 rfl h24 ?_ hro
  simp only [Try.ntmps24, List.size_toArray, List.length_cons, List.length_nil, Nat.reduceAdd, Nat.reduceSub, Array.replicate_succ, Array.replicate_zero, List.push_toArray, List.append_toArray, List.nil_append, List.cons_append]
  gi_wp2_with (gi_at_call 22; refine (ones_in F (n - 1) h22 hro _ _).mono ?_; rintro e w' ⟨rfl, rfl⟩)
  have c0 := cell_newZ w (.int .i64 0) 3
  have c1 := cell_newZ (w.alloc (.cells #[.int .i64 0] 3)) (.int .u64 x) 22
  simp only [World.size_alloc] at c1
  have hB0 : Below w.heap.size w ((w.alloc (.cells #[.int .i64 0] 3)).alloc (.cells #[.int .u64 x] 22)) := ((Below.refl _ w).alloc (Nat.le_refl _) _).alloc (by simp) _
  refine wpIn_rangeFunc_ownF hro h1 (gf := 60) (lb := #[.pointer (some ⟨w.heap.size + 1, 0, none⟩)]) rfl h60 (enters_of Try.func60 (by kernel_rfl) rfl)
    (ones_stops F (n - 1) h60 hro (by omega) (w.heap.size + 1) (w.heap.size + 2) x hx _ (by omega) (by simp) c1.1) belowK_t (belowK_b (by simp)) (Below.refl _ _) (fun _ => rfl)
    (fun pre W => (pre = [] ∧ W.cell? ⟨w.heap.size, 0, none⟩ = some (.int .i64 0) ∧ W.frozen? ⟨w.heap.size, 0, none⟩ = false) ∧ Below w.heap.size w W)
    (fun c pre W => (c = .ret ∧ ∃ k : Nat, pre = [k] ∧ W.cell? ⟨w.heap.size, 0, none⟩ = some (.int .i64 k)) ∧ Below w.heap.size w W)
    (OwnFrom.and (Own.from (fun s A B row hs hg hr => ⟨hs.1, cell_kept hs.2.1 hg hr, (frozen_kept hs.2.1 hg hr).trans hs.2.2⟩) _) (ownFrom_below (Nat.le_refl _) (by simp; omega)))
    (fun c => OwnFrom.and (Own.from (fun s A B row hs hg hr => ⟨hs.1, hs.2.elim fun k hk => ⟨k, hk.1, cell_kept hk.2 hg hr⟩⟩) _) (ownFrom_below (Nat.le_refl _) (by simp; omega)))
    ⟨⟨rfl, cell_allocZ _ c0.1, frozen_allocZ _ c0.1 c0.2⟩, hB0⟩
    (fun k => { tmps := #[.int .u64 x, undef, .pointer (some ⟨w.heap.size, 0, none⟩), .int .i64 k, .int .u64 x, .func (.func 60) #[] #[.pointer (some ⟨w.heap.size + 1, 0, none⟩)], .int .i64 k, undef], defers := [] }) ?assign ?body ?done ?stop
  case assign =>
    intro l x W K hK
    gi_wp2
    exact hK
  case body =>
    rintro l pre k W ⟨⟨rfl, hcr, hfr⟩, hB⟩ _
    gi_wp2
    exact ⟨KeepsOthers.setCell _ _ _, ⟨rfl, k, rfl, World.cell?_setCell_same' _ _ _ (by rw [hcr]; rfl)⟩, hB.setCell (p := ⟨w.heap.size, 0, none⟩) (Nat.le_refl _) _⟩
  case done =>
    rintro D ys W hD rfl ⟨⟨hne, hcr, hfr⟩, hB⟩ hK
    gi_wp2
    have hK' := (KeepsOthers.setCell W ⟨w.heap.size, 0, none⟩ (.int .i64 64)).same D _ hK rfl
    refine ⟨by simp, .inl ⟨_, _, rfl, run_takeDeferred hK', ?_⟩⟩
    have hc5 := cell_kept (World.cell?_setCell_same' W ⟨w.heap.size, 0, none⟩ (.int .i64 64) (by rw [hcr]; rfl)) (grownBy_putObj' _ D (.deferred none)) (fun r e => by cases e; exact ⟨_, hK', rfl⟩)
    refine ⟨.int .i64 64, ?_, ret_int (by rw [zerosOf_none hne]; rfl), (hB.setCell (p := ⟨w.heap.size, 0, none⟩) (Nat.le_refl _) _).trans (belowK_b (w := w) (Nat.le_refl _) _ D _ _ (by simp at hD; omega) hK' rfl rfl)⟩
    simp [results, Try.f24, go_sem, hc5]
  case stop =>
    rintro D c pre W hD hpre ⟨⟨rfl, k, rfl, hcr⟩, hB⟩ hK
    gi_wp2
    refine ⟨by simp, .inl ⟨_, _, rfl, run_takeDeferred hK, ?_⟩⟩
    have hc5 := cell_kept hcr (grownBy_putObj' _ D (.deferred none)) (fun r e => by cases e; exact ⟨_, hK, rfl⟩)
    refine ⟨.int .i64 k, ?_, ret_int (by rw [zerosOf_some hpre]), hB.trans (belowK_b (w := w) (Nat.le_refl _) W D _ _ (by simp at hD; omega) hK rfl rfl)⟩
    simp [results, Try.f24, go_sem, hc5]
/-- scale.Zeros, for any number. -/
theorem zeros_any (x : Nat) (hx : x < 18446744073709551616) (w : World) :
    Calls Try.prog 24 #[.int .u64 x] w fun e W' => e = .returned (.int .i64 (zerosOf x)) ∧ Below w.heap.size w W' :=
  callsIn_wide.1 (zeros_in Fence.wide 3 trivial trivial trivial rfl (by decide) x hx w)
end Go.Proofs.Ytdnhjkmcogbaoaa
