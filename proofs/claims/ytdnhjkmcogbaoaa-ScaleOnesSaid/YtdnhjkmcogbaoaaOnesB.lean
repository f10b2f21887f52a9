/-
  The walk of the law ScaleOnes: it returns true, for any number of 64 bits and any bound on the calls.
-/
import Derived.Test.YtdnhjkmcogbaoaaOnesA
import Derived.Test.YtdnhjkmcogbaoaaBetwA
import Derived.Deep.RegionHeld3
namespace Go.Proofs.Ytdnhjkmcogbaoaa
open Go.RowKit
/-- The sum of the powers at some places. -/
def sumP (l : List Nat) : Nat := (l.map fun k => 2 ^ k).sum
theorem sumP_snoc (l : List Nat) (k : Nat) : sumP (l ++ [k]) = sumP l + 2 ^ k := by simp [sumP]
theorem sumP_ones (x k : Nat) : sumP (onesTo x k) = x % 2 ^ k := by
  induction k with
  | zero => simp [onesTo, sumP, Nat.mod_one]
  | succ k ih =>
    rw [Nat.mod_pow_succ]
    by_cases h : x / 2 ^ k % 2 = 1
    · rw [onesTo_hit h, sumP_snoc, ih, h]; omega
    · have h0 : x / 2 ^ k % 2 = 0 := by omega
      rw [onesTo_miss h, ih, h0]; omega
theorem sumP_take_le (l : List Nat) (k : Nat) : sumP (l.take k) ≤ sumP l := by
  have : sumP l = sumP (l.take k) + sumP (l.drop k) := by
    unfold sumP; rw [← List.sum_append, ← List.map_append, List.take_append_drop]
  omega
theorem take_get (l : List Nat) (k b : Nat) (h : l[k]? = some b) : l.take (k + 1) = l.take k ++ [b] := by
  rw [List.take_add_one, h]; rfl
theorem onesTo_rising (x k : Nat) : (onesTo x k).Pairwise (· < ·) := by
  unfold onesTo
  exact List.Pairwise.filter _ (List.pairwise_lt_range)
theorem rising_get (x i a b : Nat) (ha : (onesTo x 64)[i]? = some a) (hb : (onesTo x 64)[i + 1]? = some b) : a < b := by
  obtain ⟨h1, e1⟩ := List.getElem?_eq_some_iff.1 ha
  obtain ⟨h2, e2⟩ := List.getElem?_eq_some_iff.1 hb
  have := List.pairwise_iff_getElem.1 (onesTo_rising x 64) i (i + 1) h1 h2 (by omega)
  omega
theorem get_lt (x i a : Nat) (ha : (onesTo x 64)[i]? = some a) : a < 64 ∧ x / 2 ^ a % 2 = 1 := mem_onesTo.1 (List.mem_of_getElem? ha)
/-- The last place is the number's highest bit. -/
theorem last_log (x i a : Nat) (hx : x < 18446744073709551616) (ha : (onesTo x 64)[i]? = some a) (hl : i + 1 = (onesTo x 64).length) : Lib.bitLen x = a + 1 := by
  obtain ⟨h64, hb⟩ := get_lt x i a ha
  refine bitLen_is h64 hb ?_
  have hs := sumP_ones x 64
  rw [show (2 : Nat) ^ 64 = 18446744073709551616 from by decide, Nat.mod_eq_of_lt hx] at hs
  -- all places are a at the most
  have hle : ∀ j, j ∈ onesTo x 64 → j ≤ a := by
    intro j hj
    obtain ⟨q, hq, rfl⟩ := List.getElem_of_mem hj
    obtain ⟨h1, e1⟩ := List.getElem?_eq_some_iff.1 ha
    by_cases e : q = i
    · subst e; rw [e1]; exact Nat.le_refl _
    · have := List.pairwise_iff_getElem.1 (onesTo_rising x 64) q i hq h1 (by omega)
      omega
  have e2 : onesTo x 64 = onesTo x (a + 1) := by
    have hf : ∀ d, a + 1 + d ≤ 64 → onesTo x (a + 1 + d) = onesTo x (a + 1) := by
      intro d
      induction d with
      | zero => intro _; rfl
      | succ d ih =>
        intro h
        have hm : ¬ x / 2 ^ (a + 1 + d) % 2 = 1 := by
          intro hc
          have := hle _ (mem_onesTo.2 ⟨by omega, hc⟩)
          omega
        rw [show a + 1 + (d + 1) = (a + 1 + d) + 1 from by omega, onesTo_miss hm]
        exact ih (by omega)
    have := hf (64 - (a + 1)) (by omega)
    rw [show a + 1 + (64 - (a + 1)) = 64 from by omega] at this
    exact this
  rw [e2, sumP_ones] at hs
  rw [← hs]
  exact Nat.mod_lt _ (pow_pos _)
theorem first_zeros (x a : Nat) (ha : (onesTo x 64)[0]? = some a) : zerosOf x = a := by
  unfold zerosOf
  cases h : onesTo x 64 with
  | nil => rw [h] at ha; cases ha
  | cons j t => rw [h] at ha; simpa using ha
theorem ones_plain (x : Int) (w : World) : Calls Try.prog 22 #[.int .u64 x] w fun e w' => e = .returned (.func (.func 60) #[] #[.pointer (some ⟨w.heap.size, 0, none⟩)]) ∧ w' = w.alloc (.cells #[.int .u64 x] 22) :=
  callsIn_wide.1 (ones_in Fence.wide 3 trivial rfl x w)
theorem func_nil (a : Addr) (w : World) : (binOp .eql 35 (.func (.func 60) #[] #[.pointer (some a)]) .nilFunc).run Try.prog w = .ok (.bool false) w := by kernel_rfl
theorem collect_n (x bx n : Nat) (hx : x < 18446744073709551616) (hn : (onesTo x 64).length = n) (w : World) (hbx : bx < w.heap.size) (hcx : w.cell? ⟨bx, 0, none⟩ = some (.int .u64 x)) :
    Calls Try.prog 23 #[.func (.func 60) #[] #[.pointer (some ⟨bx, 0, none⟩)]] w fun e W' => ∃ a cap, e = .returned (.slice a n cap) ∧ (0 < n → ∃ g, a = some ⟨g, 0, none⟩ ∧ w.heap.size ≤ g ∧ ∀ i k, (onesTo x 64)[i]? = some k → W'.cell? ⟨g, i, none⟩ = some (.int .i64 (k : Nat))) ∧ Below w.heap.size w W' := by
  subst hn
  exact collect_any x bx hx w hbx hcx
theorem refones_n (x n : Nat) (hx : x < 18446744073709551616) (hn : (onesTo x 64).length = n) (w : World) :
    Calls Try.prog 26 #[.int .u64 x] w fun e W' => ∃ a cap, e = .returned (.slice a n cap) ∧ Below w.heap.size w W' := by
  subst hn
  exact (refones_any x hx w).mono fun e W' ⟨a, cap, he, _, hb⟩ => ⟨a, cap, he, hb⟩
theorem sum_all (x n : Nat) (hx : x < 18446744073709551616) (hn : (onesTo x 64).length = n) : sumP ((onesTo x 64).take n) = x := by
  have hs := sumP_ones x 64
  rw [show (2 : Nat) ^ 64 = 18446744073709551616 from by decide, Nat.mod_eq_of_lt hx] at hs
  rw [← hn, List.take_length, hs]
theorem sum_step (x k b : Nat) (hx : x < 18446744073709551616) (hb : (onesTo x 64)[k]? = some b) : IntKind.u64.wrap ((sumP ((onesTo x 64).take k) : Int) + IntKind.u64.wrap (2 ^ b)) = (sumP ((onesTo x 64).take (k + 1)) : Int) := by
  have hs := sumP_ones x 64
  rw [show (2 : Nat) ^ 64 = 18446744073709551616 from by decide, Nat.mod_eq_of_lt hx] at hs
  have h1 := sumP_take_le (onesTo x 64) (k + 1)
  have h2 : sumP ((onesTo x 64).take (k + 1)) = sumP ((onesTo x 64).take k) + 2 ^ b := by rw [take_get _ k b hb, sumP_snoc]
  obtain ⟨w1, w2⟩ := wrap_two b (get_lt x k b hb).1
  rw [w1, IntKind.wrap_u64, h2]
  omega
theorem zeros_first (x f : Nat) (hx : x < 18446744073709551616) (hf : (onesTo x 64)[0]? = some f) (w : World) :
    Calls Try.prog 24 #[.int .u64 x] w fun e W' => e = .returned (.int .i64 f) ∧ Below w.heap.size w W' := by
  have h := zeros_any x hx w
  rw [first_zeros x f hf] at h
  exact h
theorem log_last (x j la : Nat) (hx : x < 18446744073709551616) (hla : (onesTo x 64)[j]? = some la) (hl : j + 1 = (onesTo x 64).length) (w : World) :
    Calls Try.prog 25 #[.int .u64 x] w fun e W' => e = .returned (.int .i64 la) ∧ w = W' := by
  have h := log_any x hx w
  rw [last_log x j la hx hla hl, show (((la + 1 : Nat) : Int) - 1) = (la : Int) from by omega] at h
  exact h
theorem s12 {g j f la : Nat} {w1 ws w' : World} (hg : g < w1.heap.size) (h : ws.cell? ⟨g, 0, none⟩ = some (.int .i64 (f : Nat)) ∧ ws.cell? ⟨g, j, none⟩ = some (.int .i64 (la : Nat)) ∧ Below w1.heap.size w1 ws) (hb : Below ws.heap.size ws w') :
    w'.cell? ⟨g, 0, none⟩ = some (.int .i64 (f : Nat)) ∧ w'.cell? ⟨g, j, none⟩ = some (.int .i64 (la : Nat)) ∧ Below w1.heap.size w1 w' := by
  obtain ⟨h1, h2, h3⟩ := h
  have hlt : g < ws.heap.size := Nat.lt_of_lt_of_le hg h3.size
  exact ⟨(hb.cell (p := ⟨g, 0, none⟩) hlt).trans h1, (hb.cell (p := ⟨g, j, none⟩) hlt).trans h2, h3.trans (hb.mono h3.size)⟩
theorem log_one (w : World) : Calls Try.prog 25 #[.int .u64 1] w fun e w' => e = .returned (.int .i64 0) ∧ w = w' := log_any 1 (by decide) w
section
variable {w5 : World} {bm bx x m : Nat}
theorem w6_m {most : Int} (h : w5.cell? ⟨bm, 0, none⟩ = some (.int .i64 most)) : ((w5.setCell ⟨bm, 0, none⟩ (.int .i64 m)).alloc (.cells #[.int .i64 0] 3)).cell? ⟨bm, 0, none⟩ = some (.int .i64 m) :=
  cell_allocZ _ (World.cell?_setCell_same' w5 ⟨bm, 0, none⟩ (.int .i64 m) (by rw [h]; rfl))
theorem w6_x (h : w5.cell? ⟨bm + 1, 0, none⟩ = some (.int .u64 x)) : ((w5.setCell ⟨bm, 0, none⟩ (.int .i64 m)).alloc (.cells #[.int .i64 0] 3)).cell? ⟨bm + 1, 0, none⟩ = some (.int .u64 x) := by
  refine cell_allocZ _ ?_
  rw [← h]
  have hb : (w5.setCell ⟨bm, 0, none⟩ (.int .i64 m)).heap[bm + 1]? = w5.heap[bm + 1]? := Below.heap_setCell _ _ _ _ (by show bm + 1 ≠ bm; omega)
  exact World.cell?_of_block (w := w5) hb
theorem w6_n (w5 : World) (bm m : Nat) : ((w5.setCell ⟨bm, 0, none⟩ (.int .i64 m)).alloc (.cells #[.int .i64 0] 3)).cell? ⟨w5.heap.size, 0, none⟩ = some (.int .i64 0) := by
  have := (cell_newZ (w5.setCell ⟨bm, 0, none⟩ (.int .i64 m)) (.int .i64 0) 3).1
  simpa [World.setCell] using this
theorem w6_f (w5 : World) (bm m : Nat) : ((w5.setCell ⟨bm, 0, none⟩ (.int .i64 m)).alloc (.cells #[.int .i64 0] 3)).frozen? ⟨w5.heap.size, 0, none⟩ = false := by
  have := (cell_newZ (w5.setCell ⟨bm, 0, none⟩ (.int .i64 m)) (.int .i64 0) 3).2
  simpa [World.setCell] using this
theorem w7_below {w w7 : World} {most : Int} (h5 : Below (w.heap.size + 1 + 1) ((w.alloc (.cells #[.int .i64 most] 3)).alloc (.cells #[.int .u64 x] 22)) w5)
    (h7 : Below w5.heap.size ((w5.setCell ⟨w.heap.size, 0, none⟩ (.int .i64 m)).alloc (.cells #[.int .i64 0] 3)) w7) : Below w.heap.size w w7 := by
  have h0 : Below w.heap.size w ((w.alloc (.cells #[.int .i64 most] 3)).alloc (.cells #[.int .u64 x] 22)) := ((Below.refl _ w).alloc (Nat.le_refl _) _).alloc (by simp) _
  have h1 : Below w.heap.size w w5 := h0.trans (h5.mono (by omega))
  have h2 : Below w.heap.size w ((w5.setCell ⟨w.heap.size, 0, none⟩ (.int .i64 m)).alloc (.cells #[.int .i64 0] 3)) := (h1.setCell (p := ⟨w.heap.size, 0, none⟩) (Nat.le_refl _) _).alloc (by have := h1.size; simpa [World.setCell] using this) _
  exact h2.trans (h7.mono h1.size)
end
set_option maxHeartbeats 4000000 in
set_option maxRecDepth 100000 in
theorem ones_pos (x n m : Nat) (most : Int) (e63 : bits .and .i64 most 63 = (m : Int)) (hm64 : m < 64) (hx : x < 18446744073709551616) (hn : (onesTo x 64).length = n) (hpos : 0 < n) (w : World) :
    Calls Try.prog 7 #[.int .u64 x, .int .i64 most] w fun e w' => e = .returned (.bool true) ∧ Below w.heap.size w w' := by
  have hn64 : n ≤ 64 := by rw [← hn]; exact onesTo_le x 64
  have HN := Lib.hid hn
  clear hn
  have hcells : ((w.alloc (.cells #[.int .i64 most] 3)).alloc (.cells #[.int .u64 x] 22)).cell? ⟨w.heap.size + 1, 0, none⟩ = some (.int .u64 x) := by
    simp
  have HX := Lib.hid hcells
  clear hcells
  have hnil := func_nil
  go_enter Try.func7, Try.ntmps7
  go_wp2_with (first | ((with_reducible (go_at_call 22; refine (ones_plain x _).mono ?_)); rintro e w1 ⟨rfl, rfl⟩) | ((with_reducible (go_at_call 23; refine (collect_n x (w.heap.size + 1) n hx HN.out _ (by simp) HX.out).mono ?_)); rintro e w1 ⟨a, cap, rfl, hread, hB⟩))
  obtain ⟨g, rfl, hg, hread⟩ := hread hpos
  have HR := Lib.hid hread
  have HB := Lib.hid hB
  clear hread hB
  simp only [World.size_alloc] at hg
  go_loopw [7, 8] (fun v7 v8 wr => ∃ k : Nat, k ≤ n ∧ v8 = .int .i64 k ∧ v7 = .int .u64 (sumP ((onesTo x 64).take k)) ∧ Below w1.heap.size w1 wr) (fun _ v8 _ => (n - intOf v8).toNat)
  case atStart => exact ⟨0, Nat.zero_le _, rfl, rfl, Below.refl _ _⟩
  case round =>
    obtain ⟨k, hk, rfl, rfl, hBr⟩ := hrel
    by_cases hlt : k < n
    · obtain ⟨b, hb⟩ : ∃ b, (onesTo x 64)[k]? = some b := ⟨_, List.getElem?_eq_getElem (by rw [HN.out]; exact hlt)⟩
      have hgb := (get_lt x k b hb).1
      have hgw : g < w1.heap.size := by
        have h1 := HR.out k b hb
        refine Decidable.byContradiction fun hc => ?_
        have : w1.heap[g]? = none := Array.getElem?_eq_none (by omega)
        simp [World.cell?, this] at h1
      have hcb : wr.cell? ⟨g, k, none⟩ = some (.int .i64 (b : Nat)) := (hBr.cell (p := ⟨g, k, none⟩) hgw).trans (HR.out k b hb)
      have d1 : decide ((b : Int) < 0) = false := decide_eq_false (by omega)
      have d2 : decide ((63 : Int) < b) = false := decide_eq_false (by omega)
      have hltI : (k : Int) < n := by omega
      by_cases hk0 : k = 0
      · have d3 : decide (0 < k) = false := decide_eq_false (by omega)
        clear hk0
        have HS := Lib.hid (sum_step x k b hx hb)
        clear hb
        go_wp2
        go_quiet (fail)
        go_wp2
        go_roundw
        case rel => exact ⟨k + 1, by omega, by go_num, by rw [HS.out], below_drewN hBr _⟩
        case measure => simp [intOf]; omega
      · obtain ⟨j, hj⟩ : ∃ j, k = j + 1 := ⟨k - 1, by omega⟩
        obtain ⟨a, ha⟩ : ∃ a, (onesTo x 64)[j]? = some a := ⟨_, List.getElem?_eq_getElem (by rw [HN.out]; omega)⟩
        have hab : a < b := rising_get x j a b ha (by rw [← hj]; exact hb)
        have hca : wr.cell? ⟨g, j, none⟩ = some (.int .i64 (a : Nat)) := (hBr.cell (p := ⟨g, j, none⟩) hgw).trans (HR.out j a ha)
        have d3 : decide (0 < k) = true := decide_eq_true (by omega)
        have d4 : decide (b ≤ a) = false := decide_eq_false (by omega)
        have hw : (k : Int) - 1 = j := by omega
        have hjI : (j : Int) < n := by omega
        clear hk0
        have HJ := Lib.hid hj
        have HA := Lib.hid ha
        have HS := Lib.hid (sum_step x k b hx hb)
        clear hj ha hb
        go_wp2
        go_quiet (fail)
        go_wp2
        go_roundw
        case rel => exact ⟨k + 1, by omega, by go_num, by rw [HS.out], below_drewN hBr _⟩
        case measure => simp [intOf]; omega
    · obtain rfl : k = n := by omega
      obtain ⟨f, hf⟩ : ∃ f, (onesTo x 64)[0]? = some f := ⟨_, List.getElem?_eq_getElem (by rw [HN.out]; exact hpos)⟩
      obtain ⟨j, hj⟩ : ∃ j, k = j + 1 := ⟨k - 1, by omega⟩
      obtain ⟨la, hla⟩ : ∃ la, (onesTo x 64)[j]? = some la := ⟨_, List.getElem?_eq_getElem (by rw [HN.out]; omega)⟩
      have hgw : g < w1.heap.size := by
        have h1 := HR.out 0 f hf
        refine Decidable.byContradiction fun hc => ?_
        have : w1.heap[g]? = none := Array.getElem?_eq_none (by omega)
        simp [World.cell?, this] at h1
      have hc0 : wr.cell? ⟨g, 0, none⟩ = some (.int .i64 (f : Nat)) := (hBr.cell (p := ⟨g, 0, none⟩) hgw).trans (HR.out 0 f hf)
      have hcj : wr.cell? ⟨g, j, none⟩ = some (.int .i64 (la : Nat)) := (hBr.cell (p := ⟨g, j, none⟩) hgw).trans (HR.out j la hla)
      have HZ := Lib.hid (zeros_first x f hx hf)
      have HLg := Lib.hid (log_last x j la hx hla (by rw [HN.out]; omega))
      have HRo := Lib.hid (refones_n x k hx HN.out)
      have HSum := sum_all x k hx HN.out
      have d3 : decide (0 < k) = true := decide_eq_true hpos
      have hw : (k : Int) - 1 = j := by omega
      have hjI : (j : Int) < k := by omega
      have hj0 : (0 : Int) ≤ j := by omega
      have hw2 : IntKind.i64.wrap ((k : Int) - 1) = (j : Int) := by rw [hw]; exact wrap_small _ (by omega) (by omega)
      clear hf hla hj hw
      go_wp2
      go_region_held3 (fun w' => w'.cell? ⟨g, 0, none⟩ = some (.int .i64 (f : Nat)) ∧ w'.cell? ⟨g, j, none⟩ = some (.int .i64 (la : Nat)) ∧ Below w1.heap.size w1 w') (first | exact ⟨hc0, hcj, hBr⟩ | exact ⟨hc0, hcj, hBr.drew⟩ | exact s12 hgw (by assumption) hb5 | exact s12 hgw (by assumption) hb3 | assumption) (first | ((with_reducible (go_at_call 24; refine (HZ.out _).mono ?_)); rintro e w3 ⟨rfl, hb3⟩) | ((with_reducible (go_at_call 25; refine (HLg.out _).mono ?_)); rintro e w4 ⟨rfl, rfl⟩) | ((with_reducible (go_at_call 26; refine (HRo.out _).mono ?_)); rintro e w5 ⟨a5, cap5, rfl, hb5⟩))
      have hS : w5.cell? ⟨g, 0, none⟩ = some (.int .i64 (f : Nat)) ∧ w5.cell? ⟨g, j, none⟩ = some (.int .i64 (la : Nat)) ∧ Below w1.heap.size w1 w5 := by assumption
      have hB5 : Below (w.heap.size + 1 + 1) ((w.alloc (.cells #[.int .i64 most] 3)).alloc (.cells #[.int .u64 x] 22)) w5 := by
        have h1 := HB.out
        simp only [World.size_alloc] at h1
        exact h1.trans (hS.2.2.mono (by have := h1.size; simpa using this))
      have hm0 := cell_newZ w (.int .i64 most) 3
      have hcm : w5.cell? ⟨w.heap.size, 0, none⟩ = some (.int .i64 most) := (hB5.cell (p := ⟨w.heap.size, 0, none⟩) (by show w.heap.size < w.heap.size + 1 + 1; omega)).trans (cell_allocZ _ hm0.1)
      have hfm : w5.frozen? ⟨w.heap.size, 0, none⟩ = false := (hB5.frozen (p := ⟨w.heap.size, 0, none⟩) (by show w.heap.size < w.heap.size + 1 + 1; omega)).trans (frozen_allocZ _ hm0.1 hm0.2)
      have hcx : w5.cell? ⟨w.heap.size + 1, 0, none⟩ = some (.int .u64 x) := (hB5.cell (p := ⟨w.heap.size + 1, 0, none⟩) (by show w.heap.size + 1 < w.heap.size + 1 + 1; omega)).trans HX.out
      have hs5 : w.heap.size + 1 < w5.heap.size := by have := hB5.size; simp at this; omega
      have HCX := Lib.hid hcx
      have HS5 := Lib.hid hB5
      clear hb3 hb5 hS hcx hB5 hm0
      clear hc0 hcj hBr HZ HLg HRo HSum hjI hj0 hw2 d3 hlt hk
      go_wp2_with fail
      refine (ones_counted x m (w.heap.size + 1) w.heap.size w5.heap.size hx (by omega) (by omega) _ (w6_x HCX.out) (w6_m hcm) (w6_n w5 _ _) (w6_f w5 _ _)).mono ?_
      rintro e w7 ⟨⟨v7, rfl⟩, hcn7, hB7⟩
      have hcm7 : w7.cell? ⟨w.heap.size, 0, none⟩ = some (.int .i64 m) := (hB7.cell (p := ⟨w.heap.size, 0, none⟩) (show w.heap.size < w5.heap.size by omega)).trans (w6_m hcm)
      have hend : Below w.heap.size w w7 := w7_below HS5.out hB7
      rw [HN.out] at hcn7
      have HE := Lib.hid hend
      clear hend hB7 hcm hfm hs5
      go_wp2_with ((with_reducible (go_at_call 25; refine (log_one _).mono ?_)); rintro e w8 ⟨rfl, rfl⟩)
      go_ret
      exact ⟨rfl, HE.out⟩
theorem refones_none (x n : Nat) (hx : x < 18446744073709551616) (hn : (onesTo x 64).length = n) (hn0 : n = 0) (w : World) :
    Calls Try.prog 26 #[.int .u64 x] w fun e w' => e = .returned (.slice none n 0) ∧ w = w' := by
  subst hn0
  have h0 : onesTo x 64 = [] := List.eq_nil_of_length_eq_zero hn
  have hnb : ∀ k, k < 64 → ¬ x / 2 ^ k % 2 = 1 := fun k hk hc => by
    have := mem_onesTo.2 ⟨hk, hc⟩
    rw [h0] at this
    cases this
  clear hn h0
  go_enter Try.func26, Try.ntmps26
  go_wp2
  go_loop [3, 4] (fun v3 v4 => ∃ k : Nat, k ≤ 64 ∧ v4 = .int .i64 k ∧ v3 = .slice none 0 0) (fun _ v4 => (64 - intOf v4).toNat)
  case atStart => exact ⟨0, by decide, rfl, rfl⟩
  case round =>
    obtain ⟨k, hk, rfl, rfl⟩ := hrel
    by_cases hlt : k < 64
    · have hb := hnb k hlt
      have e1 : (bits .and .u64 ((x : Int) / 2 ^ k) 1 == 1) = false := by rw [bit64 x k hx, beq_eq_false_iff_ne]; omega
      clear hb hnb
      go_wp2
      go_round
      case rel => exact ⟨k + 1, by omega, by go_num, rfl⟩
      case measure => simp [intOf]; omega
    · obtain rfl : k = 64 := by omega
      clear hnb
      go_wp2
      go_ret
      exact ⟨rfl, rfl⟩
set_option maxHeartbeats 4000000 in
set_option maxRecDepth 100000 in
theorem ones_none (x n m : Nat) (most : Int) (e63 : bits .and .i64 most 63 = (m : Int)) (hm64 : m < 64) (hx : x < 18446744073709551616) (hn : (onesTo x 64).length = n) (hn0 : n = 0) (hx0 : ((0 : Int) != x) = false) (w : World) :
    Calls Try.prog 7 #[.int .u64 x, .int .i64 most] w fun e w' => e = .returned (.bool true) ∧ Below w.heap.size w w' := by
  have hz : decide (0 < n) = false := decide_eq_false (by omega)
  have HN0 := Lib.hid hn0
  have HN := Lib.hid hn
  clear hn hn0
  have hcells : ((w.alloc (.cells #[.int .i64 most] 3)).alloc (.cells #[.int .u64 x] 22)).cell? ⟨w.heap.size + 1, 0, none⟩ = some (.int .u64 x) := by
    simp
  have HX := Lib.hid hcells
  clear hcells
  have hnil := func_nil
  go_enter Try.func7, Try.ntmps7
  go_wp2_with (first | ((with_reducible (go_at_call 22; refine (ones_plain x _).mono ?_)); rintro e w1 ⟨rfl, rfl⟩) | ((with_reducible (go_at_call 23; refine (collect_n x (w.heap.size + 1) n hx HN.out _ (by simp) HX.out).mono ?_)); rintro e w1 ⟨a, cap, rfl, hread, hB⟩))
  have HB := Lib.hid hB
  clear hread hB
  go_loopw [7, 8] (fun v7 v8 wr => v7 = .int .u64 0 ∧ v8 = .int .i64 0 ∧ wr = w1) (fun _ _ _ => 0)
  case atStart => exact ⟨rfl, rfl, rfl⟩
  case round =>
    obtain ⟨rfl, rfl, rfl⟩ := hrel
    have HRo := Lib.hid (refones_none x n hx HN.out HN0.out)
    go_wp2
    go_quiet ((go_at_call 26; exact quietly (HRo.out _)))
    clear hx0
    have hB5 : Below (w.heap.size + 1 + 1) ((w.alloc (.cells #[.int .i64 most] 3)).alloc (.cells #[.int .u64 x] 22)) (wr.drewN nq) := by
      have h1 := HB.out
      simp only [World.size_alloc] at h1
      exact below_drewN h1 _
    generalize wr.drewN nq = w5 at *
    have hm0 := cell_newZ w (.int .i64 most) 3
    have hcm : w5.cell? ⟨w.heap.size, 0, none⟩ = some (.int .i64 most) := (hB5.cell (p := ⟨w.heap.size, 0, none⟩) (by show w.heap.size < w.heap.size + 1 + 1; omega)).trans (cell_allocZ _ hm0.1)
    have hfm : w5.frozen? ⟨w.heap.size, 0, none⟩ = false := (hB5.frozen (p := ⟨w.heap.size, 0, none⟩) (by show w.heap.size < w.heap.size + 1 + 1; omega)).trans (frozen_allocZ _ hm0.1 hm0.2)
    have hcx : w5.cell? ⟨w.heap.size + 1, 0, none⟩ = some (.int .u64 x) := (hB5.cell (p := ⟨w.heap.size + 1, 0, none⟩) (by show w.heap.size + 1 < w.heap.size + 1 + 1; omega)).trans HX.out
    have hs5 : w.heap.size + 1 < w5.heap.size := by have := hB5.size; simp at this; omega
    have HCX := Lib.hid hcx
    have HS5 := Lib.hid hB5
    clear hcx hB5 hm0
    go_wp2_with fail
    refine (ones_counted x m (w.heap.size + 1) w.heap.size w5.heap.size hx (by omega) (by omega) _ (w6_x HCX.out) (w6_m hcm) (w6_n w5 _ _) (w6_f w5 _ _)).mono ?_
    rintro e w7 ⟨⟨v7, rfl⟩, hcn7, hB7⟩
    have hcm7 : w7.cell? ⟨w.heap.size, 0, none⟩ = some (.int .i64 m) := (hB7.cell (p := ⟨w.heap.size, 0, none⟩) (show w.heap.size < w5.heap.size by omega)).trans (w6_m hcm)
    have hend : Below w.heap.size w w7 := w7_below HS5.out hB7
    rw [HN.out] at hcn7
    have HE := Lib.hid hend
    clear hend hB7 hcm hfm hs5
    go_wp2_with ((with_reducible (go_at_call 25; refine (log_one _).mono ?_)); rintro e w8 ⟨rfl, rfl⟩)
    go_ret
    exact ⟨rfl, HE.out⟩
theorem ones_ok (x most : Int) (w : World) (h0 : 0 ≤ x) (hx : x < 18446744073709551616) :
    Calls Try.prog 7 #[.int .u64 x, .int .i64 most] w fun e w' => e = .returned (.bool true) ∧ Below w.heap.size w w' := by
  obtain ⟨x, rfl⟩ := Int.eq_ofNat_of_zero_le h0
  obtain ⟨m, hm⟩ := Int.eq_ofNat_of_zero_le (Int.emod_nonneg most (show (64 : Int) ≠ 0 by decide))
  have e63 : bits .and .i64 most 63 = (m : Int) := by rw [low6, hm]
  have hx2 : x < 18446744073709551616 := by omega
  by_cases hp : 0 < (onesTo x 64).length
  · exact ones_pos x _ m most e63 (by omega) hx2 rfl hp w
  · have hl : (onesTo x 64).length = 0 := by omega
    have hz : x = 0 := by
      have hs := sumP_ones x 64
      rw [List.eq_nil_of_length_eq_zero hl, show (2 : Nat) ^ 64 = 18446744073709551616 from by decide, Nat.mod_eq_of_lt hx2] at hs
      exact hs.symm
    refine ones_none x _ m most e63 (by omega) hx2 rfl hl ?_ w
    rw [hz]; rfl
end Go.Proofs.Ytdnhjkmcogbaoaa
