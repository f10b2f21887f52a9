/-
  mintmarklaw24.one.
-/
import Derived.Test.YtdnhjkmcogbaoaaHeapH
namespace Go.Proofs.Ytdnhjkmcogbaoaa
open Go.RowKit
theorem RowB.set {W : World} {v : Value} {L : List Blk} {g : Nat} {cs : Array Value} {t : TypeId} (h : RowB W v L) (hb : HB W g cs t) (ht : t ≠ 103) (i : Nat) (u : Value) : RowB (W.setCell ⟨g, i, none⟩ u) v L := by
  refine World.ownsRow.kept h (row := some g) ⟨rfl, rfl, rfl, by simp, fun k _ hk => Below.heap_setCell W _ u k (fun e => hk (by rw [e]))⟩ ?_
  rcases h.2 with ⟨rfl, _⟩ | ⟨g', cap, cur, rfl, _, hg, _⟩
  · exact .inl rfl
  · refine .inr (fun e => ?_)
    have e2 : g' = g := Option.some.inj e
    subst e2
    unfold HB at hb
    rw [hb] at hg
    cases hg
    exact ht rfl
theorem RowB.alloc {W : World} {v : Value} {L : List Blk} (h : RowB W v L) (o : Obj) : RowB (W.alloc o) v L := h.below (ba (Below.refl _ _) o)
/-- A heap's box. -/
def HP (W : World) (g : Nat) (b t : Int) (L : List Blk) : Prop := ∃ s, HB W g #[.int .u64 b, .int .u64 t, s] 54 ∧ RowB W s L
theorem HP.store {W : World} {g : Nat} {b t : Int} {L : List Blk} {s x y z : Value} (h : HB W g #[x, y, z] 54) (r : RowB W s L) : HP (((W.setCell ⟨g, 0, none⟩ (.int .u64 b)).setCell ⟨g, 1, none⟩ (.int .u64 t)).setCell ⟨g, 2, none⟩ s) g b t L := by
  have h1 : HB (W.setCell ⟨g, 0, none⟩ (.int .u64 b)) g #[.int .u64 b, y, z] 54 := h.set 0 _
  have h2 : HB ((W.setCell ⟨g, 0, none⟩ (.int .u64 b)).setCell ⟨g, 1, none⟩ (.int .u64 t)) g #[.int .u64 b, .int .u64 t, z] 54 := h1.set 1 _
  exact ⟨s, h2.set 2 s, ((r.set h (by decide) 0 _).set h1 (by decide) 1 _).set h2 (by decide) 2 _⟩
theorem HP.alloc {W : World} {g : Nat} {b t : Int} {L : List Blk} (h : HP W g b t L) (o : Obj) : HP (W.alloc o) g b t L := by
  obtain ⟨s, h1, h2⟩ := h
  exact ⟨s, h1.alloc o, h2.alloc o⟩
theorem HP.callee {W W' : World} {g : Nat} {b t : Int} {L : List Blk} (h : HP W g b t L) (k : Below W.heap.size W W') : HP W' g b t L := by
  obtain ⟨s, h1, h2⟩ := h
  exact ⟨s, h1.callee k, h2.below k⟩
theorem HP.drew {W : World} {g : Nat} {b t : Int} {L : List Blk} (h : HP W g b t L) : HP W.drew g b t L := h
theorem HP.other {W : World} {g : Nat} {b t : Int} {L : List Blk} (h : HP W g b t L) {g' : Nat} {cs : Array Value} {tt : TypeId} (hb : HB W g' cs tt) (ht : tt ≠ 103) (hne : g ≠ g') (i : Nat) (v : Value) : HP (W.setCell ⟨g', i, none⟩ v) g b t L := by
  obtain ⟨s, h1, h2⟩ := h
  exact ⟨s, h1.set_other _ _ hne, h2.set hb ht i v⟩
theorem newH_one (w : World) : Calls Try.prog 40 #[.agg #[.int .u64 4096, .int .u64 8192]] w fun e w' => e = .returned (.tuple #[.agg #[.int .u64 4096, .int .u64 8192, .slice none 0 0], .int .i64 0]) ∧ Below w.heap.size w w' :=
  newH_any 4096 8192 (zerosOf 12288) 12288 (by decide) (by decide) (by decide) (by decide) rfl ((zerosOf_ge 12288 4 (by decide)).mpr (by decide)) w
theorem newH_law (w : World) : Calls Try.prog 40 #[.agg #[.int .u64 65536, .int .u64 131072]] w fun e w' => e = .returned (.tuple #[.agg #[.int .u64 65536, .int .u64 131072, .slice none 0 0], .int .i64 0]) ∧ Below w.heap.size w w' :=
  newH_any 65536 131072 (zerosOf 196608) 196608 (by decide) (by decide) (by decide) (by decide) rfl ((zerosOf_ge 196608 4 (by decide)).mpr (by decide)) w
theorem low_one : Low [] 32 4 8192 (up 4096 4) 4096 (4096 + 32) true := by
  rw [up_zero (by decide)]
  exact Low.free (by decide) rfl
theorem takeH_one (s : Value) (w : World) (hs : RowB w s []) : Calls Try.prog 41 #[.agg #[.int .u64 4096, .int .u64 8192, s], .int .u64 20] w fun e w' => (∃ s', e = .returned (.tuple #[.agg #[.int .u64 4096, .int .u64 8192, s'], .agg #[.int .u64 4096, .int .u64 4128], .int .i64 0]) ∧ RowB w' s' [⟨4096, 4128, false, 0⟩]) ∧ Below w.heap.size w w' :=
  take_any 4096 8192 20 32 s [] w hs (by decide) (by decide) (by decide) (by decide) (by decide) (by decide) (by simp) 4096 low_one
theorem giveH_one (s : Value) (w : World) (hs : RowB w s [⟨4096, 4128, false, 0⟩]) : Calls Try.prog 42 #[.agg #[.int .u64 4096, .int .u64 8192, s], .int .u64 4096, .int .i64 4] w fun e w' => (∃ s', e = .returned (.tuple #[.agg #[.int .u64 4096, .int .u64 8192, s'], .int .i64 0]) ∧ RowB w' s' [⟨4096, 4128, true, 4⟩]) ∧ Below w.heap.size w w' :=
  giveH 4096 8192 4096 4 s [⟨4096, 4128, false, 0⟩] 0 ⟨4096, 4128, false, 0⟩ w hs (by decide) (by decide) rfl
theorem settleH_one5 (s : Value) (w : World) (hs : RowB w s [⟨4096, 4128, true, 4⟩]) : Calls Try.prog 45 #[.agg #[.int .u64 4096, .int .u64 8192, s], .int .i64 5] w fun e w' => (∃ s', e = .returned (.agg #[.int .u64 4096, .int .u64 8192, s']) ∧ RowB w' s' [⟨4096, 4128, true, 4⟩]) ∧ Below w.heap.size w w' :=
  settleH 4096 8192 s [⟨4096, 4128, true, 4⟩] 5 w hs (by decide) (by decide) (by simp)
theorem settleH_one6 (s : Value) (w : World) (hs : RowB w s [⟨4096, 4128, true, 4⟩]) : Calls Try.prog 45 #[.agg #[.int .u64 4096, .int .u64 8192, s], .int .i64 6] w fun e w' => (∃ s', e = .returned (.agg #[.int .u64 4096, .int .u64 8192, s']) ∧ RowB w' s' []) ∧ Below w.heap.size w w' :=
  settleH 4096 8192 s [⟨4096, 4128, true, 4⟩] 6 w hs (by decide) (by decide) (by simp)
theorem heldH_one (s : Value) (w : World) (hs : RowB w s [⟨4096, 4128, true, 4⟩]) : Calls Try.prog 43 #[.agg #[.int .u64 4096, .int .u64 8192, s]] w fun e w' => (∃ a c, e = .returned (.slice a 1 c)) ∧ Below w.heap.size w w' :=
  heldH 4096 8192 s [⟨4096, 4128, true, 4⟩] w hs (by decide)
theorem blocksH_one (s : Value) (w : World) (hs : RowB w s []) : Calls Try.prog 44 #[.agg #[.int .u64 4096, .int .u64 8192, s]] w fun e w' => (∃ a c, e = .returned (.slice a 0 c)) ∧ Below w.heap.size w w' :=
  (blocksH 4096 8192 s [] w hs (by decide)).mono fun e w' ⟨⟨v, he, hr⟩, hb⟩ => by
    obtain ⟨a, c, rfl⟩ := own_slice hr
    exact ⟨⟨a, c, he⟩, hb⟩
set_option maxHeartbeats 2000000 in
theorem one24 (w : World) : Calls Try.prog 47 #[] w fun e w' => e = .returned (.bool true) ∧ Below w.heap.size w w' := by
  go_enter Try.func47, Try.ntmps47
  go_upto_region 1 with fail
  go_cut [1, 2] (fun s1 s2 wx => ∃ g1 : Nat, s1 = .pointer (some ⟨g1, 0, none⟩) ∧ s2 = .int .i64 0 ∧ w.heap.size ≤ g1 ∧ HP wx g1 4096 8192 [] ∧ Below w.heap.size w wx)
  case first =>
    go_wp2_with (first | ((with_reducible (go_at_call 40; refine (newH_one _).mono ?_)); rintro e1 w1 ⟨rfl, hb1⟩))
    go_meet
    case rel => exact ⟨_, rfl, rfl, hb1.size, ⟨_, HB.new w1 _ _, World.ownsRow_nil _ _ _ _⟩, ba hb1 _⟩
  case rest =>
  obtain ⟨g1, rfl, rfl, hg1, ⟨s1, A1, R1⟩, hbb⟩ := hcut
  obtain ⟨⟨⟨c0, c1, c2⟩, -⟩, -⟩ := A1.store3 undef undef undef
  go_upto_region 2 with fail
  go_cut [3, 4] (fun s3 s4 wx => ∃ g3 : Nat, s3 = .pointer (some ⟨g3, 0, none⟩) ∧ s4 = .int .i64 0 ∧ HP wx g1 4096 8192 [⟨4096, 4128, false, 0⟩] ∧ HB wx g3 #[.int .u64 4096, .int .u64 4128] 51 ∧ Below w.heap.size w wx)
  case first =>
    go_wp2_with (first | ((with_reducible (go_at_call 41; refine (takeH_one s1 _ R1).mono ?_)); rintro e1 w1 ⟨⟨s2, rfl, R2⟩, hb1⟩; obtain ⟨a2, k2, rfl⟩ := own_slice R2; have A2 := A1.callee hb1; have hl := A2.lt; obtain ⟨⟨⟨d0, d1, d2⟩, z0, z1, z2⟩, -⟩ := A2.store3 undef undef undef))
    go_meet
    case rel => exact ⟨_, rfl, rfl, (HP.store A2 R2).alloc _, HB.new' _ _ _ _ (by simp), ba (set3_below (bc hbb hb1) hg1 _ _ _) _⟩
  case rest =>
  obtain ⟨g3, rfl, rfl, ⟨s2, A2, R2⟩, B2, hbb2⟩ := hcut
  clear A1 R1 c0 c1 c2 hbb
  obtain ⟨⟨⟨c0, c1, c2⟩, -⟩, -⟩ := A2.store3 undef undef undef
  go_upto_region 3 with fail
  go_cut [5] (fun s5 wx => s5 = .int .i64 0 ∧ HP wx g1 4096 8192 [⟨4096, 4128, true, 4⟩] ∧ HB wx g3 #[.int .u64 4096, .int .u64 4128] 51 ∧ Below w.heap.size w wx)
  case first =>
    have hne : g3 ≠ g1 := by
      intro e; subst e; unfold HB at A2 B2; rw [A2] at B2; cases B2
    go_wp2_with (first | ((with_reducible (go_at_call 42; refine (giveH_one s2 _ R2).mono ?_)); rintro e1 w1 ⟨⟨s3, rfl, R3⟩, hb1⟩; obtain ⟨a3, k3, rfl⟩ := own_slice R3; have A3 := A2.callee hb1; obtain ⟨⟨⟨d0, d1, d2⟩, z0, z1, z2⟩, -⟩ := A3.store3 undef undef undef))
    go_meet
    case rel => exact ⟨rfl, HP.store A3 R3, (((B2.callee hb1).set_other _ _ hne).set_other _ _ hne).set_other _ _ hne, set3_below (bc hbb2 hb1) hg1 _ _ _⟩
  case rest =>
  obtain ⟨rfl, ⟨s3, A3, R3⟩, B3, hbb3⟩ := hcut
  clear A2 R2 B2 c0 c1 c2 hbb2
  obtain ⟨⟨⟨c0, c1, c2⟩, -⟩, -⟩ := A3.store3 undef undef undef
  obtain ⟨⟨b0, b1⟩, -⟩ := B3.two
  go_wp2_with (first
    | ((with_reducible (go_at_call 45; refine (settleH_one5 s3 _ R3).mono ?_)); rintro e1 w1 ⟨⟨s4, rfl, R4⟩, hb1⟩; have A4 := A3.callee hb1; have R3' := R3.below hb1; obtain ⟨⟨⟨d0, d1, d2⟩, -⟩, -⟩ := A4.store3 undef undef undef)
    | ((with_reducible (go_at_call 43; refine (heldH_one s4 _ R4).mono ?_)); rintro e1 w2 ⟨⟨ax, cx, rfl⟩, hb2⟩; have A5 := A4.callee hb2; have R5 := R3'.below hb2; obtain ⟨⟨⟨x0, x1, x2⟩, -⟩, -⟩ := A5.store3 undef undef undef)
    | ((with_reducible (go_at_call 45; refine (settleH_one6 s3 _ R5).mono ?_)); rintro e1 w3 ⟨⟨s6, rfl, R6⟩, hb3⟩)
    | ((with_reducible (go_at_call 44; refine (blocksH_one s6 _ R6).mono ?_)); rintro e1 w4 ⟨⟨ay, cy, rfl⟩, hb4⟩))
  go_ret
  exact ⟨rfl, bc (bc (bc (bc hbb3 hb1) hb2) hb3) hb4⟩
end Go.Proofs.Ytdnhjkmcogbaoaa
