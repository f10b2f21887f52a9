/-
  HeapReuses, walked.
-/
import Derived.Test.YtdnhjkmcogbaoaaHeapJ
namespace Go.Proofs.Ytdnhjkmcogbaoaa
open Go.RowKit
theorem hb_ne {W : World} {g g' : Nat} {cs cs' : Array Value} {t t' : TypeId} (h : HB W g cs t) (h' : HB W g' cs' t') (ht : t ≠ t') : g ≠ g' := by
  intro e; subst e
  unfold HB at h h'
  rw [h] at h'
  cases h'
  exact ht rfl
/-- The boxes of HeapReuses. -/
abbrev HPr (W : World) (g : Nat) (L : List Blk) : Prop := HP W g 65536 131072 L
abbrev SPb (W : World) (g : Nat) (b t : Int) : Prop := HB W g #[.int .u64 b, .int .u64 t] 51
set_option maxRecDepth 100000 in
set_option maxHeartbeats 4000000 in
theorem reuses_walk (n0 A D : Int) (m : Nat) (N p q r : Nat) (hm : bits .and .u64 n0 4095 = (m : Int)) (hnum : Nums (1 + m) N p q r) (x y : Int) (hx : 0 ≤ x ∧ x ≤ 65535) (hA : bits .and .i64 A 65535 = x) (hD : bits .and .i64 D 7 = y) (hy : 0 ≤ y ∧ y ≤ 7) (w : World) :
    Calls Try.prog 12 #[.int .u64 n0, .int .i64 A, .int .i64 D] w fun e w' => e = .returned (.bool true) ∧ Below w.heap.size w w' := by
  have hcast : ((1 + m : Nat) : Int) = 1 + (m : Int) := by omega
  have T1 := Lib.hid (take1 hnum)
  have T2 := Lib.hid (take2 hnum)
  have T3 := Lib.hid (take3 hnum x)
  have T4 := Lib.hid (take4 hnum)
  rw [hcast] at T1 T2 T3 T4
  have hle := hnum.le
  have hp := hnum.hp
  have hq := hnum.hq
  have hr := hnum.hr
  have hm2 : m ≤ 4095 := by have := hnum.n2; omega
  have HN := Lib.hid (And.intro hp (And.intro hq hr))
  have hp0 : 65536 < p := by omega
  have hpq : p < q := by omega
  have hqr : q < r := by omega
  have hr0 : r ≤ 131072 := by omega
  clear hcast hnum hp hq hr hle
  go_enter Try.func12, Try.ntmps12
  go_upto_region 2 with fail
  go_cut [7, 8] (fun s7 s8 wx => ∃ g7 : Nat, s7 = .pointer (some ⟨g7, 0, none⟩) ∧ s8 = .int .i64 0 ∧ w.heap.size ≤ g7 ∧ HPr wx g7 [] ∧ Below w.heap.size w wx)
  case first =>
    go_wp2_with (first | ((with_reducible (go_at_call 40; refine (newH_law _).mono ?_)); rintro e1 w1 ⟨rfl, hb1⟩))
    go_meet
    case rel => exact ⟨_, rfl, rfl, hb1.size, ⟨_, HB.new w1 _ _, World.ownsRow_nil _ _ _ _⟩, ba hb1 _⟩
  case rest =>
  obtain ⟨g7, rfl, rfl, hg7, ⟨s1, A1, R1⟩, hbb⟩ := hcut
  obtain ⟨⟨⟨c0, c1, c2⟩, -⟩, -⟩ := A1.store3 undef undef undef
  go_upto_region 3 with fail
  go_cut [9, 10] (fun s9 s10 wx => ∃ g9 : Nat, s9 = .pointer (some ⟨g9, 0, none⟩) ∧ s10 = .int .i64 0 ∧ HPr wx g7 [bA p] ∧ SPb wx g9 65536 p ∧ Below w.heap.size w wx)
  case first =>
    go_wp2_with (first | ((with_reducible (go_at_call 41; refine (T1.out s1 _ R1).mono ?_)); rintro e1 w1 ⟨⟨s2, rfl, R2⟩, hb1⟩; obtain ⟨a2, k2, rfl⟩ := own_slice R2; have A2 := A1.callee hb1; have hl := A2.lt; obtain ⟨⟨⟨d0, d1, d2⟩, z0, z1, z2⟩, -⟩ := A2.store3 undef undef undef))
    go_meet
    case rel => exact ⟨_, rfl, rfl, (HP.store A2 R2).alloc _, HB.new' _ _ _ _ (by simp), ba (set3_below (bc hbb hb1) hg7 _ _ _) _⟩
  case rest =>
  obtain ⟨g9, rfl, rfl, ⟨s2, A2, R2⟩, B9, hbb2⟩ := hcut
  clear A1 R1 c0 c1 c2 hbb
  obtain ⟨⟨⟨c0, c1, c2⟩, -⟩, -⟩ := A2.store3 undef undef undef
  go_upto_region 4 with fail
  go_cut [11, 12] (fun s11 s12 wx => ∃ g11 : Nat, s11 = .pointer (some ⟨g11, 0, none⟩) ∧ s12 = .int .i64 0 ∧ HPr wx g7 [bA p, bB p q] ∧ SPb wx g9 65536 p ∧ SPb wx g11 p q ∧ Below w.heap.size w wx)
  case first =>
    have hne := hb_ne B9 A2 (by decide)
    go_wp2_with (first | ((with_reducible (go_at_call 41; refine (T2.out s2 _ R2).mono ?_)); rintro e1 w1 ⟨⟨s3, rfl, R3⟩, hb1⟩; obtain ⟨a2, k2, rfl⟩ := own_slice R3; have A3 := A2.callee hb1; have hl := A3.lt; obtain ⟨⟨⟨d0, d1, d2⟩, z0, z1, z2⟩, -⟩ := A3.store3 undef undef undef))
    go_meet
    case rel => exact ⟨_, rfl, rfl, (HP.store A3 R3).alloc _, ((((B9.callee hb1).set_other _ _ hne).set_other _ _ hne).set_other _ _ hne).alloc _, HB.new' _ _ _ _ (by simp), ba (set3_below (bc hbb2 hb1) hg7 _ _ _) _⟩
  case rest =>
  obtain ⟨g11, rfl, rfl, ⟨s3, A3, R3⟩, B9', B11, hbb3⟩ := hcut
  clear A2 R2 c0 c1 c2 hbb2 B9
  obtain ⟨⟨⟨c0, c1, c2⟩, -⟩, -⟩ := A3.store3 undef undef undef
  obtain ⟨⟨b0, b1⟩, -⟩ := B9'.two
  obtain ⟨⟨b2, b3⟩, -⟩ := B11.two
  go_upto_region 8 with fail
  go_cut [8] (fun s8 wx => s8 = .int .i64 0 ∧ HPr wx g7 [bA' p x, bB p q] ∧ SPb wx g9 65536 p ∧ SPb wx g11 p q ∧ Below w.heap.size w wx)
  case first =>
    have hne := hb_ne B9' A3 (by decide)
    have hne2 := hb_ne B11 A3 (by decide)
    go_wp2_with (first | ((with_reducible (go_at_call 42; refine (give2 x s3 _ R3).mono ?_)); rintro e1 w1 ⟨⟨s4, rfl, R4⟩, hb1⟩; obtain ⟨a2, k2, rfl⟩ := own_slice R4; have A4 := A3.callee hb1; obtain ⟨⟨⟨d0, d1, d2⟩, z0, z1, z2⟩, -⟩ := A4.store3 undef undef undef))
    go_meet
    case rel => exact ⟨rfl, HP.store A4 R4, (((B9'.callee hb1).set_other _ _ hne).set_other _ _ hne).set_other _ _ hne, (((B11.callee hb1).set_other _ _ hne2).set_other _ _ hne2).set_other _ _ hne2, set3_below (bc hbb3 hb1) hg7 _ _ _⟩
  case rest =>
  obtain ⟨rfl, ⟨s4, A4, R4⟩, B9, B11', hbb4⟩ := hcut
  clear A3 R3 c0 c1 c2 hbb3 B9' b0 b1 b2 b3 B11
  obtain ⟨⟨⟨c0, c1, c2⟩, -⟩, -⟩ := A4.store3 undef undef undef
  go_upto_region 9 with fail
  go_cut [10, 13, 14] (fun s10 s13 s14 wx => ∃ g13 g14 : Nat, s10 = .int .i64 0 ∧ s13 = .pointer (some ⟨g13, 0, none⟩) ∧ s14 = .pointer (some ⟨g14, 0, none⟩) ∧ HPr wx g7 [bA' p x, bB p q] ∧ SPb wx g9 65536 p ∧ SPb wx g11 p q ∧ HPr wx g13 [bA' p x, bB p q, bB q r] ∧ SPb wx g14 q r ∧ Below w.heap.size w wx)
  case first =>
    have HR := Lib.hid (And.intro A4 R4)
    go_wp2_with (first | ((with_reducible (go_at_call 41; refine (T3.out s4 _ R4).mono ?_)); rintro e1 w1 ⟨⟨s5, rfl, R5⟩, hb1⟩; obtain ⟨a2, k2, rfl⟩ := own_slice R5))
    go_meet
    case rel =>
      have A5 := HR.out.1.callee hb1
      have R4' := HR.out.2.below hb1
      exact ⟨_, _, rfl, rfl, rfl, ⟨s4, (A5.alloc _).alloc _, (R4'.alloc _).alloc _⟩, ((B9.callee hb1).alloc _).alloc _, ((B11'.callee hb1).alloc _).alloc _, ⟨_, (HB.new w1 _ _).alloc _, (R5.alloc _).alloc _⟩, HB.new' _ _ _ _ (by simp), ba (ba (bc hbb4 hb1) _) _⟩
  case rest =>
  obtain ⟨g13, g14, rfl, rfl, rfl, ⟨s5, A5, R5⟩, B9', B11, ⟨s6, A6, R6⟩, B14, hbb5⟩ := hcut
  clear A4 R4 c0 c1 c2 hbb4 B9 B11'
  obtain ⟨⟨⟨c0, c1, c2⟩, -⟩, -⟩ := A6.store3 undef undef undef
  obtain ⟨⟨b0, b1⟩, -⟩ := B14.two
  obtain ⟨⟨b2, b3⟩, -⟩ := B11.two
  have hd1 : decide (q < q) = false := decide_eq_false (Nat.lt_irrefl _)
  go_upto_region 13 with (first
    | ((with_reducible (go_at_call 43; refine (held3 x s6 _ R6).mono ?_)); rintro e1 w1 ⟨⟨ax, cx, rfl⟩, hb1⟩; have A6' := A6.callee hb1; have R6' := R6.below hb1; obtain ⟨⟨⟨x0, x1, x2⟩, -⟩, -⟩ := A6'.store3 undef undef undef)
    | ((with_reducible (go_at_call 44; refine (blocks3 x s6 _ R6').mono ?_)); rintro e1 w2 ⟨⟨ay, cy, rfl⟩, hb2⟩))
  have A7 := (A5.callee hb1).callee hb2
  have R7 := (R5.below hb1).below hb2
  have B7 := (B9'.callee hb1).callee hb2
  have B8 := (B14.callee hb1).callee hb2
  have hbb7 := bc (bc hbb5 hb1) hb2
  clear A5 R5 B9' B14 A6 R6 A6' R6' B11 b0 b1 b2 b3 c0 c1 c2 x0 x1 x2 hbb5 T1 T2
  obtain ⟨⟨⟨c0, c1, c2⟩, -⟩, -⟩ := A7.store3 undef undef undef
  have hAg : Hid (∀ w, Calls Try.prog 46 #[.int .i64 x] w fun e w' => e = .returned (.int .i64 (x + 2 + x % 2)) ∧ w = w') := fun w => again_any x hx.1 (by omega) w
  have hpar := Int.emod_two_eq x
  have hxb := hx.1
  have hxb2 := hx.2
  have hyb := hy.1
  have hyb2 := hy.2
  by_cases hg : 2 + x % 2 ≤ y
  · have hS := Lib.hid (settle_gone (p := p) (q := q) x (x + y) hx (by unfold againI; omega) s5 _ R7)
    go_cut [12, 17] (fun s12 s17 wx => ∃ g17 : Nat, s12 = .int .i64 0 ∧ s17 = .pointer (some ⟨g17, 0, none⟩) ∧ SPb wx g9 65536 p ∧ SPb wx g14 q r ∧ SPb wx g17 65536 p ∧ Below w.heap.size w wx)
    case first =>
      go_wp2_with (first
        | ((with_reducible (go_at_call 45; refine hS.out.mono ?_)); rintro e1 w3 ⟨⟨s8, rfl, R8⟩, hb3⟩)
        | ((with_reducible (go_at_call 41; refine (T4.out s8 _ R8).mono ?_)); rintro e1 w4 ⟨⟨s9, rfl, R9⟩, hb4⟩; obtain ⟨a2, k2, rfl⟩ := own_slice R9))
      go_meet
      case rel => exact ⟨_, rfl, rfl, (((B7.callee hb3).callee hb4).alloc _).alloc _, (((B8.callee hb3).callee hb4).alloc _).alloc _, HB.new' _ _ _ _ (by simp), ba (ba (bc (bc hbb7 hb3) hb4) _) _⟩
    case rest =>
    obtain ⟨g17, rfl, rfl, B9, B14', B17, hbb8⟩ := hcut
    clear A7 R7 B7 B8 hbb7 c0 c1 c2 hS T3 T4
    obtain ⟨⟨b0, b1⟩, -⟩ := B9.two
    obtain ⟨⟨b2, b3⟩, -⟩ := B14'.two
    obtain ⟨⟨b4, b5⟩, -⟩ := B17.two
    go_upto_region 14 with fail
    go_cut [18] (fun s18 wx => s18 = .bool true ∧ wx = wc)
    case first =>
      have f1 : (2 : Int) ≤ y := by omega
      rcases hpar with hp2 | hp2
      · have e2 : (x % 2 == 0) = true := by rw [hp2]; rfl
        go_wp2
        go_meet
        case rel => exact ⟨rfl, rfl⟩
      · have e2 : (x % 2 == 0) = false := by rw [hp2]; rfl
        have f2 : (3 : Int) ≤ y := by omega
        go_wp2
        go_meet
        case rel => exact ⟨rfl, rfl⟩
    case rest =>
    obtain ⟨rfl, rfl⟩ := hcut
    go_wp2_with (first
      | ((with_reducible (go_at_call 46; refine (hAg.out _).mono ?_)); rintro e1 w3 ⟨rfl, rfl⟩)
      | ((with_reducible (go_at_call 47; refine (one24 _).mono ?_)); rintro e1 w4 ⟨rfl, hb4⟩))
    go_ret
    exact ⟨rfl, bc hbb8 hb4⟩
  · have hS := Lib.hid (settle_kept (p := p) (q := q) x (x + y) hx (by unfold againI; omega) s5 _ R7)
    go_cut [12, 17] (fun s12 s17 wx => ∃ g17 : Nat, s12 = .int .i64 0 ∧ s17 = .pointer (some ⟨g17, 0, none⟩) ∧ SPb wx g9 65536 p ∧ SPb wx g14 q r ∧ SPb wx g17 q r ∧ Below w.heap.size w wx)
    case first =>
      go_wp2_with (first
        | ((with_reducible (go_at_call 45; refine hS.out.mono ?_)); rintro e1 w3 ⟨⟨s8, rfl, R8⟩, hb3⟩)
        | ((with_reducible (go_at_call 41; refine (T3.out s8 _ R8).mono ?_)); rintro e1 w4 ⟨⟨s9, rfl, R9⟩, hb4⟩; obtain ⟨a2, k2, rfl⟩ := own_slice R9))
      go_meet
      case rel => exact ⟨_, rfl, rfl, (((B7.callee hb3).callee hb4).alloc _).alloc _, (((B8.callee hb3).callee hb4).alloc _).alloc _, HB.new' _ _ _ _ (by simp), ba (ba (bc (bc hbb7 hb3) hb4) _) _⟩
    case rest =>
    obtain ⟨g17, rfl, rfl, B9, B14', B17, hbb8⟩ := hcut
    clear A7 R7 B7 B8 hbb7 c0 c1 c2 hS T3 T4
    obtain ⟨⟨b0, b1⟩, -⟩ := B9.two
    obtain ⟨⟨b2, b3⟩, -⟩ := B14'.two
    obtain ⟨⟨b4, b5⟩, -⟩ := B17.two
    go_upto_region 14 with fail
    go_cut [18] (fun s18 wx => s18 = .bool false ∧ wx = wc)
    case first =>
      rcases hpar with hp2 | hp2
      · have e2 : (x % 2 == 0) = true := by rw [hp2]; rfl
        have f1 : decide ((2 : Int) ≤ y) = false := decide_eq_false (by omega)
        have f2 : decide ((3 : Int) ≤ y) = false := decide_eq_false (by omega)
        go_wp2
        go_meet
        case rel => exact ⟨rfl, rfl⟩
      · have e2 : (x % 2 == 0) = false := by rw [hp2]; rfl
        have f2 : decide ((3 : Int) ≤ y) = false := decide_eq_false (by omega)
        by_cases h2 : (2 : Int) ≤ y
        · go_wp2
          go_meet
          case rel => exact ⟨rfl, rfl⟩
        · have f1 : decide ((2 : Int) ≤ y) = false := decide_eq_false h2
          go_wp2
          go_meet
          case rel => exact ⟨rfl, rfl⟩
    case rest =>
    obtain ⟨rfl, rfl⟩ := hcut
    have hqa : ((q : Int) == 65536) = false := by rw [beq_eq_false_iff_ne]; omega
    go_wp2_with (first
      | ((with_reducible (go_at_call 46; refine (hAg.out _).mono ?_)); rintro e1 w3 ⟨rfl, rfl⟩)
      | ((with_reducible (go_at_call 47; refine (one24 _).mono ?_)); rintro e1 w4 ⟨rfl, hb4⟩))
    go_ret
    exact ⟨rfl, bc hbb8 hb4⟩
theorem reuses_ok (n0 A D : Int) (w : World) (h0 : 0 ≤ n0) (h1 : n0 < 18446744073709551616) :
    Calls Try.prog 12 #[.int .u64 n0, .int .i64 A, .int .i64 D] w fun e w' => e = .returned (.bool true) ∧ Below w.heap.size w w' := by
  obtain ⟨n, rfl⟩ : ∃ n : Nat, n0 = n := ⟨n0.toNat, by omega⟩
  have hm := u64_and12 n (by omega)
  refine reuses_walk n A D (n % 4096) (up (1 + n % 4096) 4) (65536 + up (1 + n % 4096) 4) _ _ hm ⟨by omega, by omega, rfl, rfl, rfl, rfl⟩ (A % 65536) (D % 8) (by omega) (i64_and16 A) (i64_and3 D) (by omega) w
end Go.Proofs.Ytdnhjkmcogbaoaa
