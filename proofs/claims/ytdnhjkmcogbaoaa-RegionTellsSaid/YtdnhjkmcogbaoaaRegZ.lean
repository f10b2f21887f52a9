/-
  RegionTells, walked.
-/
import Derived.Test.YtdnhjkmcogbaoaaRegN
namespace Go.Proofs.Ytdnhjkmcogbaoaa
open Go.RowKit
/-- The room's map in a box. -/
abbrev RP (W : World) (g : Nat) (L : List Rg) : Prop := MP W g 4096 4194304 L
theorem RP.store {W : World} {g : Nat} {L : List Rg} {s x y z : Value} (h : HB W g #[x, y, z] 71) (r : RowR W s L) : RP (((W.setCell ⟨g, 0, none⟩ (.int .u64 4096)).setCell ⟨g, 1, none⟩ (.int .u64 4194304)).setCell ⟨g, 2, none⟩ s) g L := MP.store h r
theorem RP.open {W : World} {g : Nat} {L : List Rg} (h : RP W g L) : ∃ s, HB W g #[.int .u64 4096, .int .u64 4194304, s] 71 ∧ RowR W s L := h
theorem pickI (v : Value) (L : List Rg) (kd pk : Int) (n b t : Nat) (w : World) (hs : RowR w v L) (hLn : L.length ≤ 100) (hpk : pk ≤ 9223372036854775807) :
    Calls Try.prog 56 #[.agg #[.int .u64 4096, .int .u64 4194304, v], actV kd pk n b t] w fun e w' => (∃ s u : Nat, e = .returned (spN s u)) ∧ Below w.heap.size w w' :=
  picked_any 4096 4194304 v L kd pk n b t w hs hLn hpk
theorem allI (s : Value) (L : List Rg) (w : World) (hs : RowR w s L) (hLn : L.length ≤ 1000) :
    Calls Try.prog 52 #[.agg #[.int .u64 4096, .int .u64 4194304, s]] w fun e w' => (∃ v', e = .returned v' ∧ RowR w' v' L) ∧ Below w.heap.size w w' := allR 4096 4194304 s L w hs hLn
theorem neR_run (k : Rg) (W : World) : (binOp .neq 82 (.agg #[.int .u64 (k.b : Int), .int .u64 (k.t : Int), .int .i64 k.k]) (.agg #[.int .u64 (k.b : Int), .int .u64 (k.t : Int), .int .i64 k.k])).run Try.prog W = .ok (.bool false) W := by
  obtain ⟨b, t, x⟩ := k
  go_simp
set_option maxRecDepth 100000 in
set_option maxHeartbeats 4000000 in
theorem tells_walk (n cap : Nat) (a : Option Addr) (N addr : Nat) (w : World) (hn : n ≤ 9223372036854775807) (hl : ActsAt w a n) :
    Calls Try.prog 14 #[.slice a n cap, .int .u64 N, .int .u64 addr] w fun e w' => e = .returned (.bool true) ∧ Below w.heap.size w w' := by
  have HU := Lib.hid hl
  clear hl
  go_enter Try.func14, Try.ntmps14
  go_upto_region 2 with (first | ((with_reducible (go_at_call 48; refine (newR_law _).mono ?_)); rintro e1 w1 ⟨rfl, hb1⟩))
  have X7 : RP (w1.alloc (.cells #[.int .u64 4096, .int .u64 4194304, .slice none 0 0] 71)) w1.heap.size [] := ⟨_, HB.new w1 _ _, RowR.nil _⟩
  have hbb : Below w.heap.size w (w1.alloc (.cells #[.int .u64 4096, .int .u64 4194304, .slice none 0 0] 71)) := ba hb1 _
  have hg7 : w.heap.size ≤ w1.heap.size := hb1.size
  generalize hg : w1.heap.size = g7 at X7 hg7 ⊢
  clear hg hb1
  obtain ⟨M, hM⟩ : ∃ M : Nat, M = min n 40 := ⟨_, rfl⟩
  have HX := Lib.hid (And.intro X7 hbb)
  have HG7 := Lib.hid hg7
  have HMM := Lib.hid hM
  clear X7 hbb hg7 hM
  go_upto_block 0 with fail
  go_cut [9] (fun _ wx => ∃ L : List Rg, Inv L ∧ L.length ≤ 40 ∧ Below w.heap.size w wx ∧ RP wx g7 L)
  case first => as_aux_lemma =>
    go_wp2_with fail
    go_loopg [9] M (fun g s9 wx => ∃ (i : Nat) (L : List Rg), i + g = M ∧ s9 = .int .i64 (i : Int) ∧ L.length ≤ i ∧ Aside (Inv L) ∧ Below w.heap.size w wx ∧ RP wx g7 L)
    case atStart => exact ⟨0, [], by omega, rfl, by simp, Inv.nil, HX.out.2, HX.out.1⟩
    case round =>
      clear HX
      obtain ⟨i, L, hig, rfl, hLi, HI, hbx, A7⟩ := hrel
      have hMM := HMM.out
      have HA := Lib.hid (And.intro hbx A7)
      clear hbx A7
      by_cases h1 : i < n
      · have e1 : decide ((i : Int) < (n : Int)) = true := decide_eq_true (by omega)
        by_cases h2 : i < 40
        · have e2 : decide ((i : Int) < 40) = true := decide_eq_true (by omega)
          have hil : (i : Int) < (n : Int) := by omega
          obtain ⟨ga, o, kd, pk, x, b, t, rfl, hga, hpk, p0, p1, p2, p3, p4⟩ := HU.out i h1
          have HXC : Hid (∀ W, Below w.heap.size w W → ∀ c v, w.cell? ⟨ga, c, none⟩ = some v → W.cell? ⟨ga, c, none⟩ = some v) := fun W k c v h => (k.cell (p := ⟨ga, c, none⟩) hga).trans h
          have c0 := HXC.out _ HA.out.1 _ _ p0
          have c1 := HXC.out _ HA.out.1 _ _ p1
          have c2 := HXC.out _ HA.out.1 _ _ p2
          have c3 := HXC.out _ HA.out.1 _ _ p3
          have c4 := HXC.out _ HA.out.1 _ _ p4
          clear p0 p1 p2 p3 p4 hga
          go_upto_region 7 with fail
          go_cut [10] (fun s10 wx => ∃ g10 : Nat, s10 = .pointer (some ⟨g10, 0, none⟩) ∧ HB wx g10 #[.int .i64 kd, .int .i64 pk, .int .u64 (x : Int), .int .u64 (b : Int), .int .u64 (t : Int)] 86 ∧ Below w.heap.size w wx ∧ RP wx g7 L)
          case first => as_aux_lemma =>
            go_wp2
            go_meet
            exact ⟨_, rfl, HB.new _ _ _, ba HA.out.1 _, HA.out.2.alloc _⟩
          case rest =>
            obtain ⟨g10, rfl, A10, hbc, A7⟩ := hcut
            clear HA HXC c0 c1 c2 c3 c4
            obtain ⟨s7, A7b, R7⟩ := A7.open
            have c0 := A7b.cell 0 _ rfl
            have c1 := A7b.cell 1 _ rfl
            have c2 := A7b.cell 2 _ rfl
            have d0 := A10.cell 0 _ rfl
            have d1 := A10.cell 1 _ rfl
            have d2 := A10.cell 2 _ rfl
            have d3 := A10.cell 3 _ rfl
            have d4 := A10.cell 4 _ rfl
            have HPk := Lib.hid (pickI s7 L kd pk x b t wc R7 (by omega) hpk)
            obtain ⟨a7, k7, rfl⟩ := own_slice R7
            have HA := Lib.hid (And.intro hbc (And.intro A7 A10))
            clear hbc A7 A10 A7b R7
            go_upto_region 8 with fail
            go_cut [11] (fun s11 wx => ∃ g11 s u : Nat, s11 = .pointer (some ⟨g11, 0, none⟩) ∧ SB wx g11 s u ∧ HB wx g10 #[.int .i64 kd, .int .i64 pk, .int .u64 (x : Int), .int .u64 (b : Int), .int .u64 (t : Int)] 86 ∧ Below w.heap.size w wx ∧ RP wx g7 L)
            case first => as_aux_lemma =>
              go_wp2_with (first | ((with_reducible (go_at_call 56; refine HPk.out.mono ?_)); rintro e1 w2 ⟨⟨s, u, rfl⟩, hb2⟩))
              go_meet
              exact ⟨_, s, u, rfl, HB.new _ _ _, (HA.out.2.2.callee hb2).alloc _, ba (bc HA.out.1 hb2) _, (HA.out.2.1.callee hb2).alloc _⟩
            case rest =>
              obtain ⟨g11, s, u, rfl, A11, A10, hbc, A7⟩ := hcut
              clear HA HPk c0 c1 c2 d0 d1 d2 d3 d4
              obtain ⟨s7, A7b, R7⟩ := A7.open
              have c0 := A7b.cell 0 _ rfl
              have c1 := A7b.cell 1 _ rfl
              have c2 := A7b.cell 2 _ rfl
              have d0 := A10.cell 0 _ rfl
              have d2 := A10.cell 2 _ rfl
              obtain ⟨⟨x0, x1⟩, -⟩ := A11.two
              have HF : Hid (∀ W, Below wc.heap.size wc W → Calls Try.prog 50 #[.agg #[.int .u64 4096, .int .u64 4194304, s7], .int .u64 ((x % 50000 : Nat) : Int)] W fun e w' => (∃ (a u : Nat) (er : Int), e = .returned (.tuple #[.agg #[.int .u64 (a : Int), .int .u64 (u : Int)], .int .i64 er]) ∧ (er = 0 → Found 4096 4194304 L (x % 50000) a u ∧ Tells (x % 50000) L a u)) ∧ Below W.heap.size W w') := fun W hW => findT (x % 50000) L s7 W HI.out (by omega) (R7.below hW)
              have HHo : Hid (Calls Try.prog 54 _ _ _) := holdI s u s7 L wc R7 (by omega) HI.out
              have HDr : Hid (Calls Try.prog 55 _ _ _) := dropI s u s7 L wc R7 (by omega) HI.out
              have hxm1 : (x : Int).tmod 50000 = ((x % 50000 : Nat) : Int) := by rw [Int.tmod_eq_emod_of_nonneg (by omega)]; omega
              have hxm2 : (x : Int) % 50000 = ((x % 50000 : Nat) : Int) := by omega
              generalize x % 50000 = xm at HF hxm1 hxm2
              obtain ⟨a7, k7, rfl⟩ := own_slice R7
              have HA := Lib.hid (And.intro hbc (And.intro A7 (And.intro A10 (And.intro A7b R7))))
              clear hbc A7 A10 A11 A7b R7
              by_cases k0 : kd = 0
              · subst k0
                clear HHo HDr
                go_upto_region 12 with fail
                go_cut [12, 13] (fun s12 s13 wx => ∃ (g12 s' u' : Nat) (er : Int), s12 = .pointer (some ⟨g12, 0, none⟩) ∧ s13 = .int .i64 er ∧ (er = 0 → Found 4096 4194304 L xm s' u') ∧ SB wx g12 s' u' ∧ Below w.heap.size w wx ∧ RP wx g7 L)
                case first => as_aux_lemma =>
                  go_wp2_with (first | ((with_reducible (go_at_call 50; refine (HF.out wc (Below.refl _ _)).mono ?_)); rintro e1 w2 ⟨⟨s', u', er, rfl, hF⟩, hb2⟩))
                  go_meet
                  exact ⟨_, s', u', er, rfl, rfl, fun h => (hF h).1, HB.new _ _ _, ba (bc HA.out.1 hb2) _, (HA.out.2.1.callee hb2).alloc _⟩
                case rest =>
                  obtain ⟨g12, s', u', er, rfl, rfl, hF, A12, hbd, A7⟩ := hcut
                  clear HA HF c0 c1 c2 d0 d2 x0 x1 hxm1 hxm2
                  by_cases her : er = 0
                  · subst her
                    have HFd := Lib.hid (hF rfl)
                    clear hF
                    obtain ⟨s7, A7b, R7⟩ := A7.open
                    have c0 := A7b.cell 0 _ rfl
                    have c1 := A7b.cell 1 _ rfl
                    have c2 := A7b.cell 2 _ rfl
                    obtain ⟨⟨x0, x1⟩, -⟩ := A12.two
                    have HAd := Lib.hid (addI xm s' u' s7 L wc R7 (by omega) HI.out HFd.out)
                    obtain ⟨a7, k7, rfl⟩ := own_slice R7
                    have HA := Lib.hid (And.intro hbd A7b)
                    clear hbd A7 A12 A7b R7
                    go_upto_region 14 with fail
                    go_wp2_with (first | ((with_reducible (go_at_call 53; refine HAd.out.mono ?_)); rintro e1 w2 ⟨⟨v2, L1, rfl, R2, hI1, hA1⟩, hb2⟩; have HL1 := Lib.hid hA1.toK.len; clear hA1; obtain ⟨a2, k2, rfl⟩ := own_slice R2; obtain ⟨⟨⟨r0, r1, r2⟩, f0, f1, f2⟩, -⟩ := (HA.out.2.callee hb2).store3 undef undef undef))
                    go_roundg (M - (i + 1))
                    case measure => omega
                    case rel => exact ⟨i + 1, L1, by omega, by go_num, by have := HL1.out; omega, hI1, set3_below (bc HA.out.1 hb2) HG7.out _ _ _, RP.store (HA.out.2.callee hb2) R2⟩
                  · have e3 : (er == 0) = false := by rw [beq_eq_false_iff_ne]; exact her
                    have HA := Lib.hid (And.intro hbd A7)
                    clear hF hbd A7 A12
                    go_wp2
                    go_roundg (M - (i + 1))
                    case measure => omega
                    case rel => exact ⟨i + 1, L, by omega, by go_num, by omega, HI, HA.out.1, HA.out.2⟩
              · have kf0 : (kd == 0) = false := by rw [beq_eq_false_iff_ne]; exact k0
                by_cases k1 : kd = 1
                · subst k1
                  clear HHo HDr
                  go_upto_region 12 with fail
                  go_cut [12, 13] (fun s12 s13 wx => ∃ (g12 s' u' : Nat) (er : Int), s12 = .pointer (some ⟨g12, 0, none⟩) ∧ s13 = .int .i64 er ∧ (er = 0 → Found 4096 4194304 L xm s' u') ∧ SB wx g12 s' u' ∧ Below w.heap.size w wx ∧ RP wx g7 L)
                  case first => as_aux_lemma =>
                    go_wp2_with (first | ((with_reducible (go_at_call 50; refine (HF.out wc (Below.refl _ _)).mono ?_)); rintro e1 w2 ⟨⟨s', u', er, rfl, hF⟩, hb2⟩))
                    go_meet
                    exact ⟨_, s', u', er, rfl, rfl, fun h => (hF h).1, HB.new _ _ _, ba (bc HA.out.1 hb2) _, (HA.out.2.1.callee hb2).alloc _⟩
                  case rest =>
                    obtain ⟨g12, s', u', er, rfl, rfl, hF, A12, hbd, A7⟩ := hcut
                    clear HA HF c0 c1 c2 d0 d2 x0 x1 hxm1 hxm2
                    by_cases her : er = 0
                    · subst her
                      have HFd := Lib.hid (hF rfl)
                      clear hF
                      obtain ⟨s7, A7b, R7⟩ := A7.open
                      have c0 := A7b.cell 0 _ rfl
                      have c1 := A7b.cell 1 _ rfl
                      have c2 := A7b.cell 2 _ rfl
                      obtain ⟨⟨x0, x1⟩, -⟩ := A12.two
                      have HAd := Lib.hid (addI xm s' u' s7 L wc R7 (by omega) HI.out HFd.out)
                      obtain ⟨a7, k7, rfl⟩ := own_slice R7
                      have HA := Lib.hid (And.intro hbd A7b)
                      clear hbd A7 A12 A7b R7
                      go_upto_region 14 with fail
                      go_wp2_with (first | ((with_reducible (go_at_call 53; refine HAd.out.mono ?_)); rintro e1 w2 ⟨⟨v2, L1, rfl, R2, hI1, hA1⟩, hb2⟩; have HL1 := Lib.hid hA1.toK.len; clear hA1; obtain ⟨a2, k2, rfl⟩ := own_slice R2; obtain ⟨⟨⟨r0, r1, r2⟩, f0, f1, f2⟩, -⟩ := (HA.out.2.callee hb2).store3 undef undef undef))
                      go_roundg (M - (i + 1))
                      case measure => omega
                      case rel => exact ⟨i + 1, L1, by omega, by go_num, by have := HL1.out; omega, hI1, set3_below (bc HA.out.1 hb2) HG7.out _ _ _, RP.store (HA.out.2.callee hb2) R2⟩
                    · have e3 : (er == 0) = false := by rw [beq_eq_false_iff_ne]; exact her
                      have HA := Lib.hid (And.intro hbd A7)
                      clear hF hbd A7 A12
                      go_wp2
                      go_roundg (M - (i + 1))
                      case measure => omega
                      case rel => exact ⟨i + 1, L, by omega, by go_num, by omega, HI, HA.out.1, HA.out.2⟩
                · have kf1 : (kd == 1) = false := by rw [beq_eq_false_iff_ne]; exact k1
                  by_cases k2 : kd = 2
                  · subst k2
                    have HHo' := HHo
                    clear HHo HDr HF
                    go_upto_region 16 with fail
                    go_wp2_with (first | ((with_reducible (go_at_call 54; refine HHo'.out.mono ?_)); rintro e1 w2 ⟨⟨v2, er, L1, rfl, R2, hI1, hL1⟩, hb2⟩; have HL1 := Lib.hid hL1; clear hL1; obtain ⟨a2, k2, rfl⟩ := own_slice R2; obtain ⟨⟨⟨r0, r1, r2⟩, f0, f1, f2⟩, -⟩ := (HA.out.2.2.2.1.callee hb2).store3 undef undef undef))
                    go_roundg (M - (i + 1))
                    case measure => omega
                    case rel => exact ⟨i + 1, L1, by omega, by go_num, by have := HL1.out; omega, hI1, set3_below (bc HA.out.1 hb2) HG7.out _ _ _, RP.store (HA.out.2.2.2.1.callee hb2) R2⟩
                  · have kf2 : (kd == 2) = false := by rw [beq_eq_false_iff_ne]; exact k2
                    by_cases k3 : kd = 3
                    · subst k3
                      have HHo' := HDr
                      clear HHo HDr HF
                      go_upto_region 18 with fail
                      go_wp2_with (first | ((with_reducible (go_at_call 55; refine HHo'.out.mono ?_)); rintro e1 w2 ⟨⟨v2, er, L1, rfl, R2, hI1, hL1⟩, hb2⟩; have HL1 := Lib.hid hL1; clear hL1; obtain ⟨a2, k2, rfl⟩ := own_slice R2; obtain ⟨⟨⟨r0, r1, r2⟩, f0, f1, f2⟩, -⟩ := (HA.out.2.2.2.1.callee hb2).store3 undef undef undef))
                      go_roundg (M - (i + 1))
                      case measure => omega
                      case rel => exact ⟨i + 1, L1, by omega, by go_num, by have := HL1.out; omega, hI1, set3_below (bc HA.out.1 hb2) HG7.out _ _ _, RP.store (HA.out.2.2.2.1.callee hb2) R2⟩
                    · have kf3 : (kd == 3) = false := by rw [beq_eq_false_iff_ne]; exact k3
                      clear HHo HDr HF
                      go_wp2
                      go_roundg (M - (i + 1))
                      case measure => omega
                      case rel => exact ⟨i + 1, L, by omega, by go_num, by omega, HI, HA.out.1, HA.out.2.1⟩
        · have e2 : decide ((i : Int) < 40) = false := decide_eq_false (by omega)
          go_wp2
          go_meet
          case rel => exact ⟨L, HI.out, by omega, HA.out.1, HA.out.2⟩
      · have e1 : decide ((i : Int) < (n : Int)) = false := decide_eq_false (by omega)
        go_wp2
        go_meet
        case rel => exact ⟨L, HI.out, by omega, HA.out.1, HA.out.2⟩
  case rest =>
    obtain ⟨L, HI0, hL40, hbx, A7⟩ := hcut
    clear HX HMM HU
    have HI := Lib.hid HI0
    clear HI0
    obtain ⟨s7, A7b, R7⟩ := A7.open
    have c0 := A7b.cell 0 _ rfl
    have c1 := A7b.cell 1 _ rfl
    have c2 := A7b.cell 2 _ rfl
    have HAll := Lib.hid (allI s7 L wc R7 (by omega))
    obtain ⟨a7, k7, rfl⟩ := own_slice R7
    have HA := Lib.hid (And.intro hbx A7)
    clear hbx A7 A7b R7
    go_upto_region 19 with fail
    go_cut [14] (fun s14 wx => ∃ (a14 : Option Addr) (k14 : Nat), s14 = .slice a14 L.length k14 ∧ CellsR wx a14 L ∧ Below w.heap.size w wx ∧ RP wx g7 L)
    case first => as_aux_lemma =>
      go_wp2_with (first | ((with_reducible (go_at_call 52; refine HAll.out.mono ?_)); rintro e1 w2 ⟨⟨v2, rfl, R2⟩, hb2⟩; obtain ⟨a2, k2, rfl, hc2, -⟩ := R2.open))
      go_meet
      exact ⟨_, _, rfl, hc2, bc HA.out.1 hb2, HA.out.2.callee hb2⟩
    case rest =>
      obtain ⟨a14, k14, rfl, hC14, hbx, A7⟩ := hcut
      clear HA HAll c0 c1 c2
      obtain ⟨s7, A7b, R7⟩ := A7.open
      have c0 := A7b.cell 0 _ rfl
      have c1 := A7b.cell 1 _ rfl
      have c2 := A7b.cell 2 _ rfl
      have HAt := Lib.hid (atR_tells addr s7 L wc R7 (by omega) HI.out)
      obtain ⟨a7, k7, rfl⟩ := own_slice R7
      have HA := Lib.hid (And.intro hbx (And.intro A7 hC14))
      clear hbx A7 A7b R7 hC14
      go_upto_region 20 with fail
      go_cut [15, 16] (fun s15 s16 wx => ∃ (g15 : Nat) (r : Rg) (is : Bool), s15 = .pointer (some ⟨g15, 0, none⟩) ∧ s16 = .bool is ∧ Told L addr r is ∧ HB wx g15 #[.int .u64 (r.b : Int), .int .u64 (r.t : Int), .int .i64 r.k] 82 ∧ CellsR wx a14 L ∧ Below w.heap.size w wx ∧ RP wx g7 L)
      case first => as_aux_lemma =>
        go_wp2_with (first | ((with_reducible (go_at_call 57; refine HAt.out.mono ?_)); rintro e1 w2 ⟨⟨r, is, rfl, hT⟩, hb2⟩))
        go_meet
        exact ⟨_, r, is, rfl, rfl, hT, HB.new _ _ _, HA.out.2.2.below (ba hb2 _), ba (bc HA.out.1 hb2) _, (HA.out.2.1.callee hb2).alloc _⟩
      case rest =>
        obtain ⟨g15, r, is, rfl, rfl, hT, A15, hC14, hbx, A7⟩ := hcut
        clear HA HAt c0 c1 c2
        have HT := Lib.hid hT
        have HA := Lib.hid (And.intro A15 (And.intro hC14 (And.intro hbx A7)))
        clear hT A15 hC14 hbx A7
        go_wp2
        go_loopg [17, 18] L.length (fun g s17 s18 wx => ∃ j : Nat, j + g = L.length ∧ s17 = .int .i64 (((L.take j).countP (atR addr) : Nat) : Int) ∧ s18 = .int .i64 (j : Int) ∧ HB wx g15 #[.int .u64 (r.b : Int), .int .u64 (r.t : Int), .int .i64 r.k] 82 ∧ CellsR wx a14 L ∧ Below w.heap.size w wx ∧ RP wx g7 L)
        case atStart => exact ⟨0, by omega, rfl, rfl, HA.out.1, HA.out.2.1, HA.out.2.2.1, HA.out.2.2.2⟩
        case round =>
          clear HA
          obtain ⟨j, hjg, rfl, rfl, A15, hC14, hbx, A7⟩ := hrel
          cases gk with
          | succ g => as_aux_lemma =>
            have hjl : (j : Int) < (L.length : Int) := by omega
            obtain ⟨k, hk⟩ : ∃ k, L[j]? = some k := ⟨_, List.getElem?_eq_getElem (by omega)⟩
            have HCS := Lib.hid (count_step (p := atR addr) hk)
            have HSame : Hid (atR addr k = true → r = k) := fun h => HT.out.same hk h
            obtain ⟨gb, rfl, hg, p0, p1, p2⟩ := hC14 j k hk
            have HA := Lib.hid (And.intro A15 (And.intro hC14 (And.intro hbx A7)))
            have hcj : ((L.take j).countP (atR addr)) ≤ 40 := Nat.le_trans List.countP_le_length (by rw [List.length_take]; omega)
            generalize (L.take j).countP (atR addr) = c at HCS hcj
            have hcI : (c : Int) ≤ 40 := by omega
            clear A15 hC14 hbx A7 hk
            by_cases h1 : k.b ≤ addr
            · have e1 : decide (k.b ≤ addr) = true := decide_eq_true h1
              by_cases h2 : addr < k.t
              · have e2 : decide (addr < k.t) = true := decide_eq_true h2
                have h3 : atR addr k = true := decide_eq_true ⟨h1, h2⟩
                have hrk := HSame.out h3
                subst hrk
                have q0 := HA.out.1.cell 0 _ rfl
                have q1 := HA.out.1.cell 1 _ rfl
                have q2 := HA.out.1.cell 2 _ rfl
                have hq := neR_run r
                clear h1 h2
                go_upto_region 27 with fail
                go_quiet (fail)
                go_wp2
                go_roundg g
                case measure => omega
                case rel => exact ⟨j + 1, by omega, by rw [HCS.out, h3]; go_num, by go_num, HA.out.1.drewN _, HA.out.2.1.below (bn (Below.refl _ _) _), bn HA.out.2.2.1 _, HA.out.2.2.2.drewN _⟩
              · have e2 : decide (addr < k.t) = false := decide_eq_false h2
                have h3 : atR addr k = false := decide_eq_false (fun h => h2 h.2)
                clear h1 h2
                go_wp2
                go_roundg g
                case measure => omega
                case rel => exact ⟨j + 1, by omega, by rw [HCS.out, h3]; rfl, by go_num, HA.out.1, HA.out.2.1, HA.out.2.2.1, HA.out.2.2.2⟩
            · have e1 : decide (k.b ≤ addr) = false := decide_eq_false h1
              have h3 : atR addr k = false := decide_eq_false (fun h => h1 h.1)
              clear h1
              go_wp2
              go_roundg g
              case measure => omega
              case rel => exact ⟨j + 1, by omega, by rw [HCS.out, h3]; rfl, by go_num, HA.out.1, HA.out.2.1, HA.out.2.2.1, HA.out.2.2.2⟩
          | zero =>
            have hj : j = L.length := by omega
            subst hj
            obtain ⟨cnt, hcnt⟩ : ∃ cnt : Nat, cnt = if is then 1 else 0 := ⟨_, rfl⟩
            rw [List.take_length, HT.out.count, ← hcnt]
            have HCnt := Lib.hid hcnt
            clear hcnt
            have e5 : decide (L.length < L.length) = false := decide_eq_false (Nat.lt_irrefl _)
            go_upto_region 29 with fail
            go_cut [147] (fun s147 wx => s147 = .bool false ∧ wx = wr)
            case first => as_aux_lemma =>
              cases is with
              | true =>
                have hc1 : cnt = 1 := by simpa using HCnt.out
                subst hc1
                clear A15 hC14 hbx A7
                go_wp2
                go_meet
                case rel => exact ⟨rfl, rfl⟩
              | false =>
                have hc1 : cnt = 0 := by simpa using HCnt.out
                subst hc1
                have hr : r = ⟨0, 0, 0⟩ := by
                  rcases HT.out with ⟨_, _, h⟩ | ⟨h, _⟩
                  · exact h
                  · cases h
                subst hr
                have q0 := A15.cell 0 _ rfl
                have q1 := A15.cell 1 _ rfl
                have q2 := A15.cell 2 _ rfl
                clear A15 hC14 hbx A7
                go_wp2
                go_meet
                case rel => exact ⟨rfl, rfl⟩
            case rest =>
              obtain ⟨rfl, rfl⟩ := hcut
              clear A15 HT HCnt
              obtain ⟨s7, A7b, R7⟩ := A7.open
              have c0 := A7b.cell 0 _ rfl
              have c1 := A7b.cell 1 _ rfl
              have c2 := A7b.cell 2 _ rfl
              have HF := Lib.hid (findT N L s7 wc HI.out (by omega) R7)
              obtain ⟨a7, k7, rfl⟩ := own_slice R7
              have HA := Lib.hid (And.intro hC14 (And.intro hbx A7))
              clear hC14 hbx A7 A7b R7
              go_upto_region 31 with fail
              go_cut [19, 20] (fun s19 s20 wx => ∃ (g19 s u : Nat) (er : Int), s19 = .pointer (some ⟨g19, 0, none⟩) ∧ s20 = .int .i64 er ∧ (er = 0 → Found 4096 4194304 L N s u ∧ Tells N L s u) ∧ SB wx g19 s u ∧ CellsR wx a14 L ∧ Below w.heap.size w wx ∧ RP wx g7 L)
              case first => as_aux_lemma =>
                go_wp2_with (first | ((with_reducible (go_at_call 50; refine HF.out.mono ?_)); rintro e1 w2 ⟨⟨s, u, er, rfl, hF⟩, hb2⟩))
                go_meet
                exact ⟨_, s, u, er, rfl, rfl, hF, HB.new _ _ _, HA.out.1.below (ba hb2 _), ba (bc HA.out.2.1 hb2) _, (HA.out.2.2.callee hb2).alloc _⟩
              case rest =>
                obtain ⟨g19, s, u, er, rfl, rfl, hF, A19, hC14, hbx, A7⟩ := hcut
                clear HA HF c0 c1 c2
                by_cases her : er = 0
                · subst her
                  have HFd := Lib.hid (hF rfl).1
                  have HTl := Lib.hid (hF rfl).2
                  clear hF
                  obtain ⟨s7, A7b, R7⟩ := A7.open
                  have c0 := A7b.cell 0 _ rfl
                  have c1 := A7b.cell 1 _ rfl
                  have c2 := A7b.cell 2 _ rfl
                  obtain ⟨⟨x0, x1⟩, -⟩ := A19.two
                  have HAd := Lib.hid (addI N s u s7 L wc R7 (by omega) HI.out HFd.out)
                  obtain ⟨a7, k7, rfl⟩ := own_slice R7
                  have HA := Lib.hid (And.intro A19 (And.intro hC14 hbx))
                  clear A19 hC14 hbx A7 A7b R7
                  go_upto_region 34 with fail
                  go_cut [21, 8] (fun s21 s8 wx => ∃ (g21 : Nat) (L1 : List Rg), s21 = .pointer (some ⟨g21, 0, none⟩) ∧ s8 = .int .i64 0 ∧ AddedK L s u 1 L1 ∧ RP wx g21 L1 ∧ SB wx g19 s u ∧ CellsR wx a14 L ∧ Below w.heap.size w wx)
                  case first => as_aux_lemma =>
                    go_wp2_with (first | ((with_reducible (go_at_call 53; refine HAd.out.mono ?_)); rintro e1 w2 ⟨⟨v2, L1, rfl, R2, hI1, hA1⟩, hb2⟩; have HL1 := Lib.hid hA1.toK; clear hA1; obtain ⟨a2, k2, rfl⟩ := own_slice R2))
                    go_meet
                    exact ⟨_, L1, rfl, rfl, HL1.out, ⟨_, HB.new _ _ _, R2.alloc _⟩, (HA.out.1.callee hb2).alloc _, HA.out.2.1.below (ba hb2 _), ba (bc HA.out.2.2 hb2) _⟩
                  case rest =>
                    obtain ⟨g21, L1, rfl, rfl, hA1, A21, A19, hC14, hbx⟩ := hcut
                    clear HA HAd c0 c1 c2 x0 x1
                    obtain ⟨s21, A21b, R21⟩ := A21.open
                    have c0 := A21b.cell 0 _ rfl
                    have c1 := A21b.cell 1 _ rfl
                    have c2 := A21b.cell 2 _ rfl
                    obtain ⟨⟨x0, x1⟩, -⟩ := A19.two
                    have HHo := Lib.hid (holdX N s u s21 L L1 wc R21 (by omega) HFd.out hA1)
                    obtain ⟨a21, k21, rfl⟩ := own_slice R21
                    have HA := Lib.hid (And.intro A19 (And.intro hC14 hbx))
                    clear A19 hC14 hbx A21 A21b R21 hA1
                    go_upto_region 35 with fail
                    go_cut [22, 23] (fun s22 s23 wx => ∃ (g22 : Nat) (L2 : List Rg), s22 = .pointer (some ⟨g22, 0, none⟩) ∧ s23 = .int .i64 0 ∧ AddedK L s u 2 L2 ∧ RP wx g22 L2 ∧ SB wx g19 s u ∧ CellsR wx a14 L ∧ Below w.heap.size w wx)
                    case first => as_aux_lemma =>
                      go_wp2_with (first | ((with_reducible (go_at_call 54; refine HHo.out.mono ?_)); rintro e1 w2 ⟨⟨v2, L2, rfl, R2, hA2⟩, hb2⟩; have HL2 := Lib.hid hA2; clear hA2; obtain ⟨a2, k2, rfl⟩ := own_slice R2))
                      go_meet
                      exact ⟨_, L2, rfl, rfl, HL2.out, ⟨_, HB.new _ _ _, R2.alloc _⟩, (HA.out.1.callee hb2).alloc _, HA.out.2.1.below (ba hb2 _), ba (bc HA.out.2.2 hb2) _⟩
                    case rest =>
                      obtain ⟨g22, L2, rfl, rfl, hA2, A22, A19, hC14, hbx⟩ := hcut
                      clear HA HHo c0 c1 c2 x0 x1
                      obtain ⟨s22, A22b, R22⟩ := A22.open
                      have c0 := A22b.cell 0 _ rfl
                      have c1 := A22b.cell 1 _ rfl
                      have c2 := A22b.cell 2 _ rfl
                      obtain ⟨⟨x0, x1⟩, -⟩ := A19.two
                      have HDr := Lib.hid (dropX N s u s22 L L2 wc R22 (by omega) HFd.out hA2)
                      obtain ⟨a22, k22, rfl⟩ := own_slice R22
                      have HA := Lib.hid (And.intro A19 (And.intro hC14 hbx))
                      clear A19 hC14 hbx A22 A22b R22 hA2
                      go_upto_region 36 with fail
                      go_cut [24, 25] (fun s24 s25 wx => ∃ g24 : Nat, s24 = .pointer (some ⟨g24, 0, none⟩) ∧ s25 = .int .i64 0 ∧ RP wx g24 L ∧ SB wx g19 s u ∧ CellsR wx a14 L ∧ Below w.heap.size w wx)
                      case first => as_aux_lemma =>
                        go_wp2_with (first | ((with_reducible (go_at_call 55; refine HDr.out.mono ?_)); rintro e1 w2 ⟨⟨v2, rfl, R2⟩, hb2⟩; obtain ⟨a2, k2, rfl⟩ := own_slice R2))
                        go_meet
                        exact ⟨_, rfl, rfl, ⟨_, HB.new _ _ _, R2.alloc _⟩, (HA.out.1.callee hb2).alloc _, HA.out.2.1.below (ba hb2 _), ba (bc HA.out.2.2 hb2) _⟩
                      case rest =>
                        obtain ⟨g24, rfl, rfl, A24, A19, hC14, hbx⟩ := hcut
                        clear HA HDr c0 c1 c2 x0 x1
                        obtain ⟨s24, A24b, R24⟩ := A24.open
                        have c0 := A24b.cell 0 _ rfl
                        have c1 := A24b.cell 1 _ rfl
                        have c2 := A24b.cell 2 _ rfl
                        have HAll := Lib.hid (allI s24 L wc R24 (by omega))
                        obtain ⟨a24, k24, rfl⟩ := own_slice R24
                        have HA := Lib.hid (And.intro A24 (And.intro A19 (And.intro hC14 hbx)))
                        clear A19 hC14 hbx A24 A24b R24
                        go_upto_region 37 with fail
                        go_cut [26] (fun s26 wx => ∃ (a26 : Option Addr) (k26 : Nat), s26 = .slice a26 L.length k26 ∧ CellsR wx a26 L ∧ RP wx g24 L ∧ SB wx g19 s u ∧ CellsR wx a14 L ∧ Below w.heap.size w wx)
                        case first => as_aux_lemma =>
                          go_wp2_with (first | ((with_reducible (go_at_call 52; refine HAll.out.mono ?_)); rintro e1 w2 ⟨⟨v2, rfl, R2⟩, hb2⟩; obtain ⟨a2, k2, rfl, hc2, -⟩ := R2.open))
                          go_meet
                          exact ⟨_, _, rfl, hc2, HA.out.1.callee hb2, HA.out.2.1.callee hb2, HA.out.2.2.1.below hb2, bc HA.out.2.2.2 hb2⟩
                        case rest =>
                          obtain ⟨a26, k26, rfl, hC26, A24, A19, hC14, hbx⟩ := hcut
                          clear HA HAll c0 c1 c2
                          have HA := Lib.hid (And.intro hC26 (And.intro A24 (And.intro A19 (And.intro hC14 hbx))))
                          clear hC26 A24 A19 hC14 hbx
                          go_wp2
                          go_loopg [27] L.length (fun g s27 wx => ∃ j : Nat, j + g = L.length ∧ s27 = .int .i64 (j : Int) ∧ CellsR wx a26 L ∧ RP wx g24 L ∧ SB wx g19 s u ∧ CellsR wx a14 L ∧ Below w.heap.size w wx)
                          case atStart => exact ⟨0, by omega, rfl, HA.out⟩
                          case round =>
                            clear HA
                            obtain ⟨j, hjg, rfl, hC26, A24, A19, hC14, hbx⟩ := hrel
                            cases gk with
                            | succ g => as_aux_lemma =>
                              have hjl : (j : Int) < (L.length : Int) := by omega
                              obtain ⟨k, hk⟩ : ∃ k, L[j]? = some k := ⟨_, List.getElem?_eq_getElem (by omega)⟩
                              obtain ⟨gb, rfl, hg, p0, p1, p2⟩ := hC26 j k hk
                              obtain ⟨gc, rfl, hgc, q0, q1, q2⟩ := hC14 j k hk
                              have HA := Lib.hid (And.intro hC26 (And.intro A24 (And.intro A19 (And.intro hC14 hbx))))
                              have hq := neR_run k
                              clear hC26 A24 A19 hC14 hbx hk
                              go_upto_region 43 with fail
                              go_quiet (fail)
                              go_wp2
                              go_roundg g
                              case measure => omega
                              case rel => exact ⟨j + 1, by omega, by go_num, HA.out.1.below (bn (Below.refl _ _) _), HA.out.2.1.drewN _, HA.out.2.2.1.drewN _, HA.out.2.2.2.1.below (bn (Below.refl _ _) _), bn HA.out.2.2.2.2 _⟩
                            | zero =>
                              have hj : j = L.length := by omega
                              subst hj
                              have e6 : decide (L.length < L.length) = false := decide_eq_false (Nat.lt_irrefl _)
                              obtain ⟨s24, A24b, R24⟩ := A24.open
                              have c0 := A24b.cell 0 _ rfl
                              have c1 := A24b.cell 1 _ rfl
                              have c2 := A24b.cell 2 _ rfl
                              have HF := Lib.hid (HTl.out wr s24 R24)
                              obtain ⟨a24, k24, rfl⟩ := own_slice R24
                              have HA := Lib.hid (And.intro A19 hbx)
                              clear hC26 A24 A19 hC14 hbx A24b R24
                              go_upto_region 45 with fail
                              go_cut [28] (fun s28 wx => ∃ g28 : Nat, s28 = .pointer (some ⟨g28, 0, none⟩) ∧ SB wx g28 s u ∧ SB wx g19 s u ∧ Below w.heap.size w wx)
                              case first => as_aux_lemma =>
                                go_wp2_with (first | ((with_reducible (go_at_call 50; refine HF.out.mono ?_)); rintro e1 w2 ⟨rfl, hb2⟩))
                                go_meet
                                exact ⟨_, rfl, HB.new _ _ _, (HA.out.1.callee hb2).alloc _, ba (bc HA.out.2 hb2) _⟩
                              case rest =>
                                obtain ⟨g28, rfl, A28, A19, hbx⟩ := hcut
                                clear HA HF c0 c1 c2
                                obtain ⟨⟨x0, x1⟩, -⟩ := A28.two
                                obtain ⟨⟨y0, y1⟩, -⟩ := A19.two
                                clear A28 A19
                                go_wp2_with (first | ((with_reducible (go_at_call 49; refine (one21 _).mono ?_)); rintro e1 w3 ⟨rfl, hb3⟩))
                                go_ret
                                exact ⟨rfl, bc hbx hb3⟩
                · have e3 : (er == 0) = false := by rw [beq_eq_false_iff_ne]; exact her
                  clear hF hC14 A7 A19
                  go_wp2_with (first | ((with_reducible (go_at_call 49; refine (one21 _).mono ?_)); rintro e1 w3 ⟨rfl, hb3⟩))
                  go_ret
                  exact ⟨rfl, bc hbx hb3⟩
end Go.Proofs.Ytdnhjkmcogbaoaa
