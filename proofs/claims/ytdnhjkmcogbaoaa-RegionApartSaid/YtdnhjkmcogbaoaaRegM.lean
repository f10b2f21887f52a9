/-
  RegionApart, walked.
-/
import Derived.Test.YtdnhjkmcogbaoaaRegL
namespace Go.Proofs.Ytdnhjkmcogbaoaa
open Go.RowKit
set_option maxRecDepth 100000 in
set_option maxHeartbeats 4000000 in
theorem apart_walk (rb rt n cap : Nat) (a : Option Addr) (w : World) (hrb : rb < 18446744073709551616) (hrt : rt < 18446744073709551616) (hn : n ≤ 9223372036854775807) (hl : U64s w a n) :
    Calls Try.prog 13 #[spN rb rt, .slice a n cap] w fun e w' => e = .returned (.bool true) ∧ Below w.heap.size w w' := by
  by_cases hok : pagesN rb rt = true ∧ rt ≤ 274877906944
  · have HNew := Lib.hid (newR_ok rb rt hok.1 hok.2)
    have HM0 := Lib.hid (show MapOk rb rt [] from ⟨by have := (of_decide_eq_true hok.1).1; omega, hok.2, by simp⟩)
    have HU := Lib.hid hl
    have B0 := HB.new w #[.int .u64 (rb : Int), .int .u64 (rt : Int)] 51
    have HB0 := Lib.hid B0
    clear hok hl hrb hrt B0
    go_enter Try.func13, Try.ntmps13
    go_upto_region 2 with (first | ((with_reducible (go_at_call 48; refine (HNew.out _).mono ?_)); rintro e1 w1 ⟨rfl, hb1⟩))
    have X0 := (HB0.out.callee hb1).alloc (.cells #[.int .u64 (rb : Int), .int .u64 (rt : Int), .slice none 0 0] 71)
    have X5 : MP (w1.alloc (.cells #[.int .u64 (rb : Int), .int .u64 (rt : Int), .slice none 0 0] 71)) w1.heap.size rb rt [] := ⟨_, HB.new w1 _ _, RowR.nil _⟩
    have hbb : Below w.heap.size w (w1.alloc (.cells #[.int .u64 (rb : Int), .int .u64 (rt : Int), .slice none 0 0] 71)) := ba (bc (ba (Below.refl _ _) _) hb1) _
    have hg5 : w.heap.size < w1.heap.size := by have := hb1.size; simp at this; omega
    generalize hg : w1.heap.size = g5 at X5 hg5 ⊢
    clear hg hb1 HB0
    obtain ⟨M, hM⟩ : ∃ M : Nat, M = min n 40 := ⟨_, rfl⟩
    have HX := Lib.hid (And.intro X0 (And.intro X5 hbb))
    have HG5 := Lib.hid hg5
    have HMM := Lib.hid hM
    clear X0 X5 hbb hg5 hM
    go_wp2
    go_loopg [7] M (fun g s7 wx => ∃ (i : Nat) (L : List Rg), i + g = M ∧ s7 = .int .i64 (i : Int) ∧ L.length ≤ i ∧ Aside (MapOk rb rt L) ∧ Below w.heap.size w wx ∧ SB wx w.heap.size rb rt ∧ MP wx g5 rb rt L)
    case atStart => exact ⟨0, [], by omega, rfl, by simp, HM0.out, HX.out.2.2, HX.out.1, HX.out.2.1⟩
    case round =>
      clear HX HM0
      obtain ⟨i, L, hig, rfl, hLi, HMk, hbx, A0, A5⟩ := hrel
      have hMM := HMM.out
      by_cases hlt : i < n
      · by_cases h40 : i < 40
        · have e1 : decide ((i : Int) < (n : Int)) = true := decide_eq_true (by omega)
          have e2 : decide ((i : Int) < 40) = true := decide_eq_true (by omega)
          have hil : (i : Int) < (n : Int) := by omega
          obtain ⟨p, x, rfl, hp, hx, hcx0⟩ := HU.out i hlt
          have HXC : Hid (∀ W, Below w.heap.size w W → W.cell? (p.add i) = some (.int .u64 ((x : Nat) : Int))) := fun W k => (k.cell (p := p.add i) (by rw [add_block]; exact hp)).trans hcx0
          have hcx := HXC.out _ hbx
          clear hcx0 hp
          obtain ⟨s5, A5b, R5⟩ := A5
          have c0 := A5b.cell 0 _ rfl
          have c1 := A5b.cell 1 _ rfl
          have c2 := A5b.cell 2 _ rfl
          obtain ⟨⟨⟨d0, d1, d2⟩, -⟩, -⟩ := (A5b.alloc (.cells #[.int .u64 0, .int .u64 0] 51)).store3 undef undef undef
          have H50 : Hid (∀ W, Below wr.heap.size wr W → Calls Try.prog 50 #[mapV rb rt s5, .int .u64 x] W fun e w' => (∃ (s u : Nat) (er : Int), e = .returned (.tuple #[.agg #[.int .u64 (s : Int), .int .u64 (u : Int)], .int .i64 er]) ∧ (er = 0 → Found rb rt L x s u)) ∧ Below W.heap.size W w') := fun W hW => findR_any rb rt x L s5 W HMk.out (by omega) (R5.below hW)
          obtain ⟨a5, k5, rfl⟩ := own_slice R5
          have HA := Lib.hid (And.intro hbx (And.intro A0 (show MP wr g5 rb rt L from ⟨_, A5b, R5⟩)))
          clear A0 A5b R5 hbx
          go_upto_region 7 with fail
          go_cut [8, 9] (fun s8 s9 wx => ∃ (g8 s u : Nat) (er : Int), s8 = .pointer (some ⟨g8, 0, none⟩) ∧ s9 = .int .i64 er ∧ (er = 0 → Found rb rt L x s u) ∧ SB wx g8 s u ∧ Below w.heap.size w wx ∧ SB wx w.heap.size rb rt ∧ MP wx g5 rb rt L)
          case first => as_aux_lemma =>
            have hcx2 : (wr.alloc (.cells #[.int .u64 0, .int .u64 0] 51)).cell? (p.add i) = some (.int .u64 ((x : Nat) : Int)) := HXC.out _ (ba HA.out.1 _)
            go_region_with (first
              | ((with_reducible (go_at_call 50; refine (H50.out wr.drew (Below.refl _ _).drew).mono ?_)); rintro e1 w2 ⟨⟨s, u, er, rfl, hF⟩, hb2⟩)
              | ((with_reducible (go_at_call 50; refine (H50.out (wr.alloc (.cells #[.int .u64 0, .int .u64 0] 51)).drew (ba (Below.refl _ _) _).drew).mono ?_)); rintro e1 w2 ⟨⟨s, u, er, rfl, hF⟩, hb2⟩; obtain ⟨⟨⟨r0, r1⟩, f0, f1⟩, t0, t1, T2⟩ := ((HB.new wr #[.int .u64 0, .int .u64 0] 51).drew.callee hb2).store2 (.int .u64 (s : Int)) (.int .u64 (u : Int)); have HT2 := Lib.hid T2; clear T2))
            all_goals go_wp2
            all_goals go_meet
            all_goals first
              | exact ⟨_, s, u, er, rfl, rfl, hF, HB.new _ _ _, ba (bc (bd HA.out.1) hb2) _, (HA.out.2.1.drew.callee hb2).alloc _, (HA.out.2.2.drew.callee hb2).alloc _⟩
              | exact ⟨_, s, u, er, rfl, rfl, hF, HT2.out, set2_below (bc (bd (ba HA.out.1 _)) hb2) HA.out.1.size _ _, (((HA.out.2.1.alloc _).drew.callee hb2).set_other _ _ (Nat.ne_of_lt HA.out.2.1.lt)).set_other _ _ (Nat.ne_of_lt HA.out.2.1.lt), (((HA.out.2.2.alloc _).drew.callee hb2).other ((HB.new wr #[.int .u64 0, .int .u64 0] 51).drew.callee hb2) (by decide) (Nat.ne_of_lt HA.out.2.2.lt) 0 _).other (((HB.new wr #[.int .u64 0, .int .u64 0] 51).drew.callee hb2).set20 _) (by decide) (Nat.ne_of_lt HA.out.2.2.lt) 1 _⟩
          case rest =>
            obtain ⟨g8, s, u, er, rfl, rfl, hF, A8, hbc, A0, A5⟩ := hcut
            clear HA H50 c0 c1 c2 d0 d1 d2 hcx
            by_cases her : er = 0
            · subst her
              have HFd := Lib.hid (hF rfl)
              clear hF
              have HE := Lib.hid (encF HMk.out HFd.out)
              have HA := Lib.hid (And.intro hbc (And.intro A0 (And.intro A5 A8)))
              obtain ⟨⟨c0, c1⟩, -⟩ := A8.two
              clear A0 A5 A8 hbc
              go_upto_region 9 with fail
              go_cut [11] (fun s11 wx => s11 = .bool true ∧ Below w.heap.size w wx ∧ SB wx w.heap.size rb rt ∧ MP wx g5 rb rt L ∧ SB wx g8 s u)
              case first => as_aux_lemma =>
                go_wp2_with (first | ((with_reducible (go_at_call 51; refine (HE.out _).mono ?_)); rintro e1 w2 ⟨⟨x1, x2, x3, rfl⟩, hb2⟩))
                go_meet
                exact ⟨rfl, ba (bc HA.out.1 hb2) _, (HA.out.2.1.callee hb2).alloc _, (HA.out.2.2.1.callee hb2).alloc _, (HA.out.2.2.2.callee hb2).alloc _⟩
              case rest =>
                obtain ⟨rfl, hbd, A0, A5, A8⟩ := hcut
                clear HA c0 c1
                obtain ⟨⟨c0, c1⟩, -⟩ := A8.two
                obtain ⟨⟨c2, c3⟩, -⟩ := A0.two
                have hcx := HXC.out _ hbd
                have hf := HFd.out
                have k1 := hf.hn
                have k2 := hf.hau
                have k3 := hf.ha
                have k4 := hf.hu
                have k5 := hf.hrb
                have k6 := hf.hT
                have k7 : u < 18446744073709551616 := by have := HMk.out.hT; omega
                have f1 : IntKind.u64.wrap ((u : Int) - s) = (u : Int) - s := by rw [IntKind.wrap_u64]; omega
                have f2 : decide ((u : Int) - s < (x : Int)) = false := decide_eq_false (by omega)
                have f3 : (s : Int) % 4096 = 0 := by omega
                have f4 : (u : Int) % 4096 = 0 := by omega
                have f5 : (s : Int).tmod 4096 = 0 := by rw [Int.tmod_eq_emod_of_nonneg (by omega)]; exact f3
                have f6 : (u : Int).tmod 4096 = 0 := by rw [Int.tmod_eq_emod_of_nonneg (by omega)]; exact f4
                have f7 : decide (s < rb) = false := decide_eq_false (by omega)
                have f8 : decide (rt < u) = false := decide_eq_false (by omega)
                clear hf k1 k2 k3 k4 k5 k6 k7
                have HA := Lib.hid (And.intro hbd (And.intro A0 (And.intro A5 A8)))
                clear A0 A5 A8 hbd
                go_upto_region 10 with fail
                go_cut [95] (fun s95 wx => s95 = .bool false ∧ Below w.heap.size w wx ∧ SB wx w.heap.size rb rt ∧ MP wx g5 rb rt L ∧ SB wx g8 s u)
                case first => as_aux_lemma =>
                  go_quiet (fail)
                  go_wp2
                  go_meet
                  exact ⟨rfl, bn HA.out.1 _, HA.out.2.1.drewN _, HA.out.2.2.1.drewN _, HA.out.2.2.2.drewN _⟩
                case rest =>
                  obtain ⟨rfl, hbe, A0, ⟨s5, A5b, R5⟩, A8⟩ := hcut
                  clear HA c0 c1 c2 c3 f1 f2 f3 f4 f5 f6 f7 f8 hcx e1 e2 hil
                  have c0 := A5b.cell 0 _ rfl
                  have c1 := A5b.cell 1 _ rfl
                  have c2 := A5b.cell 2 _ rfl
                  have HAll := Lib.hid (allR rb rt s5 L wc R5 (by omega))
                  obtain ⟨a5, k5, rfl⟩ := own_slice R5
                  have HA := Lib.hid (And.intro hbe (And.intro A0 (And.intro (show MP wc g5 rb rt L from ⟨_, A5b, R5⟩) A8)))
                  clear A0 A5b R5 A8 hbe
                  go_upto_region 12 with fail
                  go_cut [12] (fun s12 wx => ∃ (a12 : Option Addr) (k12 : Nat), s12 = .slice a12 L.length k12 ∧ CellsR wx a12 L ∧ Below w.heap.size w wx ∧ SB wx w.heap.size rb rt ∧ MP wx g5 rb rt L ∧ SB wx g8 s u)
                  case first => as_aux_lemma =>
                    go_wp2_with (first | ((with_reducible (go_at_call 52; refine HAll.out.mono ?_)); rintro e1 w2 ⟨⟨v2, rfl, R2⟩, hb2⟩; obtain ⟨a2, k2, rfl, hc2, -⟩ := R2.open))
                    go_meet
                    exact ⟨_, _, rfl, hc2, bc HA.out.1 hb2, HA.out.2.1.callee hb2, HA.out.2.2.1.callee hb2, HA.out.2.2.2.callee hb2⟩
                  case rest =>
                    obtain ⟨a12, k12, rfl, hC12, hbf, A0, A5, A8⟩ := hcut
                    clear HA c0 c1 c2
                    have HA := Lib.hid (And.intro hbf (And.intro A0 (And.intro A5 A8)))
                    have HC12 := Lib.hid hC12
                    clear hbf A0 A5 A8 hC12
                    have hLL : L.length ≤ 40 := by omega
                    go_wp2
                    go_loopg [13] L.length (fun g s13 wx => ∃ j : Nat, j + g = L.length ∧ s13 = .int .i64 (j : Int) ∧ CellsR wx a12 L ∧ Below w.heap.size w wx ∧ SB wx w.heap.size rb rt ∧ MP wx g5 rb rt L ∧ SB wx g8 s u)
                    case atStart => exact ⟨0, by omega, rfl, HC12.out, HA.out.1, HA.out.2.1, HA.out.2.2.1, HA.out.2.2.2⟩
                    case round =>
                      clear HA HC12
                      obtain ⟨j, hjg, rfl, hC12, hbx, A0, A5, A8⟩ := hrel
                      cases gk with
                      | succ g =>
                        have hjl : (j : Int) < (L.length : Int) := by omega
                        have e5 : decide ((j : Int) < (L.length : Int)) = true := decide_eq_true hjl
                        obtain ⟨k, hk⟩ : ∃ k, L[j]? = some k := ⟨_, List.getElem?_eq_getElem (by omega)⟩
                        obtain ⟨gb, rfl, hg, p0, p1, p2⟩ := hC12 j k hk
                        obtain ⟨⟨c0, c1⟩, -⟩ := A8.two
                        have hmt := HFd.out.hm k (List.mem_of_getElem? hk)
                        have HA := Lib.hid (And.intro hC12 (And.intro hbx (And.intro A0 (And.intro A5 A8))))
                        clear hC12 hbx A0 A5 A8 hk
                        by_cases h1 : k.b < u
                        · have f1 : decide (k.b < u) = true := decide_eq_true h1
                          have f2 : decide (s < k.t) = false := by
                            refine decide_eq_false fun h2 => ?_
                            rw [meetN, decide_eq_false_iff_not] at hmt
                            exact hmt ⟨h1, h2⟩
                          clear hmt h1
                          go_upto_region 16 with fail
                          go_quiet (fail)
                          go_wp2
                          go_roundg g
                          case measure => omega
                          case rel => exact ⟨j + 1, by omega, by go_num, HA.out.1.below (bn (Below.refl _ _) _), bn HA.out.2.1 _, HA.out.2.2.1.drewN _, HA.out.2.2.2.1.drewN _, HA.out.2.2.2.2.drewN _⟩
                        · have f1 : decide (k.b < u) = false := decide_eq_false h1
                          clear hmt h1
                          go_upto_region 16 with fail
                          go_quiet (fail)
                          go_wp2
                          go_roundg g
                          case measure => omega
                          case rel => exact ⟨j + 1, by omega, by go_num, HA.out.1.below (bn (Below.refl _ _) _), bn HA.out.2.1 _, HA.out.2.2.1.drewN _, HA.out.2.2.2.1.drewN _, HA.out.2.2.2.2.drewN _⟩
                      | zero =>
                        have hj : j = L.length := by omega
                        subst hj
                        have e5 : decide (L.length < L.length) = false := decide_eq_false (Nat.lt_irrefl _)
                        obtain ⟨s5, A5b, R5⟩ := A5
                        have c0 := A5b.cell 0 _ rfl
                        have c1 := A5b.cell 1 _ rfl
                        have c2 := A5b.cell 2 _ rfl
                        obtain ⟨⟨d0, d1⟩, -⟩ := A8.two
                        have HAdd := Lib.hid (addF rb rt x s u s5 L wr R5 (by omega) HMk.out HFd.out)
                        obtain ⟨a5, k5, rfl⟩ := own_slice R5
                        have HA := Lib.hid (And.intro hbx (And.intro A0 (And.intro A5b A8)))
                        clear A0 A5b R5 A8 hbx hC12
                        go_upto_region 18 with fail
                        go_cut [14, 9] (fun s14 s9 wx => ∃ (g14 : Nat) (L1 : List Rg), s14 = .pointer (some ⟨g14, 0, none⟩) ∧ s9 = .int .i64 0 ∧ Added L s u L1 ∧ g14 ≠ g5 ∧ MP wx g14 rb rt L1 ∧ Below w.heap.size w wx ∧ SB wx w.heap.size rb rt ∧ HB wx g5 #[.int .u64 (rb : Int), .int .u64 (rt : Int), .slice a5 L.length k5] 71 ∧ SB wx g8 s u)
                        case first => as_aux_lemma =>
                          go_wp2_with (first | ((with_reducible (go_at_call 53; refine HAdd.out.mono ?_)); rintro e1 w2 ⟨⟨v2, L1, rfl, hkl, R2⟩, hb2⟩; obtain ⟨a2, k2, rfl⟩ := own_slice R2))
                          go_meet
                          exact ⟨_, L1, rfl, rfl, hkl, by have := HA.out.2.2.1.lt; have := hb2.size; omega, ⟨_, HB.new _ _ _, R2.alloc _⟩, ba (bc HA.out.1 hb2) _, (HA.out.2.1.callee hb2).alloc _, (HA.out.2.2.1.callee hb2).alloc _, (HA.out.2.2.2.callee hb2).alloc _⟩
                        case rest =>
                          obtain ⟨g14, L1, rfl, rfl, hkl, hg14, ⟨s14, A14b, R14⟩, hbh, A0, A5b, A8⟩ := hcut
                          clear HA c0 c1 c2 d0 d1 HAdd
                          have c0 := A14b.cell 0 _ rfl
                          have c1 := A14b.cell 1 _ rfl
                          have c2 := A14b.cell 2 _ rfl
                          have HL1 := Lib.hid hkl.len
                          have HMk1 : Hid (MapOk rb rt L1) := hkl.ok HMk.out HFd.out.hT
                          have HMem : Hid ((⟨s, u, 1⟩ : Rg) ∈ L1) := hkl.mem
                          clear hkl
                          have HAll := Lib.hid (allR rb rt s14 L1 wc R14 (by have := HL1.out; omega))
                          obtain ⟨a14, k14, rfl⟩ := own_slice R14
                          have hl1 : (L1.length : Int) = (L.length : Int) + 1 := by have := HL1.out; omega
                          have hl40 : (L.length : Int) ≤ 40 := by omega
                          have HA := Lib.hid (And.intro hbh (And.intro A0 (And.intro A5b (And.intro A8 (And.intro A14b R14)))))
                          clear A0 A5b A8 A14b R14 hbh
                          go_upto_region 19 with fail
                          go_cut [140] (fun s140 wx => s140 = .bool false ∧ MP wx g14 rb rt L1 ∧ Below w.heap.size w wx ∧ SB wx w.heap.size rb rt ∧ HB wx g5 #[.int .u64 (rb : Int), .int .u64 (rt : Int), .slice a5 L.length k5] 71 ∧ SB wx g8 s u)
                          case first => as_aux_lemma =>
                            go_wp2_with (first | ((with_reducible (go_at_call 52; refine HAll.out.mono ?_)); rintro e1 w2 ⟨⟨v2, rfl, R2⟩, hb2⟩; obtain ⟨a2, k2, rfl⟩ := own_slice R2))
                            go_meet
                            exact ⟨rfl, MP.callee ⟨_, HA.out.2.2.2.2.1, HA.out.2.2.2.2.2⟩ hb2, bc HA.out.1 hb2, HA.out.2.1.callee hb2, HA.out.2.2.1.callee hb2, HA.out.2.2.2.1.callee hb2⟩
                          case rest =>
                            obtain ⟨rfl, ⟨s14, A14b, R14⟩, hbi, A0, A5b, A8⟩ := hcut
                            clear HA c0 c1 c2 HAll hl1 hl40
                            obtain ⟨a14, k14, rfl⟩ := own_slice R14
                            have c0 := A14b.cell 0 _ rfl
                            have c1 := A14b.cell 1 _ rfl
                            have c2 := A14b.cell 2 _ rfl
                            obtain ⟨⟨⟨r0, r1, r2⟩, f0, f1, f2⟩, -⟩ := A5b.store3 undef undef undef
                            have hlt5 : w.heap.size ≤ g5 := Nat.le_of_lt HG5.out
                            have HA := Lib.hid (And.intro hbi (And.intro A0 (And.intro A5b (And.intro A8 R14))))
                            clear hbi A0 A5b A8 A14b R14
                            go_upto_region 21 with fail
                            go_cut [] (fun wx => MP wx g5 rb rt L1 ∧ Below w.heap.size w wx ∧ SB wx w.heap.size rb rt ∧ SB wx g8 s u)
                            case first => as_aux_lemma =>
                              go_wp2
                              go_meet
                              exact ⟨MP.store HA.out.2.2.1 HA.out.2.2.2.2, set3_below HA.out.1 hlt5 _ _ _, HA.out.2.1.store_other (hbx_ne HA.out.2.1 HA.out.2.2.1 (by decide)) _ _ _, HA.out.2.2.2.1.store_other (hbx_ne HA.out.2.2.2.1 HA.out.2.2.1 (by decide)) _ _ _⟩
                            case rest =>
                              obtain ⟨A5, hbj, A0, A8⟩ := hcut
                              clear HA c0 c1 c2 r0 r1 r2 f0 f1 f2
                              by_cases h3 : i % 3 = 2
                              · have e6 : (i : Int).tmod 3 = 2 := by rw [Int.tmod_eq_emod_of_nonneg (by omega)]; omega
                                have e7 : (i : Int) % 3 = 2 := by omega
                                obtain ⟨s5, A5b, R5⟩ := A5
                                have c0 := A5b.cell 0 _ rfl
                                have c1 := A5b.cell 1 _ rfl
                                have c2 := A5b.cell 2 _ rfl
                                obtain ⟨⟨d0, d1⟩, -⟩ := A8.two
                                have HHo := Lib.hid (holdF rb rt s u s5 L1 wc R5 (by have := HL1.out; omega) HMk1.out HFd.out.hT HMem.out)
                                obtain ⟨a5, k5, rfl⟩ := own_slice R5
                                have HA := Lib.hid (And.intro hbj (And.intro A0 (And.intro A5b A8)))
                                clear A0 A5b R5 A8 hbj
                                go_upto_region 23 with fail
                                go_cut [15, 16] (fun s15 s16 wx => ∃ (g15 : Nat) (M2 : List Rg) (x5 : Value), s15 = .pointer (some ⟨g15, 0, none⟩) ∧ s16 = .int .i64 0 ∧ M2.length = L1.length ∧ MapOk rb rt M2 ∧ g15 ≠ g5 ∧ w.heap.size ≤ g15 ∧ MP wx g15 rb rt M2 ∧ Below w.heap.size w wx ∧ SB wx w.heap.size rb rt ∧ HB wx g5 #[.int .u64 (rb : Int), .int .u64 (rt : Int), x5] 71 ∧ SB wx g8 s u)
                                case first => as_aux_lemma =>
                                  go_wp2_with (first | ((with_reducible (go_at_call 54; refine HHo.out.mono ?_)); rintro e1 w2 ⟨⟨v2, M2, rfl, R2, hlen, hmk⟩, hb2⟩; have HLM := Lib.hid (And.intro hlen hmk); clear hlen hmk; obtain ⟨a2, k2, rfl⟩ := own_slice R2))
                                  go_meet
                                  exact ⟨_, M2, _, rfl, rfl, HLM.out.1, HLM.out.2, by have := HA.out.2.2.1.lt; have := hb2.size; omega, by have := HA.out.1.size; have := hb2.size; omega, ⟨_, HB.new _ _ _, R2.alloc _⟩, ba (bc HA.out.1 hb2) _, (HA.out.2.1.callee hb2).alloc _, (HA.out.2.2.1.callee hb2).alloc _, (HA.out.2.2.2.callee hb2).alloc _⟩
                                case rest =>
                                  obtain ⟨g15, M2, x5, rfl, rfl, hlen, hmk, hg15, hg15w, ⟨s15, A15b, R15⟩, hbk, A0, A5b, A8⟩ := hcut
                                  clear HA c0 c1 c2 d0 d1 HHo
                                  have HM2 := Lib.hid (And.intro hlen hmk)
                                  clear hlen hmk
                                  have c0 := A15b.cell 0 _ rfl
                                  have c1 := A15b.cell 1 _ rfl
                                  have c2 := A15b.cell 2 _ rfl
                                  obtain ⟨⟨d0, d1⟩, -⟩ := A8.two
                                  have HDr := Lib.hid (dropF rb rt s u s15 M2 wc R15 (by have := HL1.out; have := HM2.out.1; omega) HM2.out.2)
                                  obtain ⟨a15, k15, rfl⟩ := own_slice R15
                                  have HA := Lib.hid (And.intro hbk (And.intro A0 (And.intro A5b (And.intro A8 (And.intro A15b R15)))))
                                  clear A0 A5b A8 A15b R15 hbk
                                  go_upto_region 26 with fail
                                  go_cut [17, 18] (fun s17 s18 wx => ∃ (g17 : Nat) (er : Int) (M3 : List Rg), s17 = .pointer (some ⟨g17, 0, none⟩) ∧ s18 = .int .i64 er ∧ M3.length ≤ L1.length ∧ MapOk rb rt M3 ∧ g17 ≠ g5 ∧ g17 ≠ g15 ∧ MP wx g17 rb rt M3 ∧ MP wx g15 rb rt M2 ∧ Below w.heap.size w wx ∧ SB wx w.heap.size rb rt ∧ HB wx g5 #[.int .u64 (rb : Int), .int .u64 (rt : Int), x5] 71)
                                  case first => as_aux_lemma =>
                                    go_wp2_with (first | ((with_reducible (go_at_call 55; refine HDr.out.mono ?_)); rintro e1 w2 ⟨⟨v2, er, M3, rfl, R2, hlen, hmk⟩, hb2⟩; obtain ⟨a2, k2, rfl⟩ := own_slice R2))
                                    go_meet
                                    exact ⟨_, er, M3, rfl, rfl, by have := HM2.out.1; omega, hmk, by have := HA.out.2.2.1.lt; have := hb2.size; omega, by have := HA.out.2.2.2.2.1.lt; have := hb2.size; omega, ⟨_, HB.new _ _ _, R2.alloc _⟩, MP.alloc (MP.callee ⟨_, HA.out.2.2.2.2.1, HA.out.2.2.2.2.2⟩ hb2) _, ba (bc HA.out.1 hb2) _, (HA.out.2.1.callee hb2).alloc _, (HA.out.2.2.1.callee hb2).alloc _⟩
                                  case rest =>
                                    obtain ⟨g17, er, M3, rfl, rfl, hlen3, hmk3, hg17, hg17', A17, A15, hbl, A0, A5b⟩ := hcut
                                    clear HA c0 c1 c2 d0 d1 HDr
                                    have HL2 := Lib.hid (And.intro (Nat.le_of_eq HM2.out.1) HM2.out.2)
                                    have HL3 := Lib.hid (And.intro hlen3 hmk3)
                                    clear hlen3 hmk3
                                    go_upto_region 27 with fail
                                    have hwc : wc = wc := rfl
                                    go_cut [165] (fun s165 wx => (∃ b : Bool, s165 = .bool b) ∧ wx = wc)
                                    case first => as_aux_lemma =>
                                      clear A17 A15 A0 A5b
                                      by_cases h2 : i % 2 = 0
                                      · have x1 : (i : Int).tmod 2 = 0 := by rw [Int.tmod_eq_emod_of_nonneg (by omega)]; omega
                                        have x2 : (i : Int) % 2 = 0 := by omega
                                        by_cases her : er = 0
                                        · subst her
                                          go_wp2
                                          go_meet
                                          case rel => exact ⟨⟨_, rfl⟩, rfl⟩
                                        · have x3 : (er == 0) = false := by rw [beq_eq_false_iff_ne]; exact her
                                          go_wp2
                                          go_meet
                                          case rel => exact ⟨⟨_, rfl⟩, rfl⟩
                                      · have x1 : ((i : Int).tmod 2 == 0) = false := by rw [Int.tmod_eq_emod_of_nonneg (by omega), beq_eq_false_iff_ne]; omega
                                        have x2 : ((i : Int) % 2 == 0) = false := by rw [beq_eq_false_iff_ne]; omega
                                        go_wp2
                                        go_meet
                                        case rel => exact ⟨⟨_, rfl⟩, rfl⟩
                                    case rest =>
                                      obtain ⟨⟨b, rfl⟩, rfl⟩ := hcut
                                      cases b with
                                      | false =>
                                        have HLE := HL2
                                        obtain ⟨s15, A15b, R15⟩ := A15
                                        obtain ⟨a15, k15, rfl⟩ := own_slice R15
                                        have c0 := A15b.cell 0 _ rfl
                                        have c1 := A15b.cell 1 _ rfl
                                        have c2 := A15b.cell 2 _ rfl
                                        obtain ⟨⟨⟨r0, r1, r2⟩, f0, f1, f2⟩, -⟩ := A5b.store3 undef undef undef
                                        have HA := Lib.hid (And.intro hbl (And.intro A0 (And.intro A5b R15)))
                                        clear A0 A5b A15b R15 hbl
                                        go_wp2
                                        go_roundg (M - (i + 1))
                                        case measure => omega
                                        case rel => exact ⟨i + 1, M2, by omega, by go_num, by have := HL1.out; have := HLE.out.1; omega, HLE.out.2, set3_below HA.out.1 hlt5 _ _ _, HA.out.2.1.store_other (hbx_ne HA.out.2.1 HA.out.2.2.1 (by decide)) _ _ _, MP.store HA.out.2.2.1 HA.out.2.2.2⟩
                                      | true =>
                                        obtain ⟨s17, A17b, R17⟩ := A17
                                        obtain ⟨a17, k17, rfl⟩ := own_slice R17
                                        obtain ⟨s15, A15b, R15⟩ := A15
                                        have c0 := A17b.cell 0 _ rfl
                                        have c1 := A17b.cell 1 _ rfl
                                        have c2 := A17b.cell 2 _ rfl
                                        obtain ⟨⟨⟨r0, r1, r2⟩, f0, f1, f2⟩, -⟩ := A15b.store3 undef undef undef
                                        have HA := Lib.hid (And.intro hbl (And.intro A0 (And.intro A5b (And.intro A15b R17))))
                                        clear A0 A5b A15b R15 A17b R17 hbl
                                        go_upto_region 28 with fail
                                        go_cut [] (fun wx => MP wx g15 rb rt M3 ∧ Below w.heap.size w wx ∧ SB wx w.heap.size rb rt ∧ HB wx g5 #[.int .u64 (rb : Int), .int .u64 (rt : Int), x5] 71)
                                        case first => as_aux_lemma =>
                                          go_wp2
                                          go_meet
                                          exact ⟨MP.store HA.out.2.2.2.1 HA.out.2.2.2.2, set3_below HA.out.1 hg15w _ _ _, HA.out.2.1.store_other (hbx_ne HA.out.2.1 HA.out.2.2.2.1 (by decide)) _ _ _, HA.out.2.2.1.store_other (Ne.symm hg15) _ _ _⟩
                                        case rest =>
                                          obtain ⟨A15, hbl, A0, A5b⟩ := hcut
                                          clear HA c0 c1 c2 r0 r1 r2 f0 f1 f2
                                          have HLE := HL3
                                          obtain ⟨s15, A15b, R15⟩ := A15
                                          obtain ⟨a15, k15, rfl⟩ := own_slice R15
                                          have c0 := A15b.cell 0 _ rfl
                                          have c1 := A15b.cell 1 _ rfl
                                          have c2 := A15b.cell 2 _ rfl
                                          obtain ⟨⟨⟨r0, r1, r2⟩, f0, f1, f2⟩, -⟩ := A5b.store3 undef undef undef
                                          have HA := Lib.hid (And.intro hbl (And.intro A0 (And.intro A5b R15)))
                                          clear A0 A5b A15b R15 hbl
                                          go_wp2
                                          go_roundg (M - (i + 1))
                                          case measure => omega
                                          case rel => exact ⟨i + 1, M3, by omega, by go_num, by have := HL1.out; have := HLE.out.1; omega, HLE.out.2, set3_below HA.out.1 hlt5 _ _ _, HA.out.2.1.store_other (hbx_ne HA.out.2.1 HA.out.2.2.1 (by decide)) _ _ _, MP.store HA.out.2.2.1 HA.out.2.2.2⟩
                              · have e6 : ((i : Int).tmod 3 == 2) = false := by rw [Int.tmod_eq_emod_of_nonneg (by omega), beq_eq_false_iff_ne]; omega
                                have e7 : ((i : Int) % 3 == 2) = false := by rw [beq_eq_false_iff_ne]; omega
                                have HA := Lib.hid (And.intro hbj (And.intro A0 A5))
                                clear A0 A5 A8 hbj
                                go_wp2
                                go_roundg (M - (i + 1))
                                case measure => omega
                                case rel => exact ⟨i + 1, L1, by omega, by go_num, by have := HL1.out; omega, HMk1, HA.out.1, HA.out.2.1, HA.out.2.2⟩
            · have e3 : (er == 0) = false := by rw [beq_eq_false_iff_ne]; exact her
              clear hF
              have HA := Lib.hid (And.intro hbc (And.intro A0 A5))
              clear A0 A5 A8
              go_wp2
              go_roundg (gk - 1)
              case measure => omega
              case rel => exact ⟨i + 1, L, by omega, by go_num, by omega, HMk, HA.out.1, HA.out.2.1, HA.out.2.2⟩
        · have e1 : decide ((i : Int) < (n : Int)) = true := decide_eq_true (by omega)
          have e2 : decide ((i : Int) < 40) = false := decide_eq_false (by omega)
          clear A0 A5
          go_wp2_with (first
            | ((with_reducible (go_at_call 50; refine (find_zero _).mono ?_)); rintro e1 w2 ⟨⟨s, u, rfl⟩, hb2⟩)
            | ((with_reducible (go_at_call 49; refine (one21 _).mono ?_)); rintro e1 w3 ⟨rfl, hb3⟩))
          go_ret
          exact ⟨rfl, bc (ba (bc (ba hbx _) hb2) _) hb3⟩
      · have e1 : decide ((i : Int) < (n : Int)) = false := decide_eq_false (by omega)
        clear A0 A5
        go_wp2_with (first
          | ((with_reducible (go_at_call 50; refine (find_zero _).mono ?_)); rintro e1 w2 ⟨⟨s, u, rfl⟩, hb2⟩)
          | ((with_reducible (go_at_call 49; refine (one21 _).mono ?_)); rintro e1 w3 ⟨rfl, hb3⟩))
        go_ret
        exact ⟨rfl, bc (ba (bc (ba hbx _) hb2) _) hb3⟩
  · have HNew := Lib.hid (newR_no rb rt hrb hrt hok)
    go_enter Try.func13, Try.ntmps13
    go_wp2_with (first
      | ((with_reducible (go_at_call 48; refine (HNew.out _).mono ?_)); rintro e1 w1 ⟨rfl, hb1⟩)
      | ((with_reducible (go_at_call 49; refine (one21 _).mono ?_)); rintro e1 w3 ⟨rfl, hb3⟩))
    go_ret
    exact ⟨rfl, bc (ba (bc (ba (Below.refl _ _) _) hb1) _) hb3⟩
end Go.Proofs.Ytdnhjkmcogbaoaa
