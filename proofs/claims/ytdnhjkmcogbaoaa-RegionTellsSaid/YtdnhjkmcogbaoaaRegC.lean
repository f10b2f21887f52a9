/-
  region.Find.
-/
import Derived.Test.YtdnhjkmcogbaoaaRegB
import Derived.Test.YtdnhjkmcogbaoaaHeapA
namespace Go.Proofs.Ytdnhjkmcogbaoaa
open Go.RowKit
def findV (s u : Nat) (ok : Bool) : Value := .tuple #[.agg #[.int .u64 (s : Int), .int .u64 (u : Int)], .int .i64 (if ok then 0 else 15)]
theorem find_walk (rb T n N x : Nat) (a : Option Addr) (cap : Nat) (L : List Rg) (w : World) (hrb : rb ≤ T) (hT : T ≤ 274877906944) (hn1 : 1 ≤ n) (hn2 : n ≤ 274877906944) (hN1 : 1 ≤ N) (hN : N ≤ 274877906944) (hx : x ≤ 30) (hL : CellsR w a L) (hLT : ∀ k ∈ L, k.t ≤ T) (hLn : L.length ≤ 1000)
    (hask : ∀ w : World, Calls Try.prog 74 #[.int .u64 n] w fun r w' => r = .returned (.tuple #[.int .u64 N, .int .i64 (x : Int)]) ∧ Below w.heap.size w w') :
    Calls Try.prog 50 #[mapV rb T (.slice a L.length cap), .int .u64 n] w fun e w' => (∃ (s u : Nat) (ok : Bool), e = .returned (findV s u ok) ∧ FLow L N x rb T (up rb x) s u ok) ∧ Below w.heap.size w w' := by
  have hup : ∀ b, b ≤ T → ∀ w : World, Calls Try.prog 35 #[.int .u64 b, .int .i64 x] w fun e' w' => e' = .returned (.tuple #[.int .u64 (up b x : Nat), .bool true]) ∧ w = w' := fun b hb w => by
    have h1 : up b x < 18446744073709551616 := by
      have := (up_spec b x).2.1
      have : 2 ^ x ≤ 2 ^ 30 := Nat.pow_le_pow_right (by decide) hx
      omega
    have := up_any b x (by omega) w
    rwa [show ce (x : Int) = x from by unfold ce; omega, show upV b x = up b x from by rw [upV, if_pos h1], show upB b x = true from by simp [upB, h1]] at this
  have HU := Lib.hid hup
  have HC := Lib.hid hL
  have HT := Lib.hid hLT
  have HA := Lib.hid hask
  have hd1 : ((n : Int) == 0) = false := by rw [beq_eq_false_iff_ne]; omega
  have hd2 : decide (274877906944 < (n : Int)) = false := decide_eq_false (by omega)
  clear hup hL hLT hask
  go_enter Try.func50, Try.ntmps50
  go_wp2
  go_step3
  go_wp2_with (first | ((with_reducible (go_at_call 74; refine (HA.out _).mono ?_)); rintro e1 w1 ⟨rfl, hb1⟩; have A1 := ((HB.new w #[.int .u64 (rb : Int), .int .u64 (T : Int), .slice a L.length cap] 71).alloc (.cells #[.int .u64 0, .int .u64 0] 51)).callee hb1; have c0 := A1.cell 0 _ rfl) | ((with_reducible (go_at_call 35; refine (HU.out rb hrb _).mono ?_)); rintro e1 w2 ⟨rfl, rfl⟩))
  go_step3
  go_wp2
  have hb0 : Below w.heap.size w w1 := bc (ba (ba (Below.refl _ _) _) _) hb1
  have X0 := (((HB.new w #[.int .u64 (rb : Int), .int .u64 (T : Int), .slice a L.length cap] 71).alloc (.cells #[.int .u64 0, .int .u64 0] 51)).callee hb1).alloc (.cells #[.int .u64 0, .int .u64 0] 51)
  have X1 := ((HB.new' (w.alloc (.cells #[.int .u64 (rb : Int), .int .u64 (T : Int), .slice a L.length cap] 71)) #[.int .u64 0, .int .u64 0] 51 (w.heap.size + 1) (by simp)).callee hb1).alloc (.cells #[.int .u64 0, .int .u64 0] 51)
  have X9 := HB.new w1 #[.int .u64 0, .int .u64 0] 51
  have hsz : w.heap.size + 1 + 1 ≤ w1.heap.size := by have := hb1.size; simpa using this
  have hn1' : w.heap.size + 1 ≠ w1.heap.size := by omega
  have hn0' : w.heap.size ≠ w1.heap.size := by omega
  have HNE := Lib.hid (And.intro hn0' hn1')
  generalize hg9 : w1.heap.size = g9 at HNE X9 hsz ⊢
  clear hn1' hn0' hg9 hb1
  go_loopg [7] (T + 1 - up rb x) (fun g s7 wx => ∃ cur : Nat, s7 = .int .u64 (cur : Int) ∧ g = T + 1 - cur ∧ cur ≤ 1099511627776 ∧ Aside (∀ s u ok, FLow L N x rb T cur s u ok → FLow L N x rb T (up rb x) s u ok) ∧ Below w.heap.size w wx ∧ HB wx w.heap.size #[.int .u64 (rb : Int), .int .u64 (T : Int), .slice a L.length cap] 71 ∧ HB wx (w.heap.size + 1) #[.int .u64 0, .int .u64 0] 51 ∧ ∃ v0 v1, HB wx g9 #[v0, v1] 51)
  case atStart => exact ⟨_, rfl, rfl, by have := (up_spec rb x).2.1; have : 2 ^ x ≤ 2 ^ 30 := Nat.pow_le_pow_right (by decide) hx; omega, fun _ _ _ h => h, ba hb0 _, X0, X1, _, _, X9⟩
  case round =>
    clear X0 X1 X9 hb0
    obtain ⟨cur, rfl, rfl, hcb, HLow, hbx, B0, B1, v0, v1, B9⟩ := hrel
    have hcN : ((cur + N : Nat) : Int) = (cur : Int) + N := by omega
    have HI : Hid (∀ W : World, Calls Try.prog 75 #[.agg #[.int .u64 (cur : Int), .int .u64 ((cur : Int) + N)], .agg #[.int .u64 (rb : Int), .int .u64 (T : Int)]] W fun e w' => e = .returned (.bool (inN cur (cur + N) rb T)) ∧ Below W.heap.size W w') := fun W => by
      rw [← hcN]
      exact in_sp cur (cur + N) rb T W
    have HM : Hid (∀ (k : Rg) (W : World), Calls Try.prog 76 #[.agg #[.int .u64 (k.b : Int), .int .u64 (k.t : Int)], .agg #[.int .u64 (cur : Int), .int .u64 ((cur : Int) + N)]] W fun e w' => e = .returned (.bool (hitR cur (cur + N) k)) ∧ Below W.heap.size W w') := fun k W => by
      rw [← hcN]
      exact meet_any k.b k.t cur (cur + N) W
    obtain ⟨⟨⟨r0, r1⟩, f0, f1⟩, s0, s1, E9⟩ := B9.store2 (.int .u64 (cur : Int)) (.int .u64 ((cur : Int) + N))
    have E0 := (B0.set_other ⟨g9, 0, none⟩ (.int .u64 (cur : Int)) HNE.out.1).set_other ⟨g9, 1, none⟩ (.int .u64 ((cur : Int) + N)) HNE.out.1
    have E1 := (B1.set_other ⟨g9, 0, none⟩ (.int .u64 (cur : Int)) HNE.out.2).set_other ⟨g9, 1, none⟩ (.int .u64 ((cur : Int) + N)) HNE.out.2
    have hbE : Below w.heap.size w ((wr.setCell ⟨g9, 0, none⟩ (.int .u64 (cur : Int))).setCell ⟨g9, 1, none⟩ (.int .u64 ((cur : Int) + N))) := set2_below hbx (by omega) _ _
    have e0 := E0.cell 0 _ rfl
    have e1 := E0.cell 1 _ rfl
    have e2 := E0.cell 2 _ rfl
    have HE := Lib.hid (And.intro E0 (And.intro E1 (And.intro E9 hbE)))
    clear E0 E1 E9 hbE B0 B1 B9 hcN hbx
    cases hin : inN cur (cur + N) rb T with
    | false =>
      rw [hin] at HI
      have HIN := Lib.hid hin
      clear hin
      go_wp2_with (first | ((with_reducible (go_at_call 75; refine (HI.out _).mono ?_)); rintro e1 w2 ⟨rfl, hb2⟩; obtain ⟨⟨⟨t0, t1⟩, z0, z1⟩, y0, y1, -⟩ := (HE.out.2.1.callee hb2).store2 (.int .u64 0) (.int .u64 0)))
      rw [Exit.noGoto_ret]
      refine bodyPost_ret (v := .tuple #[.agg #[.int .u64 0, .int .u64 0], .int .i64 15]) (by simp [results, Try.results50, go_sem, y0, y1]) rfl ⟨⟨0, 0, false, rfl, HLow.out _ _ _ (FLow.over HIN.out)⟩, set2_below (bc HE.out.2.2.2 hb2) (Nat.le_add_right _ _) _ _⟩
    | true =>
      rw [hin] at HI
      have HIN := Lib.hid hin
      clear hin
      go_wp2_with (first | ((with_reducible (go_at_call 75; refine (HI.out _).mono ?_)); rintro e1 w2 ⟨rfl, hb2⟩; have F0 := HE.out.1.callee hb2; have t2 := F0.cell 2 _ rfl))
      have HF := Lib.hid (And.intro F0 (And.intro (HE.out.2.1.callee hb2) (And.intro (HE.out.2.2.1.callee hb2) (bc HE.out.2.2.2 hb2))))
      clear F0 t2 e0 e1 e2 r0 r1 f0 f1 s0 s1 HI
      go_loopg [47] L.length (fun g2 s47 wy => ∃ j : Nat, j + g2 = L.length ∧ s47 = .int .i64 (j : Int) ∧ Aside (∀ i k, i < j → L[i]? = some k → hitR cur (cur + N) k = false) ∧ Below w.heap.size w wy ∧ HB wy w.heap.size #[.int .u64 (rb : Int), .int .u64 (T : Int), .slice a L.length cap] 71 ∧ HB wy (w.heap.size + 1) #[.int .u64 0, .int .u64 0] 51 ∧ HB wy g9 #[.int .u64 (cur : Int), .int .u64 ((cur : Int) + N)] 51)
      case atStart => exact ⟨0, by omega, rfl, fun i k h => by omega, HF.out.2.2.2, HF.out.1, HF.out.2.1, HF.out.2.2.1⟩
      case round =>
        obtain ⟨j, hjg, rfl, HN2, hby, C0, C1, C9⟩ := hrel
        cases gk with
        | zero =>
          have hj : j = L.length := by omega
          subst hj
          obtain ⟨⟨c3, c4⟩, -⟩ := C9.two
          obtain ⟨⟨⟨t0, t1⟩, z0, z1⟩, y0, y1, -⟩ := C1.store2 (.int .u64 (cur : Int)) (.int .u64 ((cur : Int) + N))
          clear C0 C1 C9
          go_wp2
          rw [Exit.noGoto_ret]
          have hin2 := HIN.out
          refine bodyPost_ret (v := .tuple #[.agg #[.int .u64 (cur : Int), .int .u64 ((cur : Int) + N)], .int .i64 0]) (by simp [results, Try.results50, go_sem, y0, y1]) rfl ⟨⟨cur, cur + N, true, ?_, HLow.out _ _ _ (FLow.free hin2 (find_no _ _ HN2.out))⟩, set2_below hby (Nat.le_add_right _ _) _ _⟩
          rw [findV, show ((cur + N : Nat) : Int) = (cur : Int) + N from by omega]
          rfl
        | succ g2 =>
          obtain ⟨k, hk⟩ : ∃ k, L[j]? = some k := ⟨_, List.getElem?_eq_getElem (by omega)⟩
          obtain ⟨g, rfl, hg, p0, p1, p2⟩ := HC.out.below (hby) j k hk
          have D9 := C9.alloc (.cells #[.int .u64 (k.b : Int), .int .u64 (k.t : Int), .int .i64 k.k] 82)
          obtain ⟨⟨c3, c4⟩, -⟩ := D9.two
          have hjl : (j : Int) < (L.length : Int) := by omega
          have HD := Lib.hid (And.intro (C0.alloc (.cells #[.int .u64 (k.b : Int), .int .u64 (k.t : Int), .int .i64 k.k] 82)) (And.intro (C1.alloc (.cells #[.int .u64 (k.b : Int), .int .u64 (k.t : Int), .int .i64 k.k] 82)) D9))
          have HK := Lib.hid hk
          clear C0 C1 C9 D9 hk
          have HMk := Lib.hid (HM.out k)
          cases hh : hitR cur (cur + N) k with
          | true =>
            rw [hh] at HMk
            have HH := Lib.hid hh
            clear hh
            go_wp2_with (first | ((with_reducible (go_at_call 76; refine (HMk.out _).mono ?_)); rintro e1 w3 ⟨rfl, hb3⟩; have A3 := (HB.new wr #[.int .u64 (k.b : Int), .int .u64 (k.t : Int), .int .i64 k.k] 82).callee hb3; have a1 := A3.cell 1 _ rfl) | ((with_reducible (go_at_call 35; refine (HU.out k.t (HT.out k (List.mem_of_getElem? HK.out)) _).mono ?_)); rintro e1 w4 ⟨rfl, rfl⟩))
            have hu := (up_spec k.t x).1
            have hu2 := (up_spec k.t x).2.1
            have hkT := HT.out k (List.mem_of_getElem? HK.out)
            have hm := of_decide_eq_true HH.out
            have hi := of_decide_eq_true HIN.out
            have hx30 : 2 ^ x ≤ 2 ^ 30 := Nat.pow_le_pow_right (by decide) hx
            go_roundg (T + 1 - up k.t x)
            case measure => omega
            case rel => exact ⟨up k.t x, rfl, rfl, by omega, fun s u ok hl => HLow.out s u ok (FLow.hit k HIN.out (find_first _ L j k HK.out HH.out HN2.out) hl), bc (ba hby _) hb3, HD.out.1.callee hb3, HD.out.2.1.callee hb3, _, _, HD.out.2.2.callee hb3⟩
          | false =>
            rw [hh] at HMk
            have HH := Lib.hid hh
            clear hh
            go_wp2_with (first | ((with_reducible (go_at_call 76; refine (HMk.out _).mono ?_)); rintro e1 w3 ⟨rfl, hb3⟩))
            go_roundg g2
            case measure => omega
            case rel => exact ⟨j + 1, by omega, by go_num, fun i q hi hq => by
              rcases Nat.lt_or_ge i j with h | h
              · exact HN2.out i q h hq
              · have : i = j := by omega
                subst this; rw [HK.out] at hq; cases hq; exact HH.out, bc (ba hby _) hb3, HD.out.1.callee hb3, HD.out.2.1.callee hb3, HD.out.2.2.callee hb3⟩
/-- What Find wants of the map. -/
structure MapOk (rb T : Nat) (L : List Rg) : Prop where
  hrb : rb ≤ T
  hT : T ≤ 274877906944
  hLT : ∀ k ∈ L, k.t ≤ T
theorem find_ex (n : Nat) (hn1 : 1 ≤ n) (hn2 : n ≤ 274877906944) : ∃ N y, n ≤ N ∧ N ≤ 274877906944 ∧ N % 4096 = 0 ∧ 2 ^ (y + 12) ≤ N ∧ N < 2 ^ (y + 13) ∧ N % 2 ^ y = 0 ∧ y ≤ 26 ∧
    ∀ (rb T : Nat) (L : List Rg) (s : Value) (w : World), MapOk rb T L → L.length ≤ 1000 → RowR w s L →
      Calls Try.prog 50 #[mapV rb T s, .int .u64 n] w fun e w' => (∃ (a u : Nat) (ok : Bool), e = .returned (findV a u ok) ∧ FLow L N (max y 12) rb T (up rb (max y 12)) a u ok) ∧ Below w.heap.size w w' := by
  obtain ⟨N, y, h1, h2, h3, h4, h5, h6, h7, h8⟩ := askR_ex n hn1 hn2
  refine ⟨N, y, h1, h2, h3, h4, h5, h6, h7, fun rb T L s w hm hL hs => ?_⟩
  obtain ⟨a, cap, rfl, hc, _⟩ := hs.open
  exact find_walk rb T n N (max y 12) a cap L w hm.hrb hm.hT hn1 hn2 (by omega) h2 (by omega) hc hm.hLT hL h8
theorem find_none (rb T : Nat) (s : Value) (n : Nat) (hn : n = 0 ∨ 274877906944 < n) (w : World) :
    Calls Try.prog 50 #[mapV rb T s, .int .u64 n] w fun e w' => e = .returned (.tuple #[.agg #[.int .u64 0, .int .u64 0], .int .i64 2]) ∧ Below w.heap.size w w' := by
  rcases hn with rfl | hn
  · go_enter Try.func50, Try.ntmps50
    go_wp2
    go_step3
    go_wp2
    rw [Exit.noGoto_ret]
    refine bodyPost_ret (v := .tuple #[.agg #[.int .u64 0, .int .u64 0], .int .i64 2]) (by simp [results, Try.results50, go_sem]) rfl ⟨rfl, ba (ba (Below.refl _ _) _) _⟩
  · have hd1 : ((n : Int) == 0) = false := by rw [beq_eq_false_iff_ne]; omega
    have hd2 : decide (274877906944 < (n : Int)) = true := decide_eq_true (by omega)
    go_enter Try.func50, Try.ntmps50
    go_wp2
    go_step3
    go_wp2
    rw [Exit.noGoto_ret]
    refine bodyPost_ret (v := .tuple #[.agg #[.int .u64 0, .int .u64 0], .int .i64 2]) (by simp [results, Try.results50, go_sem]) rfl ⟨rfl, ba (ba (Below.refl _ _) _) _⟩
end Go.Proofs.Ytdnhjkmcogbaoaa
