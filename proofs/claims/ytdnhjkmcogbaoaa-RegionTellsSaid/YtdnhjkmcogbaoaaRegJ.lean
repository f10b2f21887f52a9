/-
  region.Drop, At.
-/
import Derived.Test.YtdnhjkmcogbaoaaRegI
namespace Go.Proofs.Ytdnhjkmcogbaoaa
open Go.RowKit
theorem drop_no (rb T s u : Nat) (v : Value) (L : List Rg) (w : World) (hs : RowR w v L) (hLn : L.length ≤ 100) (hn : idxI (fun k => decide (k = (⟨s, u, 2⟩ : Rg))) L = -1) :
    Calls Try.prog 55 #[mapV rb T v, spN s u] w fun e w' => e = .returned (.tuple #[mapV rb T v, .int .i64 13]) ∧ Below w.heap.size w w' := by
  obtain ⟨a, cap, rfl, hc, hlc⟩ := hs.open
  have HP0 := Lib.hid (AP.start w #[.int .u64 (rb : Int), .int .u64 (T : Int), .slice a L.length cap] #[.int .u64 (s : Int), .int .u64 (u : Int)])
  have hI := indexEqR ⟨s, u, 2⟩ a cap L _ (hc.below HP0.out.2.2.2) (by omega)
  rw [hn] at hI
  have HI := Lib.hid hI
  obtain ⟨⟨c0, c1, c2, -⟩, c3, c4⟩ := HP0.out.cells
  clear hs hc hn hI
  go_enter Try.func55, Try.ntmps55
  go_wp2_with (first | ((with_reducible (go_at_call 86; refine HI.out.mono ?_)); rintro e1 w1 ⟨rfl, hb1⟩; have P1 := HP0.out.callee hb1; obtain ⟨⟨d0, d1, d2, -⟩, d3, d4⟩ := P1.cells; obtain ⟨⟨⟨r0, r1, r2⟩, f0, f1, f2⟩, s0, s1, s2, -⟩ := P1.2.2.1.store3 (.int .u64 (rb : Int)) (.int .u64 (T : Int)) (.slice a L.length cap); have HP1 := Lib.hid P1; clear P1))
  refine bodyPost_ret (v := .tuple #[mapV rb T (.slice a L.length cap), .int .i64 13]) (by simp [results, Try.results55, go_sem, s0, s1, s2]) rfl ⟨rfl, ?_⟩
  exact set3_below HP1.out.2.2.2 (by omega) _ _ _
theorem drop_at (rb T s u : Nat) (v : Value) (L : List Rg) (w : World) (hs : RowR w v L) (hLn : L.length ≤ 100) (i : Nat) (hi : idxI (fun k => decide (k = (⟨s, u, 2⟩ : Rg))) L = i) (hk : L[i]? = some ⟨s, u, 2⟩) :
    Calls Try.prog 55 #[mapV rb T v, spN s u] w fun e w' => (∃ v', e = .returned (.tuple #[mapV rb T v', .int .i64 0]) ∧ RowR w' v' (L.take i ++ L.drop (i + 1))) ∧ Below w.heap.size w w' := by
  have hil0 : i < L.length := (List.getElem?_eq_some_iff.mp hk).1
  obtain ⟨n, hln⟩ : ∃ n, L.length = n + 1 := ⟨L.length - 1, by omega⟩
  obtain ⟨a, cap, rfl, hc, hlc⟩ := hs.open
  have HP0 := Lib.hid (AP.start w #[.int .u64 (rb : Int), .int .u64 (T : Int), .slice a L.length cap] #[.int .u64 (s : Int), .int .u64 (u : Int)])
  have hI := indexEqR ⟨s, u, 2⟩ a cap L _ (hc.below HP0.out.2.2.2) (by omega)
  rw [hi] at hI
  have HI := Lib.hid hI
  have HS : Hid (∀ W, Below w.heap.size w W → Calls Try.prog 80 #[.slice a L.length cap] W fun e w' => ∃ v', e = .returned v' ∧ w'.ownsRow W.heap.size 82 3 v' L.length (flatR L) ∧ Below W.heap.size W w') := fun W hW => cloneR _ L W (hs.below hW) (by omega)
  have HDel : Hid (∀ (g k1 B : Nat) (W : World), W.ownsRow B 82 3 (.slice (some ⟨g, 0, none⟩) L.length k1) L.length (flatR L) → Calls Try.prog 87 #[.slice (some ⟨g, 0, none⟩) L.length k1, .int .i64 (i : Int), .int .i64 ((i : Int) + 1)] W fun e w' => ∃ v', e = .returned v' ∧ w'.ownsRow B 82 3 v' n (flatR (L.take i ++ L.drop (i + 1))) ∧ Below B W w') := by
    intro g k1 B W ho
    rw [hln] at ho ⊢
    exact deleteR1 g k1 n L hln i W B ho (by omega) (by omega)
  have HM := Lib.hid (show n = (L.take i ++ L.drop (i + 1)).length from by rw [List.length_append, List.length_take, List.length_drop]; omega)
  obtain ⟨⟨c0, c1, c2, -⟩, c3, c4⟩ := HP0.out.cells
  have hn1 : decide ((i : Int) < 0) = false := decide_eq_false (by omega)
  have hil : (i : Int) < (L.length : Int) := by omega
  have hi100 : (i : Int) ≤ 100 := by omega
  clear hs hc hi hI hk hln
  go_enter Try.func55, Try.ntmps55
  go_wp2_with (first | ((with_reducible (go_at_call 86; refine HI.out.mono ?_)); rintro e1 w1 ⟨rfl, hb1⟩; have HP1 := Lib.hid (HP0.out.callee hb1); obtain ⟨⟨d0, d1, d2, -⟩, d3, d4⟩ := HP1.out.cells))
  go_at_call 80
  refine (HS.out _ HP1.out.2.2.2).mono ?_
  rintro e1 w2 ⟨v1, rfl, ho1, hb2⟩
  obtain ⟨g, k1, rfl, hg⟩ := own_pos ho1 (by omega)
  have hw2 : w.heap.size + 1 + 1 < w1.heap.size := HP1.out.2.2.1.lt
  have P2 := HP1.out.callee hb2
  go_wp2_with (first | ((with_reducible (go_at_call 87; refine (HDel.out g k1 _ _ ho1).mono ?_)); rintro e2 w3 ⟨v2, rfl, ho2, hb3⟩; obtain ⟨a2, k2, rfl⟩ := own_slice ho2; have P3 := P2.under hb3 hw2; obtain ⟨⟨q0, q1, q2, q3⟩, q4, q5⟩ := P3.cells; have P4 := P3.set (.slice a2 n k2); have HO4 := Lib.hid (own_set ho2 ⟨w.heap.size, 2, none⟩ (.slice a2 n k2) (show w.heap.size < w1.heap.size from Nat.lt_of_succ_lt (Nat.lt_of_succ_lt hw2))); obtain ⟨⟨x0, x1, x2, -⟩, -⟩ := P4.cells; obtain ⟨⟨⟨r0, r1, r2⟩, f0, f1, f2⟩, s0, s1, s2, -⟩ := P4.2.2.1.store3 (.int .u64 (rb : Int)) (.int .u64 (T : Int)) (.slice a2 n k2); have HP4 := Lib.hid P4; clear P4 P3 P2 ho1 ho2 hb2 hb3))
  refine bodyPost_ret (v := .tuple #[mapV rb T (.slice a2 n k2), .int .i64 0]) (by simp [results, Try.results55, go_sem, s0, s1, s2]) rfl ⟨⟨_, rfl, ?_⟩, ?_⟩
  · exact own_rowR (own_set (own_set (own_set HO4.out _ _ hw2) _ _ hw2) _ _ hw2) HM.out
  · exact set3_below HP4.out.2.2.2 (by omega) _ _ _
/-- At's boxes. -/
def CP (w : World) (hv : Array Value) (addr : Nat) (W : World) : Prop :=
  HB W w.heap.size hv 71 ∧ HB W (w.heap.size + 1) #[.int .u64 (addr : Int)] 22 ∧ HB W (w.heap.size + 1 + 1) #[.int .u64 0, .int .u64 0, .int .i64 0] 82 ∧ Below w.heap.size w W
theorem CP.callee {w W W' : World} {hv : Array Value} {addr : Nat} (h : CP w hv addr W) (k : Below W.heap.size W W') : CP w hv addr W' := ⟨h.1.callee k, h.2.1.callee k, h.2.2.1.callee k, bc h.2.2.2 k⟩
theorem CP.start (w : World) (hv : Array Value) (addr : Nat) : CP w hv addr (((w.alloc (.cells hv 71)).alloc (.cells #[.int .u64 (addr : Int)] 22)).alloc (.cells #[.int .u64 0, .int .u64 0, .int .i64 0] 82)) :=
  ⟨((HB.new w _ _).alloc _).alloc _, (HB.new' (w.alloc _) _ _ _ (by simp)).alloc _, HB.new' ((w.alloc _).alloc _) _ _ _ (by simp), ba (ba (ba (Below.refl _ _) _) _) _⟩
theorem at_no (rb T addr : Nat) (v : Value) (L : List Rg) (w : World) (hs : RowR w v L) (hLn : L.length ≤ 100) (hn : idxI (atR addr) L = -1) :
    Calls Try.prog 57 #[mapV rb T v, .int .u64 addr] w fun e w' => e = .returned (.tuple #[.agg #[.int .u64 0, .int .u64 0, .int .i64 0], .bool false]) ∧ Below w.heap.size w w' := by
  obtain ⟨a, cap, rfl, hc, hlc⟩ := hs.open
  have HP0 := Lib.hid (CP.start w #[.int .u64 (rb : Int), .int .u64 (T : Int), .slice a L.length cap] addr)
  have hI := indexR89 (w.heap.size + 1) _ _ (atR addr) a cap L _ (hc.below HP0.out.2.2.2) (by omega) HP0.out.2.1 (fun k _ W hW => at1_any k _ addr W hW)
  rw [hn] at hI
  have HI := Lib.hid hI
  have c2 := HP0.out.1.cell 2 _ rfl
  clear hs hc hn hI
  go_enter Try.func57, Try.ntmps57
  go_wp2_with (first | ((with_reducible (go_at_call 88; refine HI.out.mono ?_)); rintro e1 w1 ⟨rfl, hb1⟩; have P1 := HP0.out.callee hb1; obtain ⟨⟨⟨r0, r1, r2⟩, f0, f1, f2⟩, s0, s1, s2, -⟩ := P1.2.2.1.store3 (.int .u64 0) (.int .u64 0) (.int .i64 0); have HP1 := Lib.hid P1; clear P1))
  refine bodyPost_ret (v := .tuple #[.agg #[.int .u64 0, .int .u64 0, .int .i64 0], .bool false]) (by simp [results, Try.results57, go_sem, s0, s1, s2]) rfl ⟨rfl, ?_⟩
  exact set3_below HP1.out.2.2.2 (by omega) _ _ _
theorem at_ok (rb T addr : Nat) (v : Value) (L : List Rg) (w : World) (hs : RowR w v L) (hLn : L.length ≤ 100) (i : Nat) (k : Rg) (hi : idxI (atR addr) L = i) (hk : L[i]? = some k) :
    Calls Try.prog 57 #[mapV rb T v, .int .u64 addr] w fun e w' => e = .returned (.tuple #[rgV k, .bool true]) ∧ Below w.heap.size w w' := by
  have hil0 : i < L.length := (List.getElem?_eq_some_iff.mp hk).1
  obtain ⟨a, cap, rfl, hc, hlc⟩ := hs.open
  have HP0 := Lib.hid (CP.start w #[.int .u64 (rb : Int), .int .u64 (T : Int), .slice a L.length cap] addr)
  have hI := indexR89 (w.heap.size + 1) _ _ (atR addr) a cap L _ (hc.below HP0.out.2.2.2) (by omega) HP0.out.2.1 (fun k _ W hW => at1_any k _ addr W hW)
  rw [hi] at hI
  have HI := Lib.hid hI
  have HC : Hid (∀ W, Below w.heap.size w W → ∃ g, a = some ⟨g, 0, none⟩ ∧ g < W.heap.size ∧ W.cell? ⟨g, i * 3, none⟩ = some (.int .u64 (k.b : Int)) ∧ W.cell? ⟨g, i * 3 + 1, none⟩ = some (.int .u64 (k.t : Int)) ∧ W.cell? ⟨g, i * 3 + 2, none⟩ = some (.int .i64 k.k)) := fun W hW => hc.below hW i k hk
  have c2 := HP0.out.1.cell 2 _ rfl
  have hn1 : decide ((i : Int) < 0) = false := decide_eq_false (by omega)
  have hil : (i : Int) < (L.length : Int) := by omega
  clear hs hc hi hI hk
  go_enter Try.func57, Try.ntmps57
  go_upto_region 2 with (first | ((with_reducible (go_at_call 88; refine HI.out.mono ?_)); rintro e1 w1 ⟨rfl, hb1⟩))
  have P1 := HP0.out.callee hb1
  obtain ⟨g, rfl, hg, p0, p1, p2⟩ := HC.out _ P1.2.2.2
  have d2 := P1.1.cell 2 _ rfl
  obtain ⟨⟨⟨r0, r1, r2⟩, f0, f1, f2⟩, s0, s1, s2, -⟩ := P1.2.2.1.store3 (.int .u64 (k.b : Int)) (.int .u64 (k.t : Int)) (.int .i64 k.k)
  have HP1 := Lib.hid P1
  clear P1
  go_wp2
  refine bodyPost_ret (v := .tuple #[rgV k, .bool true]) (by simp [results, Try.results57, go_sem, s0, s1, s2]) rfl ⟨rfl, ?_⟩
  exact set3_below HP1.out.2.2.2 (by omega) _ _ _
end Go.Proofs.Ytdnhjkmcogbaoaa
