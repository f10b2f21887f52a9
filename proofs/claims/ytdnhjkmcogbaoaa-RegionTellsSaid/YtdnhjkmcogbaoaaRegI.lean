/-
  region.Hold.
-/
import Derived.Test.YtdnhjkmcogbaoaaRegH
namespace Go.Proofs.Ytdnhjkmcogbaoaa
open Go.RowKit
theorem flatR_set2 : ∀ (M : List Rg) (i : Nat) (k : Rg) (x : Int), M[i]? = some k → flatR (M.set i { k with k := x }) = (flatR M).set (i * 3 + 2) (.int .i64 x)
  | [], i, k, x, h => by simp at h
  | q :: M, 0, k, x, h => by
    simp at h; subst h
    simp [flatR_cons, Rg.vals]
  | q :: M, i + 1, k, x, h => by
    have ih := flatR_set2 M i k x (by simpa using h)
    rw [List.set_cons_succ, flatR_cons, ih, flatR_cons]
    have e : (i + 1) * 3 = i * 3 + 3 := by omega
    rw [e]
    simp [Rg.vals, List.set_cons_succ, Nat.add_assoc]
theorem own_three {w : World} {B g cap n i : Nat} {M : List Rg} {q : Rg} (h : w.ownsRow B 82 3 (.slice (some ⟨g, 0, none⟩) n cap) n (flatR M)) (hn : M.length = n) (hq : M[i]? = some q) :
    (w.cell? ⟨g, i * 3, none⟩ = some (.int .u64 (q.b : Int)) ∧ w.cell? ⟨g, i * 3 + 1, none⟩ = some (.int .u64 (q.t : Int)) ∧ w.cell? ⟨g, i * 3 + 2, none⟩ = some (.int .i64 q.k)) ∧
    w.frozen? ⟨g, i * 3, none⟩ = false ∧ w.frozen? ⟨g, i * 3 + 1, none⟩ = false ∧ w.frozen? ⟨g, i * 3 + 2, none⟩ = false := by
  obtain ⟨a, c, hv, hc, _⟩ := (own_rowR h hn.symm).open
  obtain ⟨g', rfl, _, p0, p1, p2⟩ := hc i q hq
  cases hv
  exact ⟨⟨p0, p1, p2⟩, h.frozenAt _, h.frozenAt _, h.frozenAt _⟩
theorem AP.start (w : World) (hv sv : Array Value) : AP w hv sv (((w.alloc (.cells hv 71)).alloc (.cells sv 51)).alloc (.cells #[.int .u64 0, .int .u64 0, .slice none 0 0] 71)) :=
  ⟨((HB.new w _ _).alloc _).alloc _, (HB.new' (w.alloc _) _ _ _ (by simp)).alloc _, HB.new' ((w.alloc _).alloc _) _ _ _ (by simp), ba (ba (ba (Below.refl _ _) _) _) _⟩
theorem AP.put {w W : World} {hv sv : Array Value} {g : Nat} (h : AP w hv sv W) (hg : w.heap.size + 1 + 1 < g) (o : Nat) (v : Value) : AP w hv sv (W.setCell ⟨g, o, none⟩ v) :=
  ⟨h.1.set_other _ _ (by show w.heap.size ≠ g; omega), h.2.1.set_other _ _ (by show w.heap.size + 1 ≠ g; omega), h.2.2.1.set_other _ _ (by show w.heap.size + 1 + 1 ≠ g; omega), h.2.2.2.setCell (by show w.heap.size ≤ g; omega) _⟩
theorem hold_no (rb T s u : Nat) (v : Value) (L : List Rg) (w : World) (hs : RowR w v L) (hLn : L.length ≤ 100) (hn : idxI (fun k => decide (k = (⟨s, u, 1⟩ : Rg))) L = -1) :
    Calls Try.prog 54 #[mapV rb T v, spN s u] w fun e w' => e = .returned (.tuple #[mapV rb T v, .int .i64 13]) ∧ Below w.heap.size w w' := by
  obtain ⟨a, cap, rfl, hc, hlc⟩ := hs.open
  have HP0 := Lib.hid (AP.start w #[.int .u64 (rb : Int), .int .u64 (T : Int), .slice a L.length cap] #[.int .u64 (s : Int), .int .u64 (u : Int)])
  have hI := indexEqR ⟨s, u, 1⟩ a cap L _ (hc.below HP0.out.2.2.2) (by omega)
  rw [hn] at hI
  have HI := Lib.hid hI
  obtain ⟨⟨c0, c1, c2, -⟩, c3, c4⟩ := HP0.out.cells
  clear hs hc hn hI
  go_enter Try.func54, Try.ntmps54
  go_wp2_with (first | ((with_reducible (go_at_call 86; refine HI.out.mono ?_)); rintro e1 w1 ⟨rfl, hb1⟩; have P1 := HP0.out.callee hb1; obtain ⟨⟨d0, d1, d2, -⟩, d3, d4⟩ := P1.cells; obtain ⟨⟨⟨r0, r1, r2⟩, f0, f1, f2⟩, s0, s1, s2, -⟩ := P1.2.2.1.store3 (.int .u64 (rb : Int)) (.int .u64 (T : Int)) (.slice a L.length cap); have HP1 := Lib.hid P1; clear P1))
  refine bodyPost_ret (v := .tuple #[mapV rb T (.slice a L.length cap), .int .i64 13]) (by simp [results, Try.results54, go_sem, s0, s1, s2]) rfl ⟨rfl, ?_⟩
  exact set3_below HP1.out.2.2.2 (by omega) _ _ _
theorem hold_at (rb T s u : Nat) (v : Value) (L : List Rg) (w : World) (hs : RowR w v L) (hLn : L.length ≤ 100) (i : Nat) (hi : idxI (fun k => decide (k = (⟨s, u, 1⟩ : Rg))) L = i) (hk : L[i]? = some ⟨s, u, 1⟩) :
    Calls Try.prog 54 #[mapV rb T v, spN s u] w fun e w' => (∃ v', e = .returned (.tuple #[mapV rb T v', .int .i64 0]) ∧ RowR w' v' (L.set i ⟨s, u, 2⟩)) ∧ Below w.heap.size w w' := by
  have hil0 : i < L.length := (List.getElem?_eq_some_iff.mp hk).1
  obtain ⟨a, cap, rfl, hc, hlc⟩ := hs.open
  have HP0 := Lib.hid (AP.start w #[.int .u64 (rb : Int), .int .u64 (T : Int), .slice a L.length cap] #[.int .u64 (s : Int), .int .u64 (u : Int)])
  have hI := indexEqR ⟨s, u, 1⟩ a cap L _ (hc.below HP0.out.2.2.2) (by omega)
  rw [hi] at hI
  have HI := Lib.hid hI
  have HK := Lib.hid hk
  have HS : Hid (∀ W, Below w.heap.size w W → Calls Try.prog 80 #[.slice a L.length cap] W fun e w' => ∃ v', e = .returned v' ∧ w'.ownsRow W.heap.size 82 3 v' L.length (flatR L) ∧ Below W.heap.size W w') := fun W hW => cloneR _ L W (hs.below hW) (by omega)
  obtain ⟨⟨c0, c1, c2, -⟩, c3, c4⟩ := HP0.out.cells
  have hn1 : decide ((i : Int) < 0) = false := decide_eq_false (by omega)
  have hil : (i : Int) < (L.length : Int) := by omega
  clear hs hc hi hI hk
  go_enter Try.func54, Try.ntmps54
  go_wp2_with (first | ((with_reducible (go_at_call 86; refine HI.out.mono ?_)); rintro e1 w1 ⟨rfl, hb1⟩; have HP1 := Lib.hid (HP0.out.callee hb1); obtain ⟨⟨d0, d1, d2, -⟩, d3, d4⟩ := HP1.out.cells) )
  go_at_call 80
  refine (HS.out _ HP1.out.2.2.2).mono ?_
  rintro e1 w2 ⟨v1, rfl, ho1, hb2⟩
  obtain ⟨g, k1, rfl, hg⟩ := own_pos ho1 (by omega)
  have hw2 : w.heap.size + 1 + 1 < w1.heap.size := HP1.out.2.2.1.lt
  have P2 := HP1.out.callee hb2
  obtain ⟨⟨q0, q1, q2, q3⟩, q4, q5⟩ := P2.cells
  have P3 := P2.set (.slice (some ⟨g, 0, none⟩) L.length k1)
  have O3 := own_set ho1 ⟨w.heap.size, 2, none⟩ (.slice (some ⟨g, 0, none⟩) L.length k1) (by show w.heap.size < w1.heap.size; omega)
  obtain ⟨⟨x0, x1, x2, -⟩, -⟩ := P3.cells
  obtain ⟨⟨y0, y1, y2⟩, z0, z1, z2⟩ := own_three O3 rfl HK.out
  have O4 := (O3.stored (i * 3 + 2) (.int .i64 2)).1
  have hge : w.heap.size + 1 + 1 < g := by omega
  have P4 := AP.put P3 hge (i * 3 + 2) (.int .i64 2)
  obtain ⟨⟨t0, t1, t2, -⟩, -⟩ := P4.cells
  obtain ⟨⟨⟨r0, r1, r2⟩, f0, f1, f2⟩, s0, s1, s2, -⟩ := P4.2.2.1.store3 (.int .u64 (rb : Int)) (.int .u64 (T : Int)) (.slice (some ⟨g, 0, none⟩) L.length k1)
  have HP4 := Lib.hid P4
  have HO4 := Lib.hid O4
  clear P4 O4 P3 O3 P2 ho1
  go_wp2
  refine bodyPost_ret (v := .tuple #[mapV rb T (.slice (some ⟨g, 0, none⟩) L.length k1), .int .i64 0]) (by simp [results, Try.results54, go_sem, s0, s1, s2]) rfl ⟨⟨_, rfl, ?_⟩, ?_⟩
  · have e := flatR_set2 L i _ 2 HK.out
    rw [show ({ (⟨s, u, 1⟩ : Rg) with k := 2 } : Rg) = ⟨s, u, 2⟩ from rfl] at e
    have O4 := HO4.out
    rw [← e] at O4
    exact own_rowR (own_set (own_set (own_set O4 _ _ hw2) _ _ hw2) _ _ hw2) (List.length_set).symm
  · exact set3_below HP4.out.2.2.2 (by omega) _ _ _
end Go.Proofs.Ytdnhjkmcogbaoaa
