/-
  heap.Give.
-/
import Derived.Test.YtdnhjkmcogbaoaaHeapE
namespace Go.Proofs.Ytdnhjkmcogbaoaa
open Go.RowKit
def isB (base : Nat) (k : Blk) : Bool := decide (k.b = base ∧ k.f = false)
theorem flatB_set2 : ∀ (M : List Blk) (i : Nat) (k : Blk) (x : Int), M[i]? = some k → flatB (M.set i { k with f := true, a := x }) = ((flatB M).set (i * 4 + 2) (.bool true)).set (i * 4 + 3) (.int .i64 x)
  | [], i, k, x, h => by simp at h
  | q :: M, 0, k, x, h => by
    simp at h; subst h
    simp [flatB_cons, Blk.vals]
  | q :: M, i + 1, k, x, h => by
    have ih := flatB_set2 M i k x (by simpa using h)
    rw [List.set_cons_succ, flatB_cons, ih, flatB_cons]
    have e : (i + 1) * 4 = i * 4 + 4 := by omega
    rw [e]
    simp [Blk.vals, List.set_cons_succ, Nat.add_assoc]
theorem giveH (b t base : Nat) (x : Int) (s : Value) (L : List Blk) (i : Nat) (k : Blk) (w : World) (hs : RowB w s L) (hLn : L.length ≤ 1000) (hf : L.findIdx? (isB base) = some i) (hk : L[i]? = some k) :
    Calls Try.prog 42 #[heapV b t s, .int .u64 base, .int .i64 x] w fun e w' => (∃ s', e = .returned (.tuple #[heapV b t s', .int .i64 0]) ∧ RowB w' s' (L.set i { k with f := true, a := x })) ∧ Below w.heap.size w w' := by
  have hi : i < L.length := (List.getElem?_eq_some_iff.mp hk).1
  obtain ⟨a, cap, rfl, hcells, hlc⟩ := hs.open
  have hI := indexB69 (w.heap.size + 1) #[.int .u64 (base : Int)] 22 (isB base) a cap L (((w.alloc (.cells #[.int .u64 (b : Int), .int .u64 (t : Int), .slice a L.length cap] 54)).alloc (.cells #[.int .u64 (base : Int)] 22)).alloc (.cells #[.int .u64 0, .int .u64 0, .slice none 0 0] 54)) (hcells.below (ba (ba (ba (Below.refl _ _) _) _) _)) hLn ((HB.new' _ #[.int .u64 (base : Int)] 22 (w.heap.size + 1) (by simp)).alloc _) (fun k _ W hW => give1_any k (w.heap.size + 1) base W hW)
  rw [show idxI (isB base) L = i from by simp [idxI, hf]] at hI
  have HI := Lib.hid hI
  have HS := Lib.hid hs
  have HK := Lib.hid hk
  have hn1 : decide ((i : Int) < 0) = false := decide_eq_false (by omega)
  have X0 := Lib.hid (((HB.new w #[.int .u64 (b : Int), .int .u64 (t : Int), .slice a L.length cap] 54).alloc (.cells #[.int .u64 (base : Int)] 22)).alloc (.cells #[.int .u64 0, .int .u64 0, .slice none 0 0] 54))
  have X2 := Lib.hid (HB.new' ((w.alloc (.cells #[.int .u64 (b : Int), .int .u64 (t : Int), .slice a L.length cap] 54)).alloc (.cells #[.int .u64 (base : Int)] 22)) #[.int .u64 0, .int .u64 0, .slice none 0 0] 54 (w.heap.size + 1 + 1) (by simp))
  clear hcells hs hk hI hf
  go_enter Try.func42, Try.ntmps42
  go_wp2_with (first | ((with_reducible (go_at_call 68; refine HI.out.mono ?_)); rintro e1 w1 ⟨rfl, hb1⟩; have Y0 := X0.out.callee hb1; have c0 := Y0.cell 0 _ rfl; have c1 := Y0.cell 1 _ rfl; have c2 := Y0.cell 2 _ rfl; have HS1 := Lib.hid (cloneB (.slice a L.length cap) L w1 (HS.out.below (bc (ba (ba (ba (Below.refl _ _) _) _) _) hb1)) hLn); have HB1 := Lib.hid hb1; clear hb1 Y0) | ((with_reducible (go_at_call 67; refine HS1.out.mono ?_)); rintro e1 w2 ⟨v'', rfl, ho2, hb2⟩; obtain ⟨g, cp, rfl, hg⟩ := own_pos ho2 (by omega); have Y1 := (X0.out.callee HB1.out).callee hb2; have d0 := Y1.cell 0 _ rfl; have d1 := Y1.cell 1 _ rfl; have d2 := Y1.cell 2 _ rfl; have z2 := Y1.frozen 2; have HO2 := Lib.hid ho2; have HB2 := Lib.hid hb2; have HG := Lib.hid hg; clear ho2 hb2 hg Y1 c0 c1 c2))
  have hg0 := HG.out
  have hb1 : Below w.heap.size w w1 := bc (ba (ba (ba (Below.refl _ _) _) _) _) HB1.out
  have hs1 : w.heap.size + 1 + 1 + 1 ≤ w1.heap.size := by have := HB1.out.size; simpa using this
  have hs2 : w1.heap.size ≤ w2.heap.size := HB2.out.size
  have hgne : g ≠ w.heap.size := by omega
  have hgne2 : g ≠ w.heap.size + 1 + 1 := by omega
  have Z0 : HB (w2.setCell ⟨w.heap.size, 2, none⟩ (.slice (some ⟨g, 0, none⟩) L.length cp)) w.heap.size #[.int .u64 (b : Int), .int .u64 (t : Int), .slice (some ⟨g, 0, none⟩) L.length cp] 54 := ((X0.out.callee HB1.out).callee HB2.out).set 2 _
  have Z2 := ((X2.out.callee HB1.out).callee HB2.out).set_other ⟨w.heap.size, 2, none⟩ (.slice (some ⟨g, 0, none⟩) L.length cp) (by show w.heap.size + 1 + 1 ≠ w.heap.size; omega)
  have O3 := own_set HO2.out ⟨w.heap.size, 2, none⟩ (.slice (some ⟨g, 0, none⟩) L.length cp) (by show w.heap.size < w1.heap.size; omega)
  have b3 : Below w.heap.size w (w2.setCell ⟨w.heap.size, 2, none⟩ (.slice (some ⟨g, 0, none⟩) L.length cp)) := (bc hb1 HB2.out).setCell (Nat.le_refl _) _
  generalize w2.setCell ⟨w.heap.size, 2, none⟩ (.slice (some ⟨g, 0, none⟩) L.length cp) = W3 at Z0 Z2 O3 b3 ⊢
  obtain ⟨⟨q0, q1, q2, q3⟩, z0, z1, z2', z3⟩ := own_four O3 rfl HK.out
  have O5 := ((O3.stored (i * 4 + 2) (.bool true)).1.stored (i * 4 + 3) (.int .i64 x)).1
  have hfin : ((flatB L).set (i * 4 + 2) (.bool true)).set (i * 4 + 3) (.int .i64 x) = flatB (L.set i { k with f := true, a := x }) := (flatB_set2 L i k x HK.out).symm
  rw [hfin] at O5
  have A1 := Z0.set_other ⟨g, i * 4 + 2, none⟩ (.bool true) (Ne.symm hgne)
  have A2 := A1.set_other ⟨g, i * 4 + 3, none⟩ (.int .i64 x) (Ne.symm hgne)
  have D2 := (Z2.set_other ⟨g, i * 4 + 2, none⟩ (.bool true) (Ne.symm hgne2)).set_other ⟨g, i * 4 + 3, none⟩ (.int .i64 x) (Ne.symm hgne2)
  have e2 := Z0.cell 2 _ rfl
  have e2' := A1.cell 2 _ rfl
  have HZ := Lib.hid (And.intro A2 (And.intro D2 (And.intro O5 b3)))
  have HGB := Lib.hid (And.intro hgne (And.intro hgne2 (And.intro hg0 (And.intro hs1 hs2))))
  have hil : (i : Int) < (L.length : Int) := by omega
  clear Z0 Z2 O3 b3 O5 hfin A1 A2 D2 hgne hgne2 hg0 hs1 hs2 hb1 d0 d1 d2 z2
  go_region
  obtain ⟨A2, D2, O5, b3⟩ := HZ.out
  obtain ⟨hgne, hgne2, hg0, hs1, hs2⟩ := HGB.out
  have b5 := (b3.setCell (show w.heap.size ≤ (⟨g, i * 4 + 2, none⟩ : Addr).block from by show w.heap.size ≤ g; omega) (.bool true)).setCell (show w.heap.size ≤ (⟨g, i * 4 + 3, none⟩ : Addr).block from by show w.heap.size ≤ g; omega) (.int .i64 x)
  clear HZ e2' e2 q0 q1 q2 q3 z0 z1 z2' z3 b3
  generalize ((W3.setCell ⟨g, i * 4 + 2, none⟩ (.bool true)).setCell ⟨g, i * 4 + 3, none⟩ (.int .i64 x)) = W4 at A2 D2 O5 b5 ⊢
  have c0 := A2.cell 0 _ rfl
  have c1 := A2.cell 1 _ rfl
  have c2 := A2.cell 2 _ rfl
  obtain ⟨⟨⟨r0, r1, r2⟩, f0, f1, f2⟩, s0, s1, s2, -⟩ := D2.store3 (.int .u64 (b : Int)) (.int .u64 (t : Int)) (.slice (some ⟨g, 0, none⟩) L.length cp)
  have HB5 := Lib.hid b5
  have HO5 := Lib.hid O5
  clear b5 O5 A2 D2 hgne hgne2 hg0
  go_wp2
  refine bodyPost_ret (v := .tuple #[heapV b t (.slice (some ⟨g, 0, none⟩) L.length cp), .int .i64 0]) (by simp [results, Try.results42, go_sem, s0, s1, s2]) rfl ⟨⟨_, rfl, ?_⟩, ?_⟩
  · exact own_rowB (own_set (own_set (own_set HO5.out _ _ (by show w.heap.size + 1 + 1 < w1.heap.size; omega)) _ _ (by show w.heap.size + 1 + 1 < w1.heap.size; omega)) _ _ (by show w.heap.size + 1 + 1 < w1.heap.size; omega)) (List.length_set).symm
  · exact bd (set3_below HB5.out (by omega) _ _ _)
end Go.Proofs.Ytdnhjkmcogbaoaa
