/-
  heap.New, Blocks, Give, Settle.
-/
import Derived.Test.YtdnhjkmcogbaoaaHeapD
import Derived.Test.YtdnhjkmcogbaoaaBetwA
namespace Go.Proofs.Ytdnhjkmcogbaoaa
open Go.RowKit
theorem newH_any (b t z o : Nat) (hbt : b < t) (ht : t ≤ 274877906944) (ho : bits .or .u64 (b : Int) (t : Int) = (o : Int)) (ho64 : o < 18446744073709551616) (hz : zerosOf o = z) (hz4 : 4 ≤ z) (w : World) :
    Calls Try.prog 40 #[.agg #[.int .u64 b, .int .u64 t]] w fun e w' => e = .returned (.tuple #[heapV b t (.slice none 0 0), .int .i64 0]) ∧ Below w.heap.size w w' := by
  have HZ := Lib.hid (zeros_any o ho64)
  rw [hz] at HZ
  clear hz ho64
  have h1 : decide (t ≤ b) = false := decide_eq_false (by omega)
  have h2 : decide ((z : Int) < 4) = false := decide_eq_false (by omega)
  have h3 : decide ((274877906944 : Int) < (t : Int)) = false := decide_eq_false (by omega)
  go_enter Try.func40, Try.ntmps40
  go_wp2_with (first | ((with_reducible (go_at_call 24; refine (HZ.out _).mono ?_)); rintro e1 w1 ⟨rfl, hb1⟩; obtain ⟨⟨⟨c0, c1⟩, -, -⟩, -⟩ := (((HB.new w #[.int .u64 (b : Int), .int .u64 (t : Int)] 51).alloc (.cells #[.int .u64 0, .int .u64 0, .slice none 0 0] 54)).callee hb1).store2 undef undef; obtain ⟨⟨⟨r0, r1, r2⟩, f0, f1, f2⟩, s0, s1, s2, -⟩ := ((HB.new' (w.alloc (.cells #[.int .u64 (b : Int), .int .u64 (t : Int)] 51)) #[.int .u64 0, .int .u64 0, .slice none 0 0] 54 (w.heap.size + 1) (by simp)).callee hb1).store3 (.int .u64 (b : Int)) (.int .u64 (t : Int)) (.slice none 0 0)))
  refine bodyPost_ret (v := .tuple #[heapV b t (.slice none 0 0), .int .i64 0]) (by simp [results, Try.results40, go_sem, s0, s1, s2]) rfl ⟨rfl, ?_⟩
  exact set3_below (bc (ba (ba (Below.refl _ _) _) _) hb1) (Nat.le_add_right _ _) _ _ _
theorem HB.under {W W' : World} {g B : Nat} {cs : Array Value} {t : TypeId} (h : HB W g cs t) (k : Below B W W') (hg : g < B) : HB W' g cs t := (k.block g hg).trans h
theorem own_pos {w : World} {B : Nat} {e : TypeId} {size : Nat} {v : Value} {n : Nat} {xs : List Value} (h : w.ownsRow B e size v n xs) (hn : 0 < n) : ∃ g cap, v = .slice (some ⟨g, 0, none⟩) n cap ∧ B ≤ g := by
  rcases h.2 with ⟨_, h0⟩ | ⟨g, cap, cur, rfl, hb, _⟩
  · omega
  · exact ⟨g, cap, rfl, hb⟩
theorem own_slice {w : World} {B : Nat} {e : TypeId} {size : Nat} {v : Value} {n : Nat} {xs : List Value} (h : w.ownsRow B e size v n xs) : ∃ a cap, v = .slice a n cap := by
  rcases h.2 with ⟨rfl, h0⟩ | ⟨g, cap, cur, rfl, hb, _⟩
  · exact ⟨none, 0, by rw [h0]⟩
  · exact ⟨_, cap, rfl⟩
theorem own_set {w : World} {B : Nat} {e : TypeId} {size : Nat} {v : Value} {n : Nat} {xs : List Value} (h : w.ownsRow B e size v n xs) (p : Addr) (u : Value) (hp : p.block < B) : (w.setCell p u).ownsRow B e size v n xs := by
  refine World.ownsRow.kept h (row := some p.block) ⟨rfl, rfl, rfl, by simp, fun k _ hk => Below.heap_setCell w p u k (fun e => hk (by rw [e]))⟩ ?_
  cases hv : v.ownBlock with
  | none => exact .inl rfl
  | some q => exact .inr (fun e => by have h1 := (h.lt q hv).1; have h2 : q = p.block := Option.some.inj e; omega)
theorem cloneB (s : Value) (L : List Blk) (w : World) (hs : RowB w s L) (hLn : L.length ≤ 1000) :
    Calls Try.prog 67 #[s] w fun e w' => ∃ v', e = .returned v' ∧ w'.ownsRow w.heap.size 103 4 v' L.length (flatB L) ∧ Below w.heap.size w w' :=
  clone103 s L.length (flatB L) w hs (flatB_one L) hLn
theorem blocksH (b t : Nat) (s : Value) (L : List Blk) (w : World) (hs : RowB w s L) (hLn : L.length ≤ 1000) :
    Calls Try.prog 44 #[heapV b t s] w fun e w' => (∃ v', e = .returned v' ∧ RowB w' v' L) ∧ Below w.heap.size w w' := by
  have HS := Lib.hid (cloneB s L (w.alloc (.cells #[.int .u64 (b : Int), .int .u64 (t : Int), s] 54)) (hs.below (ba (Below.refl _ _) _)) hLn)
  clear hs
  go_enter Try.func44, Try.ntmps44
  go_wp2_with (first | ((with_reducible (go_at_call 67; refine HS.out.mono ?_)); rintro e1 w1 ⟨v', rfl, ho, hb1⟩))
  go_ret
  exact ⟨⟨_, rfl, own_rowB ho rfl⟩, bc (ba (Below.refl _ _) _) hb1⟩
theorem settleH (b t : Nat) (s : Value) (L : List Blk) (now : Int) (w : World) (hs : RowB w s L) (hL0 : 0 < L.length) (hLn : L.length ≤ 1000) (ha : ∀ k ∈ L, 0 ≤ k.a ∧ k.a ≤ 1099511627776) :
    Calls Try.prog 45 #[heapV b t s, .int .i64 now] w fun e w' => (∃ s', e = .returned (heapV b t s') ∧ RowB w' s' (L.filter (fun k => !goneB now k))) ∧ Below w.heap.size w w' := by
  have HS := Lib.hid (cloneB s L (((w.alloc (.cells #[.int .u64 (b : Int), .int .u64 (t : Int), s] 54)).alloc (.cells #[.int .i64 now] 3)).alloc (.cells #[.int .u64 0, .int .u64 0, .slice none 0 0] 54)) (hs.below (ba (ba (ba (Below.refl _ _) _) _) _)) hLn)
  have HA := Lib.hid ha
  clear hs ha
  go_enter Try.func45, Try.ntmps45
  go_wp2_with (first | ((with_reducible (go_at_call 67; refine HS.out.mono ?_)); rintro e1 w1 ⟨v', rfl, ho, hb1⟩; obtain ⟨g, cap, rfl, hg⟩ := own_pos ho hL0; have X0 := Lib.hid (((HB.new w #[.int .u64 (b : Int), .int .u64 (t : Int), s] 54).alloc (.cells #[.int .i64 now] 3)).alloc (.cells #[.int .u64 0, .int .u64 0, .slice none 0 0] 54)); have X1 := Lib.hid ((HB.new' (w.alloc (.cells #[.int .u64 (b : Int), .int .u64 (t : Int), s] 54)) #[.int .i64 now] 3 (w.heap.size + 1) (by simp)).alloc (.cells #[.int .u64 0, .int .u64 0, .slice none 0 0] 54)); have X2 := Lib.hid (HB.new' ((w.alloc (.cells #[.int .u64 (b : Int), .int .u64 (t : Int), s] 54)).alloc (.cells #[.int .i64 now] 3)) #[.int .u64 0, .int .u64 0, .slice none 0 0] 54 (w.heap.size + 1 + 1) (by simp)); have HD := Lib.hid (deleteB g cap L now w1 _ (w.heap.size + 1) ho hLn (X1.out.callee hb1) (by simp at hg; omega) hb1.size HA.out); have HB1 := Lib.hid hb1; clear ho hb1 hg) | ((with_reducible (go_at_call 71; refine HD.out.mono ?_)); rintro e1 w2 ⟨v'', rfl, ho2, hb2⟩; obtain ⟨ax, cx, rfl⟩ := own_slice ho2; have Y0 := (X0.out.callee HB1.out).under hb2 (by simp; omega); have Y2 := (X2.out.callee HB1.out).under hb2 (by simp); have c0 := Y0.cell 0 _ rfl; have c1 := Y0.cell 1 _ rfl; have c2 := Y0.cell 2 _ rfl; have f2 := Y0.frozen 2; obtain ⟨⟨⟨r0, r1, r2⟩, z0, z1, z2⟩, -⟩ := Y2.store3 undef undef undef; have HO2 := Lib.hid ho2; have HB2 := Lib.hid hb2; clear ho2 hb2))
  generalize hfl : L.filter (fun k => !goneB now k) = M at HO2 ⊢
  have HX2 := (X2.out.callee HB1.out).under HB2.out (by simp)
  obtain ⟨-, s0, s1, s2, -⟩ := (HX2.set_other ⟨w.heap.size, 2, none⟩ (.slice ax M.length cx) (by show w.heap.size + 1 + 1 ≠ w.heap.size; omega)).store3 (.int .u64 (b : Int)) (.int .u64 (t : Int)) (.slice ax M.length cx)
  refine bodyPost_ret (v := heapV b t (.slice ax M.length cx)) (by simp [results, Try.results45, go_sem, s0, s1, s2]) rfl ⟨⟨_, rfl, ?_⟩, ?_⟩
  · exact own_rowB (own_set (own_set (own_set (own_set HO2.out _ _ (by simp; omega)) _ _ (by simp)) _ _ (by simp)) _ _ (by simp)) rfl
  · have h1 : Below w.heap.size w w1 := bc (ba (ba (ba (Below.refl _ _) _) _) _) HB1.out
    exact set3_below ((h1.trans (HB2.out.mono (by simp; omega))).setCell (Nat.le_refl _) _) (by omega) _ _ _
end Go.Proofs.Ytdnhjkmcogbaoaa
