/-
  The span that is chosen: the contracts of bounds.choose, Rounded, Encode, Length and Align.
-/
import Derived.Test.YtdnhjkmcogbaoaaBoxA
import Derived.Test.YtdnhjkmcogbaoaaScaleC
namespace Go.Proofs.Ytdnhjkmcogbaoaa
open Go.RowKit
theorem set2_below {a X : World} {g : Nat} (h : Below a.heap.size a X) (hg : a.heap.size ≤ g) (d u : Value) : Below a.heap.size a ((X.setCell ⟨g, 0, none⟩ d).setCell ⟨g, 1, none⟩ u) := (h.setCell hg _).setCell hg _
theorem choose_short (b t : Nat) (hbt : b ≤ t) (ht : t ≤ 281474976710656) (hn : t - b < 4096) (w : World) :
    Calls Try.prog 78 #[.agg #[.int .u64 b, .int .u64 t]] w fun e w' => e = .returned (.tuple #[.int .u64 0, .agg #[.int .u64 b, .int .u64 t]]) ∧ Below w.heap.size w w' := by
  have h1 : decide ((t : Int) - b < 4096) = true := decide_eq_true (by omega)
  go_enter Try.func78, Try.ntmps78
  go_wp2
  go_region
  go_wp2
  refine bodyPost_ret (v := .tuple #[.int .u64 0, .agg #[.int .u64 b, .int .u64 t]]) (by simp [results, Try.results78, go_sem]) rfl ⟨rfl, ?_⟩
  exact bd (ba (ba (Below.refl _ _) _) _)

theorem choose_once (b t x d u q : Nat) (hbt : b ≤ t) (ht : t ≤ 281474976710656) (hn : 4096 ≤ t - b) (hx40 : x ≤ 36) (hx : Lib.bitLen (t - b) = x + 13) (hd : dn b x = d) (hu : up t x = u) (hq : (u - d) / 2 ^ x = q) (hs : q < 8192) (w : World) :
    Calls Try.prog 78 #[.agg #[.int .u64 b, .int .u64 t]] w fun e w' => e = .returned (.tuple #[.int .u64 ((x + 1 : Nat) : Int), .agg #[.int .u64 d, .int .u64 u]]) ∧ Below w.heap.size w w' := by
  have h1 : decide ((t : Int) - b < 4096) = false := decide_eq_false (by omega)
  have h2 : decide (8192 ≤ (q : Int)) = false := decide_eq_false (by omega)
  have HL := Lib.hid (log_any (t - b) (by omega))
  rw [show ((t - b : Nat) : Int) = (t : Int) - b from by omega, hx, show ((x + 13 : Nat) : Int) - 1 = (x : Int) + 12 from by omega] at HL
  have HK := Lib.hid (kept_any b t x hbt ht (by omega))
  rw [hd, hu, hq] at HK
  clear hd hu hq hx hs
  go_enter Try.func78, Try.ntmps78
  go_wp2_with (first | ((with_reducible (go_at_call 25; refine (HL.out _).mono ?_)); rintro e1 w1 ⟨rfl, rfl⟩) | ((with_reducible (go_at_call 94; refine (HK.out _).mono ?_)); rintro e1 w1 ⟨rfl, hb1⟩))
  have B0 := ((HB.new' (w.alloc (.cells #[.int .u64 (b : Int), .int .u64 (t : Int)] 51)) #[.int .u64 0, .int .u64 0] 51 (w.heap.size + 1) (by simp)).callee hb1).alloc (.cells #[.int .u64 (d : Int), .int .u64 (u : Int)] 51)
  have B1 := B0.set 0 (.int .u64 (d : Int))
  have B2 := B1.set 1 (.int .u64 (u : Int))
  have c0 := B0.cell 0 _ rfl
  have c1 := B0.cell 1 _ rfl
  have f0 := B0.frozen 0
  have f1 := B0.frozen 1
  have s0 := B1.cell 0 _ rfl
  have s1 := B2.cell 1 _ rfl
  go_region
  go_wp2
  refine bodyPost_ret (v := .tuple #[.int .u64 ((x + 1 : Nat) : Int), .agg #[.int .u64 d, .int .u64 u]]) (by simp [results, Try.results78, go_sem, s0, s1]) rfl ⟨rfl, ?_⟩
  exact bd (set2_below (ba (bc (ba (ba (Below.refl _ _) _) _) hb1) _) (Nat.le_add_right _ _) _ _)
theorem choose_twice (b t x d u q d' u' q' : Nat) (hbt : b ≤ t) (ht : t ≤ 281474976710656) (hn : 4096 ≤ t - b) (hx40 : x ≤ 36) (hx : Lib.bitLen (t - b) = x + 13) (hd : dn b x = d) (hu : up t x = u) (hq : (u - d) / 2 ^ x = q) (hs : 8192 ≤ q)
    (hd' : dn b (x + 1) = d') (hu' : up t (x + 1) = u') (hq' : (u' - d') / 2 ^ (x + 1) = q') (w : World) :
    Calls Try.prog 78 #[.agg #[.int .u64 b, .int .u64 t]] w fun e w' => e = .returned (.tuple #[.int .u64 ((x + 2 : Nat) : Int), .agg #[.int .u64 d', .int .u64 u']]) ∧ Below w.heap.size w w' := by
  have h1 : decide ((t : Int) - b < 4096) = false := decide_eq_false (by omega)
  have h2 : decide (8192 ≤ (q : Int)) = true := decide_eq_true (by omega)
  have HL := Lib.hid (log_any (t - b) (by omega))
  rw [show ((t - b : Nat) : Int) = (t : Int) - b from by omega, hx, show ((x + 13 : Nat) : Int) - 1 = (x : Int) + 12 from by omega] at HL
  have HK := Lib.hid (kept_any b t x hbt ht (by omega))
  rw [hd, hu, hq] at HK
  have HJ := Lib.hid (kept_any b t (x + 1) hbt ht (by omega))
  rw [hd', hu', hq', show ((x + 1 : Nat) : Int) = (x : Int) + 1 from by omega] at HJ
  clear hd hu hq hx hs hd' hu' hq'
  go_enter Try.func78, Try.ntmps78
  go_wp2_with (first | ((with_reducible (go_at_call 25; refine (HL.out _).mono ?_)); rintro e1 w1 ⟨rfl, rfl⟩) | ((with_reducible (go_at_call 94; refine (HK.out _).mono ?_)); rintro e1 w1 ⟨rfl, hb1⟩; have A0 := (((HB.new w #[.int .u64 (b : Int), .int .u64 (t : Int)] 51).alloc (.cells #[.int .u64 0, .int .u64 0] 51)).callee hb1).alloc (.cells #[.int .u64 (d : Int), .int .u64 (u : Int)] 51); have a0 := A0.cell 0 _ rfl; have a1 := A0.cell 1 _ rfl) | ((with_reducible (go_at_call 94; refine (HJ.out _).mono ?_)); rintro e1 w2 ⟨rfl, hb2⟩; have C0 := (HB.new w1 #[.int .u64 (d : Int), .int .u64 (u : Int)] 51).callee hb2; have C1 := C0.set 0 (.int .u64 (d' : Int)); have C2 := C1.set 1 (.int .u64 (u' : Int)); have cc0 := C0.cell 0 _ rfl; have cc1 := C0.cell 1 _ rfl; have cf0 := C0.frozen 0; have cf1 := C0.frozen 1; have cs0 := C2.cell 0 _ rfl; have cs1 := C2.cell 1 _ rfl))
  have D1 := (HB.new' (w.alloc (.cells #[.int .u64 (b : Int), .int .u64 (t : Int)] 51)) #[.int .u64 0, .int .u64 0] 51 (w.heap.size + 1) (by simp)).callee hb1
  have hne : w.heap.size + 1 ≠ w1.heap.size := Nat.ne_of_lt D1.lt
  have D3 := (((D1.alloc (.cells #[.int .u64 (d : Int), .int .u64 (u : Int)] 51)).callee hb2).set_other ⟨w1.heap.size, 0, none⟩ (.int .u64 (d' : Int)) hne).set_other ⟨w1.heap.size, 1, none⟩ (.int .u64 (u' : Int)) hne
  have D4 := D3.set 0 (.int .u64 (d' : Int))
  have D5 := D4.set 1 (.int .u64 (u' : Int))
  have c0 := D3.cell 0 _ rfl
  have c1 := D3.cell 1 _ rfl
  have f0 := D3.frozen 0
  have f1 := D3.frozen 1
  have s0 := D4.cell 0 _ rfl
  have s1 := D5.cell 1 _ rfl
  go_region
  go_wp2
  refine bodyPost_ret (v := .tuple #[.int .u64 ((x + 2 : Nat) : Int), .agg #[.int .u64 d', .int .u64 u']]) (by simp [results, Try.results78, go_sem, s0, s1, Int.add_assoc]) rfl ⟨rfl, ?_⟩
  have hw1 := (bc (ba (ba (Below.refl w.heap.size w) _) _) hb1)
  exact bd (set2_below (set2_below (bc (ba hw1 _) hb2) hw1.size _ _) (Nat.le_add_right _ _) _ _)
/-- What choose tells of a span. -/
abbrev ChooseIs (b t e d u : Nat) : Prop := ∀ w : World, Calls Try.prog 78 #[.agg #[.int .u64 b, .int .u64 t]] w fun r w' => r = .returned (.tuple #[.int .u64 (e : Int), .agg #[.int .u64 d, .int .u64 u]]) ∧ Below w.heap.size w w'
theorem rounded_any (b t e d u : Nat) (hbt : b ≤ t) (ht : t ≤ 281474976710656) (hc : ChooseIs b t e d u) (w : World) :
    Calls Try.prog 97 #[.agg #[.int .u64 b, .int .u64 t]] w fun r w' => r = .returned (.tuple #[.agg #[.int .u64 d, .int .u64 u], .bool true]) ∧ Below w.heap.size w w' := by
  have HM := Lib.hid (may_any b t)
  rw [show mayB b t = true from decide_eq_true ⟨hbt, ht⟩] at HM
  have HC := Lib.hid hc
  clear hc
  go_enter Try.func97, Try.ntmps97
  go_wp2_with (first | ((with_reducible (go_at_call 77; refine (HM.out _).mono ?_)); rintro e1 w1 ⟨rfl, hb1⟩; have A0 := ((HB.new w #[.int .u64 (b : Int), .int .u64 (t : Int)] 51).alloc (.cells #[.int .u64 0, .int .u64 0] 51)).callee hb1; have a0 := A0.cell 0 _ rfl; have a1 := A0.cell 1 _ rfl) | ((with_reducible (go_at_call 78; refine (HC.out _).mono ?_)); rintro e1 w2 ⟨rfl, hb2⟩; obtain ⟨⟨⟨c0, c1⟩, f0, f1⟩, s0, s1, -⟩ := ((((HB.new' (w.alloc (.cells #[.int .u64 (b : Int), .int .u64 (t : Int)] 51)) #[.int .u64 0, .int .u64 0] 51 (w.heap.size + 1) (by simp)).callee hb1).callee hb2).alloc (.cells #[.int .u64 (d : Int), .int .u64 (u : Int)] 51)).store2 (.int .u64 (d : Int)) (.int .u64 (u : Int))))
  refine bodyPost_ret (v := .tuple #[.agg #[.int .u64 d, .int .u64 u], .bool true]) (by simp [results, Try.results97, go_sem, s0, s1]) rfl ⟨rfl, ?_⟩
  exact (set2_below (ba (bc (bc (ba (ba (Below.refl _ _) _) _) hb1) hb2) _) (Nat.le_add_right _ _) _ _)
theorem length_any (n e d u : Nat) (ht : n ≤ 281474976710656) (hc : ChooseIs 0 n e d u) (w : World) :
    Calls Try.prog 90 #[.int .u64 n] w fun r w' => r = .returned (.tuple #[.int .u64 u, .bool true]) ∧ Below w.heap.size w w' := by
  have HR := Lib.hid (rounded_any 0 n e d u (Nat.zero_le _) ht hc)
  rw [show ((0 : Nat) : Int) = 0 from rfl] at HR
  clear hc
  go_enter Try.func90, Try.ntmps90
  go_wp2_with (first | ((with_reducible (go_at_call 97; refine (HR.out _).mono ?_)); rintro e1 w1 ⟨rfl, hb1⟩))
  refine bodyPost_ret (v := .tuple #[.int .u64 u, .bool true]) (by simp [results, Try.results90, go_sem]) rfl ⟨rfl, ?_⟩
  exact ba (bc (Below.refl _ _) hb1) _
theorem encode_exact (b t e : Nat) (hbt : b ≤ t) (ht : t ≤ 281474976710656) (he : e < 64) (hc : ChooseIs b t e b t) (w : World) :
    Calls Try.prog 51 #[.agg #[.int .u64 b, .int .u64 t]] w fun r w' => (∃ x y : Int, r = .returned (.tuple #[.agg #[.int .u64 x, .int .u64 y, .int .u64 (e : Int)], .bool true])) ∧ Below w.heap.size w w' := by
  have HM := Lib.hid (may_any b t)
  rw [show mayB b t = true from decide_eq_true ⟨hbt, ht⟩] at HM
  have HC := Lib.hid hc
  have HS := Lib.hid (shift_any e (by omega))
  clear hc
  generalize he1 : e - 1 = e1 at HS
  have he2 : e1 < 64 := by omega
  clear he1
  go_enter Try.func51, Try.ntmps51
  go_wp2_with (first | ((with_reducible (go_at_call 77; refine (HM.out _).mono ?_)); rintro e1 w1 ⟨rfl, hb1⟩; have A0 := ((HB.new w #[.int .u64 (b : Int), .int .u64 (t : Int)] 51).alloc (.cells #[.int .u64 0, .int .u64 0, .int .u64 0] 77)).callee hb1; have a0 := A0.cell 0 _ rfl; have a1 := A0.cell 1 _ rfl) | ((with_reducible (go_at_call 78; refine (HC.out _).mono ?_)); rintro e1 w2 ⟨rfl, hb2⟩) | ((with_reducible (go_at_call 79; refine (HS.out _).mono ?_)); rintro e1 w3 ⟨rfl, rfl⟩))
  obtain ⟨⟨⟨c0, c1, c2⟩, ⟨f0, f1, f2⟩⟩, s0, s1, s2, -⟩ := ((((HB.new' (w.alloc (.cells #[.int .u64 (b : Int), .int .u64 (t : Int)] 51)) #[.int .u64 0, .int .u64 0, .int .u64 0] 77 (w.heap.size + 1) (by simp)).callee hb1).callee hb2).alloc (.cells #[.int .u64 (b : Int), .int .u64 (t : Int)] 51)).store3 (.int .u64 (bits .and .u64 ((b : Int) / 2 ^ e1) 16383)) (.int .u64 (bits .and .u64 ((t : Int) / 2 ^ e1) 4095)) (.int .u64 (e : Int))
  obtain ⟨⟨b0, b1⟩, -, -⟩ := ((((HB.new w #[.int .u64 (b : Int), .int .u64 (t : Int)] 51).alloc (.cells #[.int .u64 0, .int .u64 0, .int .u64 0] 77)).callee hb1).callee hb2).alloc (.cells #[.int .u64 (b : Int), .int .u64 (t : Int)] 51) |>.two
  have hg : w.heap.size + 1 < w2.heap.size := (((HB.new' (w.alloc (.cells #[.int .u64 (b : Int), .int .u64 (t : Int)] 51)) #[.int .u64 0, .int .u64 0, .int .u64 0] 77 (w.heap.size + 1) (by simp)).callee hb1).callee hb2).lt
  have E0 := (HB.new w2 #[.int .u64 (b : Int), .int .u64 (t : Int)] 51).set_other ⟨w.heap.size + 1, 0, none⟩ (.int .u64 (bits .and .u64 ((b : Int) / 2 ^ e1) 16383)) (Nat.ne_of_gt hg)
  have E1 := E0.set_other ⟨w.heap.size + 1, 1, none⟩ (.int .u64 (bits .and .u64 ((t : Int) / 2 ^ e1) 4095)) (Nat.ne_of_gt hg)
  have e0 := E0.two.1.1
  have e1' := E1.two.1.2
  clear hg
  go_region
  go_wp2
  refine bodyPost_ret (v := .tuple #[.agg #[.int .u64 (bits .and .u64 ((b : Int) / 2 ^ e1) 16383), .int .u64 (bits .and .u64 ((t : Int) / 2 ^ e1) 4095), .int .u64 (e : Int)], .bool true]) (by simp [results, Try.results51, go_sem, s0, s1, s2]) rfl ⟨⟨_, _, rfl⟩, ?_⟩
  exact bd (set3_below (ba (bc (bc (ba (ba (Below.refl _ _) _) _) hb1) hb2) _) (Nat.le_add_right _ _) _ _ _)
theorem align_exact (n e : Nat) (ht : n ≤ 281474976710656) (he : e < 64) (hc : ChooseIs 0 n e 0 n) (w : World) :
    Calls Try.prog 91 #[.int .u64 n] w fun r w' => r = .returned (.tuple #[.int .i64 ((e - 1 : Nat) : Int), .bool true]) ∧ Below w.heap.size w w' := by
  have HR := Lib.hid (encode_exact 0 n e (Nat.zero_le _) ht he hc)
  rw [show ((0 : Nat) : Int) = 0 from rfl] at HR
  have HS := Lib.hid (shift_any e (by omega))
  have h1 : decide ((n : Int) ≤ 281474976710656) = true := decide_eq_true (by omega)
  clear hc
  go_enter Try.func91, Try.ntmps91
  go_wp2_with (first | ((with_reducible (go_at_call 51; refine (HR.out _).mono ?_)); rintro e1 w1 ⟨⟨x, y, rfl⟩, hb1⟩) | ((with_reducible (go_at_call 79; refine (HS.out _).mono ?_)); rintro e1 w3 ⟨rfl, rfl⟩))
  refine bodyPost_ret (v := .tuple #[.int .i64 ((e - 1 : Nat) : Int), .bool true]) (by simp [results, Try.results91, go_sem]) rfl ⟨rfl, ?_⟩
  exact ba (bc (Below.refl _ _) hb1) _
end Go.Proofs.Ytdnhjkmcogbaoaa
