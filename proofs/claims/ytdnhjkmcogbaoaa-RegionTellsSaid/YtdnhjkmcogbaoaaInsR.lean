/-
  slices.Insert of one element, and slices.Clone, at []region.Region.
-/
import Derived.Test.YtdnhjkmcogbaoaaCopyB
import Derived.Test.YtdnhjkmcogbaoaaCollA
import Derived.WalkKit
namespace Go.Proofs.Ytdnhjkmcogbaoaa
open Go.RowKit
theorem info82' : (Try.prog.info? 82).map (·.size) = some 3 := by kernel_rfl
theorem overlaps82 (w : World) (vb g o c lb cb : Nat) (x : Array Value) (cur : Array Value) (t t' : TypeId) (hx : HB w vb x t) (hg : HB w g cur t') (hne : vb ≠ g) (hc : cur.size ≠ 0) :
    (callFunc 95 #[.slice (some ⟨vb, 0, none⟩) 1 c, .slice (some ⟨g, o, none⟩) lb cb]).run Try.prog w = .ok (.value (.bool false)) w := by
  unfold HB at hx hg
  rw [run_callFunc_extern Try.func95 (by kernel_rfl) (by kernel_rfl) (by kernel_rfl) (e := Extern.SlicesOverlaps.overlaps #[69, 69] #[4]) (by kernel_rfl),
    Lib.run_overlaps_apart w 69 4 82 Try.underlying69 3 (fun w => by kernel_rfl) ⟨vb, 0, none⟩ ⟨g, o, none⟩ 1 c lb cb hne t t' x.size cur.size (by simp [World.shape?, hx]) (by simp [World.shape?, hg]) hc (by simp [World.frozen?, hx]) (by simp [World.frozen?, hx])]
  rfl
theorem info82 : ∃ i, Try.prog.info? 82 = some i ∧ i.zero = some (.agg #[.int .u64 0, .int .u64 0, .int .i64 0]) ∧ i.size = 3 ∧ i.bytes = 24 := by
  have h : (Try.prog.info? 82).map (fun i => (i.zero, i.size, i.bytes)) = some (some (.agg #[.int .u64 0, .int .u64 0, .int .i64 0]), 3, 24) := by kernel_rfl
  obtain ⟨i, hi, hx⟩ := Option.map_eq_some_iff.1 h
  simp only [Prod.mk.injEq] at hx
  exact ⟨i, hi, hx.1, hx.2.1, hx.2.2⟩
set_option maxRecDepth 100000 in
theorem insert_end82 (v : Value) (n : Nat) (xs : List Value) (B vb : Nat) (x : List Value) (w : World) (hown : w.ownsRow B 82 3 v n xs) (hn : n ≤ 1000) (hxl : x.length = 3) (hx1 : ∀ u ∈ x, u.oneCell' = true) (hx : HB w vb x.toArray 82) (hB : B ≤ w.heap.size) :
    Calls Try.prog 85 #[v, .int .i64 n, .slice (some ⟨vb, 0, none⟩) 1 1] w fun e w' => ∃ v', e = .returned v' ∧ w'.ownsRow B 82 3 v' (n + 1) (xs ++ x) ∧ Below B w w' := by
  obtain ⟨i0, hi, hz0, hz1, hz2⟩ := info82
  have hxc : ∀ j u, x[j]? = some u → w.cell? ((⟨vb, 0, none⟩ : Addr).add j) = some u := fun j u hu => by
    rw [Addr.add_lit, Nat.zero_add]; exact hx.cell j u (by simpa using hu)
  have HX := Lib.hid hx
  have HO := Lib.hid hown
  clear hx
  rcases hown.2 with ⟨rfl, rfl⟩ | ⟨g, cap, cur, rfl, hBg, hg, hnc, hcm, hcs, htake⟩
  · go_enter Try.func85, Try.ntmps85
    go_wp2_with (first | (at_builtin; refine wpList_append_own _ rfl _ _ 69 rfl B 82 i0 _ 3 24 Try.underlying69 hi hz0 hz1 hz2 rfl (by decide) _ 0 xs rfl hown ⟨vb, 0, none⟩ 1 1 x rfl hxl hxc hx1 (by unfold maxLen; omega) (by omega) hB ?_; intro v' w1 hown' hgrow _))
    go_ret
    exact ⟨_, rfl, by simpa using hown', (Below.refl _ _).grown hgrow hB (fun k hk => by cases hk)⟩
  · clear htake hg hcs hown
    go_enter Try.func85, Try.ntmps85
    go_wp2_with (first | (at_builtin; refine wpList_append_own _ rfl _ _ 69 rfl B 82 i0 _ 3 24 Try.underlying69 hi hz0 hz1 hz2 rfl (by decide) _ n xs rfl HO.out ⟨vb, 0, none⟩ 1 1 x rfl hxl hxc hx1 (by unfold maxLen; omega) (by omega) hB ?_; intro v' w1 hown' hgrow _))
    all_goals go_ret
    all_goals exact ⟨_, rfl, by simpa using hown', (Below.refl _ _).grown hgrow hB (fun k hk => by cases hk; exact hBg)⟩
set_option maxRecDepth 100000 in
theorem insert_grow82 (g cap n i : Nat) (xs : List Value) (B vb : Nat) (x : List Value) (w : World) (hown : w.ownsRow B 82 3 (.slice (some ⟨g, 0, none⟩) n cap) n xs) (hn : n ≤ 1000) (hin : i < n) (hcap : cap < n + 1) (hxs1 : ∀ u ∈ xs, u.oneCell' = true) (hxl : x.length = 3) (hx1 : ∀ u ∈ x, u.oneCell' = true) (hx : HB w vb x.toArray 82) (hB : B ≤ w.heap.size) :
    Calls Try.prog 85 #[.slice (some ⟨g, 0, none⟩) n cap, .int .i64 i, .slice (some ⟨vb, 0, none⟩) 1 1] w fun e w' => ∃ v', e = .returned v' ∧ w'.ownsRow B 82 3 v' (n + 1) (xs.take (i * 3) ++ (x ++ xs.drop (i * 3))) ∧ Below B w w' := by
  obtain ⟨i0, hi, hz0, hz1, hz2⟩ := info82
  have hxc : ∀ W : World, HB W vb x.toArray 82 → ∀ j u, x[j]? = some u → W.cell? ((⟨vb, 0, none⟩ : Addr).add j) = some u := fun W hW j u hu => by
    rw [Addr.add_lit, Nat.zero_add]; exact hW.cell j u (by simpa using hu)
  have hxsl := hown.1
  have hcells : ∀ j u, xs[j]? = some u → w.cell? ⟨g, j, none⟩ = some u := fun j u hu => by
    have := hown.cells (g := g) rfl j u hu
    rwa [Addr.add_lit, Nat.zero_add] at this
  have HX := Lib.hid hx
  have HO := Lib.hid hown
  have HC := Lib.hid hcells
  have HW := Lib.hid hxc
  have hb1 : ¬ ((i : Int) = (n : Int)) := by omega
  have hb2 : (cap : Int) < (n : Int) + 1 := by omega
  have hb3 : ¬ (cap = i) := by have := HO.out; rcases this.2 with ⟨h, _⟩ | ⟨_, _, _, h, _, _, h2, _⟩; · cases h
                               · cases h; omega
  have hb4 : i ≤ cap := by have := HO.out; rcases this.2 with ⟨h, _⟩ | ⟨_, _, _, h, _, _, h2, _⟩; · cases h
                           · cases h; omega
  have hkk : (n : Int) + 1 - (i : Int) = ((n + 1 - i : Nat) : Int) := by omega
  have HK := Lib.hid hkk
  have hmin : Nat.min 1 (n + 1 - i) = 1 := by simp only [Nat.min_def]; split <;> omega
  have HM := Lib.hid hmin
  have hold : ∀ j u, (xs.take (i * 3))[j]? = some u → w.cell? ((⟨g, 0, none⟩ : Addr).add j) = some u := fun j u hu => by
    rw [Addr.add_lit, Nat.zero_add]
    rw [List.getElem?_take] at hu
    split at hu
    · exact hcells j u hu
    · cases hu
  have HA := Lib.hid hold
  clear hold
  clear hx hown hcells hkk hmin hxc
  go_enter Try.func85, Try.ntmps85
  go_wp2_with (first | (at_builtin; (refine wpList_append_zerosN rfl _ _ 69 3 rfl 82 .i64 Try.underlying69 Try.underlying3 i0 _ 3 24 hi hz0 hz1 hz2 rfl (by decide) ⟨g, 0, none⟩ i cap (n + 1 - i) .i64 rfl (congrArg (Value.int .i64) HK.out) (xs.take (i * 3)) (by rw [List.length_take]; omega) HA.out (n + 1) (by omega) (by omega) (by omega) (by unfold maxLen; omega) (by omega) ?_); intro w1 cap' cur k1 k2 k3 k4 k5; have q1 : ¬ (cap' = i) := (by have := k4.out; omega); have q2 : ¬ (cap' = i + 1) := (by have := k4.out; omega)) | ((refine wpList_copy_spliceN rfl _ _ 69 69 rfl 82 Try.underlying69 3 info82' w.heap.size (i * 3) _ _ ⟨vb, 0, none⟩ 1 1 rfl rfl _ 82 k1.out x (by rw [HM.out]; omega) (HW.out _ (HX.out.grown k2.out (by simp))) (by have := k3.out; have := k4.out; simp; omega) hx1 ?_); intro w2 k6 k7))
  have hgN : g ≠ w.heap.size := by
    have := (HO.out.lt g rfl).2
    omega
  have hcs2 : ∀ j u, (xs.drop (i * 3))[j]? = some u → w2.cell? ((⟨g, i * 3, none⟩ : Addr).add j) = some u := fun j u hu => by
    rw [Addr.add_lit]
    rw [List.getElem?_drop] at hu
    exact k7.out.cell (k2.out.cell (HC.out _ u hu) (by simp)) (by simpa using hgN)
  have HD := Lib.hid hcs2
  have hin' : i + 1 ≤ n + 1 := by omega
  have hmin2 : Nat.min (n - i) (n + 1 - (i + 1)) = n - i := by simp only [Nat.min_def]; split <;> omega
  have HM2 := Lib.hid hmin2
  have hw1 : IntKind.i64.wrap ((i : Int) + 1) = (i : Int) + 1 := by rw [IntKind.wrap_i64]; omega
  have htn : ((i : Int) + 1).toNat = i + 1 := by omega
  have hb5 : (0 : Int) ≤ (i : Int) + 1 := by omega
  have hb6 : (i : Int) ≤ (n : Int) := by omega
  have mixed : Try.prog.follows Departure.mixedOrders = true := by kernel_rfl
  clear hcs2 hmin2
  go_region_law_o (refine step_copy_spliceN rfl _ _ 69 69 rfl 82 Try.underlying69 3 info82' w.heap.size ((i + 1) * 3) (n + 1 - (i + 1)) (cap' - (i + 1)) ⟨g, i * 3, none⟩ (n - i) (cap - i) (by simp [Act.eval, Act.put]) (by simp [Act.eval, Act.put]) _ 82 k6.out.drew (xs.drop (i * 3)) (by rw [HM2.out]; simp; omega) HD.out (by have := k3.out; have := k4.out; rw [length_splice _ _ _ (by rw [List.length_append, List.length_take, hxl]; omega), List.length_append, List.length_take, List.length_drop]; omega) (fun v hv => hxs1 v (List.mem_of_mem_drop hv)) ?_; intro w3 k8 k9)
  all_goals go_wp2
  all_goals go_ret
  all_goals refine ⟨_, rfl, ⟨by rw [List.length_append, List.length_append, List.length_take, List.length_drop]; omega, .inr ⟨w.heap.size, cap', _, rfl, hB, k8.out, k4.out, k5.out, ?_, ?_⟩⟩, (((Below.refl B w).grown k2.out hB (fun k hk => by cases hk)).grown k7.out (Nat.le_trans hB k2.out.size) (fun k hk => by cases hk; exact hB)).drew.grown k9.out (Nat.le_trans hB (Nat.le_trans k2.out.size k7.out.size)) (fun k hk => by cases hk; exact hB)⟩
  all_goals have := k3.out
  all_goals have := k4.out
  all_goals have hl1 : (xs.take (i * 3) ++ cur).length = cap' * 3 := by rw [List.length_append, List.length_take]; omega
  · rw [List.size_toArray, length_splice _ _ _ (by rw [length_splice _ _ _ (by omega), List.length_drop]; omega), length_splice _ _ _ (by omega), hl1]
  · have := splice_ins1 (xs.take (i * 3) ++ cur) x xs (i * 3) (by rw [List.take_append_of_le_length (by rw [List.length_take]; omega), List.take_take, Nat.min_self]) (by omega)
    rw [hxl, hxsl] at this
    rw [show (i + 1) * 3 = i * 3 + 3 from by omega, show (n + 1) * 3 = n * 3 + 3 from by omega]
    exact this
set_option maxRecDepth 100000 in
theorem insert_shift82 (g cap n i : Nat) (xs : List Value) (B vb : Nat) (x : List Value) (w : World) (hown : w.ownsRow B 82 3 (.slice (some ⟨g, 0, none⟩) n cap) n xs) (hn : n ≤ 1000) (hin : i < n) (hcap : n + 1 ≤ cap) (hxs1 : ∀ u ∈ xs, u.oneCell' = true) (hxl : x.length = 3) (hx1 : ∀ u ∈ x, u.oneCell' = true) (hx : HB w vb x.toArray 82) (hvg : vb ≠ g) (hB : B ≤ w.heap.size) :
    Calls Try.prog 85 #[.slice (some ⟨g, 0, none⟩) n cap, .int .i64 i, .slice (some ⟨vb, 0, none⟩) 1 1] w fun e w' => ∃ v', e = .returned v' ∧ w'.ownsRow B 82 3 v' (n + 1) (xs.take (i * 3) ++ (x ++ xs.drop (i * 3))) ∧ Below B w w' := by
  have hxc : ∀ W : World, HB W vb x.toArray 82 → ∀ j u, x[j]? = some u → W.cell? ((⟨vb, 0, none⟩ : Addr).add j) = some u := fun W hW j u hu => by
    rw [Addr.add_lit, Nat.zero_add]; exact hW.cell j u (by simpa using hu)
  have hxsl := hown.1
  have hcells : ∀ j u, xs[j]? = some u → w.cell? ⟨g, j, none⟩ = some u := fun j u hu => by
    have := hown.cells (g := g) rfl j u hu
    rwa [Addr.add_lit, Nat.zero_add] at this
  obtain ⟨L, hL, hLl, hLt, hBg, hcm⟩ : ∃ L : List Value, HB w g L.toArray 82 ∧ L.length = cap * 3 ∧ L.take (n * 3) = xs ∧ B ≤ g ∧ cap ≤ maxLen := by
    rcases hown.2 with ⟨h, _⟩ | ⟨g', cap', cur, h, hb, hg, h2, h3, h4, h5⟩
    · cases h
    · cases h
      exact ⟨cur.toList, hg, by simpa using h4, h5, hb, h3⟩
  have hov : ∀ lb cb, (callFunc 95 #[.slice (some ⟨vb, 0, none⟩) 1 1, .slice (some ⟨g, (i + 1) * 3, none⟩) lb cb]).run Try.prog w = .ok (.value (.bool false)) w := fun lb cb =>
    overlaps82 w vb g ((i + 1) * 3) 1 lb cb x.toArray L.toArray 82 82 hx hL hvg (by simp; intro h; rw [h] at hLl; simp at hLl; omega)
  have HX := Lib.hid hx
  have HL := Lib.hid hL
  have HLl := Lib.hid hLl
  have HLt := Lib.hid hLt
  have HW := Lib.hid hxc
  have hb1 : ¬ ((i : Int) = (n : Int)) := by omega
  have hb2 : ¬ (cap : Int) < (n : Int) + 1 := by omega
  have hb3 : ¬ (cap = i) := by omega
  have hb4 : ¬ (cap = i + 1) := by omega
  have hb7 : i ≤ cap := by omega
  have hb8 : n + 1 ≤ cap := hcap
  have hb9 : i ≤ n := by omega
  have hin' : i + 1 ≤ n + 1 := by omega
  have hmin2 : Nat.min (n + 1 - i) (n - i) = n - i := by simp only [Nat.min_def]; split <;> omega
  have HM2 := Lib.hid hmin2
  have hmin1 : Nat.min 1 (n + 1 - i) = 1 := by simp only [Nat.min_def]; split <;> omega
  have HM1 := Lib.hid hmin1
  have hw1 : IntKind.i64.wrap ((i : Int) + 1) = (i : Int) + 1 := by rw [IntKind.wrap_i64]; omega
  have htn : ((i : Int) + 1).toNat = i + 1 := by omega
  have hb5 : (0 : Int) ≤ (i : Int) + 1 := by omega
  have hb6 : (i : Int) ≤ (n : Int) + 1 := by omega
  have mixed : Try.prog.follows Departure.mixedOrders = true := by kernel_rfl
  have hcs2 : ∀ j u, (xs.drop (i * 3))[j]? = some u → w.cell? ((⟨g, i * 3, none⟩ : Addr).add j) = some u := fun j u hu => by
    rw [Addr.add_lit]
    rw [List.getElem?_drop] at hu
    exact hcells _ u hu
  have HD := Lib.hid hcs2
  clear hx hown hcells hxc hL hLl hLt hmin1 hmin2 hcs2
  go_enter Try.func85, Try.ntmps85
  go_wp2_with (simp only [hov])
  go_region_law_o (refine step_copy_spliceN rfl _ _ 69 69 rfl 82 Try.underlying69 3 info82' g ((i + 1) * 3) (n - i) (cap - (i + 1)) ⟨g, i * 3, none⟩ (n + 1 - i) (cap - i) (by simp [Act.eval, Act.put]) (by simp [Act.eval, Act.put]) _ 82 HL.out.drew (xs.drop (i * 3)) (by rw [HM2.out]; simp; omega) HD.out (by have := HLl.out; rw [List.length_drop]; omega) (fun v hv => hxs1 v (List.mem_of_mem_drop hv)) ?_; intro w1 k1 k2)
  all_goals go_wp2_with (refine wpList_copy_spliceN rfl _ _ 69 69 rfl 82 Try.underlying69 3 info82' g (i * 3) _ _ ⟨vb, 0, none⟩ 1 1 rfl rfl _ 82 k1.out x (by rw [HM1.out]; omega) (HW.out _ (HX.out.drew.grown k2.out (by simpa using hvg))) (by have := HLl.out; rw [length_splice _ _ _ (by rw [List.length_drop]; omega)]; omega) hx1 ?_; intro w2 k3 k4)
  all_goals go_ret
  all_goals have hLl := HLl.out
  all_goals have hLt := HLt.out
  all_goals have hBw : B ≤ w1.heap.size := Nat.le_trans hB k2.out.size
  all_goals refine ⟨_, rfl, ⟨by rw [List.length_append, List.length_append, List.length_take, List.length_drop]; omega, .inr ⟨g, cap, _, rfl, hBg, k3.out, hb8, hcm, ?_, ?_⟩⟩, ((Below.refl B w).drew.grown k2.out hB (fun k hk => by cases hk; exact hBg)).grown k4.out hBw (fun k hk => by cases hk; exact hBg)⟩
  · rw [List.size_toArray, length_splice _ _ _ (by rw [length_splice _ _ _ (by rw [List.length_drop]; omega)]; omega), length_splice _ _ _ (by rw [List.length_drop]; omega), hLl]
  · have := splice_ins2 L x xs (i * 3) (by rw [← hLt, List.take_take, Nat.min_eq_left (by omega)]) (by omega) (by omega)
    rw [hxl, hxsl] at this
    rw [show (i + 1) * 3 = i * 3 + 3 from by omega, show (n + 1) * 3 = n * 3 + 3 from by omega]
    exact this
theorem insert82 (v : Value) (n i : Nat) (xs : List Value) (B vb : Nat) (x : List Value) (w : World) (hown : w.ownsRow B 82 3 v n xs) (hn : n ≤ 1000) (hin : i ≤ n) (hxs1 : ∀ u ∈ xs, u.oneCell' = true) (hxl : x.length = 3) (hx1 : ∀ u ∈ x, u.oneCell' = true) (hx : HB w vb x.toArray 82) (hvb : v.ownBlock ≠ some vb) (hB : B ≤ w.heap.size) :
    Calls Try.prog 85 #[v, .int .i64 i, .slice (some ⟨vb, 0, none⟩) 1 1] w fun e w' => ∃ v', e = .returned v' ∧ w'.ownsRow B 82 3 v' (n + 1) (xs.take (i * 3) ++ (x ++ xs.drop (i * 3))) ∧ Below B w w' := by
  rcases Nat.lt_or_ge i n with h | h
  · rcases hown.2 with ⟨_, h0⟩ | ⟨g, cap, cur, rfl, hBg, hg, hnc, hcm, hcs, htake⟩
    · omega
    · rcases Nat.lt_or_ge cap (n + 1) with hc | hc
      · exact insert_grow82 g cap n i xs B vb x w hown hn h hc hxs1 hxl hx1 hx hB
      · exact insert_shift82 g cap n i xs B vb x w hown hn h hc hxs1 hxl hx1 hx (fun e => hvb (by simp [Value.ownBlock, e])) hB
  · have : i = n := by omega
    subst this
    have e1 : xs.take (i * 3) = xs := List.take_of_length_le (by rw [hown.1]; omega)
    have e2 : xs.drop (i * 3) = [] := List.drop_of_length_le (by rw [hown.1]; omega)
    rw [e1, e2, List.append_nil]
    exact insert_end82 v i xs B vb x w hown hn hxl hx1 hx hB
set_option maxRecDepth 100000 in
theorem clone82 (v : Value) (n : Nat) (xs : List Value) (w : World) (hown : w.ownsRow 0 82 3 v n xs) (h1 : ∀ u ∈ xs, u.oneCell' = true) (hn : n ≤ 1000) :
    Calls Try.prog 80 #[v] w fun e w' => ∃ v', e = .returned v' ∧ w'.ownsRow w.heap.size 82 3 v' n xs ∧ Below w.heap.size w w' := by
  obtain ⟨i0, hi, hz0, hz1, hz2⟩ := info82
  rcases hown.2 with ⟨rfl, rfl⟩ | ⟨g, cap, cur, rfl, -, hg, hnc, hcm, hcs, htake⟩
  · have e0 : xs = [] := List.eq_nil_of_length_eq_zero (by rw [hown.1])
    subst e0
    have hq : ∀ W, (binOp .eql 69 (.slice none 0 0) (.slice none 0 0)).run Try.prog W = .ok (.bool true) W := fun W => Lib.run_eql_slice_nil W 69 82 none 0 0 0 0 Try.underlying69
    clear hown hi hz0 hz1 hz2 h1
    go_enter Try.func80, Try.ntmps80
    go_wp2
    go_ret
    exact ⟨_, rfl, World.ownsRow_nil _ _ _ _, Below.refl _ _⟩
  · have hcells := hown.cells (g := g) rfl
    have hl := hown.1
    have hq : ∀ W, (binOp .eql 69 (.slice (some ⟨g, 0, none⟩) n cap) (.slice none 0 0)).run Try.prog W = .ok (.bool false) W := fun W => Lib.run_eql_slice_nil W 69 82 (some ⟨g, 0, none⟩) n cap 0 0 Try.underlying69
    clear hown htake hg hcs
    go_enter Try.func80, Try.ntmps80
    go_wp2_with (first | (at_builtin; refine wpList_append_own _ rfl _ _ 69 rfl w.heap.size 82 i0 _ 3 24 Try.underlying69 hi hz0 hz1 hz2 rfl (by decide) _ 0 [] rfl (World.ownsRow_lit w #[] 0 (Nat.le_refl _) (Nat.zero_le _) rfl) ⟨g, 0, none⟩ n cap xs rfl hl ?_ h1 (by unfold maxLen; omega) (by omega) (by simp) ?_; exact fun j u hu => (World.cell?_alloc_lt _ _ _ (World.block_lt_of_cell? _ _ (hcells j u hu))).trans (hcells j u hu); intro v' w1 hown' hgrow _))
    go_ret
    exact ⟨v', rfl, by simpa using hown', (ba (Below.refl _ _) _).grown hgrow (by simp) (fun k hk => by cases hk; exact Nat.le_refl _)⟩
end Go.Proofs.Ytdnhjkmcogbaoaa
