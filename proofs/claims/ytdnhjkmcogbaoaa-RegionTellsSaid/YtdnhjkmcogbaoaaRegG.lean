/-
  slices.Delete of one element at []region.Region; All; IndexFunc at At's closure.
-/
import Derived.Test.YtdnhjkmcogbaoaaRegF
namespace Go.Proofs.Ytdnhjkmcogbaoaa
open Go.RowKit
theorem zero82 (w : World) : (zeroValue 82).run Try.prog w = .ok (.agg #[.int .u64 0, .int .u64 0, .int .i64 0]) w := by kernel_rfl
theorem step_appendN {P : Program} {ops : Array Oper} {o : Oper} {a : Act} {w : World} {K : Act → World → Prop} {Q : Exit → Act → World → Prop} {E : Prop}
    (hg : o.guard = none) (d x : Operand) (dT sT : TypeId) (hop : o.op = Op.call { callee := Callee.builtin Builtin.append, args := #[d, x], argTypes := #[dT, sT] })
    (v u : Value) (hd : a.eval d = v) (hx : a.eval x = u) {v' : Value} {w' : World} (hr : (Builtin.append_ #[dT, sT] o.type #[v, u]).run P w = .ok v' w') (hK : K (a.put o.dst v') w') :
    if Region.wanted o (yielded ops a.tmps) = true then Oper.wp P o a w K Q else E := by
  have hw : Region.wanted o (yielded ops a.tmps) = true := by simp [Region.wanted, hg]
  rw [if_pos hw]
  unfold Oper.wp
  simp [execOp, hop, resolve, invoke, builtin, hd, hx, hr, Result.andThen]
  exact hK
set_option maxRecDepth 100000 in
theorem deleteR1 (g cap n : Nat) (L : List Rg) (hln : L.length = n + 1) (i : Nat) (w : World) (B : Nat) (hown : w.ownsRow B 82 3 (.slice (some ⟨g, 0, none⟩) (n + 1) cap) (n + 1) (flatR L)) (hLn : (n + 1) ≤ 1000) (hi : i ≤ n) :
    Calls Try.prog 87 #[.slice (some ⟨g, 0, none⟩) (n + 1) cap, .int .i64 (i : Int), .int .i64 ((i : Int) + 1)] w fun e w' => ∃ v', e = .returned v' ∧ w'.ownsRow B 82 3 v' n (flatR (L.take i ++ L.drop (i + 1))) ∧ Below B w w' := by
  obtain ⟨i0, hi0, hz0, hz1, hz2⟩ := info82
  obtain ⟨cur, hcur, hcs, htk, hcm, hBg, hnc⟩ : ∃ cur : Array Value, w.heap[g]? = some (.cells cur 82 (0, 0)) ∧ cur.size = cap * 3 ∧ cur.toList.take ((n + 1) * 3) = flatR L ∧ cap ≤ maxLen ∧ B ≤ g ∧ (n + 1) ≤ cap := by
    rcases hown.2 with ⟨h, _⟩ | ⟨g', cap', cur, h, hb, hg, h2, h3, h4, h5⟩
    · cases h
    · cases h; exact ⟨cur, hg, h4, h5, h3, hb, h2⟩
  have hcells : ∀ j u, (flatR L)[j]? = some u → w.cell? ⟨g, j, none⟩ = some u := fun j u hu => by
    have := hown.cells (g := g) rfl j u hu
    rwa [Addr.add_lit, Nat.zero_add] at this
  have hfl := flatR_length L
  rw [hln] at hfl
  -- the rest, shifted
  have hnews : ((flatR L).drop ((i + 1) * 3)).length = (n - i) * 3 := by rw [List.length_drop, hfl]; omega
  have happ : ∀ (o' : Nat) (c' : Nat) ty, (o' = (i + 1) * 3 ∨ n - i = 0) → (Builtin.append_ #[69, 69] ty #[.slice (some ⟨g, 0, none⟩) i cap, .slice (some ⟨g, o', none⟩) (n - i) c']).run Try.prog w.drew = .ok (.slice (some ⟨g, 0, none⟩) n cap) (w.drew.setRow g (cur.toList.take (i * 3) ++ (flatR L).drop ((i + 1) * 3) ++ cur.toList.drop (i * 3 + ((flatR L).drop ((i + 1) * 3)).length)).toArray) := by
    intro o' c' ty ho
    have := run_append_room (P := Try.prog) w.drew 69 ty 82 i0 Try.underlying69 hi0 g i cap cur hcur ⟨g, o', none⟩ (n - i) c' ((flatR L).drop ((i + 1) * 3)) (by rw [hnews, hz1]) (fun j u hu => by
      rcases ho with rfl | h0
      · rw [Addr.add_lit]
        rw [List.getElem?_drop] at hu
        exact hcells _ u hu
      · rw [h0] at hnews
        have := (List.getElem?_eq_some_iff.mp hu).1
        omega) (fun v hv => flatR_one L v (List.mem_of_mem_drop hv)) (by omega) (by rw [hnews, hz1, hcs]; omega)
    rw [hz1, show i + (n - i) = n from by omega] at this
    exact this
  have hsl : cur.toList.length = cap * 3 := by rw [Array.length_toList]; exact hcs
  obtain ⟨R1, hR1⟩ : ∃ R1 : List Value, R1 = cur.toList.take (i * 3) ++ (flatR L).drop ((i + 1) * 3) ++ cur.toList.drop (i * 3 + ((flatR L).drop ((i + 1) * 3)).length) := ⟨_, rfl⟩
  have hR1l : R1.length = cap * 3 := by
    rw [hR1]; simp only [List.length_append, List.length_take, List.length_drop, hsl, hfl]; omega
  have hR1t : R1.take (n * 3) = flatR (L.take i ++ L.drop (i + 1)) := by
    have h1 : cur.toList.take (i * 3) = flatR (L.take i) := by
      rw [← flatR_take, ← htk, List.take_take, Nat.min_eq_left (by omega)]
    have h2 : (flatR (L.take i) ++ flatR (L.drop (i + 1))).length = n * 3 := by
      rw [List.length_append, flatR_length, flatR_length, List.length_take, List.length_drop, hln]; omega
    rw [hR1, h1, flatR_drop, flatR_append, ← h2, List.take_left]
  rw [← hR1] at happ
  obtain ⟨W1, hW1⟩ : ∃ W1, W1 = w.drew.setRow g R1.toArray := ⟨_, rfl⟩
  have hW1g : W1.heap[g]? = some (.cells R1.toArray 82 (0, 0)) := by rw [hW1]; exact setRow_heap w.drew g cur _ 82 _ hcur
  have hW1b : Below B w W1 := by rw [hW1]; exact below_setRow ((Below.refl B w).drew) hBg _
  rw [← hW1] at happ
  obtain ⟨cs, hcl, hc1, hrun⟩ := run_clearN (P := Try.prog) W1 69 82 0 (.agg #[.int .u64 0, .int .u64 0, .int .i64 0]) 3 Try.underlying69 zero82 rfl (by decide) g (n * 3) 1 (cap - n) R1.toArray 82 hW1g (by omega) (by simp [hR1l]; omega)
  have HR := Lib.hid hrun
  have HT := Lib.hid (And.intro hR1l (And.intro hR1t (And.intro hW1g hW1b)))
  have HAp := Lib.hid happ
  have HC1 := Lib.hid hcl
  clear hrun hR1l hR1t hW1g hW1b happ hcl hW1 hR1 hsl hnews hcells hcur htk hcs hown hfl hc1
  have mixed : Try.prog.follows Departure.mixedOrders = true := by kernel_rfl
  have hb1 : ((i : Int) == (i : Int) + 1) = false := by rw [beq_eq_false_iff_ne]; omega
  have hb2 : (i : Int) + 1 ≤ ((n : Int) + 1) := by omega
  have hb3 : i ≤ n := hi
  have hb4 : i ≤ cap := by omega
  have hb5 : n ≤ cap := by omega
  have hb6 : (n + 1) ≤ cap := hnc
  have hw1 : IntKind.i64.wrap ((i : Int) + 1) = (i : Int) + 1 := by rw [IntKind.wrap_i64]; omega
  have htn : ((i : Int) + 1).toNat = i + 1 := by omega
  have hb7 : (0 : Int) ≤ (i : Int) + 1 := by omega
  have hb8 : ¬ (cap = i) := by omega
  have hb9 : ¬ (cap = n) := by omega
  by_cases hcj : cap = i + 1
  · have hin : i = n := by omega
    subst hin
    subst hcj
    have hb10 : (i : Int) ≤ (i : Int) + 1 := by omega
    go_enter Try.func87, Try.ntmps87
    go_wp2
    go_region_law_o (refine step_appendN rfl _ _ 69 69 rfl (.slice (some ⟨g, 0, none⟩) i (i + 1)) (.slice (some ⟨g, 0, none⟩) (i - i) 0) (by simp [Act.eval, Act.put]) (by simp [Act.eval, Act.put]) (HAp.out 0 0 _ (.inr (Nat.sub_self _))) ?_)
    go_wp2_with (refine wpList_clearN _ rfl _ 69 rfl _ rfl HR.out ?_)
    go_ret
    obtain ⟨t1, t2, t3, t4⟩ := HT.out
    have hlr : (L.take i ++ L.drop (i + 1)).length = i := by rw [List.length_append, List.length_take, List.length_drop, hln]; omega
    refine ⟨_, rfl, ⟨by rw [flatR_length, hlr], .inr ⟨g, (i + 1), _, rfl, hBg, setRow_heap _ _ _ _ _ _ t3, hb5, hcm, ?_, ?_⟩⟩, below_setRow t4 hBg _⟩
    · have := HC1.out
      simp only [List.size_toArray, List.length_append, List.length_take, List.length_drop]
      omega
    · rw [← t2]
      exact List.take_left' (by rw [List.length_take]; omega)
  · go_enter Try.func87, Try.ntmps87
    go_wp2
    go_region_law_o (refine step_appendN rfl _ _ 69 69 rfl (.slice (some ⟨g, 0, none⟩) i cap) (.slice (some ⟨g, (i + 1) * 3, none⟩) (n - i) (cap - (i + 1))) (by simp [Act.eval, Act.put]) (by simp [Act.eval, Act.put]) (HAp.out _ _ _ (.inl rfl)) ?_)
    go_wp2_with (refine wpList_clearN _ rfl _ 69 rfl _ rfl HR.out ?_)
    go_ret
    obtain ⟨t1, t2, t3, t4⟩ := HT.out
    have hlr : (L.take i ++ L.drop (i + 1)).length = n := by rw [List.length_append, List.length_take, List.length_drop, hln]; omega
    refine ⟨_, rfl, ⟨by rw [flatR_length, hlr], .inr ⟨g, cap, _, rfl, hBg, setRow_heap _ _ _ _ _ _ t3, hb5, hcm, ?_, ?_⟩⟩, below_setRow t4 hBg _⟩
    · have := HC1.out
      simp only [List.size_toArray, List.length_append, List.length_take, List.length_drop]
      omega
    · rw [← t2]
      exact List.take_left' (by rw [List.length_take]; omega)
theorem indexR89 (cb : Nat) (cc : Array Value) (ct : TypeId) (p : Rg → Bool) (a : Option Addr) (cap : Nat) (L : List Rg) (w : World) (hL : CellsR w a L) (hLn : L.length ≤ 1000) (hcb : HB w cb cc ct)
    (hcl : ∀ k ∈ L, ∀ W, HB W cb cc ct → Calls Try.prog 89 #[rgV k, .pointer (some ⟨cb, 0, none⟩)] W fun e w' => e = .returned (.bool (p k)) ∧ Below W.heap.size W w') :
    Calls Try.prog 88 #[.slice a L.length cap, .func (.func 89) #[] #[.pointer (some ⟨cb, 0, none⟩)]] w fun e w' => e = .returned (.int .i64 (idxI p L)) ∧ Below w.heap.size w w' := by
  have HC := Lib.hid hL
  have HCB := Lib.hid hcb
  have HCL := Lib.hid hcl
  clear hL hcb hcl
  go_enter Try.func88, Try.ntmps88
  go_wp2
  go_loopg [8] L.length (fun g s8 wx => ∃ j : Nat, j + g = L.length ∧ s8 = .int .i64 (j : Int) ∧ Aside (∀ i q, i < j → L[i]? = some q → p q = false) ∧ Below w.heap.size w wx)
  case atStart => exact ⟨0, by omega, rfl, fun i q h => by omega, Below.refl _ _⟩
  case round =>
    obtain ⟨j, hjg, rfl, HN, hbx⟩ := hrel
    cases gk with
    | zero =>
      have hj : j = L.length := by omega
      subst hj
      go_wp2
      go_ret
      exact ⟨by rw [idxI_no p L HN.out]; rfl, hbx⟩
    | succ g =>
      have hjl : (j : Int) < (L.length : Int) := by omega
      obtain ⟨k, hk⟩ : ∃ k, L[j]? = some k := ⟨_, List.getElem?_eq_getElem (by omega)⟩
      obtain ⟨gb, rfl, hg, p0, p1, p2⟩ := HC.out.below (hbx) j k hk
      have HK := Lib.hid (HCL.out k (List.mem_of_getElem? hk) wr (HCB.out.callee hbx))
      cases hp : p k with
      | true =>
        rw [hp] at HK
        go_wp2_with (first | ((with_reducible (go_at_call 89; refine (HK.out).mono ?_)); rintro e1 w1 ⟨rfl, hb1⟩))
        go_ret
        exact ⟨by rw [idxI_at p L j k hk hp HN.out]; rfl, bc hbx hb1⟩
      | false =>
        rw [hp] at HK
        go_wp2_with (first | ((with_reducible (go_at_call 89; refine (HK.out).mono ?_)); rintro e1 w1 ⟨rfl, hb1⟩))
        go_roundg g
        case measure => omega
        case rel => exact ⟨j + 1, by omega, by go_num, fun i q hi hq => by
          rcases Nat.lt_or_ge i j with h | h
          · exact HN.out i q h hq
          · have : i = j := by omega
            subst this; rw [hk] at hq; cases hq; exact hp, bc hbx hb1⟩
theorem cloneR (s : Value) (L : List Rg) (w : World) (hs : RowR w s L) (hLn : L.length ≤ 1000) :
    Calls Try.prog 80 #[s] w fun e w' => ∃ v', e = .returned v' ∧ w'.ownsRow w.heap.size 82 3 v' L.length (flatR L) ∧ Below w.heap.size w w' :=
  clone82 s L.length (flatR L) w hs (flatR_one L) hLn
theorem own_slice' {w : World} {B : Nat} {e : TypeId} {size : Nat} {v : Value} {n : Nat} {xs : List Value} (h : w.ownsRow B e size v n xs) : ∃ a cap, v = .slice a n cap := by
  rcases h.2 with ⟨rfl, h0⟩ | ⟨g, cap, cur, rfl, hb, _⟩
  · exact ⟨none, 0, by rw [h0]⟩
  · exact ⟨_, cap, rfl⟩
theorem allR (b t : Nat) (s : Value) (L : List Rg) (w : World) (hs : RowR w s L) (hLn : L.length ≤ 1000) :
    Calls Try.prog 52 #[mapV b t s] w fun e w' => (∃ v', e = .returned v' ∧ RowR w' v' L) ∧ Below w.heap.size w w' := by
  have HS := Lib.hid (cloneR s L (w.alloc (.cells #[.int .u64 (b : Int), .int .u64 (t : Int), s] 71)) (hs.below (ba (Below.refl _ _) _)) hLn)
  clear hs
  go_enter Try.func52, Try.ntmps52
  go_wp2_with (first | ((with_reducible (go_at_call 80; refine HS.out.mono ?_)); rintro e1 w1 ⟨v', rfl, ho, hb1⟩))
  go_ret
  exact ⟨⟨_, rfl, own_rowR ho rfl⟩, bc (ba (Below.refl _ _) _) hb1⟩
end Go.Proofs.Ytdnhjkmcogbaoaa
