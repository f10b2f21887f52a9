/-
  heap.Take, where it gives.
-/
import Derived.Test.YtdnhjkmcogbaoaaHeapG
import Derived.Deep.RegionHeld3
import Derived.BigQuiet
import Derived.Deep.DeepCutAuto
import Derived.Deep.CutBlock
namespace Go.Proofs.Ytdnhjkmcogbaoaa
open Go.RowKit
theorem take_S {W0 W W' : World} {g : Nat} {x y z : Value} (h : (W.cell? ⟨g, 0, none⟩ = some x ∧ W.cell? ⟨g, 1, none⟩ = some y ∧ W.cell? ⟨g, 2, none⟩ = some z) ∧ Below W0.heap.size W0 W) (hg : g < W0.heap.size) (k : Below W.heap.size W W') : (W'.cell? ⟨g, 0, none⟩ = some x ∧ W'.cell? ⟨g, 1, none⟩ = some y ∧ W'.cell? ⟨g, 2, none⟩ = some z) ∧ Below W0.heap.size W0 W' := by
  have hl : g < W.heap.size := Nat.lt_of_lt_of_le hg h.2.size
  exact ⟨⟨(k.cell (p := ⟨g, 0, none⟩) hl).trans h.1.1, (k.cell (p := ⟨g, 1, none⟩) hl).trans h.1.2.1, (k.cell (p := ⟨g, 2, none⟩) hl).trans h.1.2.2⟩, bc h.2 k⟩
theorem take_A {W0 W : World} {g : Nat} {x y z : Value} (o : Obj) (h : (W.cell? ⟨g, 0, none⟩ = some x ∧ W.cell? ⟨g, 1, none⟩ = some y ∧ W.cell? ⟨g, 2, none⟩ = some z) ∧ Below W0.heap.size W0 W) (hg : g < W0.heap.size) : ((W.alloc o).cell? ⟨g, 0, none⟩ = some x ∧ (W.alloc o).cell? ⟨g, 1, none⟩ = some y ∧ (W.alloc o).cell? ⟨g, 2, none⟩ = some z) ∧ Below W0.heap.size W0 (W.alloc o) := take_S h hg ((Below.refl _ _).alloc (Nat.le_refl _) o)
theorem tw_lt {α : Type} (p : α → Bool) : ∀ (L : List α) (j : Nat), j < (L.takeWhile p).length → ∃ k, L[j]? = some k ∧ p k = true
  | [], j, h => by simp at h
  | q :: L, j, h => by
    rw [List.takeWhile_cons] at h
    cases hq : p q with
    | false => simp [hq] at h
    | true =>
      simp only [hq, if_pos] at h
      cases j with
      | zero => exact ⟨q, rfl, hq⟩
      | succ j =>
        obtain ⟨k, h1, h2⟩ := tw_lt p L j (by simpa using h)
        exact ⟨k, by simpa using h1, h2⟩
theorem tw_at {α : Type} (p : α → Bool) : ∀ (L : List α), (L.takeWhile p).length < L.length → ∃ k, L[(L.takeWhile p).length]? = some k ∧ p k = false
  | [], h => by simp at h
  | q :: L, h => by
    rw [List.takeWhile_cons] at h ⊢
    cases hq : p q with
    | false => exact ⟨q, by simp, hq⟩
    | true =>
      simp only [hq, if_pos] at h ⊢
      obtain ⟨k, h1, h2⟩ := tw_at p L (by simpa using h)
      exact ⟨k, by simpa using h1, h2⟩
theorem tw_le {α : Type} (p : α → Bool) (L : List α) : (L.takeWhile p).length ≤ L.length := (List.takeWhile_sublist p).length_le
theorem tw_take {α : Type} (p : α → Bool) (L : List α) : L.take (L.takeWhile p).length = L.takeWhile p := by
  conv => lhs; arg 2; rw [← List.takeWhile_append_dropWhile (p := p) (l := L)]
  exact List.take_left
theorem tw_drop {α : Type} (p : α → Bool) (L : List α) : L.drop (L.takeWhile p).length = L.dropWhile p := by
  conv => lhs; arg 2; rw [← List.takeWhile_append_dropWhile (p := p) (l := L)]
  exact List.drop_left
/-- Take's boxes, and what was found. -/
def TP (w : World) (g7 : Nat) (hv sv : Array Value) (W : World) : Prop :=
  HB W w.heap.size hv 54 ∧ HB W (w.heap.size + 1) #[.int .u64 0, .int .u64 0, .slice none 0 0] 54 ∧ HB W (w.heap.size + 1 + 1) #[.int .u64 0, .int .u64 0] 51 ∧ HB W g7 sv 51 ∧ Below w.heap.size w W
section
variable {w W W' : World} {g7 : Nat} {hv sv : Array Value}
theorem TP.alloc (h : TP w g7 hv sv W) (o : Obj) : TP w g7 hv sv (W.alloc o) := ⟨h.1.alloc o, h.2.1.alloc o, h.2.2.1.alloc o, h.2.2.2.1.alloc o, ba h.2.2.2.2 o⟩
theorem TP.drew (h : TP w g7 hv sv W) : TP w g7 hv sv W.drew := ⟨h.1, h.2.1, h.2.2.1, h.2.2.2.1, h.2.2.2.2.drew⟩
theorem TP.callee (h : TP w g7 hv sv W) (k : Below W.heap.size W W') : TP w g7 hv sv W' := ⟨h.1.callee k, h.2.1.callee k, h.2.2.1.callee k, h.2.2.2.1.callee k, bc h.2.2.2.2 k⟩
theorem TP.under {B : Nat} (h : TP w g7 hv sv W) (k : Below B W W') (h1 : w.heap.size + 1 + 1 < B) (h2 : g7 < B) : TP w g7 hv sv W' := ⟨h.1.under k (by omega), h.2.1.under k (by omega), h.2.2.1.under k h1, h.2.2.2.1.under k h2, h.2.2.2.2.trans (k.mono (by omega))⟩
theorem TP.cells {x y z p q : Value} (h : TP w g7 #[x, y, z] #[p, q] W) : (W.cell? ⟨w.heap.size, 0, none⟩ = some x ∧ W.cell? ⟨w.heap.size, 1, none⟩ = some y ∧ W.cell? ⟨w.heap.size, 2, none⟩ = some z ∧ W.frozen? ⟨w.heap.size, 2, none⟩ = false) ∧ W.cell? ⟨g7, 0, none⟩ = some p ∧ W.cell? ⟨g7, 1, none⟩ = some q :=
  ⟨⟨h.1.cell 0 _ rfl, h.1.cell 1 _ rfl, h.1.cell 2 _ rfl, h.1.frozen 2⟩, h.2.2.2.1.two.1.1, h.2.2.2.1.two.1.2⟩
theorem TP.set {x y z : Value} (h : TP w g7 #[x, y, z] sv W) (z' : Value) (hg : g7 ≠ w.heap.size) : TP w g7 #[x, y, z'] sv (W.setCell ⟨w.heap.size, 2, none⟩ z') :=
  ⟨h.1.set 2 z', h.2.1.set_other _ _ (by show w.heap.size + 1 ≠ w.heap.size; omega), h.2.2.1.set_other _ _ (by show w.heap.size + 1 + 1 ≠ w.heap.size; omega), h.2.2.2.1.set_other _ _ hg, h.2.2.2.2.setCell (Nat.le_refl _) _⟩
end
theorem take_D {W0 W : World} {g : Nat} {x y z : Value} (h : (W.cell? ⟨g, 0, none⟩ = some x ∧ W.cell? ⟨g, 1, none⟩ = some y ∧ W.cell? ⟨g, 2, none⟩ = some z) ∧ Below W0.heap.size W0 W) : (W.drew.cell? ⟨g, 0, none⟩ = some x ∧ W.drew.cell? ⟨g, 1, none⟩ = some y ∧ W.drew.cell? ⟨g, 2, none⟩ = some z) ∧ Below W0.heap.size W0 W.drew := ⟨h.1, h.2.drew⟩
set_option maxHeartbeats 4000000 in
theorem take_any (rb T n N : Nat) (s : Value) (L : List Blk) (w : World) (hs : RowB w s L) (hLn : L.length < 32) (hrb : rb ≤ T) (hT : T ≤ 4294967296) (hn1 : 1 ≤ n) (hn2 : n ≤ 4096) (hN : up n 4 = N) (hLT : ∀ k ∈ L, k.t ≤ T)
    (u : Nat) (hlow : Low L N 4 T (up rb 4) u (u + N) true) :
    Calls Try.prog 41 #[heapV rb T s, .int .u64 n] w fun e w' => (∃ s', e = .returned (.tuple #[heapV rb T s', .agg #[.int .u64 (u : Int), .int .u64 ((u : Int) + N)], .int .i64 0]) ∧ RowB w' s' (L.takeWhile (fun k => decide (k.b < u)) ++ ⟨u, u + N, false, 0⟩ :: L.dropWhile (fun k => decide (k.b < u)))) ∧ Below w.heap.size w w' := by
  have HA := Lib.hid (askH_small n hn1 hn2)
  rw [hN] at HA
  obtain ⟨a, cap, rfl, hcells, hlc⟩ := hs.open
  have HLo : Hid (∀ W, Below w.heap.size w W → Calls Try.prog 64 #[heapV rb T (.slice a L.length cap), .int .u64 N, .int .i64 4] W fun e w' => e = .returned (.tuple #[.agg #[.int .u64 (u : Int), .int .u64 ((u : Int) + N)], .bool true]) ∧ Below W.heap.size W w') := by
    intro W hW
    refine (lowest_any rb T N 4 a cap L W hrb hT (by have := (up_spec n 4).2.1; omega) (by decide) (hcells.below hW) hLT (by omega)).mono ?_
    rintro e w' ⟨⟨s, u', ok, rfl, hl⟩, hb⟩
    obtain ⟨rfl, rfl, rfl⟩ := Low.det hlow hl
    exact ⟨rfl, hb⟩
  have hd1 : ((n : Int) == 0) = false := by rw [beq_eq_false_iff_ne]; omega
  have hd2 : decide (274877906944 < (n : Int)) = false := decide_eq_false (by omega)
  have hd3 : decide (32 ≤ (L.length : Int)) = false := decide_eq_false (by omega)
  have HS := Lib.hid hs
  have HC := Lib.hid hcells
  clear hs hcells hlow hLT hN
  go_enter Try.func41, Try.ntmps41
  go_wp2
  have X0 := ((HB.new w #[.int .u64 (rb : Int), .int .u64 (T : Int), .slice a L.length cap] 54).alloc (.cells #[.int .u64 0, .int .u64 0, .slice none 0 0] 54)).alloc (.cells #[.int .u64 0, .int .u64 0] 51)
  have X1 := (HB.new' (w.alloc (.cells #[.int .u64 (rb : Int), .int .u64 (T : Int), .slice a L.length cap] 54)) #[.int .u64 0, .int .u64 0, .slice none 0 0] 54 (w.heap.size + 1) (by simp)).alloc (.cells #[.int .u64 0, .int .u64 0] 51)
  have X2 := HB.new' ((w.alloc (.cells #[.int .u64 (rb : Int), .int .u64 (T : Int), .slice a L.length cap] 54)).alloc (.cells #[.int .u64 0, .int .u64 0, .slice none 0 0] 54)) #[.int .u64 0, .int .u64 0] 51 (w.heap.size + 1 + 1) (by simp)
  have hb0 : Below w.heap.size w (((w.alloc (.cells #[.int .u64 (rb : Int), .int .u64 (T : Int), .slice a L.length cap] 54)).alloc (.cells #[.int .u64 0, .int .u64 0, .slice none 0 0] 54)).alloc (.cells #[.int .u64 0, .int .u64 0] 51)) := ba (ba (ba (Below.refl _ _) _) _) _
  generalize ((w.alloc (.cells #[.int .u64 (rb : Int), .int .u64 (T : Int), .slice a L.length cap] 54)).alloc (.cells #[.int .u64 0, .int .u64 0, .slice none 0 0] 54)).alloc (.cells #[.int .u64 0, .int .u64 0] 51) = W0 at X0 X1 X2 hb0 ⊢
  have hS0 : (W0.cell? ⟨w.heap.size, 0, none⟩ = some (.int .u64 (rb : Int)) ∧ W0.cell? ⟨w.heap.size, 1, none⟩ = some (.int .u64 (T : Int)) ∧ W0.cell? ⟨w.heap.size, 2, none⟩ = some (.slice a L.length cap)) ∧ Below W0.heap.size W0 W0 := ⟨⟨X0.cell 0 _ rfl, X0.cell 1 _ rfl, X0.cell 2 _ rfl⟩, Below.refl _ _⟩
  have HLT := Lib.hid X0.lt
  have HX := Lib.hid (And.intro X0 (And.intro X1 X2))
  have HB0 := Lib.hid hb0
  clear X0 X1 X2 hb0
  have HLo' : Hid (∀ W, ((W.cell? ⟨w.heap.size, 0, none⟩ = some (.int .u64 (rb : Int)) ∧ W.cell? ⟨w.heap.size, 1, none⟩ = some (.int .u64 (T : Int)) ∧ W.cell? ⟨w.heap.size, 2, none⟩ = some (.slice a L.length cap)) ∧ Below W0.heap.size W0 W) → Calls Try.prog 64 #[heapV rb T (.slice a L.length cap), .int .u64 N, .int .i64 4] W fun e w' => e = .returned (.tuple #[.agg #[.int .u64 (u : Int), .int .u64 ((u : Int) + N)], .bool true]) ∧ Below W.heap.size W w') := fun W hW => HLo.out W (bc HB0.out hW.2)
  clear HLo
  go_cut [7, 8] (fun s7 s8 wx => ∃ g7 : Nat, s7 = .pointer (some ⟨g7, 0, none⟩) ∧ s8 = .bool true ∧ HB wx g7 #[.int .u64 (u : Int), .int .u64 ((u : Int) + N)] 51 ∧ Below W0.heap.size W0 wx ∧ W0.heap.size ≤ g7)
  case first =>
    have S0' := take_A (.cells #[.int .u64 0, .int .u64 0] 51) hS0 HLT.out
    have v0 := hS0.1.1
    have v1 := hS0.1.2.1
    have v2 := hS0.1.2.2
    have v0' := S0'.1.1
    have v1' := S0'.1.2.1
    have v2' := S0'.1.2.2
    clear HX HS HC hlc
    go_region_with (first | ((with_reducible (go_at_call 65; refine (HA.out _).mono ?_)); rintro e1 w1 ⟨rfl, hb1⟩; have S1 := take_S (by first | exact take_D hS0 | exact take_D (take_A _ hS0 HLT.out)) HLT.out hb1; have t0 := S1.1.1; have t1 := S1.1.2.1; have t2 := S1.1.2.2; have S1' := take_A (.cells #[.int .u64 0, .int .u64 0] 51) S1 HLT.out; have t0' := S1'.1.1; have t1' := S1'.1.2.1; have t2' := S1'.1.2.2; (try have D1 := (HB.new W0 #[.int .u64 0, .int .u64 0] 51).drew.callee hb1)) | ((with_reducible (go_at_call 64; refine (HLo'.out _ (by first | exact S1 | exact take_A _ S1 HLT.out)).mono ?_)); rintro e2 w2 ⟨rfl, hb2⟩; (try have D2 := D1.callee hb2); (try have D2 := (HB.new w1 #[.int .u64 0, .int .u64 0] 51).callee hb2); (try obtain ⟨⟨x0, x1⟩, x2, x3⟩ := D2.two)))
    all_goals go_wp2
    all_goals go_meet
    all_goals (have hB2 : Below W0.heap.size W0 w2 := (by first | exact bc S1.2 hb2 | exact bc S1'.2 hb2))
    all_goals first
      | exact ⟨_, rfl, rfl, HB.new w2 _ _, ba hB2 _, hB2.size⟩
      | exact ⟨_, rfl, rfl, (D2.set20 _).set21 _, set2_below hB2 S1.2.size _ _, S1.2.size⟩
      | exact ⟨_, rfl, rfl, (D2.set20 _).set21 _, set2_below hB2 (Nat.le_refl _) _ _, Nat.le_refl _⟩
  case rest =>
    obtain ⟨g7, rfl, rfl, E7, hbc, hg7⟩ := hcut
    go_upto_block 1 with fail
    go_cut [9] (fun s9 wx => s9 = .int .i64 ((L.takeWhile (fun k => decide (k.b < u))).length : Int) ∧ Below W0.heap.size W0 wx ∧ HB wx g7 #[.int .u64 (u : Int), .int .u64 ((u : Int) + N)] 51)
    case first =>
      go_wp2_with fail
      go_loopg [9] (L.takeWhile (fun k => decide (k.b < u))).length (fun g s9 wx => ∃ j : Nat, j + g = (L.takeWhile (fun k => decide (k.b < u))).length ∧ s9 = .int .i64 (j : Int) ∧ Below W0.heap.size W0 wx ∧ HB wx g7 #[.int .u64 (u : Int), .int .u64 ((u : Int) + N)] 51)
      case atStart => exact ⟨0, by omega, rfl, hbc, E7⟩
      case round =>
        obtain ⟨j, hjg, rfl, hbx, E7'⟩ := hrel
        have hX0 := HX.out.1.under hbx HLT.out
        have c0 := hX0.cell 0 _ rfl
        have c1 := hX0.cell 1 _ rfl
        have c2 := hX0.cell 2 _ rfl
        have c3 := E7'.two.1.1
        have c4 := E7'.two.1.2
        have hCx := HC.out.below (HB0.out.trans (hbx.mono HB0.out.size))
        have hle := tw_le (fun k => decide (k.b < u)) L
        have HBX := Lib.hid hbx
        have HE7 := Lib.hid E7'
        clear hX0 E7' hbx
        cases gk with
        | zero =>
          have hj : j = (L.takeWhile (fun k => decide (k.b < u))).length := by omega
          subst hj
          rcases Nat.lt_or_ge (L.takeWhile (fun k => decide (k.b < u))).length L.length with hlt | hge
          · obtain ⟨k, hk, hp⟩ := tw_at (fun k => decide (k.b < u)) L hlt
            obtain ⟨gb, rfl, hg, p0, p1, p2, p3⟩ := hCx _ k hk
            generalize (L.takeWhile (fun k => decide (k.b < u))).length = K at *
            have e1 : (K : Int) < (L.length : Int) := by omega
            have e2 : decide (k.b < u) = false := hp
            clear hp hk hCx
            go_wp2
            go_quiet (fail)
            go_wp2
            go_meet
            case rel => exact ⟨rfl, bn HBX.out _, HE7.out.drewN _⟩
          · generalize (L.takeWhile (fun k => decide (k.b < u))).length = K at *
            have e1 : decide (K < L.length) = false := decide_eq_false (by omega)
            clear hCx
            go_wp2
            go_quiet (fail)
            go_wp2
            go_meet
            case rel => exact ⟨rfl, bn HBX.out _, HE7.out.drewN _⟩
        | succ g =>
          obtain ⟨k, hk, hp⟩ := tw_lt (fun k => decide (k.b < u)) L j (by omega)
          obtain ⟨gb, rfl, hg, p0, p1, p2, p3⟩ := hCx _ k hk
          have e1 : (j : Int) < (L.length : Int) := by have := (List.getElem?_eq_some_iff.mp hk).1; omega
          have e2 : (k.b : Int) < (u : Int) := by have := of_decide_eq_true hp; omega
          clear hp hk hCx
          go_wp2
          go_quiet (fail)
          go_wp2
          go_roundg g
          case measure => omega
          case rel => exact ⟨j + 1, by omega, by go_num, bn HBX.out _, HE7.out.drewN _⟩
    case rest =>
      obtain ⟨rfl, hbx, E7'⟩ := hcut
      have hP : TP w g7 #[.int .u64 (rb : Int), .int .u64 (T : Int), .slice a L.length cap] #[.int .u64 (u : Int), .int .u64 ((u : Int) + N)] wc := ⟨HX.out.1.under hbx HLT.out, HX.out.2.1.under hbx HX.out.2.1.lt, HX.out.2.2.under hbx HX.out.2.2.lt, E7', HB0.out.trans (hbx.mono HB0.out.size)⟩
      have hgw : w.heap.size + 1 + 1 < wc.heap.size := hP.2.2.1.lt
      have hgc : g7 < wc.heap.size := E7'.lt
      have hgne : g7 ≠ w.heap.size := by have := HX.out.2.2.lt; omega
      have HCl : Hid (∀ W, Below w.heap.size w W → Calls Try.prog 67 #[.slice a L.length cap] W fun e w' => ∃ v', e = .returned v' ∧ w'.ownsRow W.heap.size 103 4 v' L.length (flatB L) ∧ Below W.heap.size W w') := fun W hW => cloneB _ L W (HS.out.below hW) (by omega)
      have hKL := tw_le (fun k => decide (k.b < u)) L
      have HXL : Hid (∀ (v : Value) (B vb : Nat) (W : World), W.ownsRow B 103 4 v L.length (flatB L) → HB W vb #[.int .u64 (u : Int), .int .u64 ((u : Int) + N), .bool false, .int .i64 0] 103 → v.ownBlock ≠ some vb → B ≤ W.heap.size →
          Calls Try.prog 66 #[v, .int .i64 ((L.takeWhile (fun k => decide (k.b < u))).length : Int), .slice (some ⟨vb, 0, none⟩) 1 1] W fun e w' => ∃ v', e = .returned v' ∧ w'.ownsRow B 103 4 v' (L.length + 1) (flatB (L.takeWhile (fun k => decide (k.b < u)) ++ ⟨u, u + N, false, 0⟩ :: L.dropWhile (fun k => decide (k.b < u)))) ∧ Below B W w') := by
        intro v B vb W h1 h2 h3 h4
        have := insert103 v L.length (L.takeWhile (fun k => decide (k.b < u))).length (flatB L) B vb [.int .u64 (u : Int), .int .u64 ((u : Int) + N), .bool false, .int .i64 0] W h1 (by omega) hKL (flatB_one L) rfl (by simp [Value.oneCell']) h2 h3 h4
        rw [flatB_take, flatB_drop, tw_take, tw_drop] at this
        rw [flatB_append, flatB_cons]
        exact this
      generalize hMd : (L.takeWhile (fun k => decide (k.b < u)) ++ ⟨u, u + N, false, 0⟩ :: L.dropWhile (fun k => decide (k.b < u))) = M at HXL
      have HMD := Lib.hid hMd
      clear hMd
      generalize (L.takeWhile (fun k => decide (k.b < u))).length = K at HXL hKL ⊢
      have b1 := hP.2.2.2.2
      have hg3 : w.heap.size + 1 + 1 < g7 := by have := HX.out.2.2.lt; omega
      have qa1 : w.heap.size + 1 + 1 < wc.drew.heap.size := hgw
      have qa0 : w.heap.size < wc.drew.heap.size := by omega
      have qb1 : w.heap.size + 1 + 1 < ((wc.alloc (.cells #[.int .u64 (u : Int), .int .u64 ((u : Int) + N), .bool false, .int .i64 0] 103)).drew).heap.size := by simp; omega
      have qb0 : w.heap.size < ((wc.alloc (.cells #[.int .u64 (u : Int), .int .u64 ((u : Int) + N), .bool false, .int .i64 0] 103)).drew).heap.size := by simp; omega
      obtain ⟨⟨c0, c1, c2, -⟩, c3, c4⟩ := hP.cells
      obtain ⟨⟨d0, d1, d2, -⟩, d3, d4⟩ := (hP.alloc (.cells #[.int .u64 (u : Int), .int .u64 ((u : Int) + N), .bool false, .int .i64 0] 103)).cells
      clear HX HLo' HA HC HB0 hS0 HLT hbx E7' E7 hbc hg7
      go_upto_region 11 with fail
      go_cut [] (fun wx => ∃ s' B, w.heap.size + 1 + 1 < B ∧ wx.ownsRow B 103 4 s' (L.length + 1) (flatB M) ∧ TP w g7 #[.int .u64 (rb : Int), .int .u64 (T : Int), s'] #[.int .u64 (u : Int), .int .u64 ((u : Int) + N)] wx)
      case first =>
        go_region_with (first
          | ((with_reducible (go_at_call 67; refine (HCl.out _ (by first | exact b1.drew | exact (ba b1 _).drew)).mono ?_)); rintro e1 w1 ⟨v1, rfl, ho1, hb1⟩; obtain ⟨a1, k1, rfl⟩ := own_slice ho1; have P1 := TP.callee (by first | exact hP.drew | exact (hP.alloc _).drew) hb1; obtain ⟨⟨p0, p1, p2, -⟩, p3, p4⟩ := P1.cells)
          | ((with_reducible (go_at_call 66; refine (HXL.out _ _ _ _ (ho1.alloc _) (HB.new w1 _ _) (fun e => by have := (ho1.lt _ e).2; omega) (by have := hb1.size; simp at this ⊢; omega)).mono ?_)); rintro e2 w2 ⟨v2, rfl, ho2, hb2⟩; obtain ⟨a2, k2, rfl⟩ := own_slice ho2; have P2 := (P1.alloc (.cells #[.int .u64 (u : Int), .int .u64 ((u : Int) + N), .bool false, .int .i64 0] 103)).under hb2 (by simp; omega) (by simp; omega); obtain ⟨⟨q0, q1, q2, q3⟩, q4, q5⟩ := P2.cells)
          | ((with_reducible (go_at_call 66; refine (HXL.out _ _ _ _ ho1 ((HB.new wc _ _).drew.callee hb1) (fun e => by have := (ho1.lt _ e).1; simp at this; omega) hb1.size).mono ?_)); rintro e2 w2 ⟨v2, rfl, ho2, hb2⟩; obtain ⟨a2, k2, rfl⟩ := own_slice ho2; have P2 := P1.under hb2 (by simp; omega) (by simp; omega); obtain ⟨⟨q0, q1, q2, q3⟩, q4, q5⟩ := P2.cells))
        all_goals go_wp2
        all_goals go_meet
        all_goals first
          | exact ⟨_, _, qa1, own_set ho2 ⟨w.heap.size, 2, none⟩ _ qa0, P2.set _ hgne⟩
          | exact ⟨_, _, qb1, own_set ho2 ⟨w.heap.size, 2, none⟩ _ qb0, P2.set _ hgne⟩
      case rest =>
        obtain ⟨s', B, hB, ho, hP'⟩ := hcut
        obtain ⟨a3, k3, rfl⟩ := own_slice ho
        have hM : M.length = L.length + 1 := by have := ho.1; rw [flatB_length] at this; omega
        obtain ⟨⟨p0, p1, p2, -⟩, p3, p4⟩ := hP'.cells
        obtain ⟨⟨⟨r0, r1, r2⟩, f0, f1, f2⟩, s0, s1, s2, -⟩ := hP'.2.1.store3 (.int .u64 (rb : Int)) (.int .u64 (T : Int)) (.slice a3 (L.length + 1) k3)
        obtain ⟨⟨⟨r3, r4⟩, f3, f4⟩, s3, s4, -⟩ := hP'.2.2.1.store2 (.int .u64 (u : Int)) (.int .u64 ((u : Int) + N))
        have G0 := hP'.2.2.2.1.set_other ⟨w.heap.size + 1, 0, none⟩ (.int .u64 (rb : Int)) (by show g7 ≠ w.heap.size + 1; omega)
        have G1 := G0.set_other ⟨w.heap.size + 1, 1, none⟩ (.int .u64 (T : Int)) (by show g7 ≠ w.heap.size + 1; omega)
        have g0 := G0.two.1.1
        have g1 := G1.two.1.2
        have HO := Lib.hid ho
        have HP := Lib.hid hP'
        clear ho hP' G0 G1 hg3 hgne hgc
        go_wp2
        go_region
        all_goals go_wp2
        have hnn : w.heap.size + 1 + 1 ≠ w.heap.size + 1 := by omega
        obtain ⟨-, y3, y4, -⟩ := (((HP.out.2.2.1.set_other ⟨w.heap.size + 1, 0, none⟩ (.int .u64 (rb : Int)) hnn).set_other ⟨w.heap.size + 1, 1, none⟩ (.int .u64 (T : Int)) hnn).set_other ⟨w.heap.size + 1, 2, none⟩ (.slice a3 (L.length + 1) k3) hnn).store2 (.int .u64 (u : Int)) (.int .u64 ((u : Int) + N))
        refine bodyPost_ret (v := .tuple #[heapV rb T (.slice a3 (L.length + 1) k3), .agg #[.int .u64 (u : Int), .int .u64 ((u : Int) + N)], .int .i64 0]) (by simp [results, Try.results41, go_sem, s0, s1, s2, y3, y4]) rfl ⟨⟨_, rfl, ?_⟩, ?_⟩
        · rw [HMD.out]
          exact own_rowB (own_set (own_set (own_set (own_set (own_set HO.out _ _ (by show w.heap.size + 1 < B; omega)) _ _ (by show w.heap.size + 1 < B; omega)) _ _ (by show w.heap.size + 1 < B; omega)) _ _ hB) _ _ hB) hM.symm
        · exact bd (set2_below (set3_below HP.out.2.2.2.2 (by omega) _ _ _) (by omega) _ _)
end Go.Proofs.Ytdnhjkmcogbaoaa
