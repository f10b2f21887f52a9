/-
  slices.DeleteFunc at []heap.Block, with Settle's closure.
-/
import Derived.Test.YtdnhjkmcogbaoaaHeapC
namespace Go.Proofs.Ytdnhjkmcogbaoaa
open Go.RowKit
theorem flatB_set : ∀ (M : List Blk) (i : Nat) (k : Blk), i < M.length → flatB (M.set i k) = ((((flatB M).set (i * 4) (.int .u64 (k.b : Int))).set (i * 4 + 1) (.int .u64 (k.t : Int))).set (i * 4 + 2) (.bool k.f)).set (i * 4 + 3) (.int .i64 k.a)
  | [], i, k, h => by simp at h
  | q :: M, 0, k, _ => by simp [flatB_cons, Blk.vals]
  | q :: M, i + 1, k, h => by
    have ih := flatB_set M i k (by simpa using h)
    rw [List.set_cons_succ, flatB_cons, ih, flatB_cons]
    have e : (i + 1) * 4 = i * 4 + 4 := by omega
    rw [e]
    simp [Blk.vals, List.set_cons_succ, Nat.add_assoc]
theorem own_stored4 {w : World} {B g cap n : Nat} {M : List Blk} (h : w.ownsRow B 103 4 (.slice (some ⟨g, 0, none⟩) n cap) n (flatB M)) (i : Nat) (k : Blk) (hi : i < M.length) :
    ((((w.setCell ⟨g, i * 4, none⟩ (.int .u64 (k.b : Int))).setCell ⟨g, i * 4 + 1, none⟩ (.int .u64 (k.t : Int))).setCell ⟨g, i * 4 + 2, none⟩ (.bool k.f)).setCell ⟨g, i * 4 + 3, none⟩ (.int .i64 k.a)).ownsRow B 103 4 (.slice (some ⟨g, 0, none⟩) n cap) n (flatB (M.set i k)) := by
  rw [flatB_set M i k hi]
  exact ((((h.stored _ _).1.stored _ _).1.stored _ _).1.stored _ _).1
theorem own_rowB {w : World} {B : Nat} {v : Value} {n : Nat} {M : List Blk} (h : w.ownsRow B 103 4 v n (flatB M)) (hn : n = M.length) : RowB w v M := by
  subst hn
  obtain ⟨h1, h2⟩ := h
  exact ⟨h1, h2.imp id fun ⟨g, cap, cur, he, hb, hr⟩ => ⟨g, cap, cur, he, Nat.zero_le _, hr⟩⟩
theorem own_call {w w' : World} {B : Nat} {e : TypeId} {size : Nat} {v : Value} {n : Nat} {xs : List Value} (h : w.ownsRow B e size v n xs) (k : Below w.heap.size w w') : w'.ownsRow B e size v n xs :=
  World.ownsRow.kept h (row := none) ⟨k.os, k.tape, k.output, k.size, fun i hi _ => k.block i hi⟩ (by cases v.ownBlock <;> simp)
theorem own_four {w : World} {B g cap n i : Nat} {M : List Blk} {q : Blk} (h : w.ownsRow B 103 4 (.slice (some ⟨g, 0, none⟩) n cap) n (flatB M)) (hn : M.length = n) (hq : M[i]? = some q) :
    (w.cell? ⟨g, i * 4, none⟩ = some (.int .u64 (q.b : Int)) ∧ w.cell? ⟨g, i * 4 + 1, none⟩ = some (.int .u64 (q.t : Int)) ∧ w.cell? ⟨g, i * 4 + 2, none⟩ = some (.bool q.f) ∧ w.cell? ⟨g, i * 4 + 3, none⟩ = some (.int .i64 q.a)) ∧
    w.frozen? ⟨g, i * 4, none⟩ = false ∧ w.frozen? ⟨g, i * 4 + 1, none⟩ = false ∧ w.frozen? ⟨g, i * 4 + 2, none⟩ = false ∧ w.frozen? ⟨g, i * 4 + 3, none⟩ = false := by
  obtain ⟨a, c, hv, hc, _⟩ := (own_rowB h hn.symm).open
  obtain ⟨g', rfl, _, p0, p1, p2, p3⟩ := hc i q hq
  cases hv
  exact ⟨⟨p0, p1, p2, p3⟩, h.frozenAt _, h.frozenAt _, h.frozenAt _, h.frozenAt _⟩
theorem set4_below {B g : Nat} {a X : World} (h : Below B a X) (hg : B ≤ g) (o0 o1 o2 o3 : Nat) (a0 a1 a2 a3 : Value) : Below B a ((((X.setCell ⟨g, o0, none⟩ a0).setCell ⟨g, o1, none⟩ a1).setCell ⟨g, o2, none⟩ a2).setCell ⟨g, o3, none⟩ a3) := (((h.setCell hg _).setCell hg _).setCell hg _).setCell hg _
/-- One more of those that stay. -/
theorem filter_step {p : Blk → Bool} {L M : List Blk} {i j : Nat} {k : Blk} (hk : L[j]? = some k) (hM : M.take i = (L.take j).filter p) (hij : i ≤ j) (hjM : j < M.length) (hp : p k = true) : (M.set i k).take (i + 1) = (L.take (j + 1)).filter p := by
  have e1 : L.take (j + 1) = L.take j ++ [k] := by rw [List.take_add_one, hk]; rfl
  have e2 : (M.set i k).take (i + 1) = M.take i ++ [k] := by
    rw [List.take_add_one, List.getElem?_set_self (by omega)]
    rw [List.take_set_of_le (Nat.le_refl _)]; rfl
  rw [e1, e2, List.filter_append, hM]
  simp [hp]
theorem filter_skip {p : Blk → Bool} {L : List Blk} {j : Nat} {k : Blk} (hk : L[j]? = some k) (hp : p k = false) : (L.take (j + 1)).filter p = (L.take j).filter p := by
  have e1 : L.take (j + 1) = L.take j ++ [k] := by rw [List.take_add_one, hk]; rfl
  rw [e1, List.filter_append]; simp [hp]
theorem drop_set_le {M : List Blk} {i j : Nat} (k : Blk) (h : i < j) : (M.set i k).drop j = M.drop j := by
  rw [List.drop_set_of_lt h]
theorem flatB_take : ∀ (M : List Blk) (i : Nat), (flatB M).take (i * 4) = flatB (M.take i)
  | [], i => by simp [flatB]
  | q :: M, 0 => by simp [flatB]
  | q :: M, i + 1 => by
    rw [List.take_succ_cons, flatB_cons, flatB_cons, ← flatB_take M i, show (i + 1) * 4 = q.vals.length + i * 4 from by simp [Blk.vals]; omega, List.take_length_add_append]
theorem flatB_drop : ∀ (M : List Blk) (i : Nat), (flatB M).drop (i * 4) = flatB (M.drop i)
  | [], i => by simp [flatB]
  | q :: M, 0 => by simp [flatB]
  | q :: M, i + 1 => by
    rw [List.drop_succ_cons, flatB_cons, ← flatB_drop M i, show (i + 1) * 4 = q.vals.length + i * 4 from by simp [Blk.vals]; omega, List.drop_length_add_append]
theorem zero103 (w : World) : (zeroValue 103).run Try.prog w = .ok (.agg #[.int .u64 0, .int .u64 0, .bool false, .int .i64 0]) w := by kernel_rfl
theorem findIdx_facts {α : Type} {p : α → Bool} {L : List α} {i : Nat} (h : L.findIdx? p = some i) : ∃ k, L[i]? = some k ∧ p k = true ∧ ∀ j q, j < i → L[j]? = some q → p q = false := by
  rw [List.findIdx?_eq_some_iff_getElem] at h
  obtain ⟨h1, h2, h3⟩ := h
  refine ⟨L[i], List.getElem?_eq_getElem h1, h2, fun j q hj hq => ?_⟩
  have := h3 j hj
  have hq' := (List.getElem?_eq_some_iff.mp hq).2
  rw [hq'] at this
  simpa using this
set_option maxRecDepth 100000 in
theorem deleteB (g cap : Nat) (L : List Blk) (now : Int) (w : World) (B cb : Nat) (hown : w.ownsRow B 103 4 (.slice (some ⟨g, 0, none⟩) L.length cap) L.length (flatB L)) (hLn : L.length ≤ 1000) (hcb : HB w cb #[.int .i64 now] 3) (hne : cb ≠ g) (hB : B ≤ w.heap.size) (ha : ∀ k ∈ L, 0 ≤ k.a ∧ k.a ≤ 1099511627776) :
    Calls Try.prog 71 #[.slice (some ⟨g, 0, none⟩) L.length cap, .func (.func 72) #[] #[.pointer (some ⟨cb, 0, none⟩)]] w fun e w' => ∃ v', e = .returned v' ∧ w'.ownsRow B 103 4 v' (L.filter (fun k => !goneB now k)).length (flatB (L.filter (fun k => !goneB now k))) ∧ Below B w w' := by
  obtain ⟨a0, cap0, hv0, hcells, hlc⟩ := (own_rowB hown rfl).open
  cases hv0
  have hBg : B ≤ g := (hown.lt g rfl).1
  have hI := indexB72 cb #[.int .i64 now] 3 (goneB now) (some ⟨g, 0, none⟩) cap L w hcells hLn hcb (fun k hk W hW => settle1_any k cb now W hW (ha k hk))
  cases hf : L.findIdx? (goneB now) with
  | none =>
    have hfl : L.filter (fun k => !goneB now k) = L := by
      rw [List.filter_eq_self]
      intro k hk
      have := (List.findIdx?_eq_none_iff.mp hf) k hk
      simp [this]
    rw [show idxI (goneB now) L = -1 from by simp [idxI, hf]] at hI
    rw [hfl]
    have HI := Lib.hid hI
    have HO := Lib.hid hown
    clear hI hf hfl hcells hown hcb hlc
    go_enter Try.func71, Try.ntmps71
    go_wp2_with (first | ((with_reducible (go_at_call 68; refine HI.out.mono ?_)); rintro e1 w1 ⟨rfl, hb1⟩))
    go_ret
    exact ⟨_, rfl, World.ownsRow.kept HO.out (row := none) ⟨hb1.os, hb1.tape, hb1.output, hb1.size, fun i hi _ => hb1.block i hi⟩ (.inr (by simp [Value.ownBlock])), hb1.mono hB⟩
  | some i0 =>
    obtain ⟨k0, hk0, hp0, hn0⟩ := findIdx_facts hf
    rw [show idxI (goneB now) L = i0 from by simp [idxI, hf]] at hI
    have hi0 : i0 < L.length := (List.getElem?_eq_some_iff.mp hk0).1
    have hft : (L.take (i0 + 1)).filter (fun k => !goneB now k) = L.take i0 := by
      rw [filter_skip hk0 (by simp [hp0]), List.filter_eq_self]
      intro k hk
      obtain ⟨j, hj⟩ := List.mem_iff_getElem?.mp hk
      rw [List.getElem?_take] at hj
      split at hj
      · rename_i hlt; simp [hn0 j k hlt hj]
      · cases hj
    have HI := Lib.hid hI
    have HO := Lib.hid hown
    have HCB := Lib.hid hcb
    have HA := Lib.hid ha
    have HFT := Lib.hid hft
    have hm1 : ((i0 : Int) == -1) = false := by simp
    clear hI hf hft hcells hown hcb ha hn0 hk0 hp0
    go_enter Try.func71, Try.ntmps71
    go_wp2_with (first | ((with_reducible (go_at_call 68; refine HI.out.mono ?_)); rintro e1 w1 ⟨rfl, hb1⟩))
    have hO1 : w1.ownsRow B 103 4 (.slice (some ⟨g, 0, none⟩) L.length cap) L.length (flatB L) := World.ownsRow.kept HO.out (row := none) ⟨hb1.os, hb1.tape, hb1.output, hb1.size, fun i hi _ => hb1.block i hi⟩ (.inr (by simp [Value.ownBlock]))
    have HO1 := Lib.hid hO1
    clear hO1
    go_loopg [5, 6] (L.length - (i0 + 1)) (fun gh s5 s6 wx => ∃ (i j : Nat) (M : List Blk), s5 = .int .i64 (i : Int) ∧ s6 = .int .i64 (j : Int) ∧ j + gh = L.length ∧ i < j ∧ Aside (M.length = L.length) ∧ Aside (M.take i = (L.take j).filter (fun k => !goneB now k)) ∧ Aside (M.drop j = L.drop j) ∧ Aside (wx.ownsRow B 103 4 (.slice (some ⟨g, 0, none⟩) L.length cap) L.length (flatB M)) ∧ Below B w wx ∧ HB wx cb #[.int .i64 now] 3)
    case atStart => exact ⟨i0, i0 + 1, L, rfl, by go_num, by omega, by omega, rfl, HFT.out.symm, rfl, HO1.out, hb1.mono hB, HCB.out.callee hb1⟩
    case round =>
      obtain ⟨i, j, M, rfl, rfl, hjg, hij, HM0, HM1, HM2, HOx, hbx, hcx⟩ := hrel
      cases gk with
      | zero =>
        have hj : j = L.length := by omega
        subst hj
        have hO := HOx.out
        obtain ⟨cur, hcur, hcs, htk, hcm⟩ : ∃ cur : Array Value, wr.heap[g]? = some (.cells cur 103 (0, 0)) ∧ cur.size = cap * 4 ∧ cur.toList.take (L.length * 4) = flatB M ∧ cap ≤ maxLen := by
          rcases hO.2 with ⟨h, _⟩ | ⟨g', cap', cur, h, _, hg, _, h3, h4, h5⟩
          · cases h
          · cases h; exact ⟨cur, hg, h4, h5, h3⟩
        obtain ⟨cs, hcl, hc1, hrun⟩ := run_clearN (P := Try.prog) wr 52 103 0 (.agg #[.int .u64 0, .int .u64 0, .bool false, .int .i64 0]) 4 Try.underlying52 zero103 rfl (by decide) g (i * 4) (L.length - i) (cap - i) cur 103 hcur (by omega) (by omega)
        have hq1 : ¬ (cap = i) := by omega
        have hq2 : i ≤ L.length := by omega
        have hq3 : i ≤ cap := by omega
        have hq4 : ¬ ((L.length : Int) < (L.length : Int)) := by omega
        have HR := Lib.hid hrun
        have HCU := Lib.hid hcur
        have HCS := Lib.hid hcs
        have HTK := Lib.hid htk
        clear hrun hO hcur hcs htk hcx
        go_wp2_with (refine wpList_clearN _ rfl _ 52 rfl _ rfl HR.out ?_)
        go_ret
        have hMl := HM0.out
        have hM1 := HM1.out
        rw [List.take_length] at hM1
        have hil : i = (L.filter (fun k => !goneB now k)).length := by rw [← hM1, List.length_take]; omega
        rw [← hil]
        refine ⟨_, rfl, ⟨by rw [flatB_length, ← hil], .inr ⟨g, cap, _, rfl, hBg, setRow_heap _ _ _ _ _ _ HCU.out, hq3, hcm, ?_, ?_⟩⟩, below_setRow hbx hBg _⟩
        · have := HCS.out
          simp only [List.size_toArray, List.length_append, List.length_take, List.length_drop, Array.length_toList]
          omega
        · have h1 : (cur.toList.take (i * 4)).length = i * 4 := by have := HCS.out; rw [List.length_take, Array.length_toList]; omega
          have h2 := List.take_left' (l₂ := cs ++ cur.toList.drop (i * 4 + (L.length - i) * 4)) h1
          show List.take (i * 4) (cur.toList.take (i * 4) ++ (cs ++ cur.toList.drop (i * 4 + (L.length - i) * 4))) = _
          rw [h2, ← hM1, ← flatB_take, ← HTK.out, List.take_take, Nat.min_eq_left (by omega)]
      | succ gh =>
        have hjl : (j : Int) < (L.length : Int) := by omega
        have hjn : j < L.length := by omega
        obtain ⟨k, hk⟩ : ∃ k, L[j]? = some k := ⟨_, List.getElem?_eq_getElem hjn⟩
        have hMk : M[j]? = some k := by
          have := congrArg (fun l : List Blk => l[0]?) HM2.out
          simpa [List.getElem?_drop, hk] using this
        have hMl := HM0.out
        obtain ⟨q, hq⟩ : ∃ q, M[i]? = some q := ⟨_, List.getElem?_eq_getElem (by omega)⟩
        obtain ⟨aR, capR, hvR, hcR, hlR⟩ := (own_rowB HOx.out hMl.symm).open
        obtain ⟨g1, hg1, hglt, p0, p1, p2, p3⟩ := hcR j k hMk
        rw [hMl] at hvR
        cases hvR
        cases hg1
        have hcl := settle1_any k cb now (wr.alloc (.cells #[.int .u64 (k.b : Int), .int .u64 (k.t : Int), .bool k.f, .int .i64 k.a] 103)) (hcx.alloc _) (HA.out k (List.mem_of_getElem? hk))
        have HCL := Lib.hid hcl
        have HQ := Lib.hid hq
        have HK := Lib.hid hk
        have HX := Lib.hid hcx
        have HML := Lib.hid hMl
        clear hcl hq hk hMk hcx hMl hcR
        cases hp : goneB now k with
        | true =>
          rw [hp] at HCL
          go_wp2_with (first | ((with_reducible (go_at_call 72; refine HCL.out.mono ?_)); rintro e1 w2 ⟨rfl, hb2⟩))
          go_roundg gh
          case measure => omega
          case rel => exact ⟨i, j + 1, M, rfl, by go_num, by omega, by omega, HML.out, by show _ = _; rw [HM1.out, filter_skip HK.out (by simp [hp])], by show _ = _; rw [← List.drop_drop, HM2.out, List.drop_drop], own_call (HOx.out.alloc _) hb2, (hbx.alloc (Nat.le_trans hB hbx.size) _).trans (hb2.mono (Nat.le_trans (Nat.le_trans hB hbx.size) (by simp))), (HX.out.alloc _).callee hb2⟩
        | false =>
          rw [hp] at HCL
          go_wp2_with (first | ((with_reducible (go_at_call 72; refine HCL.out.mono ?_)); rintro e1 w2 ⟨rfl, hb2⟩; have A0 := (HB.new wr #[.int .u64 (k.b : Int), .int .u64 (k.t : Int), .bool k.f, .int .i64 k.a] 103).callee hb2; have a0 := A0.cell 0 _ rfl; have a1 := A0.cell 1 _ rfl; have a2 := A0.cell 2 _ rfl; have a3 := A0.cell 3 _ rfl; have O2 := Lib.hid (own_call (HOx.out.alloc (.cells #[.int .u64 (k.b : Int), .int .u64 (k.t : Int), .bool k.f, .int .i64 k.a] 103)) hb2); obtain ⟨⟨q0, q1, q2, q3⟩, z0, z1, z2, z3⟩ := own_four O2.out HML.out HQ.out; clear p0 p1 p2 p3))
          go_roundg gh
          case measure => omega
          case rel =>
            have hX := (HX.out.alloc (.cells #[.int .u64 (k.b : Int), .int .u64 (k.t : Int), .bool k.f, .int .i64 k.a] 103)).callee hb2
            have hS := own_stored4 O2.out i k (by have := HML.out; omega)
            have hM1 : (M.set i k).take (i + 1) = (L.take (j + 1)).filter (fun k => !goneB now k) := filter_step HK.out HM1.out (by omega) (by have := HML.out; omega) (by simp [hp])
            have hM2 : (M.set i k).drop (j + 1) = L.drop (j + 1) := by rw [drop_set_le k (by omega), ← List.drop_drop, HM2.out, List.drop_drop]
            have hbb : Below B w w2 := (hbx.alloc (Nat.le_trans hB hbx.size) _).trans (hb2.mono (Nat.le_trans (Nat.le_trans hB hbx.size) (by simp)))
            exact ⟨i + 1, j + 1, M.set i k, by go_num, by go_num, by omega, by omega, (List.length_set).trans HML.out, hM1, hM2, hS, set4_below hbb hBg _ _ _ _ _ _ _ _, (((hX.set_other _ _ hne).set_other _ _ hne).set_other _ _ hne).set_other _ _ hne⟩
end Go.Proofs.Ytdnhjkmcogbaoaa
