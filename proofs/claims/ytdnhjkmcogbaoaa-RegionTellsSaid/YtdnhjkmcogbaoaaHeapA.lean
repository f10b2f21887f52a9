/-
  heap: the blocks as a list; lowest, walked.
-/
import Derived.Test.YtdnhjkmcogbaoaaInsH
import Derived.Test.YtdnhjkmcogbaoaaAskB
import Derived.Deep.LoopGhost
namespace Go.Proofs.Ytdnhjkmcogbaoaa
open Go.RowKit
structure Blk where
  b : Nat
  t : Nat
  f : Bool
  a : Int
def Blk.vals (k : Blk) : List Value := [.int .u64 (k.b : Int), .int .u64 (k.t : Int), .bool k.f, .int .i64 k.a]
def flatB (L : List Blk) : List Value := L.flatMap Blk.vals
theorem flatB_length (L : List Blk) : (flatB L).length = L.length * 4 := by
  induction L with
  | nil => rfl
  | cons k L ih => simp [flatB, Blk.vals] at ih ⊢; omega
theorem flatB_cons (k : Blk) (L : List Blk) : flatB (k :: L) = k.vals ++ flatB L := rfl
theorem flatB_append (L M : List Blk) : flatB (L ++ M) = flatB L ++ flatB M := by simp [flatB]
theorem flatB_get (L : List Blk) (j : Nat) (k : Blk) (h : L[j]? = some k) : ∀ c v, k.vals[c]? = some v → (flatB L)[j * 4 + c]? = some v := by
  induction L generalizing j with
  | nil => simp at h
  | cons q L ih =>
    intro c v hv
    cases j with
    | zero =>
      simp at h; subst h
      rw [flatB_cons, Nat.zero_mul, Nat.zero_add]
      have : c < q.vals.length := (List.getElem?_eq_some_iff.mp hv).1
      rw [List.getElem?_append_left this]; exact hv
    | succ j =>
      rw [flatB_cons, List.getElem?_append_right (by simp [Blk.vals]; omega)]
      have := ih j (by simpa using h) c v hv
      rw [show (j + 1) * 4 + c - q.vals.length = j * 4 + c from by simp [Blk.vals]; omega]
      exact this
theorem flatB_one (L : List Blk) : ∀ u ∈ flatB L, u.oneCell' = true := by
  intro u hu
  obtain ⟨k, _, hk⟩ := List.mem_flatMap.mp hu
  simp [Blk.vals] at hk
  rcases hk with rfl | rfl | rfl | rfl <;> rfl
/-- v is a slice of L's blocks. -/
def RowB (W : World) (v : Value) (L : List Blk) : Prop := W.ownsRow 0 103 4 v L.length (flatB L)
/-- The blocks' cells, at an address. -/
def CellsB (W : World) (a : Option Addr) (L : List Blk) : Prop := ∀ j k, L[j]? = some k → ∃ g, a = some ⟨g, 0, none⟩ ∧ g < W.heap.size ∧ W.cell? ⟨g, j * 4, none⟩ = some (.int .u64 (k.b : Int)) ∧ W.cell? ⟨g, j * 4 + 1, none⟩ = some (.int .u64 (k.t : Int)) ∧ W.cell? ⟨g, j * 4 + 2, none⟩ = some (.bool k.f) ∧ W.cell? ⟨g, j * 4 + 3, none⟩ = some (.int .i64 k.a)
theorem RowB.open {W : World} {v : Value} {L : List Blk} (h : RowB W v L) : ∃ a cap, v = .slice a L.length cap ∧ CellsB W a L ∧ L.length ≤ cap := by
  rcases h.2 with ⟨rfl, h0⟩ | ⟨g, cap, cur, rfl, _, hg, hnc, hcm, hcs, htake⟩
  · refine ⟨none, 0, by rw [h0], fun j k hk => ?_, by omega⟩
    have : L = [] := List.eq_nil_of_length_eq_zero h0
    subst this; simp at hk
  · refine ⟨_, cap, rfl, fun j k hk => ⟨g, rfl, (Array.getElem?_eq_some_iff.1 hg).1, ?_⟩, hnc⟩
    have hc : ∀ c v, k.vals[c]? = some v → W.cell? ⟨g, j * 4 + c, none⟩ = some v := fun c v hv => by
      have := h.cells (g := g) rfl _ _ (flatB_get L j k hk c v hv)
      rwa [Addr.add_lit, Nat.zero_add] at this
    exact ⟨hc 0 _ rfl, hc 1 _ rfl, hc 2 _ rfl, hc 3 _ rfl⟩
theorem CellsB.below {W W' : World} {a : Option Addr} {L : List Blk} (h : CellsB W a L) (k : Below W.heap.size W W') : CellsB W' a L := by
  intro j q hq
  obtain ⟨g, rfl, hg, h0, h1, h2, h3⟩ := h j q hq
  have hc : ∀ o v, W.cell? ⟨g, o, none⟩ = some v → W'.cell? ⟨g, o, none⟩ = some v := fun o v hv => (k.cell (p := ⟨g, o, none⟩) hg).trans hv
  exact ⟨g, rfl, Nat.lt_of_lt_of_le hg k.size, hc _ _ h0, hc _ _ h1, hc _ _ h2, hc _ _ h3⟩
theorem RowB.below {W W' : World} {v : Value} {L : List Blk} (h : RowB W v L) (k : Below W.heap.size W W') : RowB W' v L :=
  World.ownsRow.kept h (row := none) ⟨k.os, k.tape, k.output, k.size, fun i hi _ => k.block i hi⟩ (by cases v.ownBlock <;> simp)
/-- A heap, as a value. -/
abbrev heapV (b t : Nat) (s : Value) : Value := .agg #[.int .u64 (b : Int), .int .u64 (t : Int), s]
def hitB (s u : Nat) (k : Blk) : Bool := decide (k.b < u ∧ s < k.t)
/-- What lowest tells, from a base on. -/
inductive Low (L : List Blk) (N x T : Nat) : Nat → Nat → Nat → Bool → Prop
  | over {b : Nat} (h : T < b) : Low L N x T b 0 0 false
  | hit {b s u : Nat} {ok : Bool} (k : Blk) (h : b ≤ T) (hk : L.find? (hitB b (b + N)) = some k) (r : Low L N x T (up k.t x) s u ok) : Low L N x T b s u ok
  | free {b : Nat} (h : b ≤ T) (hk : L.find? (hitB b (b + N)) = none) : Low L N x T b b (b + N) (decide (b + N ≤ T))
theorem Low.det {L : List Blk} {N x T b s u s' u' : Nat} {ok ok' : Bool} (h : Low L N x T b s u ok) (h' : Low L N x T b s' u' ok') : s = s' ∧ u = u' ∧ ok = ok' := by
  induction h with
  | over h1 => cases h' with
    | over _ => exact ⟨rfl, rfl, rfl⟩
    | hit _ h2 _ _ => omega
    | free h2 _ => omega
  | hit k h1 hk r ih => cases h' with
    | over h2 => omega
    | hit k' h2 hk' r' => rw [hk] at hk'; cases hk'; exact ih r'
    | free h2 hk' => rw [hk] at hk'; cases hk'
  | free h1 hk => cases h' with
    | over h2 => omega
    | hit k' h2 hk' r' => rw [hk] at hk'; cases hk'
    | free h2 hk' => exact ⟨rfl, rfl, rfl⟩
theorem find_first {α : Type} (p : α → Bool) : ∀ (L : List α) (j : Nat) (k : α), L[j]? = some k → p k = true → (∀ i q, i < j → L[i]? = some q → p q = false) → L.find? p = some k
  | [], j, k, h, _, _ => by simp at h
  | q :: L, 0, k, h, hk, _ => by simp at h; subst h; simp [List.find?, hk]
  | q :: L, j + 1, k, h, hk, hn => by
    have h0 := hn 0 q (Nat.succ_pos _) rfl
    simp only [List.find?, h0]
    exact find_first p L j k (by simpa using h) hk (fun i r hi hr => hn (i + 1) r (by omega) (by simpa using hr))
theorem find_no {α : Type} (p : α → Bool) (L : List α) (h : ∀ i q, i < L.length → L[i]? = some q → p q = false) : L.find? p = none := by
  rw [List.find?_eq_none]
  intro q hq
  obtain ⟨i, hi⟩ := List.mem_iff_getElem?.mp hq
  rw [h i q (List.getElem?_eq_some_iff.mp hi).1 hi]
  simp
theorem lowest_any (rb T N x : Nat) (a : Option Addr) (cap : Nat) (L : List Blk) (w : World) (hrb : rb ≤ T) (hT : T ≤ 4294967296) (hN : N ≤ 4294967296) (hx : x ≤ 30) (hL : CellsB w a L) (hLT : ∀ k ∈ L, k.t ≤ T) (hLn : L.length ≤ 1000) :
    Calls Try.prog 64 #[heapV rb T (.slice a L.length cap), .int .u64 N, .int .i64 x] w fun e w' => (∃ (s u : Nat) (ok : Bool), e = .returned (.tuple #[.agg #[.int .u64 (s : Int), .int .u64 (u : Int)], .bool ok]) ∧ Low L N x T (up rb x) s u ok) ∧ Below w.heap.size w w' := by
  have hup : ∀ b, b ≤ T → ∀ w : World, Calls Try.prog 35 #[.int .u64 b, .int .i64 x] w fun e' w' => e' = .returned (.tuple #[.int .u64 (up b x : Nat), .bool true]) ∧ w = w' := fun b hb w => by
    have h1 : up b x < 18446744073709551616 := by
      have := (up_spec b x).2.1
      have : 2 ^ x ≤ 2 ^ 30 := Nat.pow_le_pow_right (by decide) hx
      omega
    have := up_any b x (by omega) w
    rwa [show ce (x : Int) = x from by unfold ce; omega, show upV b x = up b x from by rw [upV, if_pos h1], show upB b x = true from by simp [upB, h1]] at this
  have HU := Lib.hid hup
  have HC := Lib.hid hL
  have HT := Lib.hid hLT
  clear hup hL hLT
  go_enter Try.func64, Try.ntmps64
  go_wp2
  go_step3
  go_wp2_with (first | ((with_reducible (go_at_call 35; refine (HU.out rb hrb _).mono ?_)); rintro e1 w1 ⟨rfl, rfl⟩))
  go_step3
  go_wp2
  go_loopg [8] (T + 1 - up rb x) (fun g s8 wx => ∃ cur : Nat, s8 = .int .u64 (cur : Int) ∧ g = T + 1 - cur ∧ cur ≤ 8589934592 ∧ Aside (∀ s u ok, Low L N x T cur s u ok → Low L N x T (up rb x) s u ok) ∧ Below w.heap.size w wx ∧ HB wx w.heap.size #[.int .u64 (rb : Int), .int .u64 (T : Int), .slice a L.length cap] 54 ∧ HB wx (w.heap.size + 1) #[.int .u64 0, .int .u64 0] 51)
  case atStart => exact ⟨_, rfl, rfl, by have := (up_spec rb x).2.1; have : 2 ^ x ≤ 2 ^ 30 := Nat.pow_le_pow_right (by decide) hx; omega, fun _ _ _ h => h, ba (ba (Below.refl _ _) _) _, (HB.new w _ _).alloc _, HB.new' (w.alloc _) _ _ _ (by simp)⟩
  case round =>
    obtain ⟨cur, rfl, rfl, hcb, HLow, hbx, B0, B1⟩ := hrel
    have hc0 := B0.cell 0 _ rfl
    have hc1 := B0.cell 1 _ rfl
    have hc2 := B0.cell 2 _ rfl
    have B0' := Lib.hid B0
    have B1' := Lib.hid B1
    by_cases hct : cur ≤ T
    · have d1 : decide ((cur : Int) ≤ (T : Int)) = true := decide_eq_true (by omega)
      have hc1' := (B0.alloc (.cells #[.int .u64 (cur : Int), .int .u64 ((cur : Int) + N)] 51)).cell 2 _ rfl
      have hwr := B0.lt
      have hwr1 := B1.lt
      have E0 := Lib.hid (B0.alloc (.cells #[.int .u64 (cur : Int), .int .u64 ((cur : Int) + N)] 51))
      have E1 := Lib.hid (B1.alloc (.cells #[.int .u64 (cur : Int), .int .u64 ((cur : Int) + N)] 51))
      have HNE := Lib.hid (Nat.ne_of_gt hwr1)
      clear B0 B1 hwr hwr1
      go_wp2
      go_loopg [34] L.length (fun g2 s34 wy => ∃ j : Nat, j + g2 = L.length ∧ s34 = .int .i64 (j : Int) ∧ Aside (∀ i k, i < j → L[i]? = some k → hitB cur (cur + N) k = false) ∧ Below w.heap.size w wy ∧ HB wy w.heap.size #[.int .u64 (rb : Int), .int .u64 (T : Int), .slice a L.length cap] 54 ∧ HB wy (w.heap.size + 1) #[.int .u64 0, .int .u64 0] 51 ∧ HB wy wr.heap.size #[.int .u64 (cur : Int), .int .u64 ((cur : Int) + N)] 51)
      case atStart => exact ⟨0, by omega, rfl, fun i k h => by omega, ba hbx _, E0.out, E1.out, HB.new wr _ _⟩
      case round =>
        obtain ⟨j, hjg, rfl, HN, hby, C0, C1, C2⟩ := hrel
        cases gk with
        | zero =>
          have hj : j = L.length := by omega
          subst hj
          obtain ⟨⟨⟨r0, r1⟩, f0, f1⟩, s0, s1, -⟩ := C1.store2 (.int .u64 (cur : Int)) (.int .u64 ((cur : Int) + N))
          have c0 := C0.cell 1 _ rfl
          have c1 := C2.two.1.1
          have c2 := C2.two.1.2
          have G0 := C2.set_other ⟨w.heap.size + 1, 0, none⟩ (.int .u64 (cur : Int)) HNE.out
          have G1 := G0.set_other ⟨w.heap.size + 1, 1, none⟩ (.int .u64 ((cur : Int) + N)) HNE.out
          have c3 := G0.two.1.1
          have c4 := G1.two.1.2
          clear C0 C1 C2 G0 G1 hc0 hc1 hc2 hc1'
          go_wp2
          go_region
          go_wp2
          rw [Exit.noGoto_ret]
          refine bodyPost_ret (v := .tuple #[.agg #[.int .u64 (cur : Int), .int .u64 ((cur : Int) + N)], .bool (decide ((cur : Int) + N ≤ T))]) (by simp [results, Try.results64, go_sem, s0, s1]) rfl ⟨⟨cur, cur + N, decide (cur + N ≤ T), ?_, HLow.out _ _ _ (Low.free hct (find_no _ _ HN.out))⟩, bd (set2_below hby (Nat.le_add_right _ _) _ _)⟩
          rw [show ((cur + N : Nat) : Int) = (cur : Int) + N from by omega, show decide ((cur : Int) + N ≤ T) = decide (cur + N ≤ T) from decide_eq_decide.mpr (by omega)]
        | succ g2 =>
          obtain ⟨k, hk⟩ : ∃ k, L[j]? = some k := ⟨_, List.getElem?_eq_getElem (by omega)⟩
          obtain ⟨g, rfl, hg, p0, p1, p2, p3⟩ := HC.out.below (hby) j k hk
          have c1 := (C2.alloc (.cells #[.int .u64 (k.b : Int), .int .u64 (k.t : Int), .bool k.f, .int .i64 k.a] 103)).two.1.1
          have c2 := (C2.alloc (.cells #[.int .u64 (k.b : Int), .int .u64 (k.t : Int), .bool k.f, .int .i64 k.a] 103)).two.1.2
          have hjl : (j : Int) < (L.length : Int) := by omega
          have D0 := Lib.hid C0
          have D1 := Lib.hid C1
          have D2 := Lib.hid C2
          clear C0 C1 C2 hc0 hc1 hc2 hc1'
          by_cases h1 : k.b < cur + N
          · have e1 : decide ((k.b : Int) < (cur : Int) + N) = true := decide_eq_true (by omega)
            by_cases h2 : cur < k.t
            · have e2 : decide ((cur : Int) < (k.t : Int)) = true := decide_eq_true (by omega)
              go_wp2_with (first | ((with_reducible (go_at_call 35; refine (HU.out k.t (HT.out k (List.mem_of_getElem? hk)) _).mono ?_)); rintro e1 w1 ⟨rfl, rfl⟩))
              have hu := up_spec k.t x
              have hkT := HT.out k (List.mem_of_getElem? hk)
              go_roundg (T + 1 - up k.t x)
              case measure => omega
              case rel =>
                refine ⟨up k.t x, rfl, rfl, ?_, fun s u ok hl => HLow.out s u ok (Low.hit k hct (find_first _ L j k hk (decide_eq_true ⟨h1, h2⟩) HN.out) hl), ba hby _, D0.out.alloc _, D1.out.alloc _⟩
                have : 2 ^ x ≤ 2 ^ 30 := Nat.pow_le_pow_right (by decide) hx
                omega
            · have e2 : decide ((cur : Int) < (k.t : Int)) = false := decide_eq_false (by omega)
              go_wp2
              go_roundg g2
              case measure => omega
              case rel => exact ⟨j + 1, by omega, by go_num, fun i q hi hq => by
                rcases Nat.lt_or_ge i j with h | h
                · exact HN.out i q h hq
                · have : i = j := by omega
                  subst this; rw [hk] at hq; cases hq; exact decide_eq_false (by omega), ba hby _, D0.out.alloc _, D1.out.alloc _, D2.out.alloc _⟩
          · have e1 : decide ((k.b : Int) < (cur : Int) + N) = false := decide_eq_false (by omega)
            go_wp2
            go_roundg g2
            case measure => omega
            case rel => exact ⟨j + 1, by omega, by go_num, fun i q hi hq => by
              rcases Nat.lt_or_ge i j with h | h
              · exact HN.out i q h hq
              · have : i = j := by omega
                subst this; rw [hk] at hq; cases hq; exact decide_eq_false (by omega), ba hby _, D0.out.alloc _, D1.out.alloc _, D2.out.alloc _⟩
    · have d1 : decide ((cur : Int) ≤ (T : Int)) = false := decide_eq_false (by omega)
      obtain ⟨⟨⟨r0, r1⟩, f0, f1⟩, s0, s1, -⟩ := B1.store2 (.int .u64 0) (.int .u64 0)
      clear B0 B1
      go_wp2
      rw [Exit.noGoto_ret]
      refine bodyPost_ret (v := .tuple #[.agg #[.int .u64 0, .int .u64 0], .bool false]) (by simp [results, Try.results64, go_sem, s0, s1]) rfl ⟨⟨0, 0, false, rfl, HLow.out _ _ _ (Low.over (by omega))⟩, set2_below hbx (Nat.le_add_right _ _) _ _⟩
end Go.Proofs.Ytdnhjkmcogbaoaa
