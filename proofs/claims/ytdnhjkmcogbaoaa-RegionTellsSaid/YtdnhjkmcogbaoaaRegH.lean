/-
  region.Add, where it reserves.
-/
import Derived.Test.YtdnhjkmcogbaoaaRegG
import Derived.Test.YtdnhjkmcogbaoaaHeapE
namespace Go.Proofs.Ytdnhjkmcogbaoaa
open Go.RowKit
/-- Add's boxes. -/
def AP (w : World) (hv sv : Array Value) (W : World) : Prop :=
  HB W w.heap.size hv 71 ∧ HB W (w.heap.size + 1) sv 51 ∧ HB W (w.heap.size + 1 + 1) #[.int .u64 0, .int .u64 0, .slice none 0 0] 71 ∧ Below w.heap.size w W
section
variable {w W W' : World} {hv sv : Array Value}
theorem AP.alloc (h : AP w hv sv W) (o : Obj) : AP w hv sv (W.alloc o) := ⟨h.1.alloc o, h.2.1.alloc o, h.2.2.1.alloc o, ba h.2.2.2 o⟩
theorem AP.drew (h : AP w hv sv W) : AP w hv sv W.drew := ⟨h.1, h.2.1, h.2.2.1, h.2.2.2.drew⟩
theorem AP.callee (h : AP w hv sv W) (k : Below W.heap.size W W') : AP w hv sv W' := ⟨h.1.callee k, h.2.1.callee k, h.2.2.1.callee k, bc h.2.2.2 k⟩
theorem AP.under {B : Nat} (h : AP w hv sv W) (k : Below B W W') (h1 : w.heap.size + 1 + 1 < B) : AP w hv sv W' := ⟨h.1.under k (by omega), h.2.1.under k (by omega), h.2.2.1.under k h1, h.2.2.2.trans (k.mono (by omega))⟩
theorem AP.cells {x y z p q : Value} (h : AP w #[x, y, z] #[p, q] W) : (W.cell? ⟨w.heap.size, 0, none⟩ = some x ∧ W.cell? ⟨w.heap.size, 1, none⟩ = some y ∧ W.cell? ⟨w.heap.size, 2, none⟩ = some z ∧ W.frozen? ⟨w.heap.size, 2, none⟩ = false) ∧ W.cell? ⟨w.heap.size + 1, 0, none⟩ = some p ∧ W.cell? ⟨w.heap.size + 1, 1, none⟩ = some q :=
  ⟨⟨h.1.cell 0 _ rfl, h.1.cell 1 _ rfl, h.1.cell 2 _ rfl, h.1.frozen 2⟩, h.2.1.two.1.1, h.2.1.two.1.2⟩
theorem AP.set {x y z : Value} (h : AP w #[x, y, z] sv W) (z' : Value) : AP w #[x, y, z'] sv (W.setCell ⟨w.heap.size, 2, none⟩ z') :=
  ⟨h.1.set 2 z', h.2.1.set_other _ _ (by show w.heap.size + 1 ≠ w.heap.size; omega), h.2.2.1.set_other _ _ (by show w.heap.size + 1 + 1 ≠ w.heap.size; omega), h.2.2.2.setCell (Nat.le_refl _) _⟩
end
set_option maxHeartbeats 4000000 in
theorem addR_any (rb T s u : Nat) (v : Value) (L : List Rg) (w : World) (hs : RowR w v L) (hLn : L.length ≤ 100) (hp : pagesN s u = true) (hu : u < 18446744073709551616) (hi : inN s u rb T = true) (hm : L.any (hitR s u) = false) :
    Calls Try.prog 53 #[mapV rb T v, spN s u] w fun e w' => (∃ v' k, e = .returned (.tuple #[mapV rb T v', .int .i64 0]) ∧ k ≤ L.length ∧ RowR w' v' (L.take k ++ ⟨s, u, 1⟩ :: L.drop k)) ∧ Below w.heap.size w w' := by
  have hsu : s < u := (of_decide_eq_true hp).1
  have H1 := Lib.hid (pages_any s u (by omega) hu)
  rw [hp] at H1
  have H2 := Lib.hid (in_sp s u rb T)
  rw [hi] at H2
  obtain ⟨a, cap, rfl, hc, hlc⟩ := hs.open
  have H3 : Hid (∀ W, Below w.heap.size w W → HB W (w.heap.size + 1) #[.int .u64 (s : Int), .int .u64 (u : Int)] 51 → Calls Try.prog 81 #[.slice a L.length cap, .func (.func 82) #[] #[.pointer (some ⟨w.heap.size + 1, 0, none⟩)]] W fun e w' => e = .returned (.bool false) ∧ Below W.heap.size W w') := fun W hW hb => by
    have := containsR (w.heap.size + 1) s u a cap L W (hc.below hW) (by omega) hb
    rwa [hm] at this
  have H4 : Hid (∀ W, Below w.heap.size w W → Calls Try.prog 83 #[.slice a L.length cap, .int .u64 s, .func (.func 84) #[] #[]] W fun e w' => (∃ (k : Nat) (b : Bool), e = .returned (.tuple #[.int .i64 (k : Int), .bool b]) ∧ k ≤ L.length) ∧ Below W.heap.size W w') := fun W hW => bsearchR s a cap L W (hc.below hW) (by omega)
  have H5 : Hid (∀ W, Below w.heap.size w W → Calls Try.prog 80 #[.slice a L.length cap] W fun e w' => ∃ v', e = .returned v' ∧ w'.ownsRow W.heap.size 82 3 v' L.length (flatR L) ∧ Below W.heap.size W w') := fun W hW => cloneR _ L W (hs.below hW) (by omega)
  have H6 : Hid (∀ (k : Nat) (v : Value) (B vb : Nat) (W : World), k ≤ L.length → W.ownsRow B 82 3 v L.length (flatR L) → HB W vb #[.int .u64 (s : Int), .int .u64 (u : Int), .int .i64 1] 82 → v.ownBlock ≠ some vb → B ≤ W.heap.size →
      Calls Try.prog 85 #[v, .int .i64 (k : Int), .slice (some ⟨vb, 0, none⟩) 1 1] W fun e w' => ∃ v', e = .returned v' ∧ w'.ownsRow B 82 3 v' (L.length + 1) (flatR (L.take k ++ ⟨s, u, 1⟩ :: L.drop k)) ∧ Below B W w') := by
    intro k v B vb W hk h1 h2 h3 h4
    have := insert82 v L.length k (flatR L) B vb [.int .u64 (s : Int), .int .u64 (u : Int), .int .i64 1] W h1 (by omega) hk (flatR_one L) rfl (by simp [Value.oneCell']) h2 h3 h4
    rw [flatR_take, flatR_drop] at this
    rw [flatR_append, flatR_cons]
    exact this
  have P0 : AP w #[.int .u64 (rb : Int), .int .u64 (T : Int), .slice a L.length cap] #[.int .u64 (s : Int), .int .u64 (u : Int)] (((w.alloc (.cells #[.int .u64 (rb : Int), .int .u64 (T : Int), .slice a L.length cap] 71)).alloc (.cells #[.int .u64 (s : Int), .int .u64 (u : Int)] 51)).alloc (.cells #[.int .u64 0, .int .u64 0, .slice none 0 0] 71)) :=
    ⟨((HB.new w _ _).alloc _).alloc _, (HB.new' (w.alloc _) _ _ _ (by simp)).alloc _, HB.new' ((w.alloc _).alloc _) _ _ _ (by simp), ba (ba (ba (Below.refl _ _) _) _) _⟩
  have HP0 := Lib.hid P0
  clear hs hc hm hi hp P0
  go_enter Try.func53, Try.ntmps53
  go_upto_region 6 with (first
    | ((with_reducible (go_at_call 73; refine (H1.out _).mono ?_)); rintro e1 w1 ⟨rfl, hb1⟩; have P1 := HP0.out.callee hb1; obtain ⟨⟨c0, c1, c2, -⟩, c3, c4⟩ := P1.cells)
    | ((with_reducible (go_at_call 75; refine (H2.out _).mono ?_)); rintro e1 w2 ⟨rfl, hb2⟩; have P2 := P1.callee hb2; obtain ⟨⟨d0, d1, d2, -⟩, d3, d4⟩ := P2.cells; have S2 := P2.2.1; have B2 := P2.2.2.2)
    | ((with_reducible (go_at_call 81; refine (H3.out _ B2 S2).mono ?_)); rintro e1 w3 ⟨rfl, hb3⟩; have P3 := P2.callee hb3; obtain ⟨⟨x0, x1, x2, -⟩, x3, x4⟩ := P3.cells; have B3 := P3.2.2.2)
    | ((with_reducible (go_at_call 83; refine (H4.out _ B3).mono ?_)); rintro e1 w4 ⟨⟨k, b, rfl, hk⟩, hb4⟩; have P4 := P3.callee hb4))
  have HP4 := Lib.hid P4
  have b1 := P4.2.2.2
  have hP := P4
  clear P1 P2 P3 P4 S2 B2 B3 c0 c1 c2 c3 c4 d0 d1 d2 d3 d4 x0 x1 x2 x3 x4
  have hgw : w.heap.size + 1 + 1 < w4.heap.size := hP.2.2.1.lt
  obtain ⟨⟨c0, c1, c2, -⟩, c3, c4⟩ := hP.cells
  obtain ⟨⟨d0, d1, d2, -⟩, d3, d4⟩ := (hP.alloc (.cells #[.int .u64 (s : Int), .int .u64 (u : Int), .int .i64 1] 82)).cells
  have qa1 : w.heap.size + 1 + 1 < w4.drew.heap.size := hgw
  have qa0 : w.heap.size < w4.drew.heap.size := by omega
  have qb1 : w.heap.size + 1 + 1 < ((w4.alloc (.cells #[.int .u64 (s : Int), .int .u64 (u : Int), .int .i64 1] 82)).drew).heap.size := by simp; omega
  have qb0 : w.heap.size < ((w4.alloc (.cells #[.int .u64 (s : Int), .int .u64 (u : Int), .int .i64 1] 82)).drew).heap.size := by simp; omega
  go_cut [] (fun wx => ∃ s' B, w.heap.size + 1 + 1 < B ∧ wx.ownsRow B 82 3 s' (L.length + 1) (flatR (L.take k ++ ⟨s, u, 1⟩ :: L.drop k)) ∧ AP w #[.int .u64 (rb : Int), .int .u64 (T : Int), s'] #[.int .u64 (s : Int), .int .u64 (u : Int)] wx)
  case first =>
    clear H1 H2 H3 H4
    go_region_with (first
      | ((with_reducible (go_at_call 80; refine (H5.out _ (by first | exact b1.drew | exact (ba b1 _).drew)).mono ?_)); rintro e1 w5 ⟨v1, rfl, ho1, hb1⟩; obtain ⟨a1, k1, rfl⟩ := own_slice ho1; have P1 := AP.callee (by first | exact hP.drew | exact (hP.alloc _).drew) hb1; obtain ⟨⟨p0, p1, p2, -⟩, p3, p4⟩ := P1.cells)
      | ((with_reducible (go_at_call 85; refine (H6.out k _ _ _ _ hk (ho1.alloc _) (HB.new w5 _ _) (fun e => by have := (ho1.lt _ e).2; omega) (by have := hb1.size; simp at this ⊢; omega)).mono ?_)); rintro e2 w6 ⟨v2, rfl, ho2, hb2⟩; obtain ⟨a2, k2, rfl⟩ := own_slice ho2; have P2 := (P1.alloc (.cells #[.int .u64 (s : Int), .int .u64 (u : Int), .int .i64 1] 82)).under hb2 (by simp; omega); obtain ⟨⟨q0, q1, q2, q3⟩, q4, q5⟩ := P2.cells)
      | ((with_reducible (go_at_call 85; refine (H6.out k _ _ _ _ hk ho1 ((HB.new w4 _ _).drew.callee hb1) (fun e => by have := (ho1.lt _ e).1; simp at this; omega) hb1.size).mono ?_)); rintro e2 w6 ⟨v2, rfl, ho2, hb2⟩; obtain ⟨a2, k2, rfl⟩ := own_slice ho2; have P2 := P1.under hb2 (by simp; omega); obtain ⟨⟨q0, q1, q2, q3⟩, q4, q5⟩ := P2.cells))
    all_goals go_wp2
    all_goals go_meet
    all_goals first
      | exact ⟨_, _, qa1, own_set ho2 ⟨w.heap.size, 2, none⟩ _ qa0, P2.set _⟩
      | exact ⟨_, _, qb1, own_set ho2 ⟨w.heap.size, 2, none⟩ _ qb0, P2.set _⟩
  case rest =>
    obtain ⟨s', B, hB, ho, hP'⟩ := hcut
    obtain ⟨a3, k3, rfl⟩ := own_slice ho
    have hM : (L.take k ++ ⟨s, u, 1⟩ :: L.drop k).length = L.length + 1 := by have := ho.1; rw [flatR_length] at this; omega
    clear c0 c1 c2 c3 c4 d0 d1 d2 d3 d4 b1 hP
    obtain ⟨⟨p0, p1, p2, -⟩, p3, p4⟩ := hP'.cells
    obtain ⟨⟨⟨r0, r1, r2⟩, f0, f1, f2⟩, s0, s1, s2, -⟩ := hP'.2.2.1.store3 (.int .u64 (rb : Int)) (.int .u64 (T : Int)) (.slice a3 (L.length + 1) k3)
    have HO := Lib.hid ho
    have HPp := Lib.hid hP'
    clear ho hP'
    go_wp2
    refine bodyPost_ret (v := .tuple #[mapV rb T (.slice a3 (L.length + 1) k3), .int .i64 0]) (by simp [results, Try.results53, go_sem, s0, s1, s2]) rfl ⟨⟨_, k, rfl, hk, ?_⟩, ?_⟩
    · exact own_rowR (own_set (own_set (own_set HO.out _ _ hB) _ _ hB) _ _ hB) hM.symm
    · exact set3_below HPp.out.2.2.2 (by omega) _ _ _
end Go.Proofs.Ytdnhjkmcogbaoaa
