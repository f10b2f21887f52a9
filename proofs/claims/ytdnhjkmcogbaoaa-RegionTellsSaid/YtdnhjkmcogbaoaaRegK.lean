/-
  mintmarklaw21.one; Find, for every length; picked.
-/
import Derived.Test.YtdnhjkmcogbaoaaRegJ
namespace Go.Proofs.Ytdnhjkmcogbaoaa
open Go.RowKit
/-- What is found. -/
structure Found (rb T : Nat) (L : List Rg) (n a u : Nat) : Prop where
  hn : n ≤ u - a
  hau : a < u
  ha : a % 4096 = 0
  hu : u % 4096 = 0
  hrb : rb ≤ a
  hT : u ≤ T
  hm : ∀ k ∈ L, meetN k.b k.t a u = false
  hc : ∃ e, e < 64 ∧ ChooseIs a u e a u
theorem flow_found {L : List Rg} {n N y rb T s u : Nat} {ok : Bool} (h : FLow L N (max y 12) rb T (up rb (max y 12)) s u ok) (hok : ok = true) (hn1 : 1 ≤ n) (hnN : n ≤ N) (hN : N % 4096 = 0) (h1 : 2 ^ (y + 12) ≤ N) (h2 : N < 2 ^ (y + 13)) (hNy : N % 2 ^ y = 0) (hy : y ≤ 26) (hT : T ≤ 274877906944) : Found rb T L n s u := by
  obtain ⟨rfl, hs, hr, hsT, hm⟩ := h.sound hok (up_spec rb (max y 12)).2.2
  have hs12 : s % 4096 = 0 := mod_pow_le (Nat.le_max_right y 12) hs
  have hsy : s % 2 ^ y = 0 := mod_pow_le (Nat.le_max_left y 12) hs
  exact ⟨by omega, by omega, hs12, by omega, hr, hsT, hm, y + 1, by omega, choose_whole s N y (by omega) h1 h2 hNy hsy⟩
theorem findR_any (rb T n : Nat) (L : List Rg) (s : Value) (w : World) (hm : MapOk rb T L) (hLn : L.length ≤ 1000) (hs : RowR w s L) :
    Calls Try.prog 50 #[mapV rb T s, .int .u64 n] w fun e w' => (∃ (a u : Nat) (er : Int), e = .returned (.tuple #[.agg #[.int .u64 (a : Int), .int .u64 (u : Int)], .int .i64 er]) ∧ (er = 0 → Found rb T L n a u)) ∧ Below w.heap.size w w' := by
  by_cases h : 1 ≤ n ∧ n ≤ 274877906944
  · obtain ⟨N, y, b1, b2, b3, b4, b5, b6, b7, hf⟩ := find_ex n h.1 h.2
    refine (hf rb T L s w hm hLn hs).mono fun e w' ⟨⟨a, u, ok, he, hl⟩, hb⟩ => ⟨⟨a, u, if ok then 0 else 15, he, fun h0 => ?_⟩, hb⟩
    have hok : ok = true := by cases ok <;> simp_all
    exact flow_found hl hok h.1 b1 b3 b4 b5 b6 b7 hm.hT
  · exact (find_none rb T s n (by omega) w).mono fun e w' ⟨he, hb⟩ => ⟨⟨0, 0, 2, he, fun h0 => by omega⟩, hb⟩
/-- A map without a room has no room. -/
theorem find_zero (w : World) : Calls Try.prog 50 #[.agg #[.int .u64 0, .int .u64 0, .slice none 0 0], .int .u64 5] w fun e w' => (∃ (a u : Nat), e = .returned (.tuple #[.agg #[.int .u64 (a : Int), .int .u64 (u : Int)], .int .i64 15])) ∧ Below w.heap.size w w' := by
  obtain ⟨N, y, b1, b2, b3, b4, b5, b6, b7, hf⟩ := find_ex 5 (by decide) (by decide)
  refine (hf 0 0 [] (.slice none 0 0) w ⟨Nat.le_refl _, by decide, by simp⟩ (by decide) (World.ownsRow_nil _ _ _ _)).mono fun e w' ⟨⟨a, u, ok, he, hl⟩, hb⟩ => ⟨⟨a, u, ?_⟩, hb⟩
  have hok : ok = false := by
    cases ok with
    | false => rfl
    | true =>
      obtain ⟨rfl, hs, hr, hsT, hm⟩ := hl.sound rfl (up_spec 0 (max y 12)).2.2
      omega
  rw [he, hok]; rfl
theorem find_one (s : Value) (w : World) (hs : RowR w s []) : Calls Try.prog 50 #[.agg #[.int .u64 4096, .int .u64 65536, s], .int .u64 5000] w fun e w' => e = .returned (.tuple #[.agg #[.int .u64 4096, .int .u64 12288], .int .i64 0]) ∧ Below w.heap.size w w' := by
  have hc := choose_whole 0 8192 1 (by decide) (by decide) (by decide) (by decide) (by decide)
  rw [Nat.zero_add] at hc
  have hask : ∀ w : World, Calls Try.prog 74 #[.int .u64 (5000 : Nat)] w fun r w' => r = .returned (.tuple #[.int .u64 (8192 : Nat), .int .i64 ((12 : Nat) : Int)]) ∧ Below w.heap.size w w' := fun w =>
    askedR_walk 5000 8192 8192 2 2 0 (by decide) (by decide) (by decide) (by decide) (by decide) (by decide) hc hc w
  obtain ⟨a, cap, rfl, hcs, _⟩ := hs.open
  refine (find_walk 4096 65536 5000 8192 12 a cap [] w (by decide) (by decide) (by decide) (by decide) (by decide) (by decide) (by decide) hcs (by simp) (by decide) hask).mono fun e w' ⟨⟨x, u, ok, he, hl⟩, hb⟩ => ⟨?_, hb⟩
  rw [show up 4096 12 = 4096 from by decide] at hl
  have h0 : FLow [] 8192 12 4096 65536 4096 4096 (4096 + 8192) true := FLow.free (by decide) rfl
  obtain ⟨rfl, rfl, rfl⟩ := hl.det h0
  rw [he]; rfl
theorem RowR.nil (w : World) : RowR w (.slice none 0 0) [] := World.ownsRow_nil _ _ _ _
theorem newR_one (w : World) : Calls Try.prog 48 #[.agg #[.int .u64 4096, .int .u64 65536]] w fun e w' => e = .returned (.tuple #[.agg #[.int .u64 4096, .int .u64 65536, .slice none 0 0], .int .i64 0]) ∧ Below w.heap.size w w' := newR_ok 4096 65536 (by decide) (by decide) w
theorem newR_law (w : World) : Calls Try.prog 48 #[.agg #[.int .u64 4096, .int .u64 4194304]] w fun e w' => e = .returned (.tuple #[.agg #[.int .u64 4096, .int .u64 4194304, .slice none 0 0], .int .i64 0]) ∧ Below w.heap.size w w' := newR_ok 4096 4194304 (by decide) (by decide) w
theorem one21 (w : World) : Calls Try.prog 49 #[] w fun e w' => e = .returned (.bool true) ∧ Below w.heap.size w w' := by
  go_enter Try.func49, Try.ntmps49
  go_wp2_with (first
    | ((with_reducible (go_at_call 48; refine (newR_one _).mono ?_)); rintro e1 w1 ⟨rfl, hb1⟩)
    | ((with_reducible (go_at_call 50; refine (find_one (.slice none 0 0) _ (RowR.nil _)).mono ?_)); rintro e1 w2 ⟨rfl, hb2⟩))
  go_ret
  exact ⟨rfl, ba (bc (ba (bc (Below.refl _ _) hb1) _) hb2) _⟩
/-- A step, as a value. -/
abbrev actV (kd pk n b t : Int) : Value := .agg #[.int .i64 kd, .int .i64 pk, .int .u64 n, .int .u64 b, .int .u64 t]
theorem picked_any (rb T : Nat) (v : Value) (L : List Rg) (kd pk : Int) (n b t : Nat) (w : World) (hs : RowR w v L) (hLn : L.length ≤ 100) (hpk : pk ≤ 9223372036854775807) :
    Calls Try.prog 56 #[mapV rb T v, actV kd pk n b t] w fun e w' => (∃ s u : Nat, e = .returned (spN s u)) ∧ Below w.heap.size w w' := by
  obtain ⟨a, cap, rfl, hc, hlc⟩ := hs.open
  have HB0 : Below w.heap.size w (((w.alloc (.cells #[.int .u64 (rb : Int), .int .u64 (T : Int), .slice a L.length cap] 71)).alloc (.cells #[.int .i64 kd, .int .i64 pk, .int .u64 (n : Int), .int .u64 (b : Int), .int .u64 (t : Int)] 86)).alloc (.cells #[.int .u64 0, .int .u64 0] 51)) := ba (ba (ba (Below.refl _ _) _) _) _
  have HA := Lib.hid (allR rb T _ L _ (hs.below HB0) (by omega))
  have X1 := Lib.hid ((HB.new' (w.alloc (.cells #[.int .u64 (rb : Int), .int .u64 (T : Int), .slice a L.length cap] 71)) #[.int .i64 kd, .int .i64 pk, .int .u64 (n : Int), .int .u64 (b : Int), .int .u64 (t : Int)] 86 (w.heap.size + 1) (by simp)).alloc (.cells #[.int .u64 0, .int .u64 0] 51))
  have X2 := Lib.hid (HB.new' ((w.alloc (.cells #[.int .u64 (rb : Int), .int .u64 (T : Int), .slice a L.length cap] 71)).alloc (.cells #[.int .i64 kd, .int .i64 pk, .int .u64 (n : Int), .int .u64 (b : Int), .int .u64 (t : Int)] 86)) #[.int .u64 0, .int .u64 0] 51 (w.heap.size + 1 + 1) (by simp))
  have HB0 := Lib.hid HB0
  clear hs hc
  go_enter Try.func56, Try.ntmps56
  go_upto_region 2 with (first
    | ((with_reducible (go_at_call 52; refine HA.out.mono ?_)); rintro e1 w1 ⟨⟨v1, rfl, ho1⟩, hb1⟩))
  obtain ⟨a1, k1, rfl, hc1, hlk⟩ := ho1.open
  have Y1 := X1.out.callee hb1
  have Y2 := X2.out.callee hb1
  have hbb := bc HB0.out hb1
  have q1 := Y1.cell 1 _ rfl
  have q3 := Y1.cell 3 _ rfl
  have q4 := Y1.cell 4 _ rfl
  by_cases hp : pk < 0
  · have hd : decide (pk < 0) = true := decide_eq_true hp
    obtain ⟨⟨⟨r0, r1⟩, f0, f1⟩, s0, s1, -⟩ := Y2.store2 (.int .u64 (b : Int)) (.int .u64 (t : Int))
    go_wp2
    refine bodyPost_ret (v := spN b t) (by simp [results, Try.results56, go_sem, s0, s1]) rfl ⟨⟨_, _, rfl⟩, set2_below hbb (by omega) _ _⟩
  · have hd : decide (pk < 0) = false := decide_eq_false hp
    by_cases hl : L.length = 0
    · have hL0 : L = [] := List.eq_nil_of_length_eq_zero hl
      subst hL0
      obtain ⟨⟨⟨r0, r1⟩, f0, f1⟩, s0, s1, -⟩ := Y2.store2 (.int .u64 (b : Int)) (.int .u64 (t : Int))
      go_wp2
      refine bodyPost_ret (v := spN b t) (by simp [results, Try.results56, go_sem, s0, s1]) rfl ⟨⟨_, _, rfl⟩, set2_below hbb (by omega) _ _⟩
    · have hd2 : ((L.length : Int) == 0) = false := by rw [beq_eq_false_iff_ne]; omega
      obtain ⟨m, hm⟩ : ∃ m : Nat, pk % (L.length : Int) = (m : Int) := ⟨(pk % (L.length : Int)).toNat, by have := Int.emod_nonneg pk (show (L.length : Int) ≠ 0 by omega); omega⟩
      have hmL : (m : Int) < (L.length : Int) := by have := Int.emod_lt_of_pos pk (show (0 : Int) < (L.length : Int) by omega); omega
      have hmt : pk.tmod (L.length : Int) = (m : Int) := by rw [Int.tmod_eq_emod_of_nonneg (by omega)]; exact hm
      obtain ⟨k, hk⟩ : ∃ k, L[m]? = some k := ⟨_, List.getElem?_eq_getElem (by omega)⟩
      obtain ⟨g, rfl, hg, p0, p1, p2⟩ := hc1 m k hk
      obtain ⟨⟨⟨r0, r1⟩, f0, f1⟩, s0, s1, -⟩ := Y2.store2 (.int .u64 (k.b : Int)) (.int .u64 (k.t : Int))
      clear hm
      go_wp2
      refine bodyPost_ret (v := spN k.b k.t) (by simp [results, Try.results56, go_sem, s0, s1]) rfl ⟨⟨_, _, rfl⟩, set2_below hbb (by omega) _ _⟩
end Go.Proofs.Ytdnhjkmcogbaoaa
