/- Low and Turn: what the code and the reference answer, in plain arithmetic; the two laws' walks. Conditions: each number lies in its kind. -/
import Derived.Test.YtklibbmlkjlbiabRRRBits
namespace Go.Proofs.YtklibbmlkjlbiabRRR
open Go.RowKit Go.Proofs.YtklibbmlkjlbiabRRRMath

/-- Low's number. -/
def lowN (u : Nat) (n : Int) : Nat := if n ≤ 0 then 0 else if 64 ≤ n then u else u % 2 ^ n.toNat
def lowS (u n : Int) : Int := (lowN u.toNat n : Nat)

theorem low_mid (u n : Int) (h0 : 0 ≤ u) (h1 : u < 18446744073709551616) (n0 : 0 < n) (n1 : n < 64) (x : Int) (hx : x = IntKind.u64.wrap (IntKind.u64.wrap ((2 : Int) ^ n.toNat) - 1)) : Go.bits .and .u64 u x = lowS u n := by
  obtain ⟨j, rfl⟩ : ∃ j : Nat, n = j := ⟨n.toNat, by omega⟩
  have hp0 : 1 ≤ 2 ^ j := Nat.one_le_two_pow
  have hp1 : 2 ^ j ≤ 2 ^ 63 := Nat.pow_le_pow_right (by decide) (by omega)
  have e : (2 : Int) ^ j = ((2 ^ j : Nat) : Int) := by rw [Int.natCast_pow]; rfl
  rw [Int.toNat_natCast, e, u64w, u64w] at hx
  obtain rfl : x = ((2 ^ j : Nat) : Int) - 1 := by omega
  clear hx
  have et : (((2 ^ j : Nat) : Int) - 1).toNat = 2 ^ j - 1 := by omega
  rw [u64_and _ _ h0 h1 (by omega) (by omega), et, and_low_nat]
  unfold lowS lowN
  rw [if_neg (by omega), if_neg (by omega), Int.toNat_natCast]

theorem low_any (u n : Int) (w : World) (h0 : 0 ≤ u) (h1 : u < 18446744073709551616) :
    Calls Try.prog 5 #[.int .u64 u, .int .i64 n] w fun e w' => e = .returned (.int .u64 (lowS u n)) ∧ w = w' := by
  by_cases a : n ≤ 0
  · have HZ := Lib.hid (show 0 = lowS u n by unfold lowS lowN; rw [if_pos a]; rfl)
    go_enter Try.func5, Try.ntmps5
    go_wp2
    go_ret
    exact ⟨ret_i HZ.out, rfl⟩
  · by_cases b : 64 ≤ n
    · have HZ := Lib.hid (show u = lowS u n by unfold lowS lowN; rw [if_neg a, if_pos b]; omega)
      have a' : 0 < n := by omega
      clear a
      go_enter Try.func5, Try.ntmps5
      go_wp2
      go_ret
      exact ⟨ret_i HZ.out, rfl⟩
    · have a' : 0 < n := by omega
      have b' : n < 64 := by omega
      have HZ := Lib.hid (low_mid u n h0 h1 a' b' _ rfl)
      clear a b
      go_enter Try.func5, Try.ntmps5
      go_wp2
      go_ret
      refine ⟨?_, rfl⟩
      exact ret_i HZ.out

theorem lowStep (u i : Nat) : u % 2 ^ (i + 1) = u % 2 ^ i + u / 2 ^ i % 2 * 2 ^ i := by
  rw [Nat.pow_succ, Nat.mod_mul, Nat.mul_comm (2 ^ i)]

/-- One round of the reference's Low. -/
theorem low_round (v k : Nat) (u : Int) (hk : k < 63) (hv : (v : Int) = u) (X Y : Int) (hX : X = ((v % 2 ^ k : Nat) : Int)) (hY : Y = ((2 ^ k : Nat) : Int)) :
    1 ≤ Y ∧ Y ≤ 4611686018427387904 ∧ 0 ≤ X ∧ X < Y ∧ (Y == 0) = false ∧ IntKind.u64.wrap (X + IntKind.u64.wrap ((u / Y).tmod 2 * Y)) = ((v % 2 ^ (k + 1) : Nat) : Int) ∧ Y * 2 = ((2 ^ (k + 1) : Nat) : Int) := by
  subst hv
  have hp0 : 1 ≤ 2 ^ k := Nat.one_le_two_pow
  have hp1 : 2 ^ k ≤ 2 ^ 62 := Nat.pow_le_pow_right (by decide) (by omega)
  have hr : v % 2 ^ k < 2 ^ k := Nat.mod_lt _ (Nat.two_pow_pos _)
  have hs := lowStep v k
  have hp2 : 2 ^ (k + 1) = 2 ^ k * 2 := Nat.pow_succ 2 k
  have e : ((v / 2 ^ k % 2 * 2 ^ k : Nat) : Int) = (v : Int) / Y % 2 * Y := by
    rw [hY, Int.natCast_mul, Int.natCast_emod, Int.natCast_ediv]; rfl
  obtain ⟨r, er⟩ : ∃ r, r = v % 2 ^ k := ⟨_, rfl⟩
  obtain ⟨t, et⟩ : ∃ t, t = v % 2 ^ (k + 1) := ⟨_, rfl⟩
  rw [← er] at hX hs hr
  rw [← et] at hs
  have hq0 : 0 ≤ (v : Int) / Y := Int.ediv_nonneg (by omega) (by omega)
  have hmul : v / 2 ^ k % 2 * 2 ^ k ≤ 2 ^ k := by
    rcases (by omega : v / 2 ^ k % 2 = 0 ∨ v / 2 ^ k % 2 = 1) with e | e <;> rw [e] <;> omega
  rw [← et, Int.tmod_eq_emod_of_nonneg hq0, ← e, hs, hp2, u64w, u64w]
  generalize v / 2 ^ k % 2 * 2 ^ k = z at *
  generalize 2 ^ k = y at *
  exact ⟨by omega, by omega, by omega, by omega, by simp; omega, by omega, by omega⟩

set_option maxRecDepth 100000 in
theorem lowRef_any (u n : Int) (w : World) (h0 : 0 ≤ u) (h1 : u < 18446744073709551616) :
    Calls Try.prog 9 #[.int .u64 u, .int .i64 n] w fun e w' => e = .returned (.int .u64 (lowS u n)) ∧ w = w' := by
  by_cases b : 64 ≤ n
  · have HZ := Lib.hid (show u = lowS u n by unfold lowS lowN; rw [if_neg (by omega), if_pos b]; omega)
    go_enter Try.func9, Try.ntmps9
    go_wp2
    go_ret
    exact ⟨ret_i HZ.out, rfl⟩
  · have b' : n < 64 := by omega
    clear b
    by_cases c : n ≤ 0
    · have HZ := Lib.hid (show 0 = lowS u n by unfold lowS lowN; rw [if_pos c]; rfl)
      go_enter Try.func9, Try.ntmps9
      go_wp2
      refine wp_loop_rounds 1 ?_
      rw [rounds_succ]
      go_wp2
      go_ret
      exact ⟨ret_i HZ.out, rfl⟩
    · obtain ⟨m, rfl⟩ : ∃ m : Nat, n = m := ⟨n.toNat, by omega⟩
      obtain ⟨v, hv⟩ : ∃ v : Nat, (v : Int) = u := ⟨u.toNat, by omega⟩
      have HZ := Lib.hid (show ((v % 2 ^ m : Nat) : Int) = lowS u m by subst hv; unfold lowS lowN; rw [if_neg c, if_neg (by omega), Int.toNat_natCast, Int.toNat_natCast])
      have HV := Lib.hid hv
      clear c hv
      go_enter Try.func9, Try.ntmps9
      go_wp2
      go_loop [5, 6, 7] (fun x y i => ∃ (k : Nat) (X Y : Int), k ≤ m ∧ i = .int .i64 k ∧ x = .int .u64 X ∧ y = .int .u64 Y ∧ X = ((v % 2 ^ k : Nat) : Int) ∧ Y = ((2 ^ k : Nat) : Int)) (fun _ _ i => m - (intOf i).toNat)
      case atStart => exact ⟨0, 0, 1, Nat.zero_le _, rfl, rfl, rfl, by rw [Nat.pow_zero, Nat.mod_one]; rfl, rfl⟩
      case round =>
        obtain ⟨k, X, Y, hk, rfl, rfl, rfl, hX, hY⟩ := hrel
        by_cases hlt : k < m
        · obtain ⟨q1, q2, q3, q4, q5, q6, q7⟩ := low_round v k u (by omega) HV.out X Y hX hY
          have HX := Lib.hid hX
          have HY := Lib.hid hY
          have H6 := Lib.hid q6
          have H7 := Lib.hid q7
          clear hX hY q6 q7
          go_wp2
          go_round
          case rel =>
            refine ⟨k + 1, _, _, by omega, by go_num, rfl, rfl, ?_, ?_⟩
            · exact H6.out
            · exact H7.out
          case measure => simp [intOf]; omega
        · obtain rfl : k = m := by omega
          have HX := Lib.hid hX
          clear hX hY
          go_wp2
          go_ret
          exact ⟨ret_i (HX.out.trans HZ.out), rfl⟩
end Go.Proofs.YtklibbmlkjlbiabRRR
