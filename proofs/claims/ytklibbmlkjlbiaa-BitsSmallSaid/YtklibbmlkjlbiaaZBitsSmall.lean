/- BitsSmall: a number below 2^k on both sides is zigged to one below 2^(k+1), another to one that is not. For every number and k of their kinds; no condition. -/
import Derived.Test.YtklibbmlkjlbiaaBits
namespace Go.Proofs.Ytklibbmlkjlbiaa
open Go.RowKit Go.Proofs.YtklibbmlkjlbiaaMath

theorem bitsSmall_walk (n k : Int) (w : World) (hn : (Lit.int .i64 n).wf = true) (hk : (Lit.int .u8 k).wf = true) :
    Calls Try.prog 5 #[.int .i64 n, .int .u8 k] w fun e w' => e = .returned (.bool true) ∧ Below w.heap.size w w' := by
  obtain ⟨n0, n1⟩ := bounds_of_wf_i64 hn
  obtain ⟨k0, k1⟩ := bounds_of_wf_u8 hk
  clear hn hk
  obtain ⟨q, hq⟩ : ∃ q : Int, wrap64 (2 ^ (k % 62).toNat) = q := ⟨_, rfl⟩
  have hqb : 1 ≤ q ∧ q ≤ 2305843009213693952 := by
    obtain ⟨j, ej⟩ : ∃ j : Nat, j = (k % 62).toNat := ⟨_, rfl⟩
    have hj : j ≤ 61 := by omega
    have hp0 : 1 ≤ 2 ^ j := Nat.one_le_two_pow
    have hp1 : 2 ^ j ≤ 2 ^ 61 := Nat.pow_le_pow_right (by decide) hj
    have e : ((2 : Int) ^ j) = ((2 ^ j : Nat) : Int) := by rw [Int.natCast_pow]; rfl
    rw [← ej, e] at hq
    rw [w64] at hq
    omega
  obtain ⟨q0, q1⟩ := hqb
  obtain ⟨z, hz⟩ : ∃ z, zigS n = z := ⟨_, rfl⟩
  have HZ := Lib.hid hz
  by_cases h : q ≤ n ∨ n < -q
  · have hb1 : 2 * q ≤ z := by subst hz; unfold zigS; split <;> omega
    clear hz
    by_cases h1 : q ≤ n
    · clear h
      go_enter Try.func5, Try.ntmps5
      go_wp2_with (first | (go_at_call 15; refine (live_any _).mono ?_; rintro e w1 ⟨rfl, hb⟩) | (go_at_call 16; refine (zig_any n _ n0 n1).mono ?_; rintro e w' ⟨rfl, rfl⟩; rw [HZ.out]))
      go_ret
      exact ⟨rfl, hb⟩
    · have h2 : n < -q := by omega
      clear h
      go_enter Try.func5, Try.ntmps5
      go_wp2_with (first | (go_at_call 15; refine (live_any _).mono ?_; rintro e w1 ⟨rfl, hb⟩) | (go_at_call 16; refine (zig_any n _ n0 n1).mono ?_; rintro e w' ⟨rfl, rfl⟩; rw [HZ.out]))
      go_ret
      exact ⟨rfl, hb⟩
  · have hb1 : z < 2 * q := by subst hz; unfold zigS; split <;> omega
    clear hz
    have h1 : n < q := by omega
    have h2 : -q ≤ n := by omega
    clear h
    go_enter Try.func5, Try.ntmps5
    go_wp2_with (first | (go_at_call 15; refine (live_any _).mono ?_; rintro e w1 ⟨rfl, hb⟩) | (go_at_call 16; refine (zig_any n _ n0 n1).mono ?_; rintro e w' ⟨rfl, rfl⟩; rw [HZ.out]))
    go_ret
    exact ⟨rfl, hb⟩
end Go.Proofs.Ytklibbmlkjlbiaa
