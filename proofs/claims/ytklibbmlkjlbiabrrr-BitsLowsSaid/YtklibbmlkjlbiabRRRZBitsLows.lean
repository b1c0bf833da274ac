/- BitsLows: the lowest bits of the lowest bits are the fewer ones; what is cut away and what is left make the number. For every number and two counts of their kinds; no condition. -/
import Derived.Test.YtklibbmlkjlbiabRRRLow
namespace Go.Proofs.YtklibbmlkjlbiabRRR
open Go.RowKit Go.Proofs.YtklibbmlkjlbiabRRRMath

theorem lowN_lowN (u a b : Nat) : lowN (lowN u a) b = lowN u (if (b : Int) < a then (b : Int) else (a : Int)) := by
  by_cases hab : (b : Int) < a
  · rw [if_pos hab]
    unfold lowN
    by_cases hb : (b : Int) ≤ 0
    · rw [if_pos hb, if_pos hb]
    · rw [if_neg hb, if_neg hb]
      by_cases hb6 : 64 ≤ (b : Int)
      · rw [if_pos hb6, if_pos hb6, if_neg (by omega), if_pos (by omega)]
      · rw [if_neg hb6, if_neg hb6, if_neg (by omega)]
        by_cases ha6 : 64 ≤ (a : Int)
        · rw [if_pos ha6]
        · rw [if_neg ha6, Int.toNat_natCast, Int.toNat_natCast]
          exact Nat.mod_mod_of_dvd _ (Nat.pow_dvd_pow 2 (by omega))
  · rw [if_neg hab]
    unfold lowN
    by_cases ha : (a : Int) ≤ 0
    · rw [if_pos ha]
      split
      · rfl
      · split <;> simp
    · rw [if_neg ha, if_neg (by omega)]
      by_cases hb6 : 64 ≤ (b : Int)
      · rw [if_pos hb6]
      · rw [if_neg hb6, if_neg (by omega), Int.toNat_natCast, Int.toNat_natCast]
        exact Nat.mod_eq_of_lt (Nat.lt_of_lt_of_le (Nat.mod_lt _ (Nat.two_pow_pos _)) (Nat.pow_le_pow_right (by decide) (by omega)))

theorem low_low (u m n : Int) (hm : 0 ≤ m) (hn : 0 ≤ n) : lowS (lowS u m) n = lowS u (if n < m then n else m) := by
  unfold lowS
  rw [Int.toNat_natCast]
  obtain ⟨a, rfl⟩ : ∃ a : Nat, m = a := ⟨m.toNat, by omega⟩
  obtain ⟨b, rfl⟩ : ∃ b : Nat, n = b := ⟨n.toNat, by omega⟩
  rw [lowN_lowN u.toNat a b]

theorem low_le (u m : Int) (hu : 0 ≤ u) : 0 ≤ lowS u m ∧ lowS u m ≤ u := by
  unfold lowS lowN
  have := Nat.mod_le u.toNat (2 ^ m.toNat)
  split
  · omega
  · split <;> omega

theorem low_rest (u m : Int) (hu : 0 ≤ u) : lowS (u - lowS u m) m = 0 := by
  have hl := low_le u m hu
  have e : (u - lowS u m).toNat = u.toNat - lowN u.toNat m := by unfold lowS; omega
  have e2 : lowS (u - lowS u m) m = ((lowN (u - lowS u m).toNat m : Nat) : Int) := rfl
  rw [e2, e]
  have : lowN (u.toNat - lowN u.toNat m) m = 0 := by
    unfold lowN
    split
    · rfl
    · split
      · omega
      · have h := Nat.div_add_mod u.toNat (2 ^ m.toNat)
        rw [show u.toNat - u.toNat % 2 ^ m.toNat = 2 ^ m.toNat * (u.toNat / 2 ^ m.toNat) from by omega]
        exact Nat.mul_mod_right _ _
  rw [this]
  rfl

theorem bitsLows_walk (u a b : Int) (w : World) (hu : (Lit.int .u64 u).wf = true) (ha : (Lit.int .u8 a).wf = true) (hb' : (Lit.int .u8 b).wf = true) :
    Calls Try.prog 3 #[.int .u64 u, .int .u8 a, .int .u8 b] w fun e w' => e = .returned (.bool true) ∧ Below w.heap.size w w' := by
  obtain ⟨u0, u1⟩ := bounds_of_wf_u64 hu
  obtain ⟨a0, a1⟩ := bounds_of_wf_u8 ha
  obtain ⟨b0, b1⟩ := bounds_of_wf_u8 hb'
  clear hu ha hb'
  obtain ⟨x0, x1⟩ := low_le u (a % 70) u0
  obtain ⟨x, hx⟩ : ∃ x, lowS u (a % 70) = x := ⟨_, rfl⟩
  have L := Lib.hid (low_low u (a % 70) (b % 70) (by omega) (by omega))
  have R := Lib.hid (low_rest u (a % 70) u0)
  have HX := Lib.hid hx
  rw [hx] at x0 x1 R L
  clear hx
  by_cases c : b % 70 < a % 70
  · have L1 := Lib.hid (show lowS x (b % 70) = lowS u (b % 70) by rw [L.out, if_pos c])
    go_enter Try.func3, Try.ntmps3
    go_wp2_with fail
    refine (low_any u (a % 70) _ u0 u1).mono ?_
    rintro e w' ⟨rfl, rfl⟩
    rw [HX.out]
    go_wp2_with fail
    refine (live_any _).mono ?_
    rintro e w1 ⟨rfl, hb⟩
    go_wp2_with fail
    refine (low_any x (b % 70) _ x0 (by omega)).mono ?_
    rintro e w' ⟨rfl, rfl⟩
    rw [L1.out]
    go_wp2_with fail
    refine (low_any u (b % 70) _ u0 u1).mono ?_
    rintro e w' ⟨rfl, rfl⟩
    go_wp2_with fail
    refine (low_any (u - x) (a % 70) _ (by omega) (by omega)).mono ?_
    rintro e w' ⟨rfl, rfl⟩
    rw [R.out]
    go_wp2
    go_ret
    exact ⟨rfl, hb⟩
  · have L1 := Lib.hid (show lowS x (b % 70) = lowS u (a % 70) by rw [L.out, if_neg c])
    go_enter Try.func3, Try.ntmps3
    go_wp2_with fail
    refine (low_any u (a % 70) _ u0 u1).mono ?_
    rintro e w' ⟨rfl, rfl⟩
    rw [HX.out]
    go_wp2_with fail
    refine (live_any _).mono ?_
    rintro e w1 ⟨rfl, hb⟩
    go_wp2_with fail
    refine (low_any x (b % 70) _ x0 (by omega)).mono ?_
    rintro e w' ⟨rfl, rfl⟩
    rw [L1.out]
    go_wp2_with fail
    refine (low_any u (a % 70) _ u0 u1).mono ?_
    rintro e w' ⟨rfl, rfl⟩
    go_wp2_with fail
    refine (low_any (u - x) (a % 70) _ (by omega) (by omega)).mono ?_
    rintro e w' ⟨rfl, rfl⟩
    rw [R.out]
    go_wp2
    go_ret
    exact ⟨rfl, hb⟩
end Go.Proofs.YtklibbmlkjlbiabRRR
