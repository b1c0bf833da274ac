/- BitsTurns: a number's bits turned, and its lowest bits, as the reference has them. For every three numbers of their kinds; no condition. -/
import Derived.Test.YtklibbmlkjlbiabRRRLow
namespace Go.Proofs.YtklibbmlkjlbiabRRR
open Go.RowKit Go.Proofs.YtklibbmlkjlbiabRRRMath

/-- One round of the reference's Turn. -/
theorem turn_round (v k : Nat) (hk : k < 32) (hv : v < 4294967296) (X : Int) (hX : X = ((rot v k : Nat) : Int)) :
    0 ≤ X ∧ X < 4294967296 ∧ X * 2 % 4294967296 + X / 2147483648 = ((rot v (k + 1) : Nat) : Int) := by
  have hl := rot_lt v k (by omega) hv
  have hs := rot_step v k hk hv
  subst hX
  refine ⟨by omega, by omega, ?_⟩
  rw [← hs]
  omega

theorem tmod_neg (n : Int) (h : n.tmod 32 < 0) : n.tmod 32 + 32 = n % 32 := by
  have := Int.tmod_eq_emod (a := n) (b := 32)
  rw [this] at h ⊢
  split at h <;> split <;> omega
theorem tmod_pos (n : Int) (h : 0 ≤ n.tmod 32) : n.tmod 32 = n % 32 := by
  have := Int.tmod_eq_emod (a := n) (b := 32)
  rw [this] at h ⊢
  split at h <;> split <;> omega

set_option maxRecDepth 100000 in
theorem turnRef_any (u n : Int) (w : World) (h0 : 0 ≤ u) (h1 : u < 4294967296) :
    Calls Try.prog 8 #[.int .u32 u, .int .i64 n] w fun e w' => e = .returned (.int .u32 (turnS u n)) ∧ w = w' := by
  obtain ⟨v, hv⟩ : ∃ v : Nat, (v : Int) = u := ⟨u.toNat, by omega⟩
  obtain ⟨m, hm⟩ : ∃ m : Nat, (m : Int) = n % 32 := ⟨(n % 32).toNat, by omega⟩
  have hm32 : m < 32 := by omega
  have HZ := Lib.hid (show ((rot v m : Nat) : Int) = turnS u n by unfold turnS; rw [← hm, ← hv, Int.toNat_natCast, Int.toNat_natCast])
  have HV := Lib.hid hv
  have HVB := Lib.hid (show v < 4294967296 by omega)
  obtain ⟨t, ht⟩ : ∃ t : Int, n.tmod 32 = t := ⟨_, rfl⟩
  by_cases c : t < 0
  · obtain rfl : t = (m : Int) - 32 := by have := tmod_neg n (by omega); omega
    clear hm hv
    go_enter Try.func8, Try.ntmps8
    go_wp2
    go_loop [0, 6] (fun x i => ∃ (k : Nat) (X : Int), k ≤ m ∧ i = .int .i64 k ∧ x = .int .u32 X ∧ X = ((rot v k : Nat) : Int)) (fun _ i => m - (intOf i).toNat)
    case atStart => exact ⟨0, u, Nat.zero_le _, rfl, rfl, by rw [rot_zero _ HVB.out]; exact HV.out.symm⟩
    case round =>
      obtain ⟨k, X, hk, rfl, rfl, hX⟩ := hrel
      by_cases hlt : k < m
      · obtain ⟨x0, x1, hs⟩ := turn_round v k (by omega) HVB.out X hX
        have HS := Lib.hid hs
        clear hX hs
        go_wp2
        go_round
        case rel => exact ⟨k + 1, _, by omega, by go_num, rfl, HS.out⟩
        case measure => simp [intOf]; omega
      · obtain rfl : k = m := by omega
        have HX := Lib.hid hX
        clear hX
        go_wp2
        go_ret
        exact ⟨ret_i (HX.out.trans HZ.out), rfl⟩
  · obtain rfl : t = (m : Int) := by have := tmod_pos n (by omega); omega
    clear hm hv
    go_enter Try.func8, Try.ntmps8
    go_wp2
    go_loop [0, 6] (fun x i => ∃ (k : Nat) (X : Int), k ≤ m ∧ i = .int .i64 k ∧ x = .int .u32 X ∧ X = ((rot v k : Nat) : Int)) (fun _ i => m - (intOf i).toNat)
    case atStart => exact ⟨0, u, Nat.zero_le _, rfl, rfl, by rw [rot_zero _ HVB.out]; exact HV.out.symm⟩
    case round =>
      obtain ⟨k, X, hk, rfl, rfl, hX⟩ := hrel
      by_cases hlt : k < m
      · obtain ⟨x0, x1, hs⟩ := turn_round v k (by omega) HVB.out X hX
        have HS := Lib.hid hs
        clear hX hs
        go_wp2
        go_round
        case rel => exact ⟨k + 1, _, by omega, by go_num, rfl, HS.out⟩
        case measure => simp [intOf]; omega
      · obtain rfl : k = m := by omega
        have HX := Lib.hid hX
        clear hX
        go_wp2
        go_ret
        exact ⟨ret_i (HX.out.trans HZ.out), rfl⟩

theorem bitsTurns_walk (u v n : Int) (w : World) (hu : (Lit.int .u32 u).wf = true) (hv : (Lit.int .u64 v).wf = true) (hn : (Lit.int .i64 n).wf = true) :
    Calls Try.prog 4 #[.int .u32 u, .int .u64 v, .int .i64 n] w fun e w' => e = .returned (.bool true) ∧ Below w.heap.size w w' := by
  obtain ⟨u0, u1⟩ := bounds_of_wf_u32 hu
  obtain ⟨v0, v1⟩ := bounds_of_wf_u64 hv
  obtain ⟨n0, n1⟩ := bounds_of_wf_i64 hn
  clear hu hv hn
  go_enter Try.func4, Try.ntmps4
  go_wp2_with (first | (go_at_call 6; refine (live_any _).mono ?_; rintro e w1 ⟨rfl, hb⟩) | (go_at_call 7; refine (turn_any u n _ u0 u1).mono ?_; rintro e w' ⟨rfl, rfl⟩) | (go_at_call 8; refine (turnRef_any u n _ u0 u1).mono ?_; rintro e w' ⟨rfl, rfl⟩) | (go_at_call 5; refine (low_any v n _ v0 v1).mono ?_; rintro e w' ⟨rfl, rfl⟩) | (go_at_call 9; refine (lowRef_any v n _ v0 v1).mono ?_; rintro e w' ⟨rfl, rfl⟩))
  go_ret
  exact ⟨rfl, hb⟩
end Go.Proofs.YtklibbmlkjlbiabRRR
