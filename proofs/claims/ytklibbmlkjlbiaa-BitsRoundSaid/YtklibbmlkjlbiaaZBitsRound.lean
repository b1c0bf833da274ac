/- BitsRound: turned and turned back a number is what it was; turned by 32 more it is the same. For every number and every count of their kinds; no condition. -/
import Derived.Test.YtklibbmlkjlbiaaBits
namespace Go.Proofs.Ytklibbmlkjlbiaa
open Go.RowKit Go.Proofs.YtklibbmlkjlbiaaMath

theorem turn_lt (u n : Int) (h0 : 0 ≤ u) (h1 : u < 4294967296) : 0 ≤ turnS u n ∧ turnS u n < 4294967296 := by
  unfold turnS
  have := rot_lt u.toNat (n % 32).toNat (by omega) (by omega)
  omega

theorem turn_back (u n : Int) (h0 : 0 ≤ u) (h1 : u < 4294967296) : turnS (turnS u n) (-n) = u := by
  unfold turnS
  rw [Int.toNat_natCast]
  by_cases h : n % 32 = 0
  · rw [h, show (-n) % 32 = 0 from by omega]
    show ((rot (rot u.toNat 0) 0 : Nat) : Int) = u
    rw [rot_zero u.toNat (by omega), rot_zero u.toNat (by omega)]
    omega
  · rw [show ((-n) % 32).toNat = 32 - (n % 32).toNat from by omega, rot_back _ _ (by omega) (by omega)]
    omega

theorem turn_32 (u n : Int) : turnS u (n + 32) = turnS u n := by
  unfold turnS
  rw [show (n + 32) % 32 = n % 32 from by omega]

theorem bitsRound_walk (u n : Int) (w : World) (hu : (Lit.int .u32 u).wf = true) (hn : (Lit.int .i16 n).wf = true) :
    Calls Try.prog 10 #[.int .u32 u, .int .i16 n] w fun e w' => e = .returned (.bool true) ∧ Below w.heap.size w w' := by
  obtain ⟨u0, u1⟩ := bounds_of_wf_u32 hu
  obtain ⟨n0, n1⟩ := bounds_of_wf_i16 hn
  obtain ⟨v0, v1⟩ := turn_lt u n u0 u1
  have B := Lib.hid (turn_back u n u0 u1)
  have C := Lib.hid (turn_32 u n)
  clear hu hn
  go_enter Try.func10, Try.ntmps10
  go_wp2_with fail
  refine (live_any _).mono ?_
  rintro e w1 ⟨rfl, hb⟩
  go_wp2_with fail
  refine (turn_any u n _ u0 u1).mono ?_
  rintro e w' ⟨rfl, rfl⟩
  go_wp2_with fail
  refine (turn_any (turnS u n) (-n) _ v0 v1).mono ?_
  rintro e w' ⟨rfl, rfl⟩
  rw [B.out]
  go_wp2_with fail
  refine (turn_any u n _ u0 u1).mono ?_
  rintro e w' ⟨rfl, rfl⟩
  go_wp2_with fail
  refine (turn_any u (n + 32) _ u0 u1).mono ?_
  rintro e w' ⟨rfl, rfl⟩
  rw [C.out]
  go_wp2
  go_ret
  exact ⟨rfl, hb⟩
end Go.Proofs.Ytklibbmlkjlbiaa
