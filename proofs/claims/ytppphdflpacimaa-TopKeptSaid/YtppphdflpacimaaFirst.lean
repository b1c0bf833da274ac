/- The first packet of bytes: the functions read and first. -/
import Derived.Test.YtppphdflpacimaaEnc
import Derived.Test.YtppphdflpacimaaMath
namespace Go.Proofs.Ytppphdflpacimaa
open Go.RowKit

/-- Bytes as one number, the lowest first. -/
def leN (q : Nat → Nat) : Nat → Nat
  | 0 => 0
  | k + 1 => leN q k + q k * 256 ^ k

theorem leN_lt (q : Nat → Nat) (h : ∀ j, q j < 256) (k : Nat) : leN q k < 256 ^ k := by
  induction k with
  | zero => simp [leN]
  | succ k ih =>
    unfold leN
    have := h k
    have h2 : q k * 256 ^ k ≤ 255 * 256 ^ k := Nat.mul_le_mul_right _ (by omega)
    rw [Nat.pow_succ]
    omega

theorem or_next (x y k : Nat) (hk : k < 4) (hx : x < 256 ^ k) (hy : y < 256) : Go.bits .or .u32 (x : Int) ((y : Int) * 2 ^ (8 * k) % 4294967296) = ((x + y * 256 ^ k : Nat) : Int) := by
  have hp : 256 ^ k = 2 ^ (8 * k) := by rw [show (256 : Nat) = 2 ^ 8 from rfl, ← Nat.pow_mul]
  have hb : y * 2 ^ (8 * k) < 4294967296 := by
    have h1 : y * 2 ^ (8 * k) ≤ 255 * 2 ^ (8 * k) := Nat.mul_le_mul_right _ (by omega)
    have h2 : 2 ^ (8 * k) ≤ 2 ^ 24 := Nat.pow_le_pow_right (by omega) (by omega)
    omega
  have hxb : x < 4294967296 := by
    have h2 : 2 ^ (8 * k) ≤ 2 ^ 24 := Nat.pow_le_pow_right (by omega) (by omega)
    omega
  have e : (y : Int) * 2 ^ (8 * k) % 4294967296 = ((y * 2 ^ (8 * k) : Nat) : Int) := by
    rw [Int.natCast_mul, Int.natCast_pow]
    have : ((y : Int) * 2 ^ (8 * k)) = ((y * 2 ^ (8 * k) : Nat) : Int) := by rw [Int.natCast_mul, Int.natCast_pow]; rfl
    rw [this]
    rw [Int.emod_eq_of_lt (by omega) (by omega)]
    exact this.symm
  rw [e, u32_or _ _ (by omega) (by omega) (by omega) (by omega), Int.toNat_natCast, Int.toNat_natCast, Nat.or_comm, nat_join (8 * k) _ _ (Nat.mul_mod_left _ _) (by omega), hp]
  omega

set_option maxHeartbeats 1000000 in
set_option maxRecDepth 100000 in
theorem read_any (g off n c : Nat) (q : Nat → Nat) (hq : ∀ j, q j < 256) (hn : 4 ≤ n) (w : World) (hc : ∀ j, j < 4 → w.cell? ⟨g, off + j, none⟩ = some (.int .u8 (q j))) :
    Calls Try.prog 23 #[.slice (some ⟨g, off, none⟩) n c] w fun e w' => e = .returned (.int .u32 (leN q 4)) ∧ w = w' := by
  have HC := Lib.hid hc
  have HQ := Lib.hid hq
  clear hc hq
  go_enter Try.func23, Try.ntmps23
  go_wp2_with fail
  go_loop [2, 4] (fun x i => ∃ k : Nat, k ≤ 4 ∧ i = .int .i64 k ∧ x = .int .u32 (leN q k)) (fun _ i => 4 - (intOf i).toNat)
  case atStart => exact ⟨0, by omega, rfl, rfl⟩
  case round =>
    obtain ⟨k, hk, rfl, rfl⟩ := hrel
    by_cases hlt : k < 4
    · have hcell := HC.out k hlt
      have hqk := HQ.out k
      obtain ⟨x, hx⟩ : ∃ x, x = leN q k := ⟨_, rfl⟩
      obtain ⟨y, hy⟩ : ∃ y, y = q k := ⟨_, rfl⟩
      rw [← hy] at hcell hqk
      rw [← hx]
      have HX := Lib.hid hx
      have HY := Lib.hid hy
      clear hx hy
      go_wp2_with fail
      have HXL := Lib.hid (leN_lt q HQ.out k)
      rw [← HX.out] at HXL
      go_round
      case rel => exact ⟨k + 1, by omega, by go_num, by rw [or_next x y k hlt HXL.out hqk, leN, ← HX.out, ← HY.out]⟩
      case measure => simp [intOf]; omega
    · obtain rfl : k = 4 := by omega
      go_wp2_with fail
      go_ret
      exact ⟨rfl, rfl⟩
end Go.Proofs.Ytppphdflpacimaa
