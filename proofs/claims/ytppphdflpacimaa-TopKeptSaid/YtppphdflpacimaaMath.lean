/- Whole numbers of Go's kinds: what the bit operations of this program come to, in plain arithmetic. Conditions: each number lies in its kind. -/
import Derived.Laws.BitsAllLaws
import Derived.IntWalk
namespace Go.Proofs.YtppphdflpacimaaMath
open Go Go.RowKit

theorem w64 (n : Int) : wrap64 n = (n + 9223372036854775808) % 18446744073709551616 - 9223372036854775808 := by unfold wrap64; omega
theorem u64w (n : Int) : IntKind.u64.wrap n = n % 18446744073709551616 := by simp [IntKind.wrap, IntKind.bits, IntKind.signed]
theorem i64w (n : Int) : IntKind.i64.wrap n = (n + 9223372036854775808) % 18446744073709551616 - 9223372036854775808 := by
  simp only [IntKind.wrap, IntKind.bits, IntKind.signed]
  simp
  split <;> omega
theorem u32w (n : Int) : IntKind.u32.wrap n = n % 4294967296 := by simp [IntKind.wrap, IntKind.bits, IntKind.signed]

theorem xor0_u64 (a : Int) (h0 : 0 ≤ a) (h1 : a < 18446744073709551616) : Go.bits .xor .u64 a 0 = a := by
  rw [u64_xor a 0 h0 h1 (by omega) (by omega)]; simp; omega

theorem xorOnes_nat (x : Nat) (hx : x < 2 ^ 64) : x ^^^ 18446744073709551615 = 18446744073709551615 - x := by
  have h := BitVec.xor_allOnes (x := BitVec.ofNat 64 x)
  have h2 := congrArg BitVec.toNat h
  rw [BitVec.toNat_xor, BitVec.toNat_not, BitVec.toNat_allOnes, BitVec.toNat_ofNat, Nat.mod_eq_of_lt hx] at h2
  simpa using h2

theorem xorOnes_u64 (a : Int) (h0 : 0 ≤ a) (h1 : a < 18446744073709551616) : Go.bits .xor .u64 a 18446744073709551615 = 18446744073709551615 - a := by
  rw [u64_xor a 18446744073709551615 h0 h1 (by omega) (by omega)]
  have : (18446744073709551615 : Int).toNat = 18446744073709551615 := rfl
  rw [this, xorOnes_nat _ (by omega)]
  omega

/-- Zig. -/
theorem zig_eq (n : Int) (h0 : -9223372036854775808 ≤ n) (h1 : n < 9223372036854775808) :
    Go.bits .xor .u64 (IntKind.u64.wrap ((IntKind.u64.wrap n) * 2)) (IntKind.u64.wrap (n / 9223372036854775808)) = if 0 ≤ n then 2 * n else -2 * n - 1 := by
  rw [u64w, u64w, u64w]
  by_cases h : 0 ≤ n
  · rw [if_pos h, show n / 9223372036854775808 % 18446744073709551616 = 0 from by omega, xor0_u64 _ (by omega) (by omega)]
    omega
  · rw [if_neg h, show n / 9223372036854775808 % 18446744073709551616 = 18446744073709551615 from by omega, xorOnes_u64 _ (by omega) (by omega)]
    omega

theorem and1_u64 (a : Int) (h0 : 0 ≤ a) (h1 : a < 18446744073709551616) : Go.bits .and .u64 a 1 = a % 2 := by
  rw [u64_and a 1 h0 h1 (by omega) (by omega)]
  have : (1 : Int).toNat = 1 := rfl
  rw [this, Nat.and_one_is_mod]
  omega

theorem bv64_ofInt (a : Int) : (BitVec.ofInt 64 a).toNat = (a % 18446744073709551616).toNat := by simp [BitVec.toNat_ofInt]

theorem xor_i64 (a b : Int) : Go.bits .xor .i64 a b = IntKind.i64.wrap (((a % 18446744073709551616).toNat ^^^ (b % 18446744073709551616).toNat : Nat) : Int) := by
  unfold Go.bits
  show IntKind.i64.wrap (((BitVec.ofInt 64 a ^^^ BitVec.ofInt 64 b).toNat : Nat) : Int) = _
  rw [BitVec.toNat_xor, bv64_ofInt, bv64_ofInt]

/-- Zag. -/
theorem zag_eq (u : Int) (h0 : 0 ≤ u) (h1 : u < 18446744073709551616) :
    Go.bits .xor .i64 (wrap64 (u / 2)) (wrap64 (-(wrap64 (Go.bits .and .u64 u 1)))) = if u % 2 = 0 then u / 2 else -(u / 2) - 1 := by
  rw [and1_u64 u h0 h1, xor_i64, i64w, w64, w64, w64]
  by_cases h : u % 2 = 0
  · rw [if_pos h, h]
    have e1 : (((u / 2 + 9223372036854775808) % 18446744073709551616 - 9223372036854775808) % 18446744073709551616).toNat = (u / 2).toNat := by omega
    have e2 : (((-((0 + 9223372036854775808) % 18446744073709551616 - 9223372036854775808) + 9223372036854775808) % 18446744073709551616 - 9223372036854775808 : Int) % 18446744073709551616).toNat = 0 := rfl
    rw [e1, e2, Nat.xor_zero]
    omega
  · have h' : u % 2 = 1 := by omega
    rw [if_neg h, h']
    have e1 : (((u / 2 + 9223372036854775808) % 18446744073709551616 - 9223372036854775808) % 18446744073709551616).toNat = (u / 2).toNat := by omega
    have e2 : (((-((1 + 9223372036854775808) % 18446744073709551616 - 9223372036854775808) + 9223372036854775808) % 18446744073709551616 - 9223372036854775808 : Int) % 18446744073709551616).toNat = 18446744073709551615 := rfl
    rw [e1, e2, xorOnes_nat _ (by omega)]
    omega

/-- The lowest j bits. -/
theorem and_low_nat (x j : Nat) : x &&& (2 ^ j - 1) = x % 2 ^ j := Nat.and_two_pow_sub_one_eq_mod x j

theorem and31_u64 (a : Int) (h0 : 0 ≤ a) (h1 : a < 18446744073709551616) : Go.bits .and .u64 a 31 = a % 32 := by
  rw [u64_and a 31 h0 h1 (by omega) (by omega)]
  have e : (31 : Int).toNat = 2 ^ 5 - 1 := rfl
  rw [e, and_low_nat]
  omega

theorem and24_u32 (a : Int) (h0 : 0 ≤ a) (h1 : a < 4294967296) : Go.bits .and .u32 a 16777215 = a % 16777216 := by
  rw [u32_and a 16777215 h0 h1 (by omega) (by omega)]
  have e : (16777215 : Int).toNat = 2 ^ 24 - 1 := rfl
  rw [e, and_low_nat]
  omega

theorem or_join_u32 (i : Nat) (x y : Int) (hx0 : 0 ≤ x) (hx1 : x < 4294967296) (hy0 : 0 ≤ y) (hy1 : y < 4294967296) (hx : x.toNat % 2 ^ i = 0) (hy : y.toNat < 2 ^ i) : Go.bits .or .u32 x y = x + y := by
  rw [u32_or x y hx0 hx1 hy0 hy1, nat_join i _ _ hx hy]
  omega

theorem or_join_u64 (i : Nat) (x y : Int) (hx0 : 0 ≤ x) (hx1 : x < 18446744073709551616) (hy0 : 0 ≤ y) (hy1 : y < 18446744073709551616) (hx : x.toNat % 2 ^ i = 0) (hy : y.toNat < 2 ^ i) : Go.bits .or .u64 x y = x + y := by
  rw [u64_or x y hx0 hx1 hy0 hy1, nat_join i _ _ hx hy]
  omega

/-- A fid. -/
theorem or_fid (c n : Int) (hc0 : 0 ≤ c) (hc : c ≤ 3) (hn0 : 0 ≤ n) (hn : n ≤ 16777215) : Go.bits .or .u32 (((c % 4294967296) * 16777216) % 4294967296) n = c * 16777216 + n := by
  have e : ((c % 4294967296) * 16777216) % 4294967296 = c * 16777216 := by omega
  rw [e, or_join_u32 24 _ _ (by omega) (by omega) (by omega) (by omega) (by omega) (by omega)]

/-- Turn, for 0 < k < 32, over natural numbers: the upper and the lower part change places. -/
def rot (u k : Nat) : Nat := u % 2 ^ (32 - k) * 2 ^ k + u / 2 ^ (32 - k)

theorem pow32 (k : Nat) (hk : k ≤ 32) : 2 ^ (32 - k) * 2 ^ k = 4294967296 := by
  rw [← Nat.pow_add, Nat.sub_add_cancel hk]

theorem rot_lt (u k : Nat) (hk : k ≤ 32) (hu : u < 4294967296) : rot u k < 4294967296 := by
  unfold rot
  have hp := pow32 k hk
  have h1 : u % 2 ^ (32 - k) < 2 ^ (32 - k) := Nat.mod_lt _ (Nat.two_pow_pos _)
  have h2 : u / 2 ^ (32 - k) < 2 ^ k := Nat.div_lt_of_lt_mul (by rw [hp]; exact hu)
  have h3 : u % 2 ^ (32 - k) * 2 ^ k + 2 ^ k ≤ 2 ^ (32 - k) * 2 ^ k := by
    rw [← Nat.succ_mul]; exact Nat.mul_le_mul_right _ h1
  omega

theorem rot_back (u k : Nat) (hk : k ≤ 32) (hu : u < 4294967296) : rot (rot u k) (32 - k) = u := by
  have hp := pow32 k hk
  have h2 : u / 2 ^ (32 - k) < 2 ^ k := Nat.div_lt_of_lt_mul (by rw [hp]; exact hu)
  have hs : 32 - (32 - k) = k := by omega
  have e1 : rot u k % 2 ^ k = u / 2 ^ (32 - k) := by
    unfold rot
    rw [Nat.mul_add_mod_self_right, Nat.mod_eq_of_lt h2]
  have e2 : rot u k / 2 ^ k = u % 2 ^ (32 - k) := by
    unfold rot
    rw [Nat.mul_comm, Nat.mul_add_div (Nat.two_pow_pos _), Nat.div_eq_of_lt h2, Nat.add_zero]
  have e3 : rot (rot u k) (32 - k) = rot u k % 2 ^ k * 2 ^ (32 - k) + rot u k / 2 ^ k := by
    conv => lhs; unfold rot
    rw [hs]
    rfl
  rw [e3, e1, e2]
  have := Nat.div_add_mod u (2 ^ (32 - k))
  rw [Nat.mul_comm]; exact this

theorem rot_zero (u : Nat) (hu : u < 4294967296) : rot u 0 = u := by
  unfold rot
  have e : 2 ^ (32 - 0) = 4294967296 := rfl
  rw [e]
  omega

theorem rot_full (u : Nat) : rot u 32 = u := by
  unfold rot
  have e : 2 ^ (32 - 32) = 1 := rfl
  rw [e]
  omega

/-- Turn, as the code has it. -/
theorem turn_eq (u k : Int) (h0 : 0 ≤ u) (h1 : u < 4294967296) (hk0 : 0 ≤ k) (hk1 : k < 32) :
    Go.bits .or .u32 (u * 2 ^ k.toNat % 4294967296) (u / 2 ^ (32 - k).toNat) = (rot u.toNat k.toNat : Nat) := by
  obtain ⟨j, rfl⟩ : ∃ j : Nat, k = j := ⟨k.toNat, by omega⟩
  obtain ⟨v, rfl⟩ : ∃ v : Nat, u = v := ⟨u.toNat, by omega⟩
  have hj : j < 32 := by omega
  have hp := pow32 j (by omega)
  have hv : v < 4294967296 := by omega
  have e0 : (32 - (j : Int)).toNat = 32 - j := by omega
  have hlo : v % 2 ^ (32 - j) < 2 ^ (32 - j) := Nat.mod_lt _ (Nat.two_pow_pos _)
  have hhi : v / 2 ^ (32 - j) < 2 ^ j := Nat.div_lt_of_lt_mul (by rw [hp]; exact hv)
  have hj32 : 2 ^ j ≤ 2 ^ 31 := Nat.pow_le_pow_right (by decide) (by omega)
  have e1 : ((v : Int) * 2 ^ j % 4294967296) = ((v % 2 ^ (32 - j) * 2 ^ j : Nat) : Int) := by
    rw [← Nat.mul_mod_mul_right, hp, Int.natCast_emod, Int.natCast_mul, Int.natCast_pow]
    rfl
  have e2 : ((v : Int) / 2 ^ (32 - j)) = ((v / 2 ^ (32 - j) : Nat) : Int) := by rw [Int.natCast_ediv, Int.natCast_pow]; rfl
  have hb : v % 2 ^ (32 - j) * 2 ^ j < 4294967296 := by
    rw [← hp]; exact Nat.mul_lt_mul_of_pos_right hlo (Nat.two_pow_pos _)
  have hhi2 : v / 2 ^ (32 - j) < 4294967296 := Nat.lt_of_lt_of_le hhi (by omega)
  rw [e0, Int.toNat_natCast, e1, e2, Int.toNat_natCast]
  unfold rot
  have hm : (v % 2 ^ (32 - j) * 2 ^ j) % 2 ^ j = 0 := Nat.mul_mod_left _ _
  generalize v % 2 ^ (32 - j) * 2 ^ j = x at *
  generalize v / 2 ^ (32 - j) = y at *
  rw [or_join_u32 j _ _ (by omega) (by omega) (by omega) (by omega) (by rw [Int.toNat_natCast]; exact hm) (by rw [Int.toNat_natCast]; exact hhi)]
  omega

/-- One step more. -/
theorem rot_step (u k : Nat) (hk : k < 32) (hu : u < 4294967296) : (rot u k * 2 % 4294967296 + rot u k / 2147483648 % 4294967296) % 4294967296 = rot u (k + 1) := by
  have hd : 2 ^ (32 - k) = 2 ^ (32 - (k + 1)) * 2 := by rw [← Nat.pow_succ]; congr 1; omega
  have hp := pow32 (k + 1) hk
  have hp' := pow32 k (by omega)
  have hk2 : 2 ^ (k + 1) = 2 ^ k * 2 := Nat.pow_succ 2 k
  have h31 : 2 ^ (32 - (k + 1)) * 2 ^ k = 2147483648 := by
    have := hp; rw [hk2, ← Nat.mul_assoc] at this; omega
  generalize hA : 2 ^ (32 - (k + 1)) = A at *
  generalize hB : 2 ^ k = B at *
  have hA0 : 0 < A := by rw [← hA]; exact Nat.two_pow_pos _
  have hB0 : 0 < B := by rw [← hB]; exact Nat.two_pow_pos _
  have e1 : rot u k = u % (A * 2) * B + u / (A * 2) := by unfold rot; rw [hd, hB]
  have e2 : rot u (k + 1) = u % A * (B * 2) + u / A := by unfold rot; rw [hA, hk2]
  rw [e1, e2]
  -- u = q * (2A) + t * A + r
  have hq : u / (A * 2) = u / A / 2 := by rw [Nat.div_div_eq_div_mul]
  have hm : u % (A * 2) = u % A + A * (u / A % 2) := by rw [Nat.mod_mul]
  have hr : u % A < A := Nat.mod_lt _ hA0
  have hub : u / A < B * 2 := Nat.div_lt_of_lt_mul (by rw [← hk2, hp]; exact hu)
  rw [hq, hm]
  generalize hy : u / A = y at *
  generalize hx : u % A = x at *
  have hxB : x * B + B ≤ 2147483648 := by
    rw [← h31, ← Nat.succ_mul]; exact Nat.mul_le_mul_right _ hr
  have hyB : y / 2 < B := by omega
  have ex : x * (B * 2) = 2 * (x * B) := by rw [← Nat.mul_assoc]; omega
  have key : ∀ v q : Nat, v < 2147483648 → q ≤ 1 → ((v + q * 2147483648) * 2 % 4294967296 + (v + q * 2147483648) / 2147483648 % 4294967296) % 4294967296 = v * 2 + q := by
    intro v q hv hq
    rcases (by omega : q = 0 ∨ q = 1) with rfl | rfl
    · rw [Nat.zero_mul, Nat.add_zero, Nat.div_eq_of_lt hv, Nat.mod_eq_of_lt (by omega)]; omega
    · rw [Nat.one_mul, show (v + 2147483648) * 2 % 4294967296 = v * 2 from by omega, show (v + 2147483648) / 2147483648 = 1 from by omega]; omega
  have e3 : (x + A * (y % 2)) * B + y / 2 = x * B + y / 2 + y % 2 * 2147483648 := by
    rw [Nat.add_mul, Nat.mul_assoc, Nat.mul_comm (y % 2) B, ← Nat.mul_assoc, h31]; omega
  rw [e3, key _ _ (by omega) (by omega), ex]
  omega

end Go.Proofs.YtppphdflpacimaaMath
