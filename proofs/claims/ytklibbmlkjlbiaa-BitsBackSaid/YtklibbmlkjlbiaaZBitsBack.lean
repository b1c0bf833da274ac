/- BitsBack: Zag of Zig is the number, Unpack of Pack are the two, and the other way round. For every three numbers of their kinds; no condition. -/
import Derived.Test.YtklibbmlkjlbiaaBits
namespace Go.Proofs.Ytklibbmlkjlbiaa
open Go.RowKit Go.Proofs.YtklibbmlkjlbiaaMath

theorem zag_zig (n : Int) : zagS (zigS n) = n := by unfold zagS zigS; split <;> split <;> omega
theorem zig_zag (u : Int) (h : 0 ≤ u) : zigS (zagS u) = u := by unfold zagS zigS; split <;> split <;> omega
theorem zig_lt (n : Int) (h0 : -9223372036854775808 ≤ n) (h1 : n < 9223372036854775808) : 0 ≤ zigS n ∧ zigS n < 18446744073709551616 := by unfold zigS; split <;> omega
theorem zag_lt (u : Int) (h0 : 0 ≤ u) (h1 : u < 18446744073709551616) : -9223372036854775808 ≤ zagS u ∧ zagS u < 9223372036854775808 := by unfold zagS; split <;> omega

theorem bitsBack_walk (n a b : Int) (w : World) (hn : (Lit.int .i64 n).wf = true) (ha : (Lit.int .u32 a).wf = true) (hb' : (Lit.int .u32 b).wf = true) :
    Calls Try.prog 14 #[.int .i64 n, .int .u32 a, .int .u32 b] w fun e w' => e = .returned (.bool true) ∧ Below w.heap.size w w' := by
  obtain ⟨n0, n1⟩ := bounds_of_wf_i64 hn
  obtain ⟨a0, a1⟩ := bounds_of_wf_u32 ha
  obtain ⟨b0, b1⟩ := bounds_of_wf_u32 hb'
  obtain ⟨z0, z1⟩ := zig_lt n n0 n1
  have Z := Lib.hid (zag_zig n)
  obtain ⟨y, ey⟩ : ∃ y, y = b * 4294967296 + a := ⟨_, rfl⟩
  obtain ⟨x, ex⟩ : ∃ x, x = a * 4294967296 + b := ⟨_, rfl⟩
  have x0 : 0 ≤ x := by omega
  have x1 : x < 18446744073709551616 := by omega
  have y0 : 0 ≤ y := by omega
  have y1 : y < 18446744073709551616 := by omega
  obtain ⟨t0, t1⟩ := zag_lt y y0 y1
  have Y := Lib.hid (zig_zag y y0)
  have X1 := Lib.hid (show x / 4294967296 = a by omega)
  have X2 := Lib.hid (show x % 4294967296 = b by omega)
  have Y1 := Lib.hid (show y / 4294967296 = b by omega)
  have Y2 := Lib.hid (show y % 4294967296 = a by omega)
  have EX := Lib.hid ex
  have EY := Lib.hid ey
  clear hn ha hb' ex ey
  go_enter Try.func14, Try.ntmps14
  go_wp2_with fail
  refine (pack_any a b _ a0 a1 b0 b1).mono ?_
  rintro e w' ⟨rfl, rfl⟩
  rw [← EX.out]
  go_wp2_with fail
  refine (unpack_any x _ x0 x1).mono ?_
  rintro e w1 ⟨rfl, k1⟩
  rw [X1.out, X2.out]
  go_wp2_with fail
  refine (pack_any b a _ b0 b1 a0 a1).mono ?_
  rintro e w' ⟨rfl, rfl⟩
  rw [← EY.out]
  go_wp2_with fail
  refine (unpack_any y _ y0 y1).mono ?_
  rintro e w2 ⟨rfl, k2⟩
  rw [Y1.out, Y2.out]
  go_wp2_with fail
  refine (live_any _).mono ?_
  rintro e w3 ⟨rfl, k3⟩
  go_wp2_with fail
  refine (zig_any n _ n0 n1).mono ?_
  rintro e w' ⟨rfl, rfl⟩
  go_wp2_with fail
  refine (zag_any (zigS n) _ z0 z1).mono ?_
  rintro e w' ⟨rfl, rfl⟩
  rw [Z.out]
  go_wp2_with fail
  refine (zag_any y _ y0 y1).mono ?_
  rintro e w' ⟨rfl, rfl⟩
  go_wp2_with fail
  refine (zig_any (zagS y) _ t0 t1).mono ?_
  rintro e w' ⟨rfl, rfl⟩
  rw [Y.out]
  go_wp2_with fail
  refine (pack_any b a _ b0 b1 a0 a1).mono ?_
  rintro e w' ⟨rfl, rfl⟩
  rw [← EY.out]
  go_wp2
  go_ret
  exact ⟨rfl, k1.trans ((k2.trans (k3.mono k2.size)).mono k1.size)⟩
end Go.Proofs.Ytklibbmlkjlbiaa
