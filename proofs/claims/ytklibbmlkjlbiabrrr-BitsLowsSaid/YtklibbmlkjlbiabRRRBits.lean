/- What the small functions of the package bits answer, walked once: its value in plain arithmetic. Conditions: the arguments lie in their kinds. -/
import Derived.Test.YtklibbmlkjlbiabRRRProg
import Derived.Test.YtklibbmlkjlbiabRRRMath
import Derived.Below
import Derived.Deep.Draws
import Derived.Tactics
import Derived.WalkKit
import Derived.KernelRfl
import Derived.RowKit3
import Derived.Deep.LoopGhost
import Derived.Deep.QuietTactic
import Derived.BigQuiet
import Derived.WideLaws
import Derived.Lib.SlBytesConst
import Derived.Lib.Hide
namespace Go.Proofs.YtklibbmlkjlbiabRRR
open Go.RowKit Go.Proofs.YtklibbmlkjlbiabRRRMath

/-- Zig's number. -/
def zigS (n : Int) : Int := if 0 ≤ n then 2 * n else -2 * n - 1
/-- Zag's number. -/
def zagS (u : Int) : Int := if u % 2 = 0 then u / 2 else -(u / 2) - 1

theorem bounds_of_wf_i64 {n : Int} (h : (Lit.int .i64 n).wf = true) : -9223372036854775808 ≤ n ∧ n < 9223372036854775808 := by
  simp [Lit.wf, IntKind.min, IntKind.max, IntKind.signed, IntKind.bits] at h; omega
theorem bounds_of_wf_u64 {n : Int} (h : (Lit.int .u64 n).wf = true) : 0 ≤ n ∧ n < 18446744073709551616 := by
  simp [Lit.wf, IntKind.min, IntKind.max, IntKind.signed, IntKind.bits] at h; omega
theorem bounds_of_wf_u32 {n : Int} (h : (Lit.int .u32 n).wf = true) : 0 ≤ n ∧ n < 4294967296 := by
  simp [Lit.wf, IntKind.min, IntKind.max, IntKind.signed, IntKind.bits] at h; omega
theorem bounds_of_wf_u8 {n : Int} (h : (Lit.int .u8 n).wf = true) : 0 ≤ n ∧ n < 256 := by
  simp [Lit.wf, IntKind.min, IntKind.max, IntKind.signed, IntKind.bits] at h; omega
theorem bounds_of_wf_i16 {n : Int} (h : (Lit.int .i16 n).wf = true) : -32768 ≤ n ∧ n < 32768 := by
  simp [Lit.wf, IntKind.min, IntKind.max, IntKind.signed, IntKind.bits] at h; omega

theorem ret_i {k : IntKind} {a b : Int} (h : a = b) : Ending.returned (.int k a) = .returned (.int k b) := by rw [h]

theorem ret_ii {k j : IntKind} {a b c : Int} (h : a = b) : Ending.returned (.tuple #[.int k a, .int j c]) = .returned (.tuple #[.int k b, .int j c]) := by rw [h]

theorem bel_drewN {B : Nat} {a w : World} (h : Below B a w) (n : Nat) : Below B a (w.drewN n) := h.trans ⟨rfl, rfl, rfl, Nat.le_refl _, fun _ _ => rfl⟩

theorem zig_any (n : Int) (w : World) (h0 : -9223372036854775808 ≤ n) (h1 : n < 9223372036854775808) :
    Calls Try.prog 11 #[.int .i64 n] w fun e w' => e = .returned (.int .u64 (zigS n)) ∧ w = w' := by
  have HZ := Lib.hid (zig_eq n h0 h1)
  clear h0 h1
  go_enter Try.func11, Try.ntmps11
  go_wp2
  go_ret
  exact ⟨ret_i HZ.out, rfl⟩

theorem zag_any (u : Int) (w : World) (h0 : 0 ≤ u) (h1 : u < 18446744073709551616) :
    Calls Try.prog 12 #[.int .u64 u] w fun e w' => e = .returned (.int .i64 (zagS u)) ∧ w = w' := by
  have HZ := Lib.hid (zag_eq u h0 h1)
  clear h0 h1
  go_enter Try.func12, Try.ntmps12
  go_wp2
  go_ret
  refine ⟨?_, rfl⟩
  exact ret_i HZ.out

theorem make_ok (c n : Int) (w : World) (hc0 : 0 ≤ c) (hc : c ≤ 3) (hn0 : 1 ≤ n) (hn : n ≤ 16777215) :
    Calls Try.prog 10 #[.int .u8 c, .int .u32 n] w fun e w' => e = .returned (.tuple #[.int .u32 (c * 16777216 + n), .int .i64 0]) ∧ w = w' := by
  have HZ := Lib.hid (show Go.bits .or .u32 (c * 16777216) n = c * 16777216 + n by
    have h := or_fid c n hc0 hc (by omega) hn; rwa [show ((c % 4294967296) * 16777216) % 4294967296 = c * 16777216 from by omega] at h)
  have hz : (n == 0) = false := by simp; omega
  go_enter Try.func10, Try.ntmps10
  go_wp2
  go_ret2
  refine ⟨?_, rfl⟩
  exact ret_ii HZ.out

/-- Turn's number: the upper and the lower part change places. -/
def turnS (u n : Int) : Int := (rot u.toNat (n % 32).toNat : Nat)

theorem turn_any (u n : Int) (w : World) (h0 : 0 ≤ u) (h1 : u < 4294967296) :
    Calls Try.prog 7 #[.int .u32 u, .int .i64 n] w fun e w' => e = .returned (.int .u32 (turnS u n)) ∧ w = w' := by
  have hk : Go.bits .and .u64 (IntKind.u64.wrap n) 31 = n % 32 := by rw [and31_u64 _ (by rw [u64w]; omega) (by rw [u64w]; omega), u64w]; omega
  obtain ⟨k, ek⟩ : ∃ k : Int, k = n % 32 := ⟨_, rfl⟩
  rw [← ek] at hk
  have hk0 : 0 ≤ k := by omega
  have hk1 : k < 32 := by omega
  have HZ := Lib.hid (show Go.bits .or .u32 (u * 2 ^ k.toNat % 4294967296) (u / 2 ^ (32 - k).toNat) = turnS u n by unfold turnS; rw [← ek]; exact turn_eq u k h0 h1 hk0 hk1)
  clear ek
  go_enter Try.func7, Try.ntmps7
  go_wp2
  go_ret
  refine ⟨?_, rfl⟩
  exact ret_i HZ.out

/-- One byte more. -/
def foldStep (x b : Int) : Int := (Go.bits .xor .u32 x (b % 4294967296) * 16777619) % 4294967296
/-- Fold's number. -/
def foldS (l : List Int) : Int := l.foldl foldStep 2166136261

theorem foldS_snoc (l : List Int) (k : Nat) (hk : k < l.length) : foldS (l.take (k + 1)) = foldStep (foldS (l.take k)) (l.getD k 0) := by
  unfold foldS
  rw [List.take_succ_eq_append_getElem hk, List.foldl_append, List.getD_eq_getElem?_getD, List.getElem?_eq_getElem hk]
  rfl

/-- The bytes of a slice, each in its cell. -/
def Bytes (w : World) (b off : Nat) (l : List Int) : Prop := ∀ k, k < l.length → w.cell? ⟨b, off + k, none⟩ = some (.int .u8 (l.getD k 0)) ∧ 0 ≤ l.getD k 0 ∧ l.getD k 0 < 256

theorem fold_some (b off c : Nat) (l : List Int) (w : World) (hl : l.length ≤ 9223372036854775807) (hc : Bytes w b off l) :
    Calls Try.prog 13 #[.slice (some ⟨b, off, none⟩) l.length c] w fun e w' => e = .returned (.int .u32 (foldS l)) ∧ w = w' := by
  go_enter Try.func13, Try.ntmps13
  go_wp2
  go_loop [3, 7] (fun x i => ∃ k : Nat, k ≤ l.length ∧ i = .int .i64 k ∧ x = .int .u32 (foldS (l.take k))) (fun _ i => l.length - (intOf i).toNat)
  case atStart => exact ⟨0, Nat.zero_le _, rfl, rfl⟩
  case round =>
    obtain ⟨k, hk, rfl, rfl⟩ := hrel
    by_cases hlt : k < l.length
    · obtain ⟨hcell, hv0, hv1⟩ := hc k hlt
      have HS := Lib.hid (foldS_snoc l k hlt)
      obtain ⟨v, ev⟩ : ∃ v, v = l.getD k 0 := ⟨_, rfl⟩
      rw [← ev] at hcell hv0 hv1
      have EV := Lib.hid ev
      clear ev
      go_wp2
      go_round
      case rel => exact ⟨k + 1, by omega, by go_num, by rw [HS.out, ← EV.out]; unfold foldStep; rw [Int.emod_eq_of_lt hv0 (by omega)]⟩
      case measure => simp [intOf]; omega
    · obtain rfl : k = l.length := by omega
      go_wp2
      go_ret
      exact ⟨ret_i (by first | rfl | rw [List.take_length]), rfl⟩

theorem foldA : foldS [97] = 3826002220 := by decide +kernel

theorem live_any (w : World) : Calls Try.prog 6 #[] w fun e w' => e = .returned (.bool true) ∧ Below w.heap.size w w' := by
  have kc := fun (w : World) (C : Array Value) (n c : Nat) => Lib.run_convert_bytes_const (P := Try.prog) w 36 5 C n c Try.underlying36 Try.underlying5
  have z1 : zigS (-1) = 1 := by decide
  have z2 : zagS 4 = 2 := by decide
  have HF := Lib.hid foldA
  go_enter Try.func6, Try.ntmps6
  go_wp2_with fail
  refine (make_ok 2 5 _ (by omega) (by omega) (by omega) (by omega)).mono ?_
  rintro e w' ⟨rfl, rfl⟩
  go_wp2_with fail
  refine (zig_any (-1) _ (by omega) (by omega)).mono ?_
  rintro e w' ⟨rfl, rfl⟩
  rw [z1]
  clear z1
  go_wp2_with fail
  refine (zag_any 4 _ (by omega) (by omega)).mono ?_
  rintro e w' ⟨rfl, rfl⟩
  rw [z2]
  clear z2
  go_wp2_with fail
  refine (fold_some _ 0 1 [97] _ (by decide) ?_).mono ?_
  · intro k hk
    have : k = 0 := by simp at hk; omega
    subst this
    refine ⟨?_, by decide, by decide⟩
    exact (World.cell?_alloc_mark w #[.int .u8 97] 5 (1, 2) 0).trans rfl
  rintro e w' ⟨rfl, rfl⟩
  rw [HF.out]
  go_wp2
  go_ret
  exact ⟨rfl, (Below.refl _ _).alloc (Nat.le_refl _) _⟩
end Go.Proofs.YtklibbmlkjlbiabRRR
