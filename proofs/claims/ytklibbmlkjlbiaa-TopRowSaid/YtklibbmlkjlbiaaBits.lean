/- What each small function of the packages bits and backwaterref01 answers, walked once: its value in plain arithmetic. Conditions: the arguments lie in their kinds. -/
import Derived.Test.YtklibbmlkjlbiaaProg
import Derived.Test.YtklibbmlkjlbiaaMath
import Derived.Below
import Derived.Deep.Draws
import Derived.Tactics
import Derived.WalkKit
import Derived.KernelRfl
import Derived.RowKit3
import Derived.Deep.LoopGhost
import Derived.Deep.QuietTactic
import Derived.BigQuiet
import Derived.WideLaws
import Derived.Lib.SlBytesConst
import Derived.Lib.Hide
namespace Go.Proofs.Ytklibbmlkjlbiaa
open Go.RowKit Go.Proofs.YtklibbmlkjlbiaaMath

/-- Zig's number. -/
def zigS (n : Int) : Int := if 0 ≤ n then 2 * n else -2 * n - 1
/-- Zag's number. -/
def zagS (u : Int) : Int := if u % 2 = 0 then u / 2 else -(u / 2) - 1

theorem bounds_of_wf_i64 {n : Int} (h : (Lit.int .i64 n).wf = true) : -9223372036854775808 ≤ n ∧ n < 9223372036854775808 := by
  simp [Lit.wf, IntKind.min, IntKind.max, IntKind.signed, IntKind.bits] at h; omega
theorem bounds_of_wf_u64 {n : Int} (h : (Lit.int .u64 n).wf = true) : 0 ≤ n ∧ n < 18446744073709551616 := by
  simp [Lit.wf, IntKind.min, IntKind.max, IntKind.signed, IntKind.bits] at h; omega
theorem bounds_of_wf_u32 {n : Int} (h : (Lit.int .u32 n).wf = true) : 0 ≤ n ∧ n < 4294967296 := by
  simp [Lit.wf, IntKind.min, IntKind.max, IntKind.signed, IntKind.bits] at h; omega
theorem bounds_of_wf_u8 {n : Int} (h : (Lit.int .u8 n).wf = true) : 0 ≤ n ∧ n < 256 := by
  simp [Lit.wf, IntKind.min, IntKind.max, IntKind.signed, IntKind.bits] at h; omega
theorem bounds_of_wf_i16 {n : Int} (h : (Lit.int .i16 n).wf = true) : -32768 ≤ n ∧ n < 32768 := by
  simp [Lit.wf, IntKind.min, IntKind.max, IntKind.signed, IntKind.bits] at h; omega

theorem ret_i {k : IntKind} {a b : Int} (h : a = b) : Ending.returned (.int k a) = .returned (.int k b) := by rw [h]

theorem ret_ii {k j : IntKind} {a b c : Int} (h : a = b) : Ending.returned (.tuple #[.int k a, .int j c]) = .returned (.tuple #[.int k b, .int j c]) := by rw [h]

theorem bel_drewN {B : Nat} {a w : World} (h : Below B a w) (n : Nat) : Below B a (w.drewN n) := h.trans ⟨rfl, rfl, rfl, Nat.le_refl _, fun _ _ => rfl⟩

theorem zig_any (n : Int) (w : World) (h0 : -9223372036854775808 ≤ n) (h1 : n < 9223372036854775808) :
    Calls Try.prog 16 #[.int .i64 n] w fun e w' => e = .returned (.int .u64 (zigS n)) ∧ w = w' := by
  have HZ := Lib.hid (zig_eq n h0 h1)
  clear h0 h1
  go_enter Try.func16, Try.ntmps16
  go_wp2
  go_ret
  exact ⟨ret_i HZ.out, rfl⟩

theorem zigRef_any (n : Int) (w : World) (h0 : -9223372036854775808 ≤ n) (h1 : n < 9223372036854775808) :
    Calls Try.prog 17 #[.int .i64 n] w fun e w' => e = .returned (.int .u64 (zigS n)) ∧ w = w' := by
  by_cases h : 0 ≤ n
  · have HZ := Lib.hid (show 2 * n = zigS n by unfold zigS; rw [if_pos h])
    go_enter Try.func17, Try.ntmps17
    go_wp2
    go_ret
    exact ⟨ret_i HZ.out, rfl⟩
  · have HZ := Lib.hid (show 2 * -(n + 1) + 1 = zigS n by unfold zigS; rw [if_neg h]; omega)
    go_enter Try.func17, Try.ntmps17
    go_wp2
    go_ret
    exact ⟨ret_i HZ.out, rfl⟩

theorem zag_any (u : Int) (w : World) (h0 : 0 ≤ u) (h1 : u < 18446744073709551616) :
    Calls Try.prog 18 #[.int .u64 u] w fun e w' => e = .returned (.int .i64 (zagS u)) ∧ w = w' := by
  have HZ := Lib.hid (zag_eq u h0 h1)
  clear h0 h1
  go_enter Try.func18, Try.ntmps18
  go_wp2
  go_ret
  refine ⟨?_, rfl⟩
  exact ret_i HZ.out

theorem zagRef_any (u : Int) (w : World) (h0 : 0 ≤ u) (h1 : u < 18446744073709551616) :
    Calls Try.prog 19 #[.int .u64 u] w fun e w' => e = .returned (.int .i64 (zagS u)) ∧ w = w' := by
  by_cases h : u % 2 = 0
  · have HZ := Lib.hid (show wrap64 (IntKind.u64.wrap (Int.tdiv u 2)) = zagS u by
      unfold zagS; rw [if_pos h, u64w, w64, Int.tdiv_eq_ediv_of_nonneg h0]; omega)
    have ht : (Int.tmod u 2 == 0) = true := by rw [Int.tmod_eq_emod_of_nonneg h0]; simpa using h
    clear h h0 h1
    go_enter Try.func19, Try.ntmps19
    go_wp2
    go_ret
    refine ⟨?_, rfl⟩
    exact ret_i HZ.out
  · have HZ := Lib.hid (show wrap64 ((wrap64 (-(wrap64 (IntKind.u64.wrap (Int.tdiv u 2))))) - 1) = zagS u by
      unfold zagS; rw [if_neg h, u64w, w64, w64, w64, Int.tdiv_eq_ediv_of_nonneg h0]; omega)
    have ht : (Int.tmod u 2 == 0) = false := by rw [Int.tmod_eq_emod_of_nonneg h0]; simpa using h
    clear h h0 h1
    go_enter Try.func19, Try.ntmps19
    go_wp2
    go_ret
    refine ⟨?_, rfl⟩
    exact ret_i HZ.out

/-- Make's answer: the fid and the error. -/
def makeV (c n : Int) : Value := if c ≤ 3 ∧ 1 ≤ n ∧ n ≤ 16777215 then .tuple #[.int .u32 (c * 16777216 + n), .int .i64 0] else .tuple #[.int .u32 0, .int .i64 2]

theorem make_ok (c n : Int) (w : World) (hc0 : 0 ≤ c) (hc : c ≤ 3) (hn0 : 1 ≤ n) (hn : n ≤ 16777215) :
    Calls Try.prog 22 #[.int .u8 c, .int .u32 n] w fun e w' => e = .returned (.tuple #[.int .u32 (c * 16777216 + n), .int .i64 0]) ∧ w = w' := by
  have HZ := Lib.hid (show Go.bits .or .u32 (c * 16777216) n = c * 16777216 + n by
    have h := or_fid c n hc0 hc (by omega) hn; rwa [show ((c % 4294967296) * 16777216) % 4294967296 = c * 16777216 from by omega] at h)
  have hz : (n == 0) = false := by simp; omega
  go_enter Try.func22, Try.ntmps22
  go_wp2
  go_ret2
  refine ⟨?_, rfl⟩
  exact ret_ii HZ.out

theorem make_no (c n : Int) (w : World) (hc0 : 0 ≤ c) (hn0 : 0 ≤ n) (h : ¬ (c ≤ 3 ∧ 1 ≤ n ∧ n ≤ 16777215)) :
    Calls Try.prog 22 #[.int .u8 c, .int .u32 n] w fun e w' => e = .returned (.tuple #[.int .u32 0, .int .i64 2]) ∧ w = w' := by
  by_cases a : c ≤ 3
  · by_cases b : n = 0
    · subst b
      clear h
      go_enter Try.func22, Try.ntmps22
      go_wp2
      go_ret2
      exact ⟨rfl, rfl⟩
    · have hz : (n == 0) = false := by simpa using b
      have hm : 16777215 < n := by omega
      clear h b
      go_enter Try.func22, Try.ntmps22
      go_wp2
      go_ret2
      exact ⟨rfl, rfl⟩
  · have a' : 3 < c := by omega
    clear h a
    go_enter Try.func22, Try.ntmps22
    go_wp2
    go_ret2
    exact ⟨rfl, rfl⟩

theorem makeRef_ok (c n : Int) (w : World) (hc0 : 0 ≤ c) (hc : c ≤ 3) (hn0 : 1 ≤ n) (hn : n ≤ 16777215) :
    Calls Try.prog 23 #[.int .u8 c, .int .u32 n] w fun e w' => e = .returned (.tuple #[.int .u32 (c * 16777216 + n), .int .i64 0]) ∧ w = w' := by
  go_enter Try.func23, Try.ntmps23
  go_wp2
  go_ret2
  refine ⟨?_, rfl⟩
  exact ret_ii (by omega)

theorem makeRef_no (c n : Int) (w : World) (hc0 : 0 ≤ c) (h : ¬ (c ≤ 3 ∧ 1 ≤ n ∧ n ≤ 16777215)) :
    Calls Try.prog 23 #[.int .u8 c, .int .u32 n] w fun e w' => e = .returned (.tuple #[.int .u32 0, .int .i64 2]) ∧ w = w' := by
  by_cases a : c ≤ 3
  · by_cases b : n < 1
    · clear h
      go_enter Try.func23, Try.ntmps23
      go_wp2
      go_ret2
      exact ⟨rfl, rfl⟩
    · have hm : 16777215 < n := by omega
      clear h
      go_enter Try.func23, Try.ntmps23
      go_wp2
      go_ret2
      exact ⟨rfl, rfl⟩
  · have a' : 3 < c := by omega
    clear h a
    go_enter Try.func23, Try.ntmps23
    go_wp2
    go_ret2
    exact ⟨rfl, rfl⟩

theorem who_any (f : Int) (w : World) (h0 : 0 ≤ f) (h1 : f < 4294967296) :
    Calls Try.prog 24 #[.int .u32 f] w fun e w' => e = .returned (.int .u8 (f / 16777216)) ∧ w = w' := by
  go_enter Try.func24, Try.ntmps24
  go_wp2
  go_ret
  refine ⟨?_, rfl⟩
  exact ret_i (by omega)

theorem whoRef_any (f : Int) (w : World) (h0 : 0 ≤ f) (h1 : f < 4294967296) :
    Calls Try.prog 25 #[.int .u32 f] w fun e w' => e = .returned (.int .u8 (f / 16777216)) ∧ w = w' := by
  go_enter Try.func25, Try.ntmps25
  go_wp2
  go_ret
  refine ⟨?_, rfl⟩
  exact ret_i (by omega)

theorem number_any (f : Int) (w : World) (h0 : 0 ≤ f) (h1 : f < 4294967296) :
    Calls Try.prog 26 #[.int .u32 f] w fun e w' => e = .returned (.int .u32 (f % 16777216)) ∧ w = w' := by
  have HZ := Lib.hid (and24_u32 f h0 h1)
  go_enter Try.func26, Try.ntmps26
  go_wp2
  go_ret
  refine ⟨?_, rfl⟩
  exact ret_i HZ.out

theorem numberRef_any (f : Int) (w : World) (h0 : 0 ≤ f) (h1 : f < 4294967296) :
    Calls Try.prog 27 #[.int .u32 f] w fun e w' => e = .returned (.int .u32 (f % 16777216)) ∧ w = w' := by
  go_enter Try.func27, Try.ntmps27
  go_wp2
  go_ret
  refine ⟨?_, rfl⟩
  exact ret_i (by omega)

/-- Turn's number: the upper and the lower part change places. -/
def turnS (u n : Int) : Int := (rot u.toNat (n % 32).toNat : Nat)

theorem turn_any (u n : Int) (w : World) (h0 : 0 ≤ u) (h1 : u < 4294967296) :
    Calls Try.prog 31 #[.int .u32 u, .int .i64 n] w fun e w' => e = .returned (.int .u32 (turnS u n)) ∧ w = w' := by
  have hk : Go.bits .and .u64 (IntKind.u64.wrap n) 31 = n % 32 := by rw [and31_u64 _ (by rw [u64w]; omega) (by rw [u64w]; omega), u64w]; omega
  obtain ⟨k, ek⟩ : ∃ k : Int, k = n % 32 := ⟨_, rfl⟩
  rw [← ek] at hk
  have hk0 : 0 ≤ k := by omega
  have hk1 : k < 32 := by omega
  have HZ := Lib.hid (show Go.bits .or .u32 (u * 2 ^ k.toNat % 4294967296) (u / 2 ^ (32 - k).toNat) = turnS u n by unfold turnS; rw [← ek]; exact turn_eq u k h0 h1 hk0 hk1)
  clear ek
  go_enter Try.func31, Try.ntmps31
  go_wp2
  go_ret
  refine ⟨?_, rfl⟩
  exact ret_i HZ.out

theorem narrow_in (n : Int) (w : World) (h0 : -2147483648 ≤ n) (h1 : n ≤ 2147483647) :
    Calls Try.prog 43 #[.int .i64 n] w fun e w' => e = .returned (.tuple #[.int .i32 n, .bool true]) ∧ w = w' := by
  have hw : (wrap64 (wrap32 n) == n) = true := by simp; unfold wrap64 wrap32; omega
  go_enter Try.func43, Try.ntmps43
  go_wp2
  go_ret2
  exact ⟨rfl, rfl⟩

theorem narrow_out (n : Int) (w : World) (h : n < -2147483648 ∨ 2147483647 < n) :
    Calls Try.prog 43 #[.int .i64 n] w fun e w' => e = .returned (.tuple #[.int .i32 0, .bool false]) ∧ w = w' := by
  have hw : (wrap64 (wrap32 n) == n) = false := by simp; unfold wrap64 wrap32; omega
  clear h
  go_enter Try.func43, Try.ntmps43
  go_wp2
  go_ret2
  exact ⟨rfl, rfl⟩

theorem narrowRef_in (n : Int) (w : World) (h0 : -2147483648 ≤ n) (h1 : n ≤ 2147483647) :
    Calls Try.prog 44 #[.int .i64 n] w fun e w' => e = .returned (.tuple #[.int .i32 n, .bool true]) ∧ w = w' := by
  go_enter Try.func44, Try.ntmps44
  go_wp2
  go_ret2
  exact ⟨rfl, rfl⟩

theorem narrowRef_out (n : Int) (w : World) (h : n < -2147483648 ∨ 2147483647 < n) :
    Calls Try.prog 44 #[.int .i64 n] w fun e w' => e = .returned (.tuple #[.int .i32 0, .bool false]) ∧ w = w' := by
  rcases h with h | h
  · go_enter Try.func44, Try.ntmps44
    go_wp2
    go_ret2
    exact ⟨rfl, rfl⟩
  · have h' : ¬ n < -2147483648 := by omega
    go_enter Try.func44, Try.ntmps44
    go_wp2
    go_ret2
    exact ⟨rfl, rfl⟩

theorem pack_any (a b : Int) (w : World) (ha : 0 ≤ a) (ha' : a < 4294967296) (hb : 0 ≤ b) (hb' : b < 4294967296) :
    Calls Try.prog 41 #[.int .u32 a, .int .u32 b] w fun e w' => e = .returned (.int .u64 (a * 4294967296 + b)) ∧ w = w' := by
  have HZ := Lib.hid (or_join_u64 32 (a * 4294967296) b (by omega) (by omega) (by omega) (by omega) (by omega) (by omega))
  go_enter Try.func41, Try.ntmps41
  go_wp2
  go_ret
  refine ⟨?_, rfl⟩
  exact ret_i HZ.out

theorem packRef_any (a b : Int) (w : World) (ha : 0 ≤ a) (ha' : a < 4294967296) (hb : 0 ≤ b) (hb' : b < 4294967296) :
    Calls Try.prog 42 #[.int .u32 a, .int .u32 b] w fun e w' => e = .returned (.int .u64 (a * 4294967296 + b)) ∧ w = w' := by
  go_enter Try.func42, Try.ntmps42
  go_wp2
  go_ret
  refine ⟨?_, rfl⟩
  exact ret_i (by omega)

theorem unpackRef_any (u : Int) (w : World) (h0 : 0 ≤ u) (h1 : u < 18446744073709551616) :
    Calls Try.prog 40 #[.int .u64 u] w fun e w' => e = .returned (.tuple #[.int .u32 (u / 4294967296), .int .u32 (u % 4294967296)]) ∧ w = w' := by
  go_enter Try.func40, Try.ntmps40
  go_wp2
  go_ret2
  exact ⟨rfl, rfl⟩

theorem halves_any (u : Int) (w : World) (h0 : 0 ≤ u) (h1 : u < 18446744073709551616) :
    Calls Try.prog 50 #[.int .u64 u] w fun e w' => e = .returned (.agg #[.int .u32 (u / 4294967296), .int .u32 (u % 4294967296)]) ∧ w.alloc (.cells #[.int .u32 (u / 4294967296), .int .u32 (u % 4294967296)] 39) = w' := by
  go_enter Try.func50, Try.ntmps50
  go_wp2
  exact bodyPost_ret (v := .agg #[.int .u32 (u / 4294967296), .int .u32 (u % 4294967296)]) (by simp [results, Try.results50, go_sem]) rfl ⟨rfl, rfl⟩

theorem unpack_any (u : Int) (w : World) (h0 : 0 ≤ u) (h1 : u < 18446744073709551616) :
    Calls Try.prog 39 #[.int .u64 u] w fun e w' => e = .returned (.tuple #[.int .u32 (u / 4294967296), .int .u32 (u % 4294967296)]) ∧ Below w.heap.size w w' := by
  go_enter Try.func39, Try.ntmps39
  go_wp2_with (go_at_call 50; refine (halves_any u _ h0 h1).mono ?_; rintro e w' ⟨rfl, rfl⟩)
  go_quiet (fail)
  go_wp2
  go_ret2
  exact ⟨rfl, bel_drewN (((Below.refl _ _).alloc (Nat.le_refl _) _).alloc (by simp) _) _⟩

/-- One byte more. -/
def foldStep (x b : Int) : Int := (Go.bits .xor .u32 x (b % 4294967296) * 16777619) % 4294967296
/-- Fold's number. -/
def foldS (l : List Int) : Int := l.foldl foldStep 2166136261

theorem foldS_snoc (l : List Int) (k : Nat) (hk : k < l.length) : foldS (l.take (k + 1)) = foldStep (foldS (l.take k)) (l.getD k 0) := by
  unfold foldS
  rw [List.take_succ_eq_append_getElem hk, List.foldl_append, List.getD_eq_getElem?_getD, List.getElem?_eq_getElem hk]
  rfl

theorem fold_none (A : Option Addr) (c : Nat) (w : World) :
    Calls Try.prog 20 #[.slice A 0 c] w fun e w' => e = .returned (.int .u32 2166136261) ∧ w = w' := by
  go_enter Try.func20, Try.ntmps20
  go_wp2
  refine wp_loop_rounds 1 ?_
  rw [rounds_succ]
  go_wp2
  go_ret
  exact ⟨rfl, rfl⟩

theorem foldRef_none (A : Option Addr) (c : Nat) (w : World) :
    Calls Try.prog 21 #[.slice A 0 c] w fun e w' => e = .returned (.int .u32 2166136261) ∧ w = w' := by
  go_enter Try.func21, Try.ntmps21
  go_wp2
  refine wp_loop_rounds 1 ?_
  rw [rounds_succ]
  go_wp2
  go_ret
  exact ⟨rfl, rfl⟩

/-- The bytes of a slice, each in its cell. -/
def Bytes (w : World) (b off : Nat) (l : List Int) : Prop := ∀ k, k < l.length → w.cell? ⟨b, off + k, none⟩ = some (.int .u8 (l.getD k 0)) ∧ 0 ≤ l.getD k 0 ∧ l.getD k 0 < 256

theorem fold_some (b off c : Nat) (l : List Int) (w : World) (hl : l.length ≤ 9223372036854775807) (hc : Bytes w b off l) :
    Calls Try.prog 20 #[.slice (some ⟨b, off, none⟩) l.length c] w fun e w' => e = .returned (.int .u32 (foldS l)) ∧ w = w' := by
  go_enter Try.func20, Try.ntmps20
  go_wp2
  go_loop [3, 7] (fun x i => ∃ k : Nat, k ≤ l.length ∧ i = .int .i64 k ∧ x = .int .u32 (foldS (l.take k))) (fun _ i => l.length - (intOf i).toNat)
  case atStart => exact ⟨0, Nat.zero_le _, rfl, rfl⟩
  case round =>
    obtain ⟨k, hk, rfl, rfl⟩ := hrel
    by_cases hlt : k < l.length
    · obtain ⟨hcell, hv0, hv1⟩ := hc k hlt
      have HS := Lib.hid (foldS_snoc l k hlt)
      obtain ⟨v, ev⟩ : ∃ v, v = l.getD k 0 := ⟨_, rfl⟩
      rw [← ev] at hcell hv0 hv1
      have EV := Lib.hid ev
      clear ev
      go_wp2
      go_round
      case rel => exact ⟨k + 1, by omega, by go_num, by rw [HS.out, ← EV.out]; unfold foldStep; rw [Int.emod_eq_of_lt hv0 (by omega)]⟩
      case measure => simp [intOf]; omega
    · obtain rfl : k = l.length := by omega
      go_wp2
      go_ret
      exact ⟨ret_i (by first | rfl | rw [List.take_length]), rfl⟩

theorem foldRef_some (b off c : Nat) (l : List Int) (w : World) (hl : l.length ≤ 9223372036854775807) (hc : Bytes w b off l) :
    Calls Try.prog 21 #[.slice (some ⟨b, off, none⟩) l.length c] w fun e w' => e = .returned (.int .u32 (foldS l)) ∧ w = w' := by
  go_enter Try.func21, Try.ntmps21
  go_wp2
  go_loop [3, 4] (fun x i => ∃ k : Nat, k ≤ l.length ∧ i = .int .i64 k ∧ x = .int .u32 (foldS (l.take k))) (fun _ i => l.length - (intOf i).toNat)
  case atStart => exact ⟨0, Nat.zero_le _, rfl, rfl⟩
  case round =>
    obtain ⟨k, hk, rfl, rfl⟩ := hrel
    by_cases hlt : k < l.length
    · obtain ⟨hcell, hv0, hv1⟩ := hc k hlt
      have HS := Lib.hid (foldS_snoc l k hlt)
      obtain ⟨v, ev⟩ : ∃ v, v = l.getD k 0 := ⟨_, rfl⟩
      rw [← ev] at hcell hv0 hv1
      have EV := Lib.hid ev
      clear ev
      go_wp2
      go_round
      case rel => exact ⟨k + 1, by omega, by go_num, by rw [HS.out, ← EV.out]; unfold foldStep; rw [Int.emod_eq_of_lt hv0 (by omega)]⟩
      case measure => simp [intOf]; omega
    · obtain rfl : k = l.length := by omega
      go_wp2
      go_ret
      exact ⟨ret_i (by first | rfl | rw [List.take_length]), rfl⟩

theorem foldA : foldS [97] = 3826002220 := by decide +kernel

theorem live_any (w : World) : Calls Try.prog 15 #[] w fun e w' => e = .returned (.bool true) ∧ Below w.heap.size w w' := by
  have kc := fun (w : World) (C : Array Value) (n c : Nat) => Lib.run_convert_bytes_const (P := Try.prog) w 27 5 C n c Try.underlying27 Try.underlying5
  have z1 : zigS (-1) = 1 := by decide
  have z2 : zagS 4 = 2 := by decide
  have HF := Lib.hid foldA
  go_enter Try.func15, Try.ntmps15
  go_wp2_with fail
  refine (make_ok 2 5 _ (by omega) (by omega) (by omega) (by omega)).mono ?_
  rintro e w' ⟨rfl, rfl⟩
  go_wp2_with fail
  refine (zig_any (-1) _ (by omega) (by omega)).mono ?_
  rintro e w' ⟨rfl, rfl⟩
  rw [z1]
  clear z1
  go_wp2_with fail
  refine (zag_any 4 _ (by omega) (by omega)).mono ?_
  rintro e w' ⟨rfl, rfl⟩
  rw [z2]
  clear z2
  go_wp2_with fail
  refine (fold_some _ 0 1 [97] _ (by decide) ?_).mono ?_
  · intro k hk
    have : k = 0 := by simp at hk; omega
    subst this
    refine ⟨?_, by decide, by decide⟩
    exact (World.cell?_alloc_mark w #[.int .u8 97] 5 (1, 2) 0).trans rfl
  rintro e w' ⟨rfl, rfl⟩
  rw [HF.out]
  go_wp2
  go_ret
  exact ⟨rfl, (Below.refl _ _).alloc (Nat.le_refl _) _⟩
end Go.Proofs.Ytklibbmlkjlbiaa
