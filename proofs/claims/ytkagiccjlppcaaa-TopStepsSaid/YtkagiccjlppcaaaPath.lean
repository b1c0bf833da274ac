/- The functions of the package path as the law TopSteps meets them: which names are names, how a path is cut, how names are joined. -/
import Derived.Test.YtkagiccjlppcaaaShelf
import Derived.Test.YtkagiccjlppcaaaMem
import Derived.WalkKit
import Derived.BigCall
import Derived.BigGuard
import Derived.BigQuiet
import Derived.WalkMore
import Derived.Lib.CutLaws
import Derived.Lib.Strings
import Derived.Laws.RangeString
namespace Go.Proofs.Ytkagiccjlppcaaa
open Go.RowKit

/-- A text of one byte. -/
abbrev One (c : UInt8) : ByteArray := ⟨#[c]⟩

theorem or32_letter (c : Nat) (h0 : 97 ≤ c) (h1 : c ≤ 122) : Go.bits .or .i32 (c : Int) 32 = c := by
  have h : ∀ k : Fin 26, Go.bits .or .i32 ((97 + k.val : Nat) : Int) 32 = ((97 + k.val : Nat) : Int) := by decide +kernel
  have := h ⟨c - 97, by omega⟩
  rwa [show 97 + (⟨c - 97, by omega⟩ : Fin 26).val = c from by simp; omega] at this

set_option maxHeartbeats 1000000 in
set_option maxRecDepth 100000 in
theorem name_letter (c : UInt8) (h0 : 97 ≤ c.toNat) (h1 : c.toNat ≤ 122) (w : World) : Calls Try.prog 8 #[.string (One c)] w fun e w' => e = .returned (.bool true) ∧ Below w.heap.size w w' := by
  obtain ⟨s, hs⟩ : ∃ s, s = One c := ⟨_, rfl⟩
  have hsz : s.size = 1 := by rw [hs]; rfl
  have hsc : s[0]'(by omega) = c := by subst hs; rfl
  have n0 : s.toList.isEmpty = false := by subst hs; rw [Lib.toList_data]; rfl
  have n1 : (s.toList == [46]) = false := by subst hs; rw [Lib.toList_data, beq_eq_false_iff_ne]; intro h; have h' : [c] = [46] := h; injection h' with h'; rw [h'] at h0; simp at h0
  have n2 : (s.toList == [46, 46]) = false := by subst hs; rw [Lib.toList_data, beq_eq_false_iff_ne]; intro h; have h' : [c] = [46, 46] := h; simp at h'
  have hsi : (s.size : Int) = 1 := by omega
  have hor := or32_letter c.toNat h0 h1
  rw [← hs]
  clear hs
  go_enter Try.func8, Try.ntmps8
  go_wp2_with fail
  go_loopw [] (fun w' => ∃ pos : Nat, pos ≤ 1 ∧ w' = w.iter s pos) (fun w' => 1 - w'.iterPos w.heap.size)
  case atStart => exact ⟨0, by omega, rfl⟩
  case round =>
    obtain ⟨pos, hp1, rfl⟩ := hrel
    by_cases hp : pos < 1
    · obtain rfl : pos = 0 := by omega
      have hnx : ∀ ty, (Instr.next (.pointer (some ⟨w.heap.size, 0, none⟩)) true ty).run Try.prog (w.iter s 0) = _ := fun ty => run_next_ascii w s 0 ty (by omega) (by rw [hsc]; omega)
      rw [hsc] at hnx
      go_wp2_with fail
      go_roundw
      case rel => exact ⟨1, by omega, rfl⟩
      case measure => simp
    · obtain rfl : pos = 1 := by omega
      have hnx : ∀ ty, (Instr.next (.pointer (some ⟨w.heap.size, 0, none⟩)) true ty).run Try.prog (w.iter s 1) = _ := fun ty => run_next_end w s 1 ty (by omega)
      go_wp2_with fail
      go_ret
      exact ⟨rfl, (Below.refl _ w).alloc (Nat.le_refl _) _⟩

/-- The bytes as a text. -/
abbrev T (l : List UInt8) : ByteArray := ⟨l.toArray⟩

theorem indexByte_hit (p q : List UInt8) (h : (47 : UInt8) ∉ p) : Lib.indexByte (p ++ 47 :: q) 47 = p.length := by
  induction p with
  | nil => simp [Lib.indexByte]
  | cons a p ih =>
    have ha : ¬ a = 47 := by intro e; exact h (by simp [e])
    have hp : (47 : UInt8) ∉ p := fun e => h (List.mem_cons_of_mem _ e)
    have := ih hp
    simp only [List.cons_append, Lib.indexByte, beq_iff_eq, ha, if_false, this, List.length_cons]
    have : ¬ ((p.length : Int) = -1) := by omega
    simp [this]
theorem indexByte_miss (p : List UInt8) (h : (47 : UInt8) ∉ p) : Lib.indexByte p 47 = -1 := by
  induction p with
  | nil => simp [Lib.indexByte]
  | cons a p ih =>
    have ha : ¬ a = 47 := by intro e; exact h (by simp [e])
    have hp : (47 : UInt8) ∉ p := fun e => h (List.mem_cons_of_mem _ e)
    have := ih hp
    simp [Lib.indexByte, ha, this]

set_option maxHeartbeats 1000000 in
theorem slite_hit (s : ByteArray) (i : Nat) (hsz : i + 1 ≤ s.size) (hbd : s.size ≤ 1000000) (hix : Lib.indexByte s.data.toList 47 = i) (w : World) :
    Calls Try.prog 11 #[.string s, .string ⟨#[47]⟩] w fun e w' => e = .returned (.tuple #[.string (s.extract 0 i), .string (s.extract (i + 1) s.size), .bool true]) ∧ ∃ n, w' = w.drewN n := by
  have c1 : (0 : Int) ≤ ↑i := by omega
  have c2 : (↑i : Int) ≤ ↑s.size := by omega
  have c3 : (0 : Int) ≤ ↑i + 1 := by omega
  have c4 : (↑i + 1 : Int) ≤ ↑s.size := by omega
  have c5 : (↑s.size : Int) ≤ 1000000 := by omega
  have c6 : IntKind.i64.wrap (↑i + 1) = ↑i + 1 := by simp only [IntKind.wrap, IntKind.bits, IntKind.signed]; simp; omega
  go_enter Try.func11, Try.ntmps11
  go_wp2_with fail
  refine (stringslite_Index_one s 47 w).mono ?_
  rintro e w' ⟨rfl, rfl⟩
  rw [hix]
  go_wp2_with fail
  go_region
  go_wp2_with fail
  go_ret3
  exact ⟨rfl, 1, rfl⟩

set_option maxHeartbeats 1000000 in
theorem slite_miss (s : ByteArray) (hix : Lib.indexByte s.data.toList 47 = -1) (w : World) :
    Calls Try.prog 11 #[.string s, .string ⟨#[47]⟩] w fun e w' => e = .returned (.tuple #[.string s, .string ⟨#[]⟩, .bool false]) ∧ ∃ n, w' = w.drewN n := by
  go_enter Try.func11, Try.ntmps11
  go_wp2_with fail
  refine (stringslite_Index_one s 47 w).mono ?_
  rintro e w' ⟨rfl, rfl⟩
  rw [hix]
  go_wp2_with fail
  go_ret3
  exact ⟨rfl, 0, rfl⟩

theorem cut_hit (p q : List UInt8) (h : (47 : UInt8) ∉ p) (hb : p.length + 1 + q.length ≤ 1000000) (w : World) :
    Calls Try.prog 7 #[.string (T (p ++ 47 :: q)), .string ⟨#[47]⟩] w fun e w' => e = .returned (.tuple #[.string (T p), .string (T q), .bool true]) ∧ ∃ n, w' = w.drewN n := by
  obtain ⟨s, hs⟩ : ∃ s, s = T (p ++ 47 :: q) := ⟨_, rfl⟩
  obtain ⟨i, hi⟩ : ∃ i, i = p.length := ⟨_, rfl⟩
  have hsz : s.size = i + 1 + q.length := by rw [hs, hi]; simp [ByteArray.size]; omega
  have hix : Lib.indexByte s.data.toList 47 = i := by rw [hs, hi]; simpa using indexByte_hit p q h
  have e1 : T p = s.extract 0 i := by rw [Lib.extract_eq, hs, hi]; simp
  have e2 : T q = s.extract (i + 1) s.size := by
    rw [Lib.extract_eq, hsz, hs, hi]
    have e : List.drop (p.length + 1) (p ++ 47 :: q) = q := by rw [← List.drop_drop, List.drop_left]; rfl
    rw [show (T (p ++ 47 :: q)).data.toList = p ++ 47 :: q from rfl, e, List.take_of_length_le (by omega)]
  rw [← hs, e1, e2]
  rw [← hi] at hb
  have hf := slite_hit s i (by omega) (by omega) hix w
  clear e1 e2 hs hi hsz hb hix
  go_enter Try.func7, Try.ntmps7
  go_wp2_with fail
  refine hf.mono ?_
  rintro e w' ⟨rfl, n, rfl⟩
  go_wp2
  go_ret3
  exact ⟨rfl, n, rfl⟩

theorem cut_miss (p : List UInt8) (h : (47 : UInt8) ∉ p) (w : World) :
    Calls Try.prog 7 #[.string (T p), .string ⟨#[47]⟩] w fun e w' => e = .returned (.tuple #[.string (T p), .string ⟨#[]⟩, .bool false]) ∧ ∃ n, w' = w.drewN n := by
  have hix := indexByte_miss p h
  go_enter Try.func7, Try.ntmps7
  go_wp2_with fail
  refine (slite_miss (T p) (by simpa using hix) w).mono ?_
  rintro e w' ⟨rfl, n, rfl⟩
  go_wp2
  go_ret3
  exact ⟨rfl, n, rfl⟩
end Go.Proofs.Ytkagiccjlppcaaa
