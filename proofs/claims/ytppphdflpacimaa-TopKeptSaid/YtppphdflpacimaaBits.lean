/- The check sum of bytes, walked once. -/
import Derived.Test.YtppphdflpacimaaProg
import Derived.Test.YtppphdflpacimaaMath
import Derived.Below
import Derived.Deep.Draws
import Derived.Tactics
import Derived.WalkKit
import Derived.KernelRfl
import Derived.RowKit3
import Derived.Deep.LoopGhost
import Derived.Deep.QuietTactic
import Derived.BigQuiet
import Derived.WideLaws
import Derived.Lib.SlBytesConst
import Derived.Lib.Hide
namespace Go.Proofs.Ytppphdflpacimaa
open Go.RowKit Go.Proofs.YtppphdflpacimaaMath

theorem bounds_of_wf_u32 {n : Int} (h : (Lit.int .u32 n).wf = true) : 0 ≤ n ∧ n < 4294967296 := by
  simp [Lit.wf, IntKind.min, IntKind.max, IntKind.signed, IntKind.bits] at h; omega
theorem bounds_of_wf_u8 {n : Int} (h : (Lit.int .u8 n).wf = true) : 0 ≤ n ∧ n < 256 := by
  simp [Lit.wf, IntKind.min, IntKind.max, IntKind.signed, IntKind.bits] at h; omega
theorem ret_i {k : IntKind} {a b : Int} (h : a = b) : Ending.returned (.int k a) = .returned (.int k b) := by rw [h]

/-- One byte more. -/
def foldStep (x b : Int) : Int := (Go.bits .xor .u32 x (b % 4294967296) * 16777619) % 4294967296
/-- Fold's number. -/
def foldS (l : List Int) : Int := l.foldl foldStep 2166136261

theorem foldS_snoc (l : List Int) (k : Nat) (hk : k < l.length) : foldS (l.take (k + 1)) = foldStep (foldS (l.take k)) (l.getD k 0) := by
  unfold foldS
  rw [List.take_succ_eq_append_getElem hk, List.foldl_append, List.getD_eq_getElem?_getD, List.getElem?_eq_getElem hk]
  rfl

/-- The bytes of a slice, each in its cell. -/
def Bytes (w : World) (b off : Nat) (l : List Int) : Prop := ∀ k, k < l.length → w.cell? ⟨b, off + k, none⟩ = some (.int .u8 (l.getD k 0)) ∧ 0 ≤ l.getD k 0 ∧ l.getD k 0 < 256

theorem fold_some (b off c : Nat) (l : List Int) (w : World) (hl : l.length ≤ 9223372036854775807) (hc : Bytes w b off l) :
    Calls Try.prog 14 #[.slice (some ⟨b, off, none⟩) l.length c] w fun e w' => e = .returned (.int .u32 (foldS l)) ∧ w = w' := by
  go_enter Try.func14, Try.ntmps14
  go_wp2
  go_loop [3, 7] (fun x i => ∃ k : Nat, k ≤ l.length ∧ i = .int .i64 k ∧ x = .int .u32 (foldS (l.take k))) (fun _ i => l.length - (intOf i).toNat)
  case atStart => exact ⟨0, Nat.zero_le _, rfl, rfl⟩
  case round =>
    obtain ⟨k, hk, rfl, rfl⟩ := hrel
    by_cases hlt : k < l.length
    · obtain ⟨hcell, hv0, hv1⟩ := hc k hlt
      have HS := Lib.hid (foldS_snoc l k hlt)
      obtain ⟨v, ev⟩ : ∃ v, v = l.getD k 0 := ⟨_, rfl⟩
      rw [← ev] at hcell hv0 hv1
      have EV := Lib.hid ev
      clear ev
      go_wp2
      go_round
      case rel => exact ⟨k + 1, by omega, by go_num, by rw [HS.out, ← EV.out]; unfold foldStep; rw [Int.emod_eq_of_lt hv0 (by omega)]⟩
      case measure => simp [intOf]; omega
    · obtain rfl : k = l.length := by omega
      go_wp2
      go_ret
      exact ⟨ret_i (by first | rfl | rw [List.take_length]), rfl⟩

end Go.Proofs.Ytppphdflpacimaa
