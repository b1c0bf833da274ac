/- A copy of bytes, and Encode where the packet is not right. -/
import Derived.Test.YtppphdflpacimaaCuts
import Derived.Test.YtppphdflpacimaaEnc
import Derived.Lib.BufferMore
namespace Go.Proofs.Ytppphdflpacimaa
open Go.RowKit

theorem own_empty (Y : World) : (Y.alloc (.cells #[] 5)).ownsRow Y.heap.size 5 1 (.slice (some ⟨Y.heap.size, 0, none⟩) 0 0) 0 [] :=
  ⟨rfl, .inr ⟨Y.heap.size, 0, #[], rfl, Nat.le_refl _, heap_alloc_new Y _, Nat.le_refl _, by unfold maxLen; omega, rfl, rfl⟩⟩

set_option maxHeartbeats 1000000 in
set_option maxRecDepth 100000 in
theorem clone_any (a : Addr) (n c : Nat) (ys : List UInt8) (hn : n = ys.length) (hl : n ≤ 100000) (w : World) (hnews : ∀ j u, (cellsOf ys)[j]? = some u → w.cell? (a.add j) = some u) :
    Calls Try.prog 21 #[.slice (some a) n c] w fun x w' => (∃ v, x = .returned v) ∧ Below w.heap.size w w' := by
  have HN := Lib.hid (show ∀ j u, (cellsOf ys)[j]? = some u → (w.alloc (.cells #[] 5)).cell? (a.add j) = some u from fun j u h => by
    have h1 := hnews j u h
    have h2 := World.block_lt_of_cell? w _ h1
    unfold World.cell? at h1 ⊢
    rw [Below.heap_alloc w _ _ h2]
    exact h1)
  have HO := Lib.hid (own_empty w)
  have HY := Lib.hid (cells_length ys)
  obtain ⟨i0, hi0, hz0, hz1, hz2⟩ := info_parts byteInfo
  have HI := Lib.hid hi0
  have HI1 := Lib.hid hz0
  have HI2 := Lib.hid hz1
  have HI3 := Lib.hid hz2
  clear hi0 hz0 hz1 hz2 hnews
  subst hn
  go_enter Try.func21, Try.ntmps21
  go_wp2_with fail
  rw [Lib.run_eql_slice_some_nil _ a ys.length c Try.underlying27]
  go_wp2_with (at_builtin; refine wpList_append_own _ rfl (.tmp 5) (.tmp 6) 27 rfl w.heap.size 5 i0 _ 1 1 Try.underlying27 HI.out HI1.out HI2.out HI3.out rfl (by omega) _ 0 [] rfl HO.out a ys.length c (cellsOf ys) rfl (by rw [HY.out]; omega) HN.out (cells_one ys) (by unfold maxLen; omega) (by omega) (by simp) ?_; intro v' Z hown' hgrow _)
  refine ⟨rfl, _, results_tmp rfl _ _ _, ⟨_, rfl⟩, ?_⟩
  have h0 : Below w.heap.size w (w.alloc (.cells #[] 5)) := (Below.refl _ w).alloc (Nat.le_refl _) _
  exact h0.grown hgrow (by simp) (fun j e => by cases e; exact Nat.le_refl _)

set_option maxHeartbeats 1000000 in
set_option maxRecDepth 100000 in
theorem encode_no (k f t e s : Int) (b : ByteArray) (w : World) (hr : rightP k f t s b.size = false) :
    Calls Try.prog 4 #[.agg #[.int .u8 k, .int .u8 f, .int .u8 t, .int .u32 e, .int .u32 s, .string b]] w fun x w' => x = .returned (.tuple #[.slice none 0 0, .int .i64 3]) ∧ Below w.heap.size w w' := by
  go_enter Try.func4, Try.ntmps4
  go_wp2_with fail
  refine (right_any k f t e s b _).mono ?_
  rintro x X ⟨rfl, rfl⟩
  rw [hr]
  go_wp2_with fail
  go_ret2
  exact ⟨rfl, ((Below.refl w.heap.size w).alloc (Nat.le_refl _) _).alloc (by simp) _⟩
end Go.Proofs.Ytppphdflpacimaa
