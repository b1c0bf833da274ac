/- BitsFolds: Fold answers as the reference does, at the first 5000 bytes. For every list of bytes that can be read; no condition. -/
import Derived.Test.YtklibbmlkjlbiaaBits
import Derived.Test.YtklibbmlkjlbiaaFrame
namespace Go.Proofs.Ytklibbmlkjlbiaa
open Go.RowKit Go.Proofs.YtklibbmlkjlbiaaMath

theorem fold_len (b off n c : Nat) (l : List Int) (w : World) (hn : l.length = n) (hl : n ≤ 9223372036854775807) (hc : Bytes w b off l) :
    Calls Try.prog 20 #[.slice (some ⟨b, off, none⟩) n c] w fun e w' => e = .returned (.int .u32 (foldS l)) ∧ w = w' := by
  subst hn; exact fold_some b off c l w hl hc
theorem foldRef_len (b off n c : Nat) (l : List Int) (w : World) (hn : l.length = n) (hl : n ≤ 9223372036854775807) (hc : Bytes w b off l) :
    Calls Try.prog 21 #[.slice (some ⟨b, off, none⟩) n c] w fun e w' => e = .returned (.int .u32 (foldS l)) ∧ w = w' := by
  subst hn; exact foldRef_some b off c l w hl hc

theorem bytes_below {w w' : World} {b off : Nat} {l : List Int} (h : Bytes w b off l) (hb : b < w.heap.size) (k : Below w.heap.size w w') : Bytes w' b off l :=
  fun i hi => ⟨(k.cell (p := ⟨b, off + i, none⟩) hb).trans (h i hi).1, (h i hi).2⟩

theorem bytes_of_isInts {W : World} {b off n : Nat} {z : List Int} (hl : z.length = n) (hw : ∀ x ∈ z, (Lit.int .u8 x).wf = true) (hcell : ∀ i, i < n → W.cell? ⟨b, off + i, none⟩ = some (.int .u8 (z.getD i 0))) (m : Nat) (hm : m ≤ n) : Bytes W b off (z.take m) := by
  intro k hk
  have hk' : k < m := by simp at hk; omega
  have hz : k < z.length := by omega
  rw [getD_take_lt _ _ _ _ hk']
  refine ⟨hcell k (by omega), ?_⟩
  rw [List.getD_eq_getElem?_getD, List.getElem?_eq_getElem hz]
  exact bounds_of_wf_u8 (hw _ (List.getElem_mem hz))

theorem bitsFolds_walk (A : Option Addr) (n c : Nat) (z : List Int) (W : World) (h : IsInts .u8 W A n c z) (_hy : n * 1 ≤ 140737488351232) :
    Calls Try.prog 4 #[.slice A n c] W fun e w' => e = .returned (.bool true) ∧ Below W.heap.size W w' := by
  obtain ⟨hl, hnc, hcm, hw, h0 | ⟨b, off, rfl, hbb, hcell⟩⟩ := h
  · subst h0
    clear hl hcm hw _hy
    go_enter Try.func4, Try.ntmps4
    go_wp2_with (first | (go_at_call 15; refine (live_any _).mono ?_; rintro e w1 ⟨rfl, hb⟩) | (go_at_call 20; refine (fold_none _ _ _).mono ?_; rintro e w' ⟨rfl, rfl⟩) | (go_at_call 21; refine (foldRef_none _ _ _).mono ?_; rintro e w' ⟨rfl, rfl⟩))
    go_ret
    exact ⟨rfl, hb⟩
  · by_cases hbig : 5000 < n
    · have hB := bytes_of_isInts hl hw hcell 5000 (by omega)
      have hL := Lib.hid (show (z.take 5000).length = 5000 by simp; omega)
      have HB := Lib.hid hB
      clear hl hw hcell hB hcm
      go_enter Try.func4, Try.ntmps4
      go_wp2_with fail
      refine (live_any _).mono ?_
      rintro e w1 ⟨rfl, hb⟩
      have HB1 := Lib.hid (bytes_below HB.out hbb hb)
      go_wp2_with fail
      refine (fold_len b off 5000 c _ _ hL.out (by omega) HB1.out).mono ?_
      rintro e w' ⟨rfl, rfl⟩
      go_wp2_with fail
      refine (foldRef_len b off 5000 c _ _ hL.out (by omega) HB1.out).mono ?_
      rintro e w' ⟨rfl, rfl⟩
      go_wp2
      go_ret
      exact ⟨rfl, hb⟩
    · have hB := bytes_of_isInts hl hw hcell n (by omega)
      have hL := Lib.hid (show (z.take n).length = n by simp; omega)
      have HB := Lib.hid hB
      clear hl hw hcell hB hcm
      go_enter Try.func4, Try.ntmps4
      go_wp2_with fail
      refine (live_any _).mono ?_
      rintro e w1 ⟨rfl, hb⟩
      have HB1 := Lib.hid (bytes_below HB.out hbb hb)
      go_wp2_with fail
      refine (fold_len b off n c _ _ hL.out (by omega) HB1.out).mono ?_
      rintro e w' ⟨rfl, rfl⟩
      go_wp2_with fail
      refine (foldRef_len b off n c _ _ hL.out (by omega) HB1.out).mono ?_
      rintro e w' ⟨rfl, rfl⟩
      go_wp2
      go_ret
      exact ⟨rfl, hb⟩
end Go.Proofs.Ytklibbmlkjlbiaa
