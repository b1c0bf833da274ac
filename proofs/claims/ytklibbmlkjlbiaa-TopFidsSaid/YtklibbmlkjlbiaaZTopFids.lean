/- TopFids: fids of different clients never meet, and none of a client is the root. For every two clients and numbers of their kinds; no condition. -/
import Derived.Test.YtklibbmlkjlbiaaBits
namespace Go.Proofs.Ytklibbmlkjlbiaa
open Go.RowKit Go.Proofs.YtklibbmlkjlbiaaMath

set_option maxHeartbeats 800000 in
theorem topFids_walk (a b n m : Int) (w : World) (ha : (Lit.int .u8 a).wf = true) (hb : (Lit.int .u8 b).wf = true) (hn : (Lit.int .u32 n).wf = true) (hm : (Lit.int .u32 m).wf = true) :
    Calls Try.prog 7 #[.int .u8 a, .int .u8 b, .agg #[.int .u32 n, .int .u32 m]] w fun e w' => e = .returned (.bool true) ∧ Below w.heap.size w w' := by
  obtain ⟨a0, a1⟩ := bounds_of_wf_u8 ha
  obtain ⟨b0, b1⟩ := bounds_of_wf_u8 hb
  obtain ⟨n0, n1⟩ := bounds_of_wf_u32 hn
  obtain ⟨m0, m1⟩ := bounds_of_wf_u32 hm
  clear ha hb hn hm
  by_cases hn : 1 ≤ n ∧ n ≤ 16777215
  · obtain ⟨hn1, hn2⟩ := hn
    by_cases hm : 1 ≤ m ∧ m ≤ 16777215
    · obtain ⟨hm1, hm2⟩ := hm
      by_cases hab : a % 3 = b % 3
      · have hx : ((a % 3 + 1) * 16777216 + n != 1) = true := by simp; omega
        have hy : ((b % 3 + 1) * 16777216 + m != 1) = true := by simp; omega
        have hz : (a % 3 == b % 3) = true := by simpa using hab
        clear hab
        go_enter Try.func7, Try.ntmps7
        go_wp2_with fail
        refine (make_ok (a % 3 + 1) n _ (by omega) (by omega) hn1 hn2).mono ?_
        rintro e w' ⟨rfl, rfl⟩
        go_wp2_with fail
        refine (make_ok (b % 3 + 1) m _ (by omega) (by omega) hm1 hm2).mono ?_
        rintro e w' ⟨rfl, rfl⟩
        go_wp2
        go_ret
        exact ⟨rfl, (Below.refl _ _).alloc (Nat.le_refl _) _⟩
      · have hx : ((a % 3 + 1) * 16777216 + n != 1) = true := by simp; omega
        have hy : ((b % 3 + 1) * 16777216 + m != 1) = true := by simp; omega
        have hxy : ((a % 3 + 1) * 16777216 + n != (b % 3 + 1) * 16777216 + m) = true := by simp; omega
        have hz : (a % 3 == b % 3) = false := by simpa using hab
        clear hab
        go_enter Try.func7, Try.ntmps7
        go_wp2_with fail
        refine (make_ok (a % 3 + 1) n _ (by omega) (by omega) hn1 hn2).mono ?_
        rintro e w' ⟨rfl, rfl⟩
        go_wp2_with fail
        refine (make_ok (b % 3 + 1) m _ (by omega) (by omega) hm1 hm2).mono ?_
        rintro e w' ⟨rfl, rfl⟩
        go_wp2
        go_ret
        exact ⟨rfl, (Below.refl _ _).alloc (Nat.le_refl _) _⟩
    · have hm' : m < 1 ∨ 16777216 ≤ m := by omega
      have HM := Lib.hid hm
      clear hm
      have dn : decide (n < 16777216) = true := by simp; omega
      rcases hm' with hm1 | hm1
      all_goals
        first | have dm : decide (m < 16777216) = false := (by simp; omega) | have dm : decide (m < 16777216) = true := (by simp; omega)
        go_enter Try.func7, Try.ntmps7
        go_wp2_with fail
        refine (make_ok (a % 3 + 1) n _ (by omega) (by omega) hn1 hn2).mono ?_
        rintro e w' ⟨rfl, rfl⟩
        go_wp2_with fail
        refine (make_no (b % 3 + 1) m _ (by omega) (by omega) (fun h => HM.out h.2)).mono ?_
        rintro e w' ⟨rfl, rfl⟩
        go_wp2
        go_ret
        exact ⟨rfl, (Below.refl _ _).alloc (Nat.le_refl _) _⟩
  · have hn' : n < 1 ∨ 16777216 ≤ n := by omega
    have HN := Lib.hid hn
    clear hn
    by_cases hm : 1 ≤ m ∧ m ≤ 16777215
    · obtain ⟨hm1, hm2⟩ := hm
      have dm : decide (m < 16777216) = true := by simp; omega
      rcases hn' with hn1 | hn1
      all_goals
        first | have dn : decide (n < 16777216) = false := (by simp; omega) | have dn : decide (n < 16777216) = true := (by simp; omega)
        go_enter Try.func7, Try.ntmps7
        go_wp2_with fail
        refine (make_no (a % 3 + 1) n _ (by omega) (by omega) (fun h => HN.out h.2)).mono ?_
        rintro e w' ⟨rfl, rfl⟩
        go_wp2_with fail
        refine (make_ok (b % 3 + 1) m _ (by omega) (by omega) hm1 hm2).mono ?_
        rintro e w' ⟨rfl, rfl⟩
        go_wp2
        go_ret
        exact ⟨rfl, (Below.refl _ _).alloc (Nat.le_refl _) _⟩
    · have hm' : m < 1 ∨ 16777216 ≤ m := by omega
      have HM := Lib.hid hm
      clear hm
      rcases hn' with hn1 | hn1
      all_goals
        first | have dn : decide (n < 16777216) = false := (by simp; omega) | have dn : decide (n < 16777216) = true := (by simp; omega)
        rcases hm' with hm1 | hm1
        all_goals
          first | have dm : decide (m < 16777216) = false := (by simp; omega) | have dm : decide (m < 16777216) = true := (by simp; omega)
          go_enter Try.func7, Try.ntmps7
          go_wp2_with fail
          refine (make_no (a % 3 + 1) n _ (by omega) (by omega) (fun h => HN.out h.2)).mono ?_
          rintro e w' ⟨rfl, rfl⟩
          go_wp2_with fail
          refine (make_no (b % 3 + 1) m _ (by omega) (by omega) (fun h => HM.out h.2)).mono ?_
          rintro e w' ⟨rfl, rfl⟩
          go_wp2
          go_ret
          exact ⟨rfl, (Below.refl _ _).alloc (Nat.le_refl _) _⟩
end Go.Proofs.Ytklibbmlkjlbiaa
