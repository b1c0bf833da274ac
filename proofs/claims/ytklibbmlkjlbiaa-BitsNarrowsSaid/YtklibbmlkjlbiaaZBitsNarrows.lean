/- BitsNarrows: Narrow answers as the reference does, and what it hands back is the number. For every number of its kind; no condition. -/
import Derived.Test.YtklibbmlkjlbiaaBits
namespace Go.Proofs.Ytklibbmlkjlbiaa
open Go.RowKit Go.Proofs.YtklibbmlkjlbiaaMath

theorem bitsNarrows_walk (n : Int) (w : World) (hn : (Lit.int .i64 n).wf = true) :
    Calls Try.prog 13 #[.int .i64 n] w fun e w' => e = .returned (.bool true) ∧ Below w.heap.size w w' := by
  obtain ⟨n0, n1⟩ := bounds_of_wf_i64 hn
  clear hn
  by_cases h : n < -2147483648 ∨ 2147483647 < n
  · have H := Lib.hid h
    clear h
    go_enter Try.func13, Try.ntmps13
    go_wp2_with (first | (go_at_call 43; refine (narrow_out n _ H.out).mono ?_; rintro e w' ⟨rfl, rfl⟩) | (go_at_call 44; refine (narrowRef_out n _ H.out).mono ?_; rintro e w' ⟨rfl, rfl⟩) | (go_at_call 15; refine (live_any _).mono ?_; rintro e w1 ⟨rfl, hb⟩))
    go_ret
    exact ⟨rfl, hb⟩
  · have h1 : -2147483648 ≤ n := by omega
    have h2 : n ≤ 2147483647 := by omega
    clear h
    go_enter Try.func13, Try.ntmps13
    go_wp2_with (first | (go_at_call 43; refine (narrow_in n _ h1 h2).mono ?_; rintro e w' ⟨rfl, rfl⟩) | (go_at_call 44; refine (narrowRef_in n _ h1 h2).mono ?_; rintro e w' ⟨rfl, rfl⟩) | (go_at_call 15; refine (live_any _).mono ?_; rintro e w1 ⟨rfl, hb⟩))
    go_ret
    exact ⟨rfl, hb⟩
end Go.Proofs.Ytklibbmlkjlbiaa
