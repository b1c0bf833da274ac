/- BitsZigs: Zig and Zag answer as the reference does. For every two numbers of their kinds; no condition. -/
import Derived.Test.YtklibbmlkjlbiaaBits
namespace Go.Proofs.Ytklibbmlkjlbiaa
open Go.RowKit Go.Proofs.YtklibbmlkjlbiaaMath

theorem bitsZigs_walk (n u : Int) (w : World) (hn : (Lit.int .i64 n).wf = true) (hu : (Lit.int .u64 u).wf = true) :
    Calls Try.prog 3 #[.int .i64 n, .int .u64 u] w fun e w' => e = .returned (.bool true) ∧ Below w.heap.size w w' := by
  obtain ⟨n0, n1⟩ := bounds_of_wf_i64 hn
  obtain ⟨u0, u1⟩ := bounds_of_wf_u64 hu
  clear hn hu
  go_enter Try.func3, Try.ntmps3
  go_wp2_with (first | (go_at_call 15; refine (live_any _).mono ?_; rintro e w1 ⟨rfl, hb⟩) | (go_at_call 16; refine (zig_any n _ n0 n1).mono ?_; rintro e w' ⟨rfl, rfl⟩) | (go_at_call 17; refine (zigRef_any n _ n0 n1).mono ?_; rintro e w' ⟨rfl, rfl⟩) | (go_at_call 18; refine (zag_any u _ u0 u1).mono ?_; rintro e w' ⟨rfl, rfl⟩) | (go_at_call 19; refine (zagRef_any u _ u0 u1).mono ?_; rintro e w' ⟨rfl, rfl⟩))
  go_ret
  exact ⟨rfl, hb⟩
end Go.Proofs.Ytklibbmlkjlbiaa
