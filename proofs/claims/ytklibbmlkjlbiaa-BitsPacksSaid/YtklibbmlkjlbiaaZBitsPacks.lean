/- BitsPacks: Pack and Unpack answer as the reference does. For every three numbers of their kinds; no condition. -/
import Derived.Test.YtklibbmlkjlbiaaBits
namespace Go.Proofs.Ytklibbmlkjlbiaa
open Go.RowKit Go.Proofs.YtklibbmlkjlbiaaMath

theorem bitsPacks_walk (a b u : Int) (w : World) (ha : (Lit.int .u32 a).wf = true) (hb' : (Lit.int .u32 b).wf = true) (hu : (Lit.int .u64 u).wf = true) :
    Calls Try.prog 12 #[.int .u32 a, .int .u32 b, .int .u64 u] w fun e w' => e = .returned (.bool true) ∧ Below w.heap.size w w' := by
  obtain ⟨a0, a1⟩ := bounds_of_wf_u32 ha
  obtain ⟨b0, b1⟩ := bounds_of_wf_u32 hb'
  obtain ⟨u0, u1⟩ := bounds_of_wf_u64 hu
  clear ha hb' hu
  go_enter Try.func12, Try.ntmps12
  go_wp2_with (first | (go_at_call 39; refine (unpack_any u _ u0 u1).mono ?_; rintro e w0 ⟨rfl, hk⟩) | (go_at_call 40; refine (unpackRef_any u _ u0 u1).mono ?_; rintro e w' ⟨rfl, rfl⟩) | (go_at_call 15; refine (live_any _).mono ?_; rintro e w1 ⟨rfl, hb⟩) | (go_at_call 41; refine (pack_any a b _ a0 a1 b0 b1).mono ?_; rintro e w' ⟨rfl, rfl⟩) | (go_at_call 42; refine (packRef_any a b _ a0 a1 b0 b1).mono ?_; rintro e w' ⟨rfl, rfl⟩))
  go_ret
  exact ⟨rfl, hk.trans (hb.mono hk.size)⟩
end Go.Proofs.Ytklibbmlkjlbiaa
