/- BitsFids: Make, Who and Number answer as the reference does. For every client, number and fid of their kinds; no condition. -/
import Derived.Test.YtklibbmlkjlbiaaBits
namespace Go.Proofs.Ytklibbmlkjlbiaa
open Go.RowKit Go.Proofs.YtklibbmlkjlbiaaMath

theorem bitsFids_walk (c n f : Int) (w : World) (hc : (Lit.int .u8 c).wf = true) (hn : (Lit.int .u32 n).wf = true) (hf : (Lit.int .u32 f).wf = true) :
    Calls Try.prog 6 #[.int .u8 c, .int .u32 n, .int .u32 f] w fun e w' => e = .returned (.bool true) ∧ Below w.heap.size w w' := by
  obtain ⟨c0, c1⟩ := bounds_of_wf_u8 hc
  obtain ⟨n0, n1⟩ := bounds_of_wf_u32 hn
  obtain ⟨f0, f1⟩ := bounds_of_wf_u32 hf
  clear hc hn hf
  by_cases h : c ≤ 3 ∧ 1 ≤ n ∧ n ≤ 16777215
  · obtain ⟨h1, h2, h3⟩ := h
    go_enter Try.func6, Try.ntmps6
    go_wp2_with (first | (go_at_call 22; refine (make_ok c n _ c0 h1 h2 h3).mono ?_; rintro e w' ⟨rfl, rfl⟩) | (go_at_call 23; refine (makeRef_ok c n _ c0 h1 h2 h3).mono ?_; rintro e w' ⟨rfl, rfl⟩) | (go_at_call 15; refine (live_any _).mono ?_; rintro e w1 ⟨rfl, hb⟩) | (go_at_call 24; refine (who_any f _ f0 f1).mono ?_; rintro e w' ⟨rfl, rfl⟩) | (go_at_call 25; refine (whoRef_any f _ f0 f1).mono ?_; rintro e w' ⟨rfl, rfl⟩) | (go_at_call 26; refine (number_any f _ f0 f1).mono ?_; rintro e w' ⟨rfl, rfl⟩) | (go_at_call 27; refine (numberRef_any f _ f0 f1).mono ?_; rintro e w' ⟨rfl, rfl⟩))
    go_ret
    exact ⟨rfl, hb⟩
  · have H := Lib.hid h
    clear h
    go_enter Try.func6, Try.ntmps6
    go_wp2_with (first | (go_at_call 22; refine (make_no c n _ c0 n0 H.out).mono ?_; rintro e w' ⟨rfl, rfl⟩) | (go_at_call 23; refine (makeRef_no c n _ c0 H.out).mono ?_; rintro e w' ⟨rfl, rfl⟩) | (go_at_call 15; refine (live_any _).mono ?_; rintro e w1 ⟨rfl, hb⟩) | (go_at_call 24; refine (who_any f _ f0 f1).mono ?_; rintro e w' ⟨rfl, rfl⟩) | (go_at_call 25; refine (whoRef_any f _ f0 f1).mono ?_; rintro e w' ⟨rfl, rfl⟩) | (go_at_call 26; refine (number_any f _ f0 f1).mono ?_; rintro e w' ⟨rfl, rfl⟩) | (go_at_call 27; refine (numberRef_any f _ f0 f1).mono ?_; rintro e w' ⟨rfl, rfl⟩))
    go_ret
    exact ⟨rfl, hb⟩
end Go.Proofs.Ytklibbmlkjlbiaa
