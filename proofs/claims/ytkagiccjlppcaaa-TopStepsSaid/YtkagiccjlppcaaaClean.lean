/- A path that leads to the root and from there to one name, in its own form. -/
import Derived.Test.YtkagiccjlppcaaaSplit
namespace Go.Proofs.Ytkagiccjlppcaaa
open Go.RowKit

/-- Texts as values. -/
theorem add_x : (⟨#[47]⟩ : ByteArray) ++ ⟨#[120]⟩ = ⟨#[47, 120]⟩ := by decide

set_option maxHeartbeats 1000000 in
set_option maxRecDepth 100000 in
theorem join_x (g cap : Nat) (hcap : 1 ≤ cap) (w : World) (hc : w.cell? ⟨g, 0, none⟩ = some (.string ⟨#[120]⟩)) (hg : g < w.heap.size) :
    Calls Try.prog 9 #[.slice (some ⟨g, 0, none⟩) 1 cap] w fun e w' => e = .returned (.tuple #[.string ⟨#[47, 120]⟩, .int .i64 0]) ∧ Below w.heap.size w w' := by
  have HC := Lib.hid hc
  have HG := Lib.hid hg
  clear hc hg
  go_enter Try.func9, Try.ntmps9
  go_wp2_with fail
  go_loopw [4, 9] (fun n i X => ∃ k : Nat, k ≤ 1 ∧ i = .int .i64 k ∧ n = .int .i64 ((2 * k : Nat) : Int) ∧ Below w.heap.size w X) (fun _ i _ => 1 - (intOf i).toNat)
  case atStart => exact ⟨0, by omega, rfl, rfl, Below.refl _ w⟩
  case round =>
    obtain ⟨k, hk, rfl, rfl, hX⟩ := hrel
    have hcx := (hX.cell (p := ⟨g, 0, none⟩) HG.out).trans HC.out
    have hgx : g < wr.heap.size := Nat.lt_of_lt_of_le HG.out hX.size
    have HX := Lib.hid hX
    have HGX := Lib.hid hgx
    clear hX hgx
    by_cases h : k = 0
    · subst h
      go_wp2_with fail
      refine (name_letter 120 (by decide) (by decide) wr).mono ?_
      rintro e Y ⟨rfl, hY⟩
      have HY := Lib.hid (HX.out.trans (hY.mono HX.out.size))
      clear hY
      go_wp2_with fail
      go_roundw
      case rel => exact ⟨1, by omega, rfl, rfl, HY.out⟩
      case measure => simp [intOf]
    · obtain rfl : k = 1 := by omega
      have hj := strings_Join g 0 cap [⟨#[120]⟩] ⟨#[47]⟩ wr (by
        intro j x hx
        match j, hx with
        | 0, hx => simp at hx; subst hx; simpa using hcx) HGX.out (by simp) (by simpa using hcap) (by decide)
      rw [show (⟨(Lib.join (([⟨#[120]⟩] : List ByteArray).map (·.data.toList)) (⟨#[47]⟩ : ByteArray).data.toList).toArray⟩ : ByteArray) = ⟨#[120]⟩ from by decide] at hj
      have hj' : Calls Try.prog 12 #[.slice (some ⟨g, 0, none⟩) 1 cap, .string ⟨#[47]⟩] wr fun e w' => e = .returned (.string ⟨#[120]⟩) ∧ Below wr.heap.size wr w' := hj
      have HJ := Lib.hid hj'
      clear hj hj'
      have hadd := add_x
      go_wp2_with fail
      refine HJ.out.mono ?_
      rintro e Y ⟨rfl, hY⟩
      have HY := Lib.hid (HX.out.trans (hY.mono HX.out.size))
      clear hY
      go_wp2_with fail
      go_ret2
      exact ⟨rfl, HY.out⟩

/-- Clean at a path that comes to the one name x. -/
theorem clean_x (ps : List (List UInt8)) (hne : ps ≠ []) (hps : ∀ p ∈ ps, Piece p) (hlen : (restOf ps).length < 120) (hx : ps.foldl step [] = [120]) (w : World) :
    Calls Try.prog 5 #[.string (T (47 :: restOf ps))] w fun e w' => e = .returned (.tuple #[.string ⟨#[47, 120]⟩, .int .i64 0]) ∧ Below w.heap.size w w' := by
  have hsp := split_any ps hne hps hlen w
  rw [hx] at hsp
  obtain ⟨s, hs⟩ : ∃ s, s = T (47 :: restOf ps) := ⟨_, rfl⟩
  rw [← hs] at hsp ⊢
  clear hs
  go_enter Try.func5, Try.ntmps5
  go_wp2_with fail
  refine hsp.mono ?_
  rintro e X ⟨v, rfl, ho, hb⟩
  obtain ⟨g, cap, rfl, hg1, hg2⟩ := ho.form (by decide)
  have hc := ho.cellAt 0 (by decide)
  have hcap : 1 ≤ cap := by
    rcases ho.2 with ⟨h1, h2⟩ | ⟨g', cap', cur, h1, hb, hg, hnc, _⟩
    · simp at h1
    · injection h1 with a b d; rw [d]; exact hnc
  have hjx := join_x g cap hcap X hc hg2
  have HJ := Lib.hid hjx
  have HB := Lib.hid hb
  clear ho hb hg1 hg2 hc hcap hjx hsp hx
  go_wp2_with fail
  refine HJ.out.mono ?_
  rintro e Y ⟨rfl, hY⟩
  have HY := Lib.hid (HB.out.trans (hY.mono HB.out.size))
  clear hY
  go_wp2_with fail
  go_ret2
  exact ⟨rfl, HY.out⟩
end Go.Proofs.Ytkagiccjlppcaaa
