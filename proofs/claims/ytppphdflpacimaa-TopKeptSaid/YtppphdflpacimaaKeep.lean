/- Which sectors are kept. -/
import Derived.Test.YtppphdflpacimaaSets
namespace Go.Proofs.Ytppphdflpacimaa
open Go.RowKit Go.Maps

/-- The numbers as they lie. -/
def KeepW (w : World) (A : Option Addr) (n : Nat) (ks : List Int) : Prop := ks.length = n ∧ (n ≠ 0 → ∃ g o, A = some ⟨g, o, none⟩ ∧ ∀ j, j < n → w.cell? ⟨g, o + j, none⟩ = some (.int .i64 (ks.getD j 0)))

theorem index_any (A : Option Addr) (n c : Nat) (ks : List Int) (x : Int) (w : World) (hn : n ≤ 9223372036854775807) (h : KeepW w A n ks) :
    Calls Try.prog 22 #[.slice A n c, .int .i64 x] w fun e w' => (∃ r : Int, e = .returned (.int .i64 r) ∧ (0 ≤ r ↔ x ∈ ks)) ∧ w = w' := by
  obtain ⟨hl, hc⟩ := h
  go_enter Try.func22, Try.ntmps22
  go_wp2_with fail
  go_loopw [8] (fun i W => W = w ∧ ∃ k : Nat, i = .int .i64 k ∧ k ≤ n ∧ ∀ j, j < k → ks.getD j 0 ≠ x) (fun i _ => n - (intOf i).toNat)
  case atStart => exact ⟨rfl, 0, rfl, by omega, fun j hj => by omega⟩
  case round =>
    obtain ⟨hW, k, rfl, hk, hj⟩ := hrel
    subst hW
    by_cases hkn : k < n
    · obtain ⟨g, o, rfl, hcell⟩ := hc (by omega)
      obtain ⟨z, hz⟩ : ∃ z, z = ks.getD k 0 := ⟨_, rfl⟩
      have hck := hcell k hkn
      rw [← hz] at hck
      have HZ := Lib.hid hz
      have HJ := Lib.hid hj
      have HL := Lib.hid hl
      clear hz hj hl hcell hc
      have hm : ks.getD k 0 ∈ ks := by
        have : k < ks.length := by rw [HL.out]; exact hkn
        simp [List.getD_eq_getElem?_getD, this]
      have HM := Lib.hid hm
      clear hm
      by_cases hx : x = z
      · subst hx
        go_wp2
        go_ret
        exact ⟨⟨_, rfl, fun _ => by rw [HZ.out]; exact HM.out, fun _ => by omega⟩, rfl⟩
      · have hb : (x == z) = false := by simpa using hx
        have HX := Lib.hid hx
        clear hx
        go_wp2
        go_roundw
        · refine ⟨trivial, k + 1, by go_num, by omega, fun j hj => ?_⟩
          by_cases e : j = k
          · subst e
            rw [← HZ.out]
            exact fun e => HX.out e.symm
          · exact HJ.out j (by omega)
        · simp only [intOf]
          omega
    · have HJ := Lib.hid hj
      have HL := Lib.hid hl
      clear hj hl hc
      go_wp2
      go_ret
      refine ⟨⟨_, rfl, fun h => by omega, fun hx => ?_⟩, rfl⟩
      obtain ⟨j, hj, e⟩ := List.getElem_of_mem hx
      have := HL.out
      exact absurd (by simp [List.getD_eq_getElem?_getD, hj, e]) (HJ.out j (by omega))

theorem contains_any (A : Option Addr) (n c : Nat) (ks : List Int) (x : Int) (w : World) (hn : n ≤ 9223372036854775807) (h : KeepW w A n ks) :
    Calls Try.prog 19 #[.slice A n c, .int .i64 x] w fun e w' => e = .returned (.bool (decide (x ∈ ks))) ∧ w = w' := by
  have H := Lib.hid (index_any A n c ks x w hn h)
  clear h
  go_enter Try.func19, Try.ntmps19
  go_wp2_with fail
  refine H.out.mono ?_
  rintro e w' ⟨⟨r, rfl, hr⟩, rfl⟩
  have HR := Lib.hid hr
  clear hr H
  go_wp2_with fail
  go_ret
  refine ⟨?_, rfl⟩
  have hr := HR.out
  by_cases h0 : 0 ≤ r
  · have hx := hr.1 h0
    simp [h0, hx]
  · have hx : ¬ x ∈ ks := fun e => h0 (hr.2 e)
    simp [h0, hx]

theorem such_keep (A : Option Addr) (n c kb : Nat) (ks : List Int) (i : Int) (w : World) (hn : n ≤ 9223372036854775807) (h : KeepW w A n ks) (hk : w.cell? ⟨kb, 0, none⟩ = some (.slice A n c)) :
    Calls Try.prog 18 #[.int .i64 i, .pointer (some ⟨kb, 0, none⟩)] w fun e w' => e = .returned (.bool (decide (i ∈ ks))) ∧ w = w' := by
  have H := Lib.hid (contains_any A n c ks i w hn h)
  clear h
  go_enter Try.func18, Try.ntmps18
  go_wp2_with fail
  refine H.out.mono ?_
  rintro e w' ⟨rfl, rfl⟩
  clear H
  go_wp2
  go_ret
  exact ⟨rfl, rfl⟩
end Go.Proofs.Ytppphdflpacimaa
