/- Cut: a packet cut off bytes, and bytes that are none. -/
import Derived.Test.YtppphdflpacimaaMore
namespace Go.Proofs.Ytppphdflpacimaa
open Go.RowKit

theorem pk_cells {Z : World} {b : Nat} {k f t e s : Int} {body : ByteArray} (h : Holds9 Z b 25 [.int .u8 k, .int .u8 f, .int .u8 t, .int .u32 e, .int .u32 s, .string body]) :
    Z.cell? ⟨b, 0, none⟩ = some (.int .u8 k) ∧ Z.cell? ⟨b, 1, none⟩ = some (.int .u8 f) ∧ Z.cell? ⟨b, 2, none⟩ = some (.int .u8 t) ∧ Z.cell? ⟨b, 3, none⟩ = some (.int .u32 e) ∧ Z.cell? ⟨b, 4, none⟩ = some (.int .u32 s) ∧ Z.cell? ⟨b, 5, none⟩ = some (.string body) :=
  ⟨by simpa using h9_cell h 0, by simpa using h9_cell h 1, by simpa using h9_cell h 2, by simpa using h9_cell h 3, by simpa using h9_cell h 4, by simpa using h9_cell h 5⟩

set_option maxHeartbeats 1000000 in
set_option maxRecDepth 100000 in
theorem cut_bad (g off n c : Nat) (hn : 19 ≤ n) (x : Int) (hx : (x != 66) = true) (w : World) (hg : g < w.heap.size) (hc : w.cell? ⟨g, off, none⟩ = some (.int .u8 x)) :
    Calls Try.prog 11 #[.slice (some ⟨g, off, none⟩) n c] w fun x w' => x = .returned (.tuple #[.agg #[.int .u8 0, .int .u8 0, .int .u8 0, .int .u32 0, .int .u32 0, .string ⟨#[]⟩], .slice none 0 0, .int .i64 3]) ∧ Below w.heap.size w w' := by
  obtain ⟨w1, hw1⟩ : ∃ w1, w1 = w.alloc (.cells #[.int .u8 0, .int .u8 0, .int .u8 0, .int .u32 0, .int .u32 0, .string ⟨#[]⟩] 25) := ⟨_, rfl⟩
  have hb1 : Below w.heap.size w w1 := by rw [hw1]; exact (Below.refl _ w).alloc (Nat.le_refl _) _
  have hs1 : w1.heap.size = w.heap.size + 1 := by rw [hw1]; simp
  have hP1 : Holds9 w1 w.heap.size 25 [.int .u8 0, .int .u8 0, .int .u8 0, .int .u32 0, .int .u32 0, .string ⟨#[]⟩] := by rw [hw1]; exact h9_new w 25 _
  have hc1 : (w1.alloc (.cells #[.int .u8 0, .int .u8 0, .int .u8 0, .int .u32 0, .int .u32 0, .string ⟨#[]⟩] 25)).cell? ⟨g, off, none⟩ = some (.int .u8 x) :=
    (((hb1.alloc (by omega) _).cell (p := ⟨g, off, none⟩) hg)).trans hc
  have HB1 := Lib.hid hb1
  have HP1 := Lib.hid hP1
  have HS1 := Lib.hid hs1
  have HF := Lib.hid (first_bad g off n c hn x hx w1 hc1)
  clear hb1 hs1 hP1 hc1 hc
  go_enter Try.func11, Try.ntmps11
  go_wp2_with fail
  rw [← hw1]
  refine HF.out.mono ?_
  rintro e X ⟨rfl, hX⟩
  clear HF
  have HX1 := Lib.hid (h9_below HP1.out hX (by rw [HS1.out]; omega))
  have HB := Lib.hid (HB1.out.trans (hX.mono (by rw [HS1.out]; omega)))
  clear hX HB1 HP1
  obtain ⟨k0, k1, k2, k3, k4, k5, f0, f1, f2, f3, f4, f5⟩ := pk_facts (h9_alloc HX1.out (.cells #[.int .u8 0, .int .u8 0, .int .u8 0, .int .u32 0, .int .u32 0, .string ⟨#[]⟩] 25))
  go_wp2_with fail
  have hZ1 := h9_set (h9_set (h9_set (h9_set (h9_set (h9_set (h9_alloc HX1.out (.cells #[.int .u8 0, .int .u8 0, .int .u8 0, .int .u32 0, .int .u32 0, .string ⟨#[]⟩] 25)) 0 (.int .u8 0)) 1 (.int .u8 0)) 2 (.int .u8 0)) 3 (.int .u32 0)) 4 (.int .u32 0)) 5 (.string ⟨#[]⟩)
  have hZ2 := (((((((HB.out.alloc HB.out.size (.cells #[.int .u8 0, .int .u8 0, .int .u8 0, .int .u32 0, .int .u32 0, .string ⟨#[]⟩] 25)).setCell (p := ⟨w.heap.size, 0, none⟩) (Nat.le_refl _) (.int .u8 0)).setCell (p := ⟨w.heap.size, 1, none⟩) (Nat.le_refl _) (.int .u8 0)).setCell (p := ⟨w.heap.size, 2, none⟩) (Nat.le_refl _) (.int .u8 0)).setCell (p := ⟨w.heap.size, 3, none⟩) (Nat.le_refl _) (.int .u32 0)).setCell (p := ⟨w.heap.size, 4, none⟩) (Nat.le_refl _) (.int .u32 0)).setCell (p := ⟨w.heap.size, 5, none⟩) (Nat.le_refl _) (.string ⟨#[]⟩))
  clear k0 k1 k2 k3 k4 k5 f0 f1 f2 f3 f4 f5
  obtain ⟨q0, q1, q2, q3, q4, q5, _⟩ := pk_facts hZ1
  refine bodyPost_ret (v := .tuple #[.agg #[.int .u8 0, .int .u8 0, .int .u8 0, .int .u32 0, .int .u32 0, .string ⟨#[]⟩], .slice none 0 0, .int .i64 3]) ?_ rfl ⟨rfl, hZ2⟩
  simp [results, Try.results11, go_sem, q0, q1, q2, q3, q4, q5]

set_option maxHeartbeats 1000000 in
set_option maxRecDepth 100000 in
theorem cut_ok (g off n c k f t e s : Nat) (b : ByteArray) (rest : List UInt8) (w : World) (hg : g < w.heap.size) (hk : k < 256) (hf : f < 256) (ht : t < 256) (he : e < 4294967296) (hs : s < 4294967296) (hr : rightP k f t s b.size = true) (hb : b.size ≤ 16384)
    (hn : n = (encB k f t e s b.data.toList ++ rest).length) (hnc : n ≤ c) (hn1 : n ≤ 100000) (hre : 0 < rest.length) (hc : ∀ j, j < n → w.cell? ⟨g, off + j, none⟩ = (cellsOf (encB k f t e s b.data.toList ++ rest))[j]?) :
    Calls Try.prog 11 #[.slice (some ⟨g, off, none⟩) n c] w fun x w' => (∃ v, x = .returned (.tuple #[.agg #[.int .u8 k, .int .u8 f, .int .u8 t, .int .u32 e, .int .u32 s, .string b], v, .int .i64 0])) ∧ Below w.heap.size w w' := by
  obtain ⟨w1, hw1⟩ : ∃ w1, w1 = w.alloc (.cells #[.int .u8 0, .int .u8 0, .int .u8 0, .int .u32 0, .int .u32 0, .string ⟨#[]⟩] 25) := ⟨_, rfl⟩
  have hb1 : Below w.heap.size w w1 := by rw [hw1]; exact (Below.refl _ w).alloc (Nat.le_refl _) _
  have hs1 : w1.heap.size = w.heap.size + 1 := by rw [hw1]; simp
  have hP1 : Holds9 w1 w.heap.size 25 [.int .u8 0, .int .u8 0, .int .u8 0, .int .u32 0, .int .u32 0, .string ⟨#[]⟩] := by rw [hw1]; exact h9_new w 25 _
  have hc1 : ∀ j, j < n → w1.cell? ⟨g, off + j, none⟩ = (cellsOf (encB k f t e s b.data.toList ++ rest))[j]? := fun j hj => (hb1.cell (p := ⟨g, off + j, none⟩) hg).trans (hc j hj)
  have HB1 := Lib.hid hb1
  have HP1 := Lib.hid hP1
  have HS1 := Lib.hid hs1
  have HF := Lib.hid (first_ok g off n c k f t e s b rest w1 (by omega) hk hf ht he hs hb hn hnc hn1 hc1)
  have hbl : b.data.toList.length = b.size := (Lib.size_eq b).symm
  have hnn : n = 19 + b.size + rest.length := by rw [hn]; unfold encB; simp only [List.length_append, encH_length, lowB_length, hbl]; omega
  have hlo : 19 + b.size ≤ n := by omega
  have hcm : ¬ c = 19 + b.size := by omega
  have HC := Lib.hid (show ∀ X, Below w.heap.size w X → ∀ j u, (cellsOf rest)[j]? = some u → X.cell? ((⟨g, off + (19 + b.size), none⟩ : Addr).add j) = some u from fun X hX j u hu => by
    have hj : j < rest.length := by have := (List.getElem?_eq_some_iff.1 hu).1; rwa [cells_length] at this
    have h1 : (⟨g, off + (19 + b.size), none⟩ : Addr).add j = ⟨g, off + (19 + b.size) + j, none⟩ := Go.WideShapes.add_plain _ _ _
    rw [h1, hX.cell (p := ⟨g, off + (19 + b.size) + j, none⟩) hg, Nat.add_assoc, hc _ (by omega), cells_app, List.getElem?_append_right (by rw [cells_length]; unfold encB; simp only [List.length_append, encH_length, lowB_length, hbl]; omega), cells_length, ← hu]
    congr 1
    unfold encB
    simp only [List.length_append, encH_length, lowB_length, hbl]
    omega)
  have HLR := Lib.hid (show n - (19 + b.size) = rest.length from by omega)
  obtain ⟨m, hm⟩ : ∃ m, m = 19 + b.size := ⟨_, rfl⟩
  rw [← hm] at HF HC HLR hlo hcm
  clear hb1 hs1 hP1 hc1 hc hn hnn hbl hm
  go_enter Try.func11, Try.ntmps11
  go_wp2_with fail
  rw [← hw1]
  refine HF.out.mono ?_
  rintro x X ⟨rfl, hX⟩
  clear HF
  rw [hr]
  have HX1 := Lib.hid (h9_below HP1.out hX (by rw [HS1.out]; omega))
  have HB := Lib.hid (HB1.out.trans (hX.mono (by rw [HS1.out]; omega)))
  clear hX HB1 HP1
  go_wp2_with fail
  refine at_world (fun Y => Holds9 Y w.heap.size 25 [.int .u8 0, .int .u8 0, .int .u8 0, .int .u32 0, .int .u32 0, .string ⟨#[]⟩] ∧ Holds9 Y X.heap.size 25 [.int .u8 k, .int .u8 f, .int .u8 t, .int .u32 e, .int .u32 s, .string b] ∧ Below w.heap.size w Y) ⟨?_, ?_, ?_⟩ ?_
  · exact h9_alloc HX1.out _
  · exact h9_new X 25 _
  · exact HB.out.alloc HB.out.size _
  rintro Y ⟨hYa, hYb, hYB⟩
  have HYA := Lib.hid hYa
  have HYB := Lib.hid (h9_drew hYb)
  have HYC := Lib.hid hYB
  have hne : X.heap.size ≠ w.heap.size := by have := HX1.out; have := h9_lt this; omega
  have hltx : X.heap.size < Y.heap.size := h9_lt hYb
  have hlta : w.heap.size < Y.heap.size := h9_lt hYa
  clear hYa hYb hYB HX1 HB
  go_region_held3 (fun w' => w'.cell? ⟨X.heap.size, 0, none⟩ = some (.int .u8 k) ∧ w'.cell? ⟨X.heap.size, 1, none⟩ = some (.int .u8 f) ∧ w'.cell? ⟨X.heap.size, 2, none⟩ = some (.int .u8 t) ∧ w'.cell? ⟨X.heap.size, 3, none⟩ = some (.int .u32 e) ∧ w'.cell? ⟨X.heap.size, 4, none⟩ = some (.int .u32 s) ∧ w'.cell? ⟨X.heap.size, 5, none⟩ = some (.string b))
    (first | with_reducible exact pk_cells HYB.out | with_reducible exact pk_cells HZ.out | with_reducible exact pk_cells (h9_far (h9_far (h9_far (h9_far (h9_far (h9_far HZ.out (p := ⟨w.heap.size, 0, none⟩) hne (.int .u8 k)) (p := ⟨w.heap.size, 1, none⟩) hne (.int .u8 f)) (p := ⟨w.heap.size, 2, none⟩) hne (.int .u8 t)) (p := ⟨w.heap.size, 3, none⟩) hne (.int .u32 e)) (p := ⟨w.heap.size, 4, none⟩) hne (.int .u32 s)) (p := ⟨w.heap.size, 5, none⟩) hne (.string b)) | go_keep)
    ((go_at_call 21; refine (clone_any ⟨g, off + m, none⟩ (n - m) (c - m) rest HLR.out (by omega) _ (HC.out _ HYC.out.drew)).mono ?_; rintro x w' ⟨⟨vc, rfl⟩, hbz⟩; have HZ := Lib.hid (h9_below HYB.out hbz hltx); have HZA := Lib.hid (h9_below (h9_drew HYA.out) hbz hlta); have HZC := Lib.hid (HYC.out.drew.trans (hbz.mono (Nat.le_of_lt hlta))); clear hbz; obtain ⟨k0, k1, k2, k3, k4, k5, f0, f1, f2, f3, f4, f5⟩ := pk_facts HZA.out))
  have hZ1 := h9_set (h9_set (h9_set (h9_set (h9_set (h9_set HZA.out 0 (.int .u8 k)) 1 (.int .u8 f)) 2 (.int .u8 t)) 3 (.int .u32 e)) 4 (.int .u32 s)) 5 (.string b)
  have hZ2 := (((((((HZC.out).setCell (p := ⟨w.heap.size, 0, none⟩) (Nat.le_refl _) (.int .u8 k)).setCell (p := ⟨w.heap.size, 1, none⟩) (Nat.le_refl _) (.int .u8 f)).setCell (p := ⟨w.heap.size, 2, none⟩) (Nat.le_refl _) (.int .u8 t)).setCell (p := ⟨w.heap.size, 3, none⟩) (Nat.le_refl _) (.int .u32 e)).setCell (p := ⟨w.heap.size, 4, none⟩) (Nat.le_refl _) (.int .u32 s)).setCell (p := ⟨w.heap.size, 5, none⟩) (Nat.le_refl _) (.string b))
  clear k0 k1 k2 k3 k4 k5 f0 f1 f2 f3 f4 f5
  obtain ⟨q0, q1, q2, q3, q4, q5, _⟩ := pk_facts hZ1
  go_wp2
  refine bodyPost_ret (v := .tuple #[.agg #[.int .u8 k, .int .u8 f, .int .u8 t, .int .u32 e, .int .u32 s, .string b], vc, .int .i64 0]) ?_ rfl ⟨⟨vc, rfl⟩, hZ2⟩
  simp [results, Try.results11, go_sem, q0, q1, q2, q3, q4, q5]
end Go.Proofs.Ytppphdflpacimaa
