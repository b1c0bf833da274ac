/- TopSteps: a path is gone up as far as it is gone down. For every list of letters that can be read; no condition. -/
import Derived.Test.YtkagiccjlppcaaaClean
import Derived.Test.YtkagiccjlppcaaaFrame
namespace Go.Proofs.Ytkagiccjlppcaaa
open Go.RowKit

/-- The letters as a path down. -/
def downL : List UInt8 → List UInt8
  | [] => []
  | c :: l => 47 :: c :: downL l
/-- As many steps up. -/
def upL : Nat → List UInt8
  | 0 => []
  | k + 1 => 47 :: 46 :: 46 :: upL k

theorem downL_app (a b : List UInt8) : downL (a ++ b) = downL a ++ downL b := by
  induction a with
  | nil => rfl
  | cons c a ih => simp [downL, ih]
theorem upL_snoc (k : Nat) : upL (k + 1) = upL k ++ [47, 46, 46] := by
  induction k with
  | zero => rfl
  | succ k ih => exact congrArg (fun l => 47 :: 46 :: 46 :: l) ih
theorem downL_length (l : List UInt8) : (downL l).length = 2 * l.length := by
  induction l with
  | nil => rfl
  | cons c l ih => simp [downL, ih]; omega
theorem upL_length (k : Nat) : (upL k).length = 3 * k := by
  induction k with
  | zero => rfl
  | succ k ih => simp [upL, ih]; omega

theorem down_text (l : List UInt8) (t : List (List UInt8)) (ht : t ≠ []) : downL l ++ 47 :: restOf t = 47 :: restOf (l.map (fun c => [c]) ++ t) := by
  induction l with
  | nil => simp [downL]
  | cons c l ih => simp [downL, ih, restOf, ht]
theorem up_text (k : Nat) (t : List (List UInt8)) (ht : t ≠ []) : upL k ++ 47 :: restOf t = 47 :: restOf (List.replicate k [46, 46] ++ t) := by
  induction k with
  | zero => simp [upL]
  | succ k ih => simp [upL, ih, restOf, ht, List.replicate_succ]

theorem fold_down (l : List UInt8) (out : List UInt8) : (l.map (fun c => [c])).foldl step out = out ++ l := by
  induction l generalizing out with
  | nil => simp
  | cons c l ih =>
    have h : step out [c] = out ++ [c] := by unfold step; rw [if_neg (by simp)]
    simp only [List.map_cons, List.foldl_cons, h, ih]
    simp
theorem fold_up (k : Nat) (out : List UInt8) (h : out.length ≤ k) : (List.replicate k ([46, 46] : List UInt8)).foldl step out = [] := by
  induction k generalizing out with
  | zero => simpa using List.length_eq_zero_iff.1 (Nat.le_zero.1 h)
  | succ k ih =>
    rw [List.replicate_succ, List.foldl_cons]
    exact ih _ (by show (out.dropLast).length ≤ k; simp; omega)

/-- The k-th letter, and the first k. -/
def letter (z : List Int) (k : Nat) : UInt8 := UInt8.ofNat (97 + (z.getD k 0 % 26).toNat)
def letters (z : List Int) : Nat → List UInt8
  | 0 => []
  | k + 1 => letters z k ++ [letter z k]
theorem letters_length (z : List Int) (k : Nat) : (letters z k).length = k := by
  induction k with
  | zero => rfl
  | succ k ih => simp [letters, ih]
theorem letter_nat (z : List Int) (k : Nat) : (letter z k).toNat = 97 + (z.getD k 0 % 26).toNat := by
  unfold letter
  rw [UInt8.toNat_ofNat']
  omega
theorem letters_ok (z : List Int) (k : Nat) : ∀ c ∈ letters z k, 97 ≤ c.toNat ∧ c.toNat ≤ 122 := by
  induction k with
  | zero => simp [letters]
  | succ k ih =>
    intro c hc
    simp only [letters, List.mem_append, List.mem_singleton] at hc
    rcases hc with hc | rfl
    · exact ih c hc
    · rw [letter_nat]; omega

theorem pieces_down (z : List Int) (k : Nat) : ∀ p ∈ (letters z k).map (fun c => [c]), Piece p := by
  intro p hp
  obtain ⟨c, hc, rfl⟩ := List.mem_map.1 hp
  exact .inr (.inr ⟨c, rfl, letters_ok z k c hc⟩)

theorem t_add (a b : List UInt8) : T a ++ T b = T (a ++ b) := by
  rw [ByteArray.ext_iff]
  simp [ByteArray.data_append]

theorem bounds_of_wf_u8 {n : Int} (h : (Lit.int .u8 n).wf = true) : 0 ≤ n ∧ n < 256 := by
  simp [Lit.wf, IntKind.min, IntKind.max, IntKind.signed, IntKind.bits] at h; omega

theorem conv_one (Y : World) (c : UInt8) (x : Int) (h : (c.toNat : Int) = x) : (convert 22 9 (.slice (some ⟨Y.heap.size, 0, none⟩) 1 1)).run Try.prog (Y.alloc (.cells #[.int .u8 x] 5)) = .ok (.string ⟨#[c]⟩) (Y.alloc (.cells #[.int .u8 x] 5)) := by
  refine run_convert_bytes_back (P := Try.prog) _ 22 9 5 ⟨Y.heap.size, 0, none⟩ 1 [c] Try.underlying22 Try.underlying5 Try.underlying9 ?_
  intro j hj
  have h1 := one_news Y (.int .u8 x) 5 j (.int .u8 x)
  have hj0 : j = 0 := by simp at hj; omega
  subst hj0
  rw [h1 rfl]
  simp [h]

theorem letter_cell {w X : World} {A : Option Addr} {n c j : Nat} {z : List Int} (h : IsInts .u8 w A n c z) (hb : Below w.heap.size w X) (hj : j < n) :
    ∃ b off, A = some ⟨b, off, none⟩ ∧ 0 ≤ z.getD j 0 ∧ z.getD j 0 < 256 ∧ X.cell? ⟨b, off + j, none⟩ = some (.int .u8 (z.getD j 0)) := by
  obtain ⟨hl, _, _, hw, h0 | ⟨b, off, rfl, hbb, hcell⟩⟩ := h
  · omega
  · have hz : j < z.length := by omega
    have hc := hcell j hj
    have hm : z.getD j 0 ∈ z := by rw [List.getD_eq_getElem?_getD, List.getElem?_eq_getElem hz]; exact List.getElem_mem hz
    obtain ⟨x0, x1⟩ := bounds_of_wf_u8 (hw _ hm)
    exact ⟨b, off, rfl, x0, x1, (hb.cell (p := ⟨b, off + j, none⟩) hbb).trans hc⟩

/-- The three paths. -/
def ps1 (z : List Int) (k : Nat) : List (List UInt8) := (letters z k).map (fun c => [c]) ++ [[]]
def ps2 (z : List Int) (k : Nat) (t : List UInt8) : List (List UInt8) := (letters z k).map (fun c => [c]) ++ (List.replicate k [46, 46] ++ [t])

theorem t_down (z : List Int) (k : Nat) : T (downL (letters z k)) ++ ⟨#[47]⟩ = T (47 :: restOf (ps1 z k)) := by
  rw [show (⟨#[47]⟩ : ByteArray) = T (47 :: restOf [[]]) from rfl, t_add, down_text _ _ (by simp)]
  rfl
theorem t_both (z : List Int) (k : Nat) (t : List UInt8) : T (downL (letters z k)) ++ T (upL k) ++ T (47 :: t) = T (47 :: restOf (ps2 z k t)) := by
  rw [show T (47 :: t) = T (47 :: restOf [t]) from by simp [restOf], t_add, t_add, List.append_assoc, up_text _ _ (by simp), down_text _ _ (by simp)]
  rfl
theorem len1 (z : List Int) (k : Nat) (hk : k ≤ 20) : (restOf (ps1 z k)).length < 120 := by
  have h := congrArg List.length (down_text (letters z k) [[]] (by simp))
  simp only [List.length_append, List.length_cons, downL_length, letters_length, restOf, List.length_nil] at h
  simp only [ps1]
  simp at h ⊢
  omega
theorem len2 (z : List Int) (k : Nat) (t : List UInt8) (hk : k ≤ 20) (ht : t.length ≤ 1) : (restOf (ps2 z k t)).length < 120 := by
  have h := congrArg List.length (down_text (letters z k) (List.replicate k [46, 46] ++ [t]) (by simp))
  have h' := congrArg List.length (up_text k [t] (by simp))
  simp only [List.length_append, List.length_cons, downL_length, upL_length, letters_length] at h h'
  simp only [ps2]
  have e : (restOf [t]).length = t.length := by simp [restOf]
  omega
theorem fold1 (z : List Int) (k : Nat) : (ps1 z k).foldl step [] = letters z k := by
  unfold ps1
  rw [List.foldl_append, fold_down]
  simp [step]
theorem fold2 (z : List Int) (k : Nat) (t : List UInt8) (ht : t ≠ [46, 46]) : (ps2 z k t).foldl step [] = t := by
  unfold ps2
  rw [List.foldl_append, List.foldl_append, fold_down, fold_up _ _ (by simp [letters_length])]
  simp [step, ht]
theorem piece1 (z : List Int) (k : Nat) : ∀ p ∈ ps1 z k, Piece p := by
  intro p hp
  simp only [ps1, List.mem_append, List.mem_singleton] at hp
  rcases hp with hp | rfl
  · exact pieces_down z k p hp
  · exact .inl rfl
theorem piece2 (z : List Int) (k : Nat) (t : List UInt8) (ht : Piece t) : ∀ p ∈ ps2 z k t, Piece p := by
  intro p hp
  simp only [ps2, List.mem_append, List.mem_singleton, List.mem_replicate] at hp
  rcases hp with hp | ⟨_, rfl⟩ | rfl
  · exact pieces_down z k p hp
  · exact .inr (.inl rfl)
  · exact ht

theorem split1 (z : List Int) (k : Nat) (hk : k ≤ 20) (w : World) :
    Calls Try.prog 4 #[.string (T (downL (letters z k)) ++ ⟨#[47]⟩)] w fun e w' => ∃ A c, e = .returned (.tuple #[.slice A k c, .int .i64 0]) ∧ Below w.heap.size w w' := by
  rw [t_down]
  refine (split_any (ps1 z k) (by simp [ps1]) (piece1 z k) (len1 z k hk) w).mono ?_
  rintro e w' ⟨v, rfl, ho, hb⟩
  obtain ⟨A, c, rfl⟩ := own_shape ho
  rw [fold1, letters_length]
  exact ⟨A, c, rfl, hb⟩
theorem split2 (z : List Int) (k : Nat) (hk : k ≤ 20) (w : World) :
    Calls Try.prog 4 #[.string (T (downL (letters z k)) ++ T (upL k) ++ ⟨#[47]⟩)] w fun e w' => ∃ A c, e = .returned (.tuple #[.slice A 0 c, .int .i64 0]) ∧ Below w.heap.size w w' := by
  rw [show (⟨#[47]⟩ : ByteArray) = T (47 :: []) from rfl, t_both]
  refine (split_any (ps2 z k []) (by simp [ps2]) (piece2 z k [] (.inl rfl)) (len2 z k [] hk (by simp)) w).mono ?_
  rintro e w' ⟨v, rfl, ho, hb⟩
  obtain ⟨A, c, rfl⟩ := own_shape ho
  rw [fold2 z k [] (by simp)]
  exact ⟨A, c, rfl, hb⟩
theorem clean3 (z : List Int) (k : Nat) (hk : k ≤ 20) (w : World) :
    Calls Try.prog 5 #[.string (T (downL (letters z k)) ++ T (upL k) ++ ⟨#[47, 120]⟩)] w fun e w' => e = .returned (.tuple #[.string ⟨#[47, 120]⟩, .int .i64 0]) ∧ Below w.heap.size w w' := by
  rw [show (⟨#[47, 120]⟩ : ByteArray) = T (47 :: [120]) from rfl, t_both]
  exact clean_x (ps2 z k [120]) (by simp [ps2]) (piece2 z k [120] (.inr (.inr ⟨120, rfl, by decide, by decide⟩))) (len2 z k [120] hk (by simp)) (fold2 z k [120] (by simp)) w

theorem down_next (z : List Int) (k : Nat) (D : ByteArray) (c : UInt8) (hD : D = T (downL (letters z k))) (hc : c = letter z k) : D ++ ((⟨#[47]⟩ : ByteArray) ++ ⟨#[c]⟩) = T (downL (letters z (k + 1))) := by
  rw [hD, hc, show (⟨#[47]⟩ : ByteArray) = T [47] from rfl, show (⟨#[letter z k]⟩ : ByteArray) = T [letter z k] from rfl, t_add, t_add]
  simp [letters, downL_app, downL]
theorem up_next (k : Nat) (U : ByteArray) (hU : U = T (upL k)) : U ++ (⟨#[47, 46, 46]⟩ : ByteArray) = T (upL (k + 1)) := by
  rw [hU, show (⟨#[47, 46, 46]⟩ : ByteArray) = T [47, 46, 46] from rfl, t_add, upL_snoc]

set_option maxHeartbeats 2000000 in
set_option maxRecDepth 100000 in
theorem topSteps_walk (A : Option Addr) (n c : Nat) (z : List Int) (w : World) (hz : IsInts .u8 w A n c z) (_hy : n * 1 ≤ 140737488351232) :
    Calls Try.prog 3 #[.slice A n c] w fun e w' => e = .returned (.bool true) ∧ Below w.heap.size w w' := by
  have HZ := Lib.hid hz
  clear hz
  go_enter Try.func3, Try.ntmps3
  go_wp2_with fail
  go_loopw [3, 4, 5] (fun d u i X => ∃ k : Nat, k ≤ n ∧ k ≤ 20 ∧ i = .int .i64 k ∧ d = .string (T (downL (letters z k))) ∧ u = .string (T (upL k)) ∧ Below w.heap.size w X) (fun _ _ i _ => 20 - (intOf i).toNat)
  case atStart => exact ⟨0, Nat.zero_le _, Nat.zero_le _, rfl, rfl, rfl, Below.refl _ w⟩
  case round =>
    obtain ⟨k, hk1, hk2, rfl, rfl, rfl, hX⟩ := hrel
    have HX := Lib.hid hX
    clear hX
    obtain ⟨D, hD⟩ : ∃ D, D = T (downL (letters z k)) := ⟨_, rfl⟩
    obtain ⟨U, hU⟩ : ∃ U, U = T (upL k) := ⟨_, rfl⟩
    rw [← hD, ← hU]
    have HD := Lib.hid hD
    have HU := Lib.hid hU
    have hDs : D.size ≤ 40 := by rw [hD]; simp only [ByteArray.size, List.size_toArray, downL_length, letters_length]; omega
    have hUs : (U.size : Int) = 3 * (k : Int) := by rw [hU]; simp only [ByteArray.size, List.size_toArray, upL_length]; omega
    clear hD hU
    by_cases hlt : k < n ∧ k < 20
    · obtain ⟨l1, l2⟩ := hlt
      obtain ⟨b, off, rfl, hz0, hz1, hzc⟩ := letter_cell HZ.out HX.out l1
      have HL := Lib.hid (letter_nat z k)
      obtain ⟨c9, hc9⟩ : ∃ c9, c9 = letter z k := ⟨_, rfl⟩
      have HC := Lib.hid hc9
      rw [← hc9] at HL
      clear hc9
      generalize z.getD k 0 = zi at hz0 hz1 hzc HL
      have hcv := conv_one wr c9 (97 + zi % 26) (by have := HL.out; omega)
      go_wp2_with fail
      go_roundw
      case rel => exact ⟨k + 1, by omega, by omega, by go_num, by rw [down_next z k D c9 HD.out HC.out], by rw [up_next k U HU.out], HX.out.alloc HX.out.size _⟩
      case measure => simp [intOf]; omega
    · have hend : n ≤ k ∨ (k < n ∧ 20 ≤ k) := by omega
      clear hlt
      have S1 := Lib.hid (split1 z k hk2)
      have S2 := Lib.hid (split2 z k hk2)
      have S3 := Lib.hid (clean3 z k hk2)
      rw [← HD.out] at S1 S2 S3
      rw [← HU.out] at S2 S3
      have hcx : ((⟨#[47, 120]⟩ : ByteArray).toList == [47, 120]) = true := by decide +kernel
      rcases hend with hl1 | ⟨hl1, hl2⟩
      all_goals
        go_wp2_with fail
        refine (S1.out wr).mono ?_
        rintro e X1 ⟨A1, c1, rfl, h1⟩
        have H1 := Lib.hid (HX.out.trans (h1.mono HX.out.size))
        clear h1
        go_wp2_with fail
        refine (S2.out X1).mono ?_
        rintro e X2 ⟨A2, c2, rfl, h2⟩
        have H2 := Lib.hid (H1.out.trans (h2.mono H1.out.size))
        clear h2
        go_wp2_with fail
        refine (S3.out X2).mono ?_
        rintro e X3 ⟨rfl, h3⟩
        have H3 := Lib.hid (H2.out.trans (h3.mono H2.out.size))
        clear h3
        go_wp2_with fail
        go_ret
        exact ⟨rfl, H3.out⟩
end Go.Proofs.Ytkagiccjlppcaaa
