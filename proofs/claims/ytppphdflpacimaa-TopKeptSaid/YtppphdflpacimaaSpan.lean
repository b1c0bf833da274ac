/- Plain laws for the walk of TopKept: bytes cut into sectors, and put together again. -/
import Derived.Test.YtppphdflpacimaaCrash
import Derived.Test.YtppphdflpacimaaWhole
import Derived.Laws.StructEq
namespace Go.Proofs.Ytppphdflpacimaa
open Go.RowKit Go.Maps

/-- The first k bytes of sector i of the bytes L; the others 0. -/
def part (L : List UInt8) (i k : Nat) : List UInt8 := (List.range 32).map fun j => if j < k then L.getD (i * 32 + j) 0 else 0
/-- Sector i of the bytes L. -/
def vv (L : List UInt8) (i : Nat) : List UInt8 := (List.range 32).map fun j => L.getD (i * 32 + j) 0
/-- The sector that is written last. -/
def nine : List UInt8 := 9 :: List.replicate 31 0

theorem part_length (L : List UInt8) (i k : Nat) : (part L i k).length = 32 := by simp [part]
theorem vv_length (L : List UInt8) (i : Nat) : (vv L i).length = 32 := by simp [vv]
theorem nine_length : nine.length = 32 := by simp [nine]
theorem part_zero (L : List UInt8) (i : Nat) : part L i 0 = zsec := by
  unfold part zsec
  simp only [Nat.not_lt_zero, ↓reduceIte]
  rfl
theorem part_next (L : List UInt8) (i k : Nat) (hk : k < 32) (c : UInt8) (hc : L[i * 32 + k]? = some c) : (cellsOf (part L i k)).set k (.int .u8 (c.toNat : Int)) = cellsOf (part L i (k + 1)) := by
  apply List.ext_getElem?
  intro j
  rw [List.getElem?_set]
  unfold cellsOf part
  by_cases hj : j < 32
  · by_cases hkj : k = j
    · subst hkj
      simp [hk, List.getD_eq_getElem?_getD, hc]
    · rw [if_neg hkj]
      have e : (j < k + 1) ↔ (j < k) := by omega
      simp [hj, e]
  · rw [if_neg (by omega), List.getElem?_eq_none (by simp; omega), List.getElem?_eq_none (by simp; omega)]
theorem part_end (L : List UInt8) (i k : Nat) (h : 32 ≤ k ∨ L.length ≤ i * 32 + k) : part L i k = vv L i := by
  unfold part vv
  apply List.map_congr_left
  intro j hj
  have hj' : j < 32 := List.mem_range.1 hj
  by_cases hjk : j < k
  · rw [if_pos hjk]
  · rw [if_neg hjk]
    have : L.length ≤ i * 32 + j := by omega
    simp [List.getD_eq_getElem?_getD, List.getElem?_eq_none this]
theorem vv_behind (L : List UInt8) (i : Nat) (h : L.length ≤ i * 32) : vv L i = zsec := by
  rw [← part_end L i 0 (.inr (by omega)), part_zero]

/-- The buffer holds the sectors v 0 .. v (m-1) and nothing else. -/
def BufD (D : DataW Value) (m : Nat) (v : Nat → List UInt8) : Prop :=
  (∀ kl, has D kl = true → ∃ i : Nat, i < m ∧ kl = .int .i64 i ∧ ∀ zd, D.atKey kl zd = .held (sec (v i))) ∧ ∀ i : Nat, i < m → has D (.int .i64 i) = true

theorem bufD_empty {D : DataW Value} (h : ∀ kl, has D kl = false) (v : Nat → List UInt8) : BufD D 0 v := ⟨fun kl hk => (by rw [h kl] at hk; cases hk), fun i hi => by omega⟩
theorem has_start (kl : Lit) : has (.map [] : DataW Value) kl = false := has_false_of_atKey (fun z => by rfl)
theorem key_lit (i : Nat) : WideAt.IsKeyLit (.int .i64 (i : Int)) := by simp [WideAt.IsKeyLit]
theorem bufD_put {D : DataW Value} {m : Nat} {v : Nat → List UInt8} (h : BufD D m v) (hD : IsMap D) : BufD (D.put (.int .i64 (m : Int)) (.held (sec (v m)))) (m + 1) v := by
  refine ⟨fun kl hk => ?_, fun i hi => ?_⟩
  · by_cases e : kl = .int .i64 (m : Int)
    · subst e
      exact ⟨m, by omega, rfl, fun zd => atKey_put_same hD (key_lit m) _ _⟩
    · rw [has_put_other e] at hk
      obtain ⟨i, hi, rfl, hz⟩ := h.1 kl hk
      exact ⟨i, by omega, rfl, fun zd => by rw [atKey_put_other e]; exact hz zd⟩
  · by_cases e : i = m
    · subst e
      exact has_put_same hD (key_lit i) _
    · rw [has_put_other (fun e' => e (by injection e' with _ e'; omega))]
      exact h.2 i (by omega)

/-- Every sector of S is the one of L. -/
def AllV (S : List (List UInt8)) (L : List UInt8) : Prop := ∀ j : Nat, j < 30 → S[j]? = some (vv L j)

theorem allV_flush (L : List UInt8) (m : Nat) (h : L.length ≤ m * 32) : AllV (outS (List.replicate 30 zsec) m (vv L) (fun _ => true) (fun _ => false)) L := by
  intro j hj
  rw [outS_get _ _ _ _ _ j hj]
  by_cases hjm : j < m
  · simp [hjm]
  · have h1 : L.length ≤ j * 32 := by omega
    rw [if_neg (fun e => hjm e.1), vv_behind L j h1, List.getD_eq_getElem?_getD, List.getElem?_replicate, if_pos hj]
    rfl
theorem allV_crash {S : List (List UInt8)} {L : List UInt8} (h : AllV S L) (f : Nat → Bool) (hf : f 0 = false) : AllV (outS S 1 (fun _ => nine) f (fun _ => false)) L := by
  intro j hj
  rw [outS_get _ _ _ _ _ j hj, if_neg (fun e => by
    obtain ⟨e1, e2, _⟩ := e
    obtain rfl : j = 0 := by omega
    rw [hf] at e2
    cases e2), List.getD_eq_getElem?_getD, h j hj]
  rfl
theorem nine_crash {S : List (List UInt8)} (f : Nat → Bool) (hf : f 0 = true) : (outS S 1 (fun _ => nine) f (fun _ => false))[0]? = some nine := by
  rw [outS_get _ _ _ _ _ 0 (by omega), if_pos ⟨by omega, hf, rfl⟩]

theorem flat_at : ∀ (S : List (List UInt8)) (i j : Nat), (∀ s ∈ S, s.length = 32) → (hj : j < 32) → ∀ s, S[i]? = some s → S.flatten[i * 32 + j]? = s[j]?
  | [], i, j, _, _, s, hs => by simp at hs
  | q :: S, 0, j, hl, hj, s, hs => by
    simp only [List.getElem?_cons_zero, Option.some.injEq] at hs
    subst hs
    have := hl q (by simp)
    rw [List.flatten_cons, List.getElem?_append_left (by omega), Nat.zero_mul, Nat.zero_add]
  | q :: S, i + 1, j, hl, hj, s, hs => by
    simp only [List.getElem?_cons_succ] at hs
    have h1 := hl q (by simp)
    have h2 := flat_at S i j (fun s hs => hl s (by simp [hs])) hj s hs
    rw [List.flatten_cons, List.getElem?_append_right (by omega), h1, ← h2]
    congr 1
    omega
theorem flat_length : ∀ (S : List (List UInt8)), (∀ s ∈ S, s.length = 32) → S.flatten.length = S.length * 32
  | [], _ => rfl
  | q :: S, hl => by
    rw [List.flatten_cons, List.length_append, hl q (by simp), flat_length S (fun s hs => hl s (by simp [hs])), List.length_cons]
    omega
theorem flat_whole {S : List (List UInt8)} {L : List UInt8} (h : AllV S L) (hl : S.length = 30) (ha : ∀ s ∈ S, s.length = 32) (hL : L.length ≤ 960) : S.flatten = L ++ List.replicate (960 - L.length) 0 := by
  have hfl := flat_length S ha
  apply List.ext_getElem?
  intro n
  by_cases hn : n < 960
  · obtain ⟨i, j, hij, hj⟩ : ∃ i j, n = i * 32 + j ∧ j < 32 := ⟨n / 32, n % 32, by omega, by omega⟩
    subst hij
    rw [flat_at S i j ha hj _ (h i (by omega))]
    unfold vv
    rw [List.getElem?_map, List.getElem?_range hj, Option.map_some, List.getElem?_append]
    by_cases hlt : i * 32 + j < L.length
    · rw [if_pos hlt, List.getD_eq_getElem?_getD, List.getElem?_eq_getElem hlt]
      rfl
    · rw [if_neg hlt, List.getD_eq_getElem?_getD, List.getElem?_eq_none (by omega), List.getElem?_replicate, if_pos (by omega)]
      rfl
  · rw [List.getElem?_eq_none (by rw [hfl, hl]; omega), List.getElem?_eq_none (by simp; omega)]

/-- The sectors as far as they have been read. -/
theorem take_flat {S : List (List UInt8)} (i : Nat) (s : List UInt8) (h : S[i]? = some s) : (S.take (i + 1)).flatten = (S.take i).flatten ++ s := by
  rw [List.take_add_one, h]
  simp

theorem encB_length (k f t e s : Nat) (l : List UInt8) : (encB k f t e s l).length = 19 + l.length := by
  unfold encB
  simp only [List.length_append, encH_length, lowB_length]
  omega
theorem encB_ne (k f t e s : Nat) (l : List UInt8) : 0 < (encB k f t e s l).length := by rw [encB_length]; omega

/-- Is 0 kept? -/
theorem lost_next (ks : List Int) (j : Nat) (hj : j < ks.length) : (decide ((0 : Int) ∉ ks.take j) && (ks.getD j 0 != 0)) = decide ((0 : Int) ∉ ks.take (j + 1)) := by
  have e : ks.take (j + 1) = ks.take j ++ [ks[j]] := by rw [List.take_add_one, List.getElem?_eq_getElem hj]; rfl
  have d : ks.getD j 0 = ks[j] := by rw [List.getD_eq_getElem?_getD, List.getElem?_eq_getElem hj]; rfl
  rw [e, d]
  generalize ks[j] = x
  by_cases hx : x = 0
  · subst hx
    simp
  · have hx' : ¬ (0 : Int) = x := fun e => hx e.symm
    simp [hx, hx']

/-- The packet's body, cut to 600 bytes. -/
def body6 (b : ByteArray) : ByteArray := if 600 < b.size then b.extract 0 600 else b
theorem body6_size (b : ByteArray) : (body6 b).size ≤ 600 := by
  unfold body6
  split
  · simp [ByteArray.size_extract]
    omega
  · omega

theorem keepW_below {A : Option Addr} {N B : Nat} {ks : List Int} {X Y : World} (h : KeepW X A N ks) (hb : Below B X Y) (hB : ∀ g o, A = some ⟨g, o, none⟩ → N ≠ 0 → g < B) : KeepW Y A N ks := by
  obtain ⟨h1, h2⟩ := h
  refine ⟨h1, fun hn => ?_⟩
  obtain ⟨g, o, ha, hc⟩ := h2 hn
  exact ⟨g, o, ha, fun j hj => (hb.cell (p := ⟨g, o + j, none⟩) (hB g o ha hn)).trans (hc j hj)⟩
theorem bytes_at {E : World} {base g n cp : Nat} {L : List UInt8} (ho : E.ownsRow base 5 1 (.slice (some ⟨g, 0, none⟩) n cp) n (cellsOf L)) (hn : n = L.length) (hg : g < E.heap.size) :
    ∀ X, Below E.heap.size E X → ∀ j c, L[j]? = some c → X.cell? ⟨g, j, none⟩ = some (.int .u8 (c.toNat : Int)) := by
  intro X hX j c hc
  obtain ⟨hj, _⟩ := List.getElem?_eq_some_iff.1 hc
  rw [hX.cell (p := ⟨g, j, none⟩) hg, ho.cellAt j (by omega)]
  exact cell_of L j c _ hc rfl

theorem nine_sec : sec nine = .agg #[.int .u8 9, .int .u8 0, .int .u8 0, .int .u8 0, .int .u8 0, .int .u8 0, .int .u8 0, .int .u8 0, .int .u8 0, .int .u8 0, .int .u8 0, .int .u8 0, .int .u8 0, .int .u8 0, .int .u8 0, .int .u8 0, .int .u8 0, .int .u8 0, .int .u8 0, .int .u8 0, .int .u8 0, .int .u8 0, .int .u8 0, .int .u8 0, .int .u8 0, .int .u8 0, .int .u8 0, .int .u8 0, .int .u8 0, .int .u8 0, .int .u8 0, .int .u8 0] := by kernel_rfl
theorem own_apart {w0 X : World} {B base gd gs gm c n : Nat} {S : List (List UInt8)} {D : DataW Value} {v : Value} {xs : List Value} (ho : X.ownsRow base 5 1 v n xs) (hd : DiskW w0 B gd gs gm S D c X) (hB : B ≤ base) :
    ∀ r, v.ownBlock = some r → B ≤ r ∧ r ≠ gd ∧ r ≠ gs ∧ r ≠ gm := by
  intro r hr
  refine ⟨Nat.le_trans hB (ho.lt r hr).1, ?_, ?_, ?_⟩
  · rintro rfl
    exact h9_own ho hd.head (by decide) hr
  · rintro rfl
    exact h9_own ho hd.secs (by decide) hr
  · rintro rfl
    obtain ⟨es, clock, hb, _⟩ := hd.buf
    rcases ho.2 with ⟨rfl, _⟩ | ⟨g, cap, cur, rfl, _, hg, _⟩
    · cases hr
    · cases hr
      rw [hb] at hg
      cases hg
theorem own_cap {X : World} {base g n cap : Nat} {xs : List Value} (ho : X.ownsRow base 5 1 (.slice (some ⟨g, 0, none⟩) n cap) n xs) : n ≤ cap := by
  rcases ho.2 with ⟨h', _⟩ | ⟨g', cap', cur, h', _, _, h, _⟩
  · cases h'
  · cases h'
    exact h
theorem keepW_at {A : Option Addr} {N j : Nat} {ks : List Int} {X : World} (h : KeepW X A N ks) (hj : j < N) : ∃ g o, A = some ⟨g, o, none⟩ ∧ X.cell? ⟨g, o + j, none⟩ = some (.int .i64 (ks.getD j 0)) := by
  obtain ⟨g, o, ha, hc⟩ := h.2 (by omega)
  exact ⟨g, o, ha, hc j hj⟩
end Go.Proofs.Ytppphdflpacimaa
