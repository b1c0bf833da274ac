/- The first packet of bytes: where there is none, and where the bytes are a packet's with others behind. -/
import Derived.Test.YtppphdflpacimaaCut
import Derived.Test.YtppphdflpacimaaFrame
namespace Go.Proofs.Ytppphdflpacimaa
open Go.RowKit

set_option maxHeartbeats 1000000 in
set_option maxRecDepth 100000 in
theorem first_short (A : Option Addr) (n c : Nat) (hn : n < 19) (w : World) :
    Calls Try.prog 20 #[.slice A n c] w fun x w' => x = .returned (.tuple #[.agg #[.int .u8 0, .int .u8 0, .int .u8 0, .int .u32 0, .int .u32 0, .string ⟨#[]⟩], .int .i64 0, .bool false]) ∧ Below w.heap.size w w' := by
  go_enter Try.func20, Try.ntmps20
  go_wp2_with fail
  refine bodyPost_ret (v := .tuple #[.agg #[.int .u8 0, .int .u8 0, .int .u8 0, .int .u32 0, .int .u32 0, .string ⟨#[]⟩], .int .i64 0, .bool false]) ?_ rfl ⟨rfl, (Below.refl _ w).alloc (Nat.le_refl _) _⟩
  simp [results, Try.results20, go_sem]

set_option maxHeartbeats 1000000 in
set_option maxRecDepth 100000 in
theorem first_bad (g off n c : Nat) (hn : 19 ≤ n) (x : Int) (hx : (x != 66) = true) (w : World) (hc : (w.alloc (.cells #[.int .u8 0, .int .u8 0, .int .u8 0, .int .u32 0, .int .u32 0, .string ⟨#[]⟩] 25)).cell? ⟨g, off, none⟩ = some (.int .u8 x)) :
    Calls Try.prog 20 #[.slice (some ⟨g, off, none⟩) n c] w fun x w' => x = .returned (.tuple #[.agg #[.int .u8 0, .int .u8 0, .int .u8 0, .int .u32 0, .int .u32 0, .string ⟨#[]⟩], .int .i64 0, .bool false]) ∧ Below w.heap.size w w' := by
  go_enter Try.func20, Try.ntmps20
  go_wp2_with fail
  refine bodyPost_ret (v := .tuple #[.agg #[.int .u8 0, .int .u8 0, .int .u8 0, .int .u32 0, .int .u32 0, .string ⟨#[]⟩], .int .i64 0, .bool false]) ?_ rfl ⟨rfl, (Below.refl _ w).alloc (Nat.le_refl _) _⟩
  simp [results, Try.results20, go_sem]

/-- Four bytes are the number. -/
theorem le_back (N : Nat) (hN : N < 4294967296) : leN (fun j => N / 256 ^ j % 256) 4 = N := by
  simp only [leN]
  omega
theorem low_at (N j : Nat) (hj : j < 4) : (lowB N 4)[j]? = some (UInt8.ofNat (N / 256 ^ j % 256)) := by
  have h : lowB N 4 = [UInt8.ofNat (N / 256 ^ 0 % 256), UInt8.ofNat (N / 256 ^ 1 % 256), UInt8.ofNat (N / 256 ^ 2 % 256), UInt8.ofNat (N / 256 ^ 3 % 256)] := rfl
  rw [h]
  match j, hj with
  | 0, _ => rfl
  | 1, _ => rfl
  | 2, _ => rfl
  | 3, _ => rfl
theorem cell_of (L : List UInt8) (j : Nat) (c : UInt8) (v : Nat) (h : L[j]? = some c) (hv : c.toNat = v) : (cellsOf L)[j]? = some (.int .u8 (v : Int)) := by
  simp [cellsOf, h, hv]
theorem ofNat_nat (n : Nat) (h : n < 256) : (UInt8.ofNat n).toNat = n := by
  rw [UInt8.toNat_ofNat']
  omega

/-- The head, byte by byte. -/
theorem encH_list (k f t e s : Nat) (l : List UInt8) : encH k f t e s l = 66 :: 87 :: UInt8.ofNat k :: UInt8.ofNat f :: UInt8.ofNat t :: (lowB e 4 ++ (lowB s 4 ++ (UInt8.ofNat (l.length % 256) :: UInt8.ofNat (l.length / 256 % 256) :: l))) := by
  simp [encH]

theorem read_low (g off m c N : Nat) (hN : N < 4294967296) (hm : 4 ≤ m) (X : World) (h : ∀ j, j < 4 → X.cell? ⟨g, off + j, none⟩ = (cellsOf (lowB N 4))[j]?) :
    Calls Try.prog 23 #[.slice (some ⟨g, off, none⟩) m c] X fun x w' => x = .returned (.int .u32 N) ∧ X = w' := by
  have hh := read_any g off m c (fun j => N / 256 ^ j % 256) (fun j => Nat.mod_lt _ (by omega)) hm X (fun j hj => by rw [h j hj]; exact cell_of _ j _ _ (low_at N j hj) (byte_nat _))
  rw [le_back N hN] at hh
  exact hh

set_option maxHeartbeats 1000000 in
theorem first_ok (g off n c k f t e s : Nat) (b : ByteArray) (rest : List UInt8) (w : World) (hg : g < w.heap.size) (hk : k < 256) (hf : f < 256) (ht : t < 256) (he : e < 4294967296) (hs : s < 4294967296) (hb : b.size ≤ 16384)
    (hn : n = (encB k f t e s b.data.toList ++ rest).length) (hnc : n ≤ c) (hn1 : n ≤ 100000) (hc : ∀ j, j < n → w.cell? ⟨g, off + j, none⟩ = (cellsOf (encB k f t e s b.data.toList ++ rest))[j]?) :
    Calls Try.prog 20 #[.slice (some ⟨g, off, none⟩) n c] w fun x w' => x = .returned (.tuple #[.agg #[.int .u8 k, .int .u8 f, .int .u8 t, .int .u32 e, .int .u32 s, .string b], .int .i64 ((19 + b.size : Nat) : Int), .bool (rightP k f t s b.size)]) ∧ Below w.heap.size w w' := by
  have hbl : b.data.toList.length = b.size := (Lib.size_eq b).symm
  have hHl := encH_length k f t e s b.data.toList
  rw [hbl] at hHl
  have hL : encB k f t e s b.data.toList ++ rest = encH k f t e s b.data.toList ++ (lowB (foldN (encH k f t e s b.data.toList)) 4 ++ rest) := by simp [encB]
  rw [hL] at hn hc
  have hnn : n = 15 + b.size + (4 + rest.length) := by rw [hn]; simp [hHl, lowB_length]
  have hZ : ∀ X, Same (w.alloc (.cells #[.int .u8 0, .int .u8 0, .int .u8 0, .int .u32 0, .int .u32 0, .string ⟨#[]⟩] 25)) X → ∀ i, X.cell? ⟨g, i, none⟩ = w.cell? ⟨g, i, none⟩ := fun X hX i => (same_cell hX _).trans (((Below.refl w.heap.size w).alloc (Nat.le_refl _) (.cells #[.int .u8 0, .int .u8 0, .int .u8 0, .int .u32 0, .int .u32 0, .string ⟨#[]⟩] 25)).cell (p := ⟨g, i, none⟩) hg)
  have hH : ∀ j, j < 15 + b.size → w.cell? ⟨g, off + j, none⟩ = (cellsOf (encH k f t e s b.data.toList))[j]? := fun j hj => by
    rw [hc j (by omega), cells_app, List.getElem?_append_left (by rw [cells_length]; omega)]
  have hF : ∀ j, j < 4 → w.cell? ⟨g, off + (15 + b.size) + j, none⟩ = (cellsOf (lowB (foldN (encH k f t e s b.data.toList)) 4))[j]? := fun j hj => by
    have h := hc (15 + b.size + j) (by omega)
    rw [← Nat.add_assoc] at h
    rw [h, cells_app, List.getElem?_append_right (by rw [cells_length]; omega), cells_app, List.getElem?_append_left (by rw [cells_length, cells_length, lowB_length]; omega), cells_length]
    congr 1
    omega
  have hlist := encH_list k f t e s b.data.toList
  have h13 : ∀ j c', (encH k f t e s b.data.toList)[j]? = some c' → j < 15 + b.size → w.cell? ⟨g, off + j, none⟩ = some (.int .u8 (c'.toNat : Int)) := fun j c' h hj => by
    rw [hH j hj]
    exact cell_of _ j c' _ h rfl
  have hE5 : ∀ j, j < 4 → (encH k f t e s b.data.toList)[5 + j]? = (lowB e 4)[j]? := fun j hj => by
    rw [hlist]
    have : lowB e 4 = [UInt8.ofNat (e / 256 ^ 0 % 256), UInt8.ofNat (e / 256 ^ 1 % 256), UInt8.ofNat (e / 256 ^ 2 % 256), UInt8.ofNat (e / 256 ^ 3 % 256)] := rfl
    rw [this]
    match j, hj with
    | 0, _ => rfl
    | 1, _ => rfl
    | 2, _ => rfl
    | 3, _ => rfl
  have hS9 : ∀ j, j < 4 → (encH k f t e s b.data.toList)[9 + j]? = (lowB s 4)[j]? := fun j hj => by
    rw [hlist]
    have h1 : lowB e 4 = [UInt8.ofNat (e / 256 ^ 0 % 256), UInt8.ofNat (e / 256 ^ 1 % 256), UInt8.ofNat (e / 256 ^ 2 % 256), UInt8.ofNat (e / 256 ^ 3 % 256)] := rfl
    have h2 : lowB s 4 = [UInt8.ofNat (s / 256 ^ 0 % 256), UInt8.ofNat (s / 256 ^ 1 % 256), UInt8.ofNat (s / 256 ^ 2 % 256), UInt8.ofNat (s / 256 ^ 3 % 256)] := rfl
    rw [h1, h2]
    match j, hj with
    | 0, _ => rfl
    | 1, _ => rfl
    | 2, _ => rfl
    | 3, _ => rfl
  have hB15 : ∀ j, (encH k f t e s b.data.toList)[15 + j]? = b.data.toList[j]? := fun j => by
    have h3 : encH k f t e s b.data.toList = (five k f t ++ lowB e 4 ++ lowB s 4 ++ two b.size) ++ b.data.toList := (encH_eq k f t e s b).symm
    have h4 : (five k f t ++ lowB e 4 ++ lowB s 4 ++ two b.size).length = 15 := by simp [five, two, lowB_length]
    rw [h3, List.getElem?_append_right (by omega), h4]
    congr 1
    omega
  have hp13 : (encH k f t e s b.data.toList)[13]? = some (UInt8.ofNat (b.size % 256)) := by rw [hlist, hbl]; rfl
  have hp14 : (encH k f t e s b.data.toList)[14]? = some (UInt8.ofNat (b.size / 256 % 256)) := by rw [hlist, hbl]; rfl
  have hw : ∀ i, (w.alloc (.cells #[.int .u8 0, .int .u8 0, .int .u8 0, .int .u32 0, .int .u32 0, .string ⟨#[]⟩] 25)).cell? ⟨g, i, none⟩ = w.cell? ⟨g, i, none⟩ := hZ _ (same_refl _)
  have hcore := first_core g off n c (15 + b.size) (b.size % 256) (b.size / 256 % 256) k f t e s (foldN (encH k f t e s b.data.toList)) b w (by omega) hnc hn1 (by omega) (by omega) (by omega) (by omega)
    (by rw [hw]; exact h13 0 66 (by rw [hlist]; rfl) (by omega))
    (by rw [hw]; exact h13 1 87 (by rw [hlist]; rfl) (by omega))
    (by rw [hw, h13 2 (UInt8.ofNat k) (by rw [hlist]; rfl) (by omega), ofNat_nat k hk])
    (by rw [hw, h13 3 (UInt8.ofNat f) (by rw [hlist]; rfl) (by omega), ofNat_nat f hf])
    (by rw [hw, h13 4 (UInt8.ofNat t) (by rw [hlist]; rfl) (by omega), ofNat_nat t ht])
    (by rw [hw, h13 13 _ hp13 (by omega), byte_nat])
    (by rw [hw, h13 14 _ hp14 (by omega), byte_nat])
    (fun X c' hX => by
      have h := fold_bytes g off c' (encH k f t e s b.data.toList) (by omega) X (fun j hj => by rw [hZ X hX]; exact hH j (by omega))
      rw [hHl] at h
      exact h)
    (fun X m c' hX hm => read_low g (off + (15 + b.size)) m c' _ (foldN_lt _) hm X (fun j hj => by rw [hZ X hX]; exact hF j hj))
    (fun X m c' hX hm => read_low g (off + 5) m c' e he hm X (fun j hj => by
      rw [hZ X hX, Nat.add_assoc, hH (5 + j) (by omega)]
      simp only [cellsOf, List.getElem?_map, hE5 j hj]))
    (fun X m c' hX hm => read_low g (off + 9) m c' s hs hm X (fun j hj => by
      rw [hZ X hX, Nat.add_assoc, hH (9 + j) (by omega)]
      simp only [cellsOf, List.getElem?_map, hS9 j hj]))
    (fun X c' hX => by
      have h := run_convert_bytes_back (P := Try.prog) X 27 9 5 ⟨g, off + 15, none⟩ c' b.data.toList Try.underlying27 Try.underlying5 Try.underlying9 (fun j hj => by
        have h1 : (⟨g, off + 15, none⟩ : Addr).add j = ⟨g, off + 15 + j, none⟩ := Go.WideShapes.add_plain _ _ _
        rw [h1, hZ X hX, Nat.add_assoc]
        exact h13 (15 + j) _ (by rw [hB15 j, List.getElem?_eq_getElem hj]) (by omega))
      rw [hbl, Lib.mk_data] at h
      rw [show 15 + b.size - 15 = b.size from by omega]
      exact h)
  rw [show 15 + b.size + 4 = 19 + b.size from by omega, show 15 + b.size - 15 = b.size from by omega] at hcore
  exact hcore
end Go.Proofs.Ytppphdflpacimaa
