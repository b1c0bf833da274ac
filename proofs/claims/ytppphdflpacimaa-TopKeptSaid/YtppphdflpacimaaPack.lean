/- The package frame: a buffer that grows by bytes, a packet's bytes, and what the first packet of bytes is. -/
import Derived.Test.YtppphdflpacimaaBits
import Derived.Test.YtppphdflpacimaaMem
import Derived.WalkMore
import Derived.Laws.IdiomStrings
import Derived.WalkSpells
import Derived.Deep.RegionWith
import Derived.Deep.RegionHeld3
namespace Go.Proofs.Ytppphdflpacimaa
open Go.RowKit

/-- Bytes as cells. -/
def cellsOf (l : List UInt8) : List Value := l.map (fun c => .int .u8 (c.toNat : Int))

theorem byteInfo : (Try.prog.info? 5).map (fun i => (i.zero, i.size, i.bytes)) = some (some (.int .u8 0), 1, 1) := by kernel_rfl

/-- Which packets are right. -/
def rightP (k f t s : Int) (n : Nat) : Bool := decide ((k = 1 ∧ t = 0 ∧ 1 ≤ f ∧ f ≤ 3 ∧ 0 < s ∧ n ≤ 16384) ∨ (k = 2 ∧ f = 0 ∧ 1 ≤ t ∧ t ≤ 3 ∧ 0 < s ∧ n ≤ 16384))

/-- A packet as a value, and as cells. -/
def pktC (k f t e s : Int) (b : ByteArray) : List Value := [.int .u8 k, .int .u8 f, .int .u8 t, .int .u32 e, .int .u32 s, .string b]

set_option maxHeartbeats 1000000 in
set_option maxRecDepth 100000 in
theorem right_any (k f t e s : Int) (b : ByteArray) (w : World) :
    Calls Try.prog 5 #[.agg #[.int .u8 k, .int .u8 f, .int .u8 t, .int .u32 e, .int .u32 s, .string b]] w fun x w' => x = .returned (.bool (rightP k f t s b.size)) ∧ w.alloc (.cells #[.int .u8 k, .int .u8 f, .int .u8 t, .int .u32 e, .int .u32 s, .string b] 25) = w' := by
  go_enter Try.func5, Try.ntmps5
  go_wp2_with fail
  all_goals
    go_ret
    refine ⟨?_, rfl⟩
    simp_all [rightP]
  all_goals omega

/-- The buffer at block bb holds the bytes xs; the packet's own block pb holds pc; below B nothing has turned. -/
def BufW (w0 : World) (B bb pb : Nat) (pc : List Value) (xs : List UInt8) (X : World) : Prop :=
  ∃ v, Holds9 X bb 47 [v] ∧ X.ownsRow B 5 1 v xs.length (cellsOf xs) ∧ Holds9 X pb 25 pc ∧ Below B w0 X ∧ B ≤ bb

theorem cells_one (l : List UInt8) : ∀ u ∈ cellsOf l, u.oneCell' = true := by
  intro u hu
  obtain ⟨c, _, rfl⟩ := List.mem_map.1 hu
  rfl
theorem cells_length (l : List UInt8) : (cellsOf l).length = l.length := by simp [cellsOf]
theorem cells_app (a b : List UInt8) : cellsOf (a ++ b) = cellsOf a ++ cellsOf b := by simp [cellsOf]
theorem own_shape9 {X : World} {base e size n : Nat} {v : Value} {xs : List Value} (h : X.ownsRow base e size v n xs) : ∃ A c, v = .slice A n c := by
  rcases h.2 with ⟨rfl, rfl⟩ | ⟨g, cap, cur, rfl, _⟩
  · exact ⟨none, 0, rfl⟩
  · exact ⟨_, cap, rfl⟩
theorem bufW_app {w0 X Z : World} {B bb pb : Nat} {pc : List Value} {xs ys : List UInt8} {v v' : Value} (h1 : Holds9 X bb 47 [v]) (h2 : X.ownsRow B 5 1 v xs.length (cellsOf xs)) (h3 : Holds9 X pb 25 pc) (h4 : Below B w0 X) (hB : B ≤ bb)
    (ho : Z.ownsRow B 5 1 v' (xs.length + ys.length) (cellsOf xs ++ cellsOf ys)) (hg : X.grownBy Z v.ownBlock) : BufW w0 B bb pb pc (xs ++ ys) (Z.setCell ⟨bb, 0, none⟩ v') := by
  have hbX : B ≤ X.heap.size := Nat.le_trans hB (Nat.le_of_lt (h9_lt h1))
  have k1 := h9_grown h1 hg (Ne.symm (h9_own h2 h1 (by decide)))
  have k3 := h9_grown h3 hg (Ne.symm (h9_own h2 h3 (by decide)))
  have kb : Below B w0 Z := h4.grown hg hbX (fun j e => (h2.lt j e).1)
  have hne := h9_own ho k1 (by decide)
  refine ⟨v', h9_set k1 0 v', ?_, h9_far k3 (p := ⟨bb, 0, none⟩) (h9_ne k3 k1 (by decide)) _, kb.setCell (p := ⟨bb, 0, none⟩) hB _, hB⟩
  rw [List.length_append, cells_app]
  exact ho.kept (only_set (World.grownBy.refl Z (some bb)) (.inl rfl) v') (.inr hne)

set_option maxHeartbeats 1000000 in
set_option maxRecDepth 100000 in
theorem wbyte_any (w0 : World) (B bb pb n c : Nat) (pc : List Value) (xs ys : List UInt8) (a : Addr) (w : World) (h : BufW w0 B bb pb pc xs w) (hn : n = ys.length) (hnews : ∀ j u, (cellsOf ys)[j]? = some u → w.cell? (a.add j) = some u) (hlen : xs.length + ys.length ≤ 100000) :
    Calls Try.prog 12 #[.pointer (some ⟨bb, 0, none⟩), .slice (some a) n c] w fun e w' => e = .returned (.tuple #[]) ∧ BufW w0 B bb pb pc (xs ++ ys) w' := by
  obtain ⟨v, hv, ho, hp, hb, hB⟩ := h
  have HO := Lib.hid ho
  have HV := Lib.hid hv
  have HP := Lib.hid hp
  have HB := Lib.hid hb
  have HN := Lib.hid hnews
  have HY := Lib.hid (cells_length ys)
  have hbX : B ≤ w.heap.size := Nat.le_trans hB (Nat.le_of_lt (h9_lt hv))
  obtain ⟨i0, hi0, hz0, hz1, hz2⟩ := info_parts byteInfo
  have HI := Lib.hid hi0
  have HI1 := Lib.hid hz0
  have HI2 := Lib.hid hz1
  have HI3 := Lib.hid hz2
  have c0 := h9_cell hv 0
  have f0 := h9_free hv 0
  simp only [List.getElem?_cons_zero] at c0
  clear hi0 hz0 hz1 hz2 hv ho hp hb hnews
  subst hn
  go_enter Try.func12, Try.ntmps12
  go_wp2_with (at_builtin; refine wpList_append_own _ rfl (.tmp 8) (.tmp 9) 27 rfl B 5 i0 _ 1 1 Try.underlying27 HI.out HI1.out HI2.out HI3.out rfl (by omega) v xs.length (cellsOf xs) rfl HO.out a ys.length c (cellsOf ys) rfl (by rw [HY.out]; omega) HN.out (cells_one ys) (by unfold maxLen; omega) (by omega) hbX ?_; intro v' Z hown' hgrow _; obtain ⟨A', c', rfl⟩ := own_shape9 hown'; have hZ1 := h9_grown HV.out hgrow (Ne.symm (h9_own HO.out HV.out (by decide))); have z0 := h9_cell hZ1 0; have zf := h9_free hZ1 0; simp only [List.getElem?_cons_zero] at z0; have HZ := Lib.hid (bufW_app HV.out HO.out HP.out HB.out hB hown' hgrow); clear hZ1 hown' hgrow)
  exact ⟨rfl, _, results_none rfl _ _ _, rfl, HZ.out⟩

/-- The k lowest bytes of a number. -/
def lowB (n : Nat) : Nat → List UInt8
  | 0 => []
  | k + 1 => lowB n k ++ [UInt8.ofNat (n / 256 ^ k % 256)]
theorem lowB_length (n k : Nat) : (lowB n k).length = k := by
  induction k with
  | zero => rfl
  | succ k ih => simp [lowB, ih]
theorem byte_nat (n : Nat) : (UInt8.ofNat (n % 256)).toNat = n % 256 := by
  rw [UInt8.toNat_ofNat']
  omega

theorem one_news9 (Y : World) (u : Value) (t : TypeId) : ∀ j x, [u][j]? = some x → (Y.alloc (.cells #[u] t)).cell? ((⟨Y.heap.size, 0, none⟩ : Addr).add j) = some x := by
  have h := World.news_of_block (heap_alloc_new Y (.cells #[u] t))
  simpa using h

theorem bufW_alloc {w0 X : World} {B bb pb : Nat} {pc : List Value} {xs : List UInt8} (h : BufW w0 B bb pb pc xs X) (o : Obj) : BufW w0 B bb pb pc xs (X.alloc o) := by
  obtain ⟨v, hv, ho, hp, hb, hB⟩ := h
  exact ⟨v, h9_alloc hv o, ho.alloc o, h9_alloc hp o, hb.alloc (Nat.le_trans hB (Nat.le_of_lt (h9_lt hv))) o, hB⟩

set_option maxHeartbeats 1000000 in
set_option maxRecDepth 100000 in
theorem wnumber_any (w0 : World) (B bb pb : Nat) (pc : List Value) (xs : List UInt8) (N : Nat) (hN : N < 4294967296) (w : World) (h : BufW w0 B bb pb pc xs w) (hlen : xs.length ≤ 90000) :
    Calls Try.prog 13 #[.pointer (some ⟨bb, 0, none⟩), .int .u32 N] w fun e w' => e = .returned (.tuple #[]) ∧ BufW w0 B bb pb pc (xs ++ lowB N 4) w' := by
  have H := Lib.hid h
  clear h
  go_enter Try.func13, Try.ntmps13
  go_wp2_with fail
  go_loopw [1, 4] (fun x i X => ∃ k : Nat, k ≤ 4 ∧ i = .int .i64 k ∧ x = .int .u32 ((N / 256 ^ k : Nat) : Int) ∧ BufW w0 B bb pb pc (xs ++ lowB N k) X) (fun _ i _ => 4 - (intOf i).toNat)
  case atStart => exact ⟨0, by omega, rfl, by simp, by simpa [lowB] using H.out⟩
  case round =>
    obtain ⟨k, hk, rfl, rfl, hX⟩ := hrel
    have HX := Lib.hid hX
    clear hX
    by_cases hlt : k < 4
    · obtain ⟨q, hq⟩ : ∃ q, q = N / 256 ^ k := ⟨_, rfl⟩
      have hq0 : q < 4294967296 := by rw [hq]; exact Nat.lt_of_le_of_lt (Nat.div_le_self _ _) hN
      rw [← hq]
      have HQ := Lib.hid hq
      clear hq
      have he : cellsOf [UInt8.ofNat (q % 256)] = [.int .u8 ((q : Int) % 256)] := by simp [cellsOf]
      have hnews : ∀ j u, (cellsOf [UInt8.ofNat (q % 256)])[j]? = some u → (wr.alloc (.cells #[.int .u8 ((q : Int) % 256)] 5)).cell? ((⟨wr.heap.size, 0, none⟩ : Addr).add j) = some u := by rw [he]; exact one_news9 wr _ 5
      have HNW := Lib.hid hnews
      have HLN := Lib.hid (show (xs ++ lowB N k).length + [UInt8.ofNat (q % 256)].length ≤ 100000 by simp [lowB_length]; omega)
      clear hnews he
      go_wp2_with fail
      refine (wbyte_any w0 B bb pb 1 1 pc (xs ++ lowB N k) [UInt8.ofNat (q % 256)] ⟨wr.heap.size, 0, none⟩ _ (bufW_alloc HX.out _) rfl HNW.out HLN.out).mono ?_
      rintro e Y ⟨rfl, hY⟩
      have HY := Lib.hid (show BufW w0 B bb pb pc (xs ++ lowB N (k + 1)) Y from by rw [lowB, ← List.append_assoc, ← HQ.out]; exact hY)
      clear hY
      go_wp2_with fail
      go_roundw
      case rel => exact ⟨k + 1, by omega, by go_num, by rw [HQ.out, Nat.pow_succ, ← Nat.div_div_eq_div_mul]; rfl, HY.out⟩
      case measure => simp [intOf]; omega
    · obtain rfl : k = 4 := by omega
      go_wp2_with fail
      go_end0
      exact ⟨rfl, HX.out⟩
end Go.Proofs.Ytppphdflpacimaa
