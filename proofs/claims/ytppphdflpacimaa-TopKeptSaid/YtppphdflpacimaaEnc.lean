/- Encode: a packet's bytes. -/
import Derived.Test.YtppphdflpacimaaPack
import Derived.Lib.Strings
namespace Go.Proofs.Ytppphdflpacimaa
open Go.RowKit

/-- What stands ahead of the check sum. -/
def encH (k f t e s : Nat) (body : List UInt8) : List UInt8 := [66, 87, UInt8.ofNat k, UInt8.ofNat f, UInt8.ofNat t] ++ lowB e 4 ++ lowB s 4 ++ [UInt8.ofNat (body.length % 256), UInt8.ofNat (body.length / 256 % 256)] ++ body

theorem bufW_pcell {w0 X : World} {B bb pb : Nat} {pc : List Value} {xs : List UInt8} (h : BufW w0 B bb pb pc xs X) (i : Nat) : X.cell? ⟨pb, i, none⟩ = pc[i]? := by
  obtain ⟨v, hv, ho, hp, hb, hB⟩ := h
  exact h9_cell hp i
theorem bufW_start (w : World) (pc pc' : List Value) (o : Obj) : BufW w w.heap.size (w.heap.size + 1 + 1) w.heap.size pc [] ((((w.alloc (.cells pc.toArray 25)).alloc (.cells pc'.toArray 25)).alloc (.cells #[.slice none 0 0] 47)).alloc o) := by
  refine ⟨.slice none 0 0, ?_, World.ownsRow_nil _ _ _ _, ?_, ?_, by omega⟩
  · have h := h9_alloc (h9_new ((w.alloc (.cells pc.toArray 25)).alloc (.cells pc'.toArray 25)) 47 [.slice none 0 0]) o
    simpa using h
  · exact h9_alloc (h9_alloc (h9_alloc (h9_new w 25 pc) _) _) _
  · exact ((((Below.refl w.heap.size w).alloc (Nat.le_refl _) _).alloc (by simp) _).alloc (by simp; omega) _).alloc (by simp; omega) _
theorem news_block (Y : World) (cs : List Value) (t : TypeId) (n : Nat) (hn : n = Y.heap.size) (o : Obj) (ho : o = .cells cs.toArray t) : ∀ j u, cs[j]? = some u → (Y.alloc o).cell? ((⟨n, 0, none⟩ : Addr).add j) = some u := by
  subst hn
  subst ho
  have h := World.news_of_block (heap_alloc_new Y (.cells cs.toArray t))
  simpa using h

/-- The first five bytes. -/
def five (k f t : Nat) : List UInt8 := [66, 87, UInt8.ofNat k, UInt8.ofNat f, UInt8.ofNat t]
theorem five_cells (k f t : Nat) (hk : k < 256) (hf : f < 256) (ht : t < 256) : cellsOf (five k f t) = [.int .u8 66, .int .u8 87, .int .u8 k, .int .u8 f, .int .u8 t] := by
  have h : ∀ n : Nat, n < 256 → (UInt8.ofNat n).toNat = n := by intro n hn; rw [UInt8.toNat_ofNat']; omega
  simp only [cellsOf, five, List.map_cons, List.map_nil, h k hk, h f hf, h t ht]
  rfl

/-- The two bytes of a length. -/
def two (n : Nat) : List UInt8 := [UInt8.ofNat (n % 256), UInt8.ofNat (n / 256 % 256)]
theorem two_cells (n : Nat) : cellsOf (two n) = [.int .u8 ((n : Int) % 256), .int .u8 ((n : Int) / 256 % 256)] := by
  simp only [cellsOf, two, List.map_cons, List.map_nil, byte_nat]
  simp

theorem bufW_drew {w0 X : World} {B bb pb : Nat} {pc : List Value} {xs : List UInt8} (h : BufW w0 B bb pb pc xs X) : BufW w0 B bb pb pc xs X.drew := by
  obtain ⟨v, hv, ho, hp, hb, hB⟩ := h
  exact ⟨v, hv, ⟨ho.1, ho.2⟩, hp, hb.drew, hB⟩

theorem conv_body (X : World) (b : ByteArray) {w0 : World} {B bb pb : Nat} {pc : List Value} {xs : List UInt8} (h : BufW w0 B bb pb pc xs X) :
    ∃ G Y, (convert 9 27 (.string b)).run Try.prog X = .ok (.slice (some ⟨X.heap.size, 0, none⟩) b.size G) Y ∧ BufW w0 B bb pb pc xs Y ∧ ∀ j u, (cellsOf b.data.toList)[j]? = some u → Y.cell? ((⟨X.heap.size, 0, none⟩ : Addr).add j) = some u := by
  refine ⟨_, _, run_bytes_of_string X 9 27 5 b Try.underlying9 Try.underlying27 Try.underlying5, bufW_alloc (bufW_drew h) _, ?_⟩
  intro j u hu
  obtain ⟨hj, he⟩ := List.getElem?_eq_some_iff.1 hu
  have hj' : j < b.data.size := by simpa [cellsOf] using hj
  have hat := bytesRow_at b (grownCap X b.size 0 5) j hj'
  have hnew : (X.drew.alloc (.cells (bytesRow b (grownCap X b.size 0 5)) 5 ((bytesRow b (grownCap X b.size 0 5)).size, (bytesRow b (grownCap X b.size 0 5)).size + 1))).heap[X.heap.size]? = some (.cells (bytesRow b (grownCap X b.size 0 5)) 5 ((bytesRow b (grownCap X b.size 0 5)).size, (bytesRow b (grownCap X b.size 0 5)).size + 1)) := heap_alloc_new X.drew _
  have hc := cell_of_row _ X.heap.size j _ _ _ hnew
  rw [show (⟨X.heap.size, 0, none⟩ : Addr).add j = ⟨X.heap.size, j, none⟩ from by simp [Addr.add]; exact fun h => h.symm, hc, hat, ← he]
  simp [cellsOf]

/-- The bytes as whole numbers, and their check sum. -/
def intsOf (l : List UInt8) : List Int := l.map (fun c => (c.toNat : Int))
def foldN (l : List UInt8) : Nat := (foldS (intsOf l)).toNat
theorem foldS_range (l : List Int) : 0 ≤ foldS l ∧ foldS l < 4294967296 := by
  have h : ∀ (l : List Int) (x : Int), 0 ≤ x → x < 4294967296 → 0 ≤ l.foldl foldStep x ∧ l.foldl foldStep x < 4294967296 := by
    intro l
    induction l with
    | nil => intro x h0 h1; exact ⟨h0, h1⟩
    | cons c l ih =>
      intro x _ _
      exact ih _ (by unfold foldStep; omega) (by unfold foldStep; omega)
  exact h l _ (by omega) (by omega)
theorem foldN_eq (l : List UInt8) : foldS (intsOf l) = (foldN l : Int) := by
  have := foldS_range (intsOf l)
  unfold foldN
  omega
theorem foldN_lt (l : List UInt8) : foldN l < 4294967296 := by
  have := foldS_range (intsOf l)
  unfold foldN
  omega

theorem bytes_of_cells {X : World} {g off : Nat} {l : List UInt8} (h : ∀ j, j < l.length → X.cell? ⟨g, off + j, none⟩ = (cellsOf l)[j]?) : Bytes X g off (intsOf l) := by
  intro k hk
  have hk' : k < l.length := by simpa [intsOf] using hk
  have e : (intsOf l).getD k 0 = (l[k].toNat : Int) := by simp [intsOf, List.getD_eq_getElem?_getD, hk']
  rw [e]
  refine ⟨?_, by omega, by have := l[k].toNat_lt; omega⟩
  rw [h k hk']
  simp [cellsOf, hk']

theorem fold_bytes (g off c : Nat) (l : List UInt8) (hl : l.length ≤ 100000) (X : World) (h : ∀ j, j < l.length → X.cell? ⟨g, off + j, none⟩ = (cellsOf l)[j]?) :
    Calls Try.prog 14 #[.slice (some ⟨g, off, none⟩) l.length c] X fun e w' => e = .returned (.int .u32 (foldN l)) ∧ X = w' := by
  have hh := fold_some g off c (intsOf l) X (by simp [intsOf]; omega) (bytes_of_cells h)
  rw [foldN_eq, show (intsOf l).length = l.length from by simp [intsOf]] at hh
  exact hh

/-- The buffer's slice, known. -/
theorem bufW_open {w0 X : World} {B bb pb : Nat} {pc : List Value} {xs : List UInt8} (h : BufW w0 B bb pb pc xs X) (hx : 0 < xs.length) :
    ∃ g c, X.cell? ⟨bb, 0, none⟩ = some (.slice (some ⟨g, 0, none⟩) xs.length c) ∧ (∀ j, j < xs.length → X.cell? ⟨g, 0 + j, none⟩ = (cellsOf xs)[j]?) ∧ X.ownsRow B 5 1 (.slice (some ⟨g, 0, none⟩) xs.length c) xs.length (cellsOf xs) := by
  obtain ⟨v, hv, ho, hp, hb, hB⟩ := h
  obtain ⟨g, c, rfl, hg1, hg2⟩ := ho.form hx
  have c0 := h9_cell hv 0
  refine ⟨g, c, by simpa using c0, fun j hj => ?_, ho⟩
  rw [Nat.zero_add]
  exact ho.cellAt j (by omega)

/-- All the bytes of a packet. -/
def encB (k f t e s : Nat) (body : List UInt8) : List UInt8 := encH k f t e s body ++ lowB (foldN (encH k f t e s body)) 4
theorem encH_eq (k f t e s : Nat) (b : ByteArray) : ((((five k f t ++ lowB e 4) ++ lowB s 4) ++ two b.size) ++ b.data.toList) = encH k f t e s b.data.toList := by
  unfold encH five two
  rw [Lib.size_eq]
theorem encH_length (k f t e s : Nat) (l : List UInt8) : (encH k f t e s l).length = 15 + l.length := by
  simp [encH, lowB_length]
  omega

set_option maxHeartbeats 1000000 in
set_option maxRecDepth 100000 in
theorem encode_any (k f t e s : Nat) (b : ByteArray) (w : World) (hr : rightP k f t s b.size = true) (he : e < 4294967296) (hs : s < 4294967296) (hk : k < 256) (hf : f < 256) (ht : t < 256) :
    Calls Try.prog 4 #[.agg #[.int .u8 k, .int .u8 f, .int .u8 t, .int .u32 e, .int .u32 s, .string b]] w fun x w' => ∃ v, x = .returned (.tuple #[v, .int .i64 0]) ∧ w'.ownsRow w.heap.size 5 1 v (encB k f t e s b.data.toList).length (cellsOf (encB k f t e s b.data.toList)) ∧ Below w.heap.size w w' := by
  have HF := Lib.hid (five_cells k f t hk hf ht)
  have HE := Lib.hid he
  have HS := Lib.hid hs
  go_enter Try.func4, Try.ntmps4
  go_wp2_with fail
  refine (right_any k f t e s b _).mono ?_
  rintro x X ⟨rfl, rfl⟩
  rw [hr]
  go_wp2_with fail
  refine (wbyte_any w w.heap.size (w.heap.size + 1 + 1) w.heap.size 5 5 (pktC k f t e s b) [] (five k f t) ⟨w.heap.size + 1 + 1 + 1, 0, none⟩ _ (bufW_start w (pktC k f t e s b) (pktC k f t e s b) _) rfl (news_block _ _ 5 _ (by simp) _ (by rw [HF.out])) (by simp [five])).mono ?_
  rintro x X ⟨rfl, hX⟩
  have HX := Lib.hid (show BufW w w.heap.size (w.heap.size + 1 + 1) w.heap.size (pktC k f t e s b) (five k f t) X from hX)
  clear hX
  have p3 := bufW_pcell HX.out 3
  simp only [pktC, List.getElem?_cons_zero, List.getElem?_cons_succ] at p3
  go_wp2_with fail
  refine (wnumber_any w w.heap.size (w.heap.size + 1 + 1) w.heap.size (pktC k f t e s b) _ e HE.out X HX.out (by simp [five])).mono ?_
  rintro x X1 ⟨rfl, hX⟩
  have HX1 := Lib.hid hX
  clear hX p3 HX
  have p4 := bufW_pcell HX1.out 4
  simp only [pktC, List.getElem?_cons_zero, List.getElem?_cons_succ] at p4
  go_wp2_with fail
  refine (wnumber_any w w.heap.size (w.heap.size + 1 + 1) w.heap.size (pktC k f t e s b) _ s HS.out X1 HX1.out (by simp [five, lowB_length])).mono ?_
  rintro x X2 ⟨rfl, hX⟩
  have HX2 := Lib.hid hX
  clear hX p4 HX1
  have p5 := bufW_pcell HX2.out 5
  simp only [pktC, List.getElem?_cons_zero, List.getElem?_cons_succ] at p5
  go_wp2_with fail
  refine (wbyte_any w w.heap.size (w.heap.size + 1 + 1) w.heap.size 2 2 (pktC k f t e s b) _ (two b.size) ⟨X2.heap.size, 0, none⟩ _ (bufW_alloc HX2.out _) rfl (news_block _ _ 5 _ rfl _ (by rw [two_cells])) (by simp [five, two, lowB_length])).mono ?_
  rintro x X3 ⟨rfl, hX⟩
  have HX3 := Lib.hid hX
  clear hX p5 HX2
  have p5 := bufW_pcell HX3.out 5
  simp only [pktC, List.getElem?_cons_zero, List.getElem?_cons_succ] at p5
  have hbz : b.size ≤ 16384 := by simp only [rightP, decide_eq_true_eq] at hr; omega
  obtain ⟨G, X4, hcv, hX4, hnews⟩ := conv_body X3 b HX3.out
  have HX4 := Lib.hid hX4
  have HN := Lib.hid hnews
  have HBZ := Lib.hid hbz
  clear hX4 hnews HX3 hr
  go_wp2_with fail
  refine (wbyte_any w w.heap.size (w.heap.size + 1 + 1) w.heap.size b.size G (pktC k f t e s b) _ b.data.toList ⟨X3.heap.size, 0, none⟩ X4 HX4.out (Lib.size_eq b) HN.out (by have := HBZ.out; rw [Lib.size_eq] at this; simp [five, two, lowB_length]; omega)).mono ?_
  rintro x X5 ⟨rfl, hX⟩
  have HX5 := Lib.hid (show BufW w w.heap.size (w.heap.size + 1 + 1) w.heap.size (pktC k f t e s b) (encH k f t e s b.data.toList) X5 from by rw [← encH_eq]; exact hX)
  clear hX hcv HX4 HN p5
  obtain ⟨g, cp, q0, qc, _⟩ := bufW_open HX5.out (by rw [encH_length]; omega)
  have HL := Lib.hid (encH_length k f t e s b.data.toList)
  have hfold := fold_bytes g 0 cp _ (by have h1 := HL.out; have h2 := HBZ.out; rw [Lib.size_eq] at h2; omega) X5 qc
  have HFO := Lib.hid hfold
  have HFL := Lib.hid (foldN_lt (encH k f t e s b.data.toList))
  obtain ⟨hd, hhd⟩ : ∃ hd, hd = encH k f t e s b.data.toList := ⟨_, rfl⟩
  rw [← hhd] at q0 HX5 HL HFO HFL
  have HHD := Lib.hid hhd
  clear qc hfold hhd
  go_wp2_with fail
  refine HFO.out.mono ?_
  rintro x X6 ⟨rfl, hw⟩
  subst hw
  clear q0
  go_wp2_with fail
  refine (wnumber_any w w.heap.size (w.heap.size + 1 + 1) w.heap.size (pktC k f t e s b) hd _ HFL.out X5 HX5.out (by have h1 := HL.out; have h2 := HBZ.out; rw [Lib.size_eq] at h2; omega)).mono ?_
  rintro x X7 ⟨rfl, hX⟩
  obtain ⟨g7, c7, q7, qc7, qo7⟩ := bufW_open hX (by simp [lowB_length])
  obtain ⟨n7, hn7⟩ : ∃ n7, n7 = (hd ++ lowB (foldN hd) 4).length := ⟨_, rfl⟩
  rw [← hn7] at q7 qo7
  have HN7 := Lib.hid hn7
  have HO := Lib.hid qo7
  have HB := Lib.hid hX
  clear qc7 qo7 hX hn7
  go_wp2_with fail
  go_ret2
  refine ⟨_, rfl, ?_, ?_⟩
  · unfold encB
    rw [← HHD.out, ← HN7.out]
    exact HO.out
  · obtain ⟨v, hv, ho, hp, hb, hB⟩ := HB.out
    exact hb
end Go.Proofs.Ytppphdflpacimaa
