/- TopRow: of packets one behind the other each is cut off as it was. For every list of texts that can be read; no condition. -/
import Derived.Test.YtklibbmlkjlbiaaAll
namespace Go.Proofs.Ytklibbmlkjlbiaa
open Go.RowKit Go.Shelf

theorem all_any (T c : Nat) (A : Option Addr) (ps : List Pk) (hps : ∀ p ∈ ps, p.ok) (hT : T ≤ 100000) (hTc : T ≤ c) (w : World) (hL : Lies w.heap.size w A T (encs ps)) :
    Calls Try.prog 29 #[.slice A T c] w fun e W' => ∃ B d, e = .returned (.tuple #[.slice B ps.length d, .int .i64 T]) ∧ Below w.heap.size w W' :=
  (callsIn_wide (n := 6)).1 (all_in 6 (by omega) T c A ps hps hT hTc w hL)

theorem encode_pk (p : Pk) (hp : p.ok) (w : World) :
    Calls Try.prog 28 #[.agg #[.int .u8 2, .int .u8 0, .int .u8 p.t, .int .u32 0, .int .u32 p.s, .string p.b]] w fun x w' => ∃ v, x = .returned (.tuple #[v, .int .i64 0]) ∧ w'.ownsRow w.heap.size 5 1 v p.enc.length (cellsOf p.enc) ∧ Below w.heap.size w w' := by
  obtain ⟨h1, h2, h3, h4, h5⟩ := hp
  exact encode_any 2 0 p.t 0 p.s p.b w (by unfold rightP; rw [decide_eq_true_eq]; right; omega) (by omega) h4 (by omega) (by omega) (by omega)

/-- The k-th packet of the law. -/
def pkAt (k : Nat) (s : ByteArray) : Pk := ⟨k % 3 + 1, k + 1, s⟩
theorem pkAt_ok (k : Nat) (s : ByteArray) (hk : k < 8) (hs : s.size ≤ 500) : (pkAt k s).ok := ⟨by show 1 ≤ k % 3 + 1; omega, by show k % 3 + 1 ≤ 3; omega, by show 1 ≤ k + 1; omega, by show k + 1 < 4294967296; omega, hs⟩

theorem encode_row (k : Nat) (s : ByteArray) (hk : k < 8) (hs : s.size ≤ 500) (w : World) :
    Calls Try.prog 28 #[.agg #[.int .u8 2, .int .u8 0, .int .u8 ((k : Int) % 3 + 1), .int .u32 0, .int .u32 ((k : Int) + 1), .string s]] w fun x w' => ∃ g L c, x = .returned (.tuple #[.slice (some ⟨g, 0, none⟩) L c, .int .i64 0]) ∧ L = (pkAt k s).enc.length ∧ (∀ j u, (cellsOf (pkAt k s).enc)[j]? = some u → w'.cell? ((⟨g, 0, none⟩ : Addr).add j) = some u) ∧ Below w.heap.size w w' := by
  have h := encode_pk (pkAt k s) (pkAt_ok k s hk hs) w
  have e1 : (((pkAt k s).t : Nat) : Int) = (k : Int) % 3 + 1 := by show ((k % 3 + 1 : Nat) : Int) = _; omega
  have e2 : (((pkAt k s).s : Nat) : Int) = (k : Int) + 1 := by show ((k + 1 : Nat) : Int) = _; omega
  rw [e1, e2] at h
  refine h.mono ?_
  rintro x w' ⟨v, rfl, ho, hb⟩
  obtain ⟨g, c, rfl, hg1, hg2⟩ := ho.form (by rw [enc_length]; omega)
  refine ⟨g, _, c, rfl, rfl, fun j u hu => ?_, hb⟩
  obtain ⟨hj, _⟩ := List.getElem?_eq_some_iff.1 hu
  rw [cells_length] at hj
  rw [show (⟨g, 0, none⟩ : Addr).add j = ⟨g, 0 + j, none⟩ from Go.WideShapes.add_plain _ _ _, Nat.zero_add, ho.cellAt j (by omega)]
  exact hu

/-- The world while the packets are laid one behind the other. -/
def RowW (w : World) (v : Value) (ps : List Pk) (X : World) : Prop := X.ownsRow w.heap.size 5 1 v (encs ps).length (cellsOf (encs ps)) ∧ Below w.heap.size w X

theorem encs_le (ps : List Pk) (h : ∀ p ∈ ps, p.ok) : (encs ps).length ≤ 519 * ps.length := by
  induction ps with
  | nil => simp [encs]
  | cons p l ih =>
    have h1 := ih (fun q hq => h q (List.mem_cons_of_mem _ hq))
    have h2 := (h p (List.mem_cons_self)).2.2.2.2
    simp [encs, enc_length]
    omega

theorem str_cell {w X : World} {A : Option Addr} {n c j : Nat} {z : List ByteArray} (h : IsStrs w A n c z) (hb : Below w.heap.size w X) (hj : j < n) :
    ∃ b off s, A = some ⟨b, off, none⟩ ∧ X.cell? ⟨b, off + j, none⟩ = some (.string s) := by
  obtain ⟨hl, _, _, _, h0 | ⟨b, off, rfl, hbb, hcell⟩⟩ := h
  · omega
  · exact ⟨b, off, _, rfl, (hb.cell (p := ⟨b, off + j, none⟩) hbb).trans (hcell j hj)⟩

theorem rowW_app {w X Y Z : World} {v v' : Value} {ps : List Pk} {p : Pk} (h : RowW w v ps X) (hY : Below X.heap.size X Y) (ho : Z.ownsRow w.heap.size 5 1 v' ((encs ps).length + p.enc.length) (cellsOf (encs ps) ++ cellsOf p.enc)) (hg : Y.grownBy Z v.ownBlock) : RowW w v' (ps ++ [p]) Z := by
  have e : encs (ps ++ [p]) = encs ps ++ p.enc := by rw [encs_app]; simp [encs]
  have hr := h.1.kept (only_below hY none) (Classical.em _)
  refine ⟨?_, ?_⟩
  · rw [e, List.length_append, cells_app]; exact ho
  · have hb := h.2.trans (hY.mono h.2.size)
    exact hb.grown hg hb.size (fun k e => (hr.lt k e).1)

theorem rowW_lies {w X : World} {v : Value} {ps : List Pk} (h : RowW w v ps X) : ∃ A c, v = .slice A (encs ps).length c ∧ (encs ps).length ≤ c ∧ Lies X.heap.size X A (encs ps).length (encs ps) := by
  rcases h.1.2 with ⟨rfl, hx⟩ | ⟨g, cap, cur, rfl, hb, hg, hnc, _⟩
  · have h0 : (encs ps).length = 0 := by
      exact hx
    exact ⟨none, 0, by rw [h0], by omega, rfl, .inl h0⟩
  · refine ⟨_, cap, rfl, hnc, rfl, .inr ⟨g, rfl, (Array.getElem?_eq_some_iff.1 hg).1, fun j hj => ?_⟩⟩
    rw [Nat.zero_add]
    exact h.1.cellAt j (by omega)

set_option maxHeartbeats 2000000 in
set_option maxRecDepth 100000 in
theorem topRow_walk (A : Option Addr) (n c : Nat) (z : List ByteArray) (w : World) (hz : IsStrs w A n c z) :
    Calls Try.prog 9 #[.slice A n c] w fun e w' => e = .returned (.bool true) ∧ Below w.heap.size w w' := by
  have HZ := Lib.hid hz
  clear hz
  go_enter Try.func9, Try.ntmps9
  go_wp2_with fail
  go_loopw [3, 4, 5] (fun b m i X => ∃ (k : Nat) (ps : List Pk) (V : Value), k ≤ n ∧ k ≤ 8 ∧ ps.length ≤ k ∧ (∀ p ∈ ps, p.ok) ∧ V = b ∧ m = .int .i64 (ps.length : Int) ∧ i = .int .i64 k ∧ RowW w V ps X) (fun _ _ i _ => 8 - (intOf i).toNat)
  case atStart => exact ⟨0, [], _, Nat.zero_le _, Nat.zero_le _, Nat.le_refl _, by simp, rfl, rfl, rfl, World.ownsRow_nil _ _ _ _, Below.refl _ _⟩
  case round =>
    obtain ⟨k, ps, V, hk1, hk2, hpl, hok, hV, rfl, rfl, hX⟩ := hrel
    subst hV
    have HX := Lib.hid hX
    have HO := Lib.hid hok
    have HPL := Lib.hid hpl
    have hpl8 : (ps.length : Int) ≤ 8 := by omega
    have hpl0 : (0 : Int) ≤ (ps.length : Int) := by omega
    obtain ⟨q, hq⟩ : ∃ q, q = ps.length := ⟨_, rfl⟩
    rw [← hq] at hpl8 hpl0 ⊢
    have HQ := Lib.hid hq
    clear hX hok hpl hq
    by_cases hlt : k < n ∧ k < 8
    · obtain ⟨l1, l2⟩ := hlt
      obtain ⟨b, off, s, rfl, hsc⟩ := str_cell HZ.out HX.out.2 l1
      by_cases hs : s.size ≤ 500
      · have hs' : ¬ (500 < (s.size : Int)) := by omega
        have HEN := Lib.hid (encode_row k s l2 hs wr)
        have HPO := Lib.hid (pkAt_ok k s l2 hs)
        obtain ⟨i0, hi0, hz0, hz1, hz2⟩ := info_parts byteInfo
        have HI := Lib.hid hi0
        have HI1 := Lib.hid hz0
        have HI2 := Lib.hid hz1
        have HI3 := Lib.hid hz2
        have HEL := Lib.hid (encs_le ps HO.out)
        have HPB := Lib.hid (show (pkAt k s).enc.length ≤ 519 by rw [enc_length]; show 19 + s.size ≤ 519; omega)
        clear hi0 hz0 hz1 hz2
        go_wp2_with fail
        refine HEN.out.mono ?_
        rintro e Y ⟨g, L, cp, rfl, hL, hnews, hY⟩
        have HNW := Lib.hid hnews
        have HYB := Lib.hid hY
        have HRY := Lib.hid (HX.out.1.kept (only_below hY none) (Classical.em _))
        have HL := Lib.hid hL
        have hbs : w.heap.size ≤ Y.heap.size := Nat.le_trans HX.out.2.size hY.size
        clear hnews hY hL HEN
        go_wp2_with (at_builtin; refine wpList_append_own _ rfl (.tmp 44) (.tmp 45) 27 rfl w.heap.size 5 i0 _ 1 1 Try.underlying27 HI.out HI1.out HI2.out HI3.out rfl (by omega) V (encs ps).length (cellsOf (encs ps)) rfl HRY.out ⟨g, 0, none⟩ L cp (cellsOf (pkAt k s).enc) rfl (by rw [cells_length, HL.out]; omega) HNW.out (cells_one _) (by have h1 := HEL.out; have h2 := HPL.out; have h3 := HL.out; have h4 := HPB.out; unfold maxLen; omega) (by have h1 := HEL.out; have h2 := HPL.out; have h3 := HL.out; have h4 := HPB.out; omega) hbs ?_; intro v' Z hown' hgrow _; have HZ2 := Lib.hid (show RowW w v' (ps ++ [pkAt k s]) Z from rowW_app HX.out HYB.out (by rw [← HL.out]; exact hown') hgrow); clear hown' hgrow HRY)
        go_roundw
        case rel =>
          refine ⟨k + 1, ps ++ [pkAt k s], v', by omega, by omega, by have := HPL.out; simp; omega, ?_, rfl, by rw [HQ.out]; simp, by go_num, HZ2.out⟩
          intro p hp
          rcases List.mem_append.1 hp with h | h
          · exact HO.out p h
          · rw [List.mem_singleton.1 h]; exact HPO.out
        case measure => simp [intOf]; omega
      · have hs' : 500 < (s.size : Int) := by omega
        go_wp2_with fail
        go_roundw
        case rel => exact ⟨k + 1, ps, V, by omega, by omega, by have := HPL.out; omega, HO.out, rfl, by rw [HQ.out], by go_num, HX.out⟩
        case measure => simp [intOf]; omega
    · have hend : n ≤ k ∨ (k < n ∧ 8 ≤ k) := by omega
      clear hlt
      have hTl := encs_le ps HO.out
      obtain ⟨A', c', rfl, hTc, hL⟩ := rowW_lies HX.out
      have hall := all_any (encs ps).length c' A' ps HO.out (by have := HPL.out; omega) hTc wr hL
      rw [← HQ.out] at hall
      have HA := Lib.hid hall
      clear hall hL
      obtain ⟨T, hT⟩ : ∃ T, T = (encs ps).length := ⟨_, rfl⟩
      rw [← hT] at HA hTc hTl ⊢
      have HT := Lib.hid hT
      clear hT
      rcases hend with hl1 | ⟨hl1, hl2⟩
      all_goals
        go_wp2_with fail
        refine HA.out.mono ?_
        rintro e Y ⟨B', d', rfl, hY⟩
        have HY := Lib.hid (HX.out.2.trans (hY.mono HX.out.2.size))
        clear hY
        go_wp2_with fail
        refine (right_any 1 1 0 0 1 ⟨#[]⟩ Y).mono ?_
        rintro e X2 ⟨rfl, rfl⟩
        rw [show rightP 1 1 0 1 (⟨#[]⟩ : ByteArray).size = true from by decide]
        go_wp2_with fail
        go_ret
        exact ⟨rfl, HY.out.alloc HY.out.size _⟩
end Go.Proofs.Ytklibbmlkjlbiaa
