/- TopCalled: a call that is sent again and again is done once, and its answer is the first one. For every number of times and every list of bytes that can be read; no condition. -/
import Derived.Test.YtklibbmlkjlbiaaRpc
import Derived.Test.YtklibbmlkjlbiaaFrame
import Derived.Laws.IdiomStrings
import Derived.WalkSpells
namespace Go.Proofs.Ytklibbmlkjlbiaa
open Go.RowKit

/-- The request's cells. -/
def qC : List Value := [.int .u8 1, .int .u8 1, .int .u8 0, .int .u32 1, .int .u32 1, .string bodyQ]
/-- The answer's cells. -/
def aC : List Value := [.int .u8 2, .int .u8 0, .int .u8 1, .int .u32 1, .int .u32 1, .string bodyA]
/-- k packets alike, as cells. -/
def reps (c : List Value) : Nat → List Value
  | 0 => []
  | k + 1 => reps c k ++ c

theorem reps_length (c : List Value) (k : Nat) : (reps c k).length = k * c.length := by
  induction k with
  | zero => simp [reps]
  | succ k ih => simp [reps, ih, Nat.succ_mul]
theorem reps_get (c : List Value) (k i j : Nat) (hi : i < k) (hj : j < c.length) : (reps c k)[i * c.length + j]? = c[j]? := by
  induction k with
  | zero => omega
  | succ k ih =>
    have hl := reps_length c k
    unfold reps
    by_cases h : i < k
    · have : i * c.length + j < (reps c k).length := by
        rw [hl]
        have : (i + 1) * c.length ≤ k * c.length := Nat.mul_le_mul_right _ h
        rw [Nat.succ_mul] at this
        omega
      rw [List.getElem?_append_left this]
      exact ih h
    · obtain rfl : i = k := by omega
      rw [List.getElem?_append_right (by omega), hl, Nat.add_sub_cancel_left]

theorem pktInfo : (Try.prog.info? 48).map (fun i => (i.zero, i.size, i.bytes)) = some (some (.agg #[.int .u8 0, .int .u8 0, .int .u8 0, .int .u32 0, .int .u32 0, .string ⟨#[]⟩]), 6, 32) := by kernel_rfl

/-- A new caller's cells. -/
def newC : List Value := [.int .u8 1, .int .u8 1, .int .u8 0, .int .u32 1, .int .u32 0, .string ⟨#[]⟩, .bool false, .int .i64 0, .int .u64 0]

theorem newCaller_any (w : World) : Calls Try.prog 32 #[.int .u8 1, .int .u32 1] w fun x w' => x = .returned (.pointer (some ⟨w.heap.size, 0, none⟩)) ∧ w.alloc (.cells newC.toArray 90) = w' := by
  go_enter Try.func32, Try.ntmps32
  go_wp2
  go_ret
  exact ⟨rfl, rfl⟩

theorem newCallee_any (w : World) : Calls Try.prog 33 #[] w fun x w' => x = .returned (.pointer (some ⟨w.heap.size, 0, none⟩)) ∧ w.alloc (.cells (calleeC 0 0 0 ⟨#[]⟩).toArray 95) = w' := by
  go_enter Try.func33, Try.ntmps33
  go_wp2
  go_ret
  exact ⟨rfl, rfl⟩

theorem call_any (b : Nat) (w : World) (hh : Holds9 w b 90 newC) :
    Calls Try.prog 34 #[.pointer (some ⟨b, 0, none⟩), .string bodyQ] w fun x w' => x = .returned (.int .i64 0) ∧ w.grownBy w' (some b) ∧ Holds9 w' b 90 (callerC true 0 0) := by
  have c4 := h9_cell hh 4
  have c5 := h9_cell hh 5
  have c6 := h9_cell hh 6
  have c7 := h9_cell hh 7
  have c8 := h9_cell hh 8
  have f4 := h9_free hh 4
  have f5 := h9_free hh 5
  have f6 := h9_free hh 6
  have f7 := h9_free hh 7
  have f8 := h9_free hh 8
  have HS : (bodyQ.size : Int) = 5 := by decide
  simp only [newC, List.getElem?_cons_zero, List.getElem?_cons_succ] at c4 c5 c6 c7 c8
  have HH := Lib.hid hh
  clear hh
  go_enter Try.func34, Try.ntmps34
  go_wp2
  go_ret
  refine ⟨rfl, ?_, ?_⟩
  · repeat (refine only_set ?_ (.inl rfl) _)
    exact World.grownBy.refl w _
  · rw [show callerC true 0 0 = ((((newC.set 4 (.int .u32 1)).set 5 (.string bodyQ)).set 6 (.bool true)).set 7 (.int .i64 0)).set 8 (.int .u64 0) from rfl]
    refine h9_set ?_ 8 _
    refine h9_set ?_ 7 _
    refine h9_set ?_ 6 _
    refine h9_set ?_ 5 _
    exact h9_set HH.out 4 _

/-- When the last call was sent. -/
def lastOf (k : Nat) : Int := if k = 0 then 0 else 5 * ((k : Int) - 1)

/-- The world while the calls are sent. -/
def SendW (w : World) (k : Nat) (v : Value) (X : World) : Prop :=
  Holds9 X w.heap.size 90 (callerC true k (lastOf k)) ∧ Holds9 X (w.heap.size + 1) 95 (calleeC 0 0 0 ⟨#[]⟩) ∧ X.ownsRow (w.heap.size + 2) 48 6 v k (reps qC k) ∧ Below w.heap.size w X

theorem below_grow {b : Nat} {w X Y : World} (h : Below w.heap.size w X) (hg : X.grownBy Y (some b)) (hB : w.heap.size ≤ b) : Below w.heap.size w Y :=
  h.grown hg h.size (by rintro k e; cases e; exact hB)

theorem news_second (Y : World) (o : Obj) (cs : List Value) (t : TypeId) : ∀ j u, cs[j]? = some u → ((Y.alloc o).alloc (.cells cs.toArray t)).cell? ((⟨Y.heap.size + 1, 0, none⟩ : Addr).add j) = some u := by
  have h := World.news_of_block (heap_alloc_new (Y.alloc o) (.cells cs.toArray t))
  simpa using h

theorem qC_one : ∀ u ∈ qC, u.oneCell' = true := by
  intro u hu
  simp only [qC, List.mem_cons, List.not_mem_nil, or_false] at hu
  rcases hu with rfl | rfl | rfl | rfl | rfl | rfl <;> rfl
theorem aC_one : ∀ u ∈ aC, u.oneCell' = true := by
  intro u hu
  simp only [aC, List.mem_cons, List.not_mem_nil, or_false] at hu
  rcases hu with rfl | rfl | rfl | rfl | rfl | rfl <;> rfl

theorem sendW_start {w X Y : World} (hX : Below w.heap.size w X) (hE : Holds9 X (w.heap.size + 1) 95 (calleeC 0 0 0 ⟨#[]⟩)) (hg : X.grownBy Y (some w.heap.size)) (hh : Holds9 Y w.heap.size 90 (callerC true 0 0)) : SendW w 0 (.slice none 0 0) Y := by
  refine ⟨hh, ?_, World.ownsRow_nil _ _ _ _, ?_⟩
  · exact h9_grown hE hg (by intro e; injection e with e; omega)
  · exact below_grow hX hg (Nat.le_refl _)

theorem lastOf_succ (k : Nat) : lastOf (k + 1) = (k : Int) * 5 := by unfold lastOf; rw [if_neg (by omega)]; omega
theorem lastOf_nonneg (k : Nat) : 0 ≤ lastOf k := by unfold lastOf; split <;> omega
theorem lastOf_due (k : Nat) : (k : Int) = 0 ∨ lastOf k + 4 ≤ (k : Int) * 5 := by
  unfold lastOf
  split
  · left; omega
  · right; omega

/-- Behind a Tick. -/
theorem sendW_tick {w X Y : World} {k : Nat} {v : Value} (h : SendW w k v X) (hg : X.grownBy Y (some w.heap.size)) (hh : Holds9 Y w.heap.size 90 (callerC true ((k : Int) + 1) ((k : Int) * 5))) :
    Holds9 Y w.heap.size 90 (callerC true ((k + 1 : Nat) : Int) (lastOf (k + 1))) ∧ Holds9 Y (w.heap.size + 1) 95 (calleeC 0 0 0 ⟨#[]⟩) ∧ Y.ownsRow (w.heap.size + 2) 48 6 v k (reps qC k) ∧ Below w.heap.size w Y := by
  obtain ⟨h1, h2, h3, h4⟩ := h
  refine ⟨?_, ?_, ?_, ?_⟩
  · rw [lastOf_succ]; exact hh
  · exact h9_grown h2 hg (by intro e; injection e with e; omega)
  · exact h3.kept hg (.inr (h9_own h3 h1 (by decide)))
  · exact below_grow h4 hg (Nat.le_refl _)

/-- Behind an append. -/
theorem sendW_append {w Y Z : World} {k : Nat} {v v' : Value} {o1 o2 : Obj} (h1 : Holds9 Y w.heap.size 90 (callerC true ((k + 1 : Nat) : Int) (lastOf (k + 1)))) (h2 : Holds9 Y (w.heap.size + 1) 95 (calleeC 0 0 0 ⟨#[]⟩))
    (h3 : Y.ownsRow (w.heap.size + 2) 48 6 v k (reps qC k)) (h4 : Below w.heap.size w Y) (ho : Z.ownsRow (w.heap.size + 2) 48 6 v' (k + 1) (reps qC k ++ qC)) (hg : ((Y.alloc o1).alloc o2).grownBy Z v.ownBlock) : SendW w (k + 1) v' Z := by
  refine ⟨?_, ?_, ho, ?_⟩
  · exact h9_grown (h9_alloc (h9_alloc h1 _) _) hg (Ne.symm (h9_own h3 h1 (by decide)))
  · exact h9_grown (h9_alloc (h9_alloc h2 _) _) hg (Ne.symm (h9_own h3 h2 (by decide)))
  · have hb : Below w.heap.size w ((Y.alloc o1).alloc o2) := (h4.alloc h4.size _).alloc (by have := h4.size; simp; omega) _
    exact hb.grown hg hb.size (fun j e => by have := (h3.lt j e).1; omega)

/-- What the callee knows behind j requests. -/
def calleeAt (j : Nat) : List Value := if j = 0 then calleeC 0 0 0 ⟨#[]⟩ else calleeC 2 1 1 bodyA
/-- How many were done. -/
def doneAt (j : Nat) : Int := if j = 0 then 0 else 1

/-- The world while the requests come: the callee's cells cs; what was sent; the answers u. -/
def ComeW (w : World) (m g cap base j : Nat) (u : Value) (cs : List Value) (X : World) : Prop :=
  Holds9 X w.heap.size 90 (callerC true m (lastOf m)) ∧ Holds9 X (w.heap.size + 1) 95 cs ∧ X.ownsRow (w.heap.size + 2) 48 6 (.slice (some ⟨g, 0, none⟩) m cap) m (reps qC m) ∧
  X.ownsRow base 48 6 u j (reps aC j) ∧ Below w.heap.size w X ∧ g < base ∧ w.heap.size + 2 ≤ base ∧ base ≤ X.heap.size

theorem comeW_call {w X Y : World} {m g cap base j : Nat} {u : Value} {cs cs' : List Value} (h : ComeW w m g cap base j u cs X) (hg : X.grownBy Y (some (w.heap.size + 1))) (hh : Holds9 Y (w.heap.size + 1) 95 cs') : ComeW w m g cap base j u cs' Y := by
  obtain ⟨h1, h2, h3, h4, h5, h6, h7, h8⟩ := h
  refine ⟨?_, hh, ?_, ?_, ?_, h6, h7, Nat.le_trans h8 hg.size⟩
  · exact h9_grown h1 hg (by intro e; injection e with e; omega)
  · exact h3.kept hg (.inr (h9_own h3 h2 (by decide)))
  · exact h4.kept hg (.inr (h9_own h4 h2 (by decide)))
  · exact below_grow h5 hg (Nat.le_succ _)
theorem comeW_alloc {w X : World} {m g cap base j : Nat} {u : Value} {cs : List Value} (h : ComeW w m g cap base j u cs X) (o : Obj) : ComeW w m g cap base j u cs (X.alloc o) := by
  obtain ⟨h1, h2, h3, h4, h5, h6, h7, h8⟩ := h
  exact ⟨h9_alloc h1 o, h9_alloc h2 o, h3.alloc o, h4.alloc o, h5.alloc h5.size o, h6, h7, by simp; omega⟩
theorem comeW_append {w X Z : World} {m g cap base j : Nat} {u u' : Value} {cs : List Value} (h : ComeW w m g cap base j u cs X) (ho : Z.ownsRow base 48 6 u' (j + 1) (reps aC j ++ aC)) (hg : X.grownBy Z u.ownBlock) : ComeW w m g cap base (j + 1) u' cs Z := by
  obtain ⟨h1, h2, h3, h4, h5, h6, h7, h8⟩ := h
  refine ⟨?_, ?_, ?_, ho, ?_, h6, h7, Nat.le_trans h8 hg.size⟩
  · exact h9_grown h1 hg (Ne.symm (h9_own h4 h1 (by decide)))
  · exact h9_grown h2 hg (Ne.symm (h9_own h4 h2 (by decide)))
  · refine h3.kept hg (.inr ?_)
    intro e
    have := (h4.lt g (by rw [← e]; rfl)).1
    omega
  · exact h5.grown hg h5.size (fun k e => by have := (h4.lt k e).1; omega)

theorem own_shape {X : World} {base e size n : Nat} {v : Value} {xs : List Value} (h : X.ownsRow base e size v n xs) : ∃ A c, v = .slice A n c ∧ (0 < n → ∃ g, A = some ⟨g, 0, none⟩) := by
  rcases h.2 with ⟨rfl, rfl⟩ | ⟨g, cap, cur, rfl, _⟩
  · exact ⟨none, 0, rfl, fun h => absurd h (by omega)⟩
  · exact ⟨_, cap, rfl, fun _ => ⟨g, rfl⟩⟩

/-- The world while the answers are taken. -/
def TakeW3 (w : World) (m base j : Nat) (A : Option Addr) (c : Nat) (r : Nat) (X : World) : Prop :=
  Holds9 X w.heap.size 90 (callerC (decide (r = 0)) m (lastOf m)) ∧ X.ownsRow base 48 6 (.slice A j c) j (reps aC j) ∧ Below w.heap.size w X

theorem bodyA_list : (bodyA.toList == [100, 111, 110, 101, 32, 49]) = true := by decide +kernel

theorem takeW3_call {w X Y : World} {m base j c r : Nat} {A : Option Addr} (h : TakeW3 w m base j A c r X) (hg : X.grownBy Y (some w.heap.size)) (hh : Holds9 Y w.heap.size 90 (callerC false m (lastOf m))) : TakeW3 w m base j A c (r + 1) Y := by
  obtain ⟨h1, h2, h3⟩ := h
  refine ⟨?_, ?_, ?_⟩
  · rw [decide_eq_false (by omega)]; exact hh
  · exact h2.kept hg (.inr (h9_own h2 h1 (by decide)))
  · exact below_grow h3 hg (Nat.le_refl _)
theorem ans_cells {X : World} {base g c j r : Nat} (h : X.ownsRow base 48 6 (.slice (some ⟨g, 0, none⟩) j c) j (reps aC j)) (hr : r < j) (i : Nat) (hi : i < 6) : X.cell? ⟨g, r * 6 + i, none⟩ = aC[i]? := by
  rw [h.cellAt (r * 6 + i) (by omega)]
  have := reps_get aC j r i hr (by simpa [aC] using hi)
  simpa [aC] using this

theorem conv_one (Y : World) (o : Obj) : (convert 27 9 (.slice (some ⟨Y.heap.size + 1, 0, none⟩) 1 1)).run Try.prog ((Y.alloc o).alloc (.cells #[.int .u8 49] 5)) = .ok (.string ⟨#[49]⟩) ((Y.alloc o).alloc (.cells #[.int .u8 49] 5)) := by
  refine run_convert_bytes_back (P := Try.prog) _ 27 9 5 ⟨Y.heap.size + 1, 0, none⟩ 1 [49] Try.underlying27 Try.underlying5 Try.underlying9 ?_
  intro j hj
  have h := news_second Y o [.int .u8 49] 5 j (.int .u8 49)
  have hj0 : j = 0 := by simp at hj; omega
  subst hj0
  exact h rfl

theorem order_cell {w X : World} {A : Option Addr} {n c j : Nat} {z : List Int} (h : IsInts .u8 w A n c z) (hb : Below w.heap.size w X) (hj : j < n) :
    ∃ b off zi, A = some ⟨b, off, none⟩ ∧ 0 ≤ zi ∧ zi < 256 ∧ X.cell? ⟨b, off + j, none⟩ = some (.int .u8 zi) := by
  obtain ⟨hl, _, _, hw, h0 | ⟨b, off, rfl, hbb, hcell⟩⟩ := h
  · omega
  · have hz : j < z.length := by omega
    have hc := hcell j hj
    rw [List.getD_eq_getElem?_getD, List.getElem?_eq_getElem hz] at hc
    obtain ⟨x0, x1⟩ := bounds_of_wf_u8 (hw _ (List.getElem_mem hz))
    exact ⟨b, off, _, rfl, x0, x1, (hb.cell (p := ⟨b, off + j, none⟩) hbb).trans hc⟩

theorem sent_cells {X : World} {base g cap m q : Nat} (h : X.ownsRow base 48 6 (.slice (some ⟨g, 0, none⟩) m cap) m (reps qC m)) (hq : q < m) (i : Nat) (hi : i < 6) : X.cell? ⟨g, q * 6 + i, none⟩ = qC[i]? := by
  rw [h.cellAt (q * 6 + i) (by omega)]
  have := reps_get qC m q i hq (by simpa [qC] using hi)
  simpa [qC] using this

set_option maxHeartbeats 2000000 in
set_option maxRecDepth 100000 in
theorem topCalled_walk (t : Int) (A : Option Addr) (n c : Nat) (z : List Int) (w : World) (ht : (Lit.int .u8 t).wf = true) (hz : IsInts .u8 w A n c z) (_hy : n * 1 ≤ 140737488351232) :
    Calls Try.prog 11 #[.int .u8 t, .slice A n c] w fun e w' => e = .returned (.bool true) ∧ Below w.heap.size w w' := by
  obtain ⟨t0, t1⟩ := bounds_of_wf_u8 ht
  obtain ⟨m, hm⟩ : ∃ m : Nat, (m : Int) = t % 6 + 1 := ⟨(t % 6 + 1).toNat, by omega⟩
  have hm1 : 1 ≤ m := by omega
  have hm6 : m ≤ 6 := by omega
  have HZ := Lib.hid hz
  have HM := Lib.hid hm
  have hmr := hm.symm
  obtain ⟨i0, hi0, hz0, hz1, hz2⟩ := info_parts pktInfo
  have HI := Lib.hid hi0
  have HI1 := Lib.hid hz0
  have HI2 := Lib.hid hz1
  have HI3 := Lib.hid hz2
  clear hi0 hz0 hz1 hz2 ht hz hm
  go_enter Try.func11, Try.ntmps11
  go_wp2_with fail
  refine (newCaller_any w).mono ?_
  rintro e w1 ⟨rfl, rfl⟩
  go_wp2_with fail
  refine (newCallee_any _).mono ?_
  rintro e w1 ⟨rfl, rfl⟩
  have HC := Lib.hid (h9_alloc (h9_new w 90 newC) (.cells (calleeC 0 0 0 ⟨#[]⟩).toArray 95))
  have HE := Lib.hid (h9_new (w.alloc (.cells newC.toArray 90)) 95 (calleeC 0 0 0 ⟨#[]⟩))
  have HB := Lib.hid (((Below.refl w.heap.size w).alloc (Nat.le_refl _) (.cells newC.toArray 90)).alloc (by simp) (.cells (calleeC 0 0 0 ⟨#[]⟩).toArray 95))
  go_wp2_with fail
  refine (call_any w.heap.size _ HC.out).mono ?_
  rintro e X ⟨rfl, hg, hh⟩
  have HX := Lib.hid (sendW_start HB.out (by simpa using HE.out) hg hh)
  clear hg hh HC HE HB
  go_wp2_with fail
  go_loopw [7, 8] (fun v i wr => ∃ (k : Nat) (V : Value), k ≤ m ∧ i = .int .i64 k ∧ V = v ∧ SendW w k V wr) (fun _ i _ => m - (intOf i).toNat)
  case atStart => exact ⟨0, _, Nat.zero_le _, rfl, rfl, HX.out⟩
  case round =>
    obtain ⟨k, V, hk, rfl, hV, hS⟩ := hrel
    subst hV
    have HS := Lib.hid hS
    clear hS HX
    by_cases hlt : k < m
    · go_wp2_with fail
      refine (tick_any w.heap.size k (lastOf k) (k * 5) _ HS.out.1 (by omega) (by omega) (lastOf_nonneg k) (lastOf_due k) (by omega)).mono ?_
      rintro e Y ⟨rfl, hg, hh⟩
      have HT := Lib.hid (sendW_tick HS.out hg hh)
      clear hg hh HS
      have hyz : w.heap.size + 2 ≤ Y.heap.size + 2 := by have := HT.out.2.2.2.size; omega
      go_wp2_with (at_builtin; go_must (refine wpList_append_own _ rfl (.tmp 46) (.tmp 48) 49 rfl (w.heap.size + 2) 48 i0 _ 6 32 Try.underlying49 HI.out HI1.out HI2.out HI3.out rfl (by omega) V k (reps qC k) rfl ((HT.out.2.2.1.alloc _).alloc _) ⟨Y.heap.size + 1, 0, none⟩ 1 1 qC rfl rfl (news_second Y _ qC 48) qC_one (by unfold maxLen; omega) (by omega) (by simpa using hyz) ?_); intro v' Z hown' hgrow _; have HS' := Lib.hid (sendW_append HT.out.1 HT.out.2.1 HT.out.2.2.1 HT.out.2.2.2 hown' hgrow); clear hown' hgrow HT)
      go_roundw
      case rel => exact ⟨k + 1, _, by omega, by go_num, rfl, HS'.out⟩
      case measure => simp [intOf]; omega
    · obtain rfl : k = m := by omega
      obtain ⟨g, cap, rfl, hg1, hg2⟩ := HS.out.2.2.1.form (by omega)
      obtain ⟨base, hC⟩ : ∃ base : Nat, ComeW w k g cap base 0 (.slice none 0 0) (calleeAt 0) wr := ⟨wr.heap.size, HS.out.1, HS.out.2.1, HS.out.2.2.1, World.ownsRow_nil _ _ _ _, HS.out.2.2.2, hg2, by have := h9_lt HS.out.2.1; omega, Nat.le_refl _⟩
      have HC := Lib.hid hC
      clear hC HS hg1 hg2 hk hlt
      go_wp2_with fail
      go_loopw [11, 12, 13] (fun d u i xr => ∃ (j : Nat) (U : Value), j ≤ n ∧ j ≤ 30 ∧ i = .int .i64 j ∧ d = .int .i64 (doneAt j) ∧ U = u ∧ ComeW w k g cap base j U (calleeAt j) xr) (fun _ _ i _ => 30 - (intOf i).toNat)
      case atStart => exact ⟨0, _, Nat.zero_le _, Nat.zero_le _, rfl, rfl, rfl, HC.out⟩
      case round =>
        obtain ⟨j, U, hj1, hj2, rfl, rfl, hU, hC⟩ := hrel
        subst hU
        have HD := Lib.hid hC
        clear hC HC
        by_cases hlt : j < n ∧ j < 30
        · obtain ⟨l1, l2⟩ := hlt
          obtain ⟨ob, off, zi, rfl, hz0, hz1, hzc⟩ := order_cell HZ.out HD.out.2.2.2.2.1 l1
          obtain ⟨q, hq⟩ : ∃ q : Nat, zi % (k : Int) = (q : Int) := ⟨(zi % (k : Int)).toNat, by rw [Int.toNat_of_nonneg]; exact Int.emod_nonneg _ (by omega)⟩
          have hqk : q < k := by have := Int.emod_lt_of_pos zi (show (0 : Int) < (k : Int) by omega); omega
          have s0 := sent_cells HD.out.2.2.1 hqk 0 (by omega)
          have s1 := sent_cells HD.out.2.2.1 hqk 1 (by omega)
          have s2 := sent_cells HD.out.2.2.1 hqk 2 (by omega)
          have s3 := sent_cells HD.out.2.2.1 hqk 3 (by omega)
          have s4 := sent_cells HD.out.2.2.1 hqk 4 (by omega)
          have s5 := sent_cells HD.out.2.2.1 hqk 5 (by omega)
          simp only [qC, List.getElem?_cons_zero, List.getElem?_cons_succ, Nat.add_zero] at s0 s1 s2 s3 s4 s5
          by_cases j0 : j = 0
          · subst j0
            have hzc0 := hzc
            simp only [Nat.add_zero] at hzc0
            have hd0 : doneAt 0 = 0 := rfl
            go_wp2_with fail
            refine (take_first (w.heap.size + 1) _ HD.out.2.1).mono ?_
            rintro e Y ⟨rfl, hg, hh⟩
            have HT := Lib.hid (comeW_call HD.out hg hh)
            clear hg hh HD s0 s1 s2 s3 s4 s5 hzc hzc0
            have hcv := conv_one Y
            go_wp2_with fail
            rw [show (⟨#[100, 111, 110, 101, 32]⟩ : ByteArray) ++ ⟨#[49]⟩ = bodyA from by decide]
            refine (reply_taken (w.heap.size + 1) bodyA _ (by decide) (h9_alloc (h9_alloc HT.out.2.1 _) _)).mono ?_
            rintro e Z ⟨rfl, hg, hh⟩
            have HR := Lib.hid (comeW_call (comeW_alloc (comeW_alloc HT.out _) _) hg hh)
            clear hg hh HT hcv
            have hyz : base ≤ Z.heap.size + 2 := by have := HR.out.2.2.2.2.2.2.2; omega
            go_wp2_with (at_builtin; go_must (refine wpList_append_own _ rfl (.tmp 101) (.tmp 103) 49 rfl base 48 i0 _ 6 32 Try.underlying49 HI.out HI1.out HI2.out HI3.out rfl (by omega) U 0 (reps aC 0) rfl ((HR.out.2.2.2.1.alloc _).alloc _) ⟨Z.heap.size + 1, 0, none⟩ 1 1 aC rfl rfl (news_second Z _ aC 48) aC_one (by unfold maxLen; omega) (by omega) (by simpa using hyz) ?_); intro v' V hown' hgrow _; have HS' := Lib.hid (comeW_append (comeW_alloc (comeW_alloc HR.out _) _) hown' hgrow); clear hown' hgrow HR)
            go_roundw
            case rel => exact ⟨1, _, by omega, by omega, rfl, rfl, rfl, HS'.out⟩
            case measure => simp [intOf]
          · go_wp2_with fail
            refine (take_again (w.heap.size + 1) _ (by have := HD.out.2.1; rwa [calleeAt, if_neg j0] at this)).mono ?_
            rintro e Y ⟨rfl, hg, hh⟩
            have HT := Lib.hid (comeW_call HD.out hg hh)
            clear hg hh HD s0 s1 s2 s3 s4 s5 hzc
            have hyz : base ≤ Y.heap.size + 2 := by have := HT.out.2.2.2.2.2.2.2; omega
            go_wp2_with (at_builtin; go_must (refine wpList_append_own _ rfl (.tmp 106) (.tmp 108) 49 rfl base 48 i0 _ 6 32 Try.underlying49 HI.out HI1.out HI2.out HI3.out rfl (by omega) U j (reps aC j) rfl ((HT.out.2.2.2.1.alloc _).alloc _) ⟨Y.heap.size + 1, 0, none⟩ 1 1 aC rfl rfl (news_second Y _ aC 48) aC_one (by unfold maxLen; omega) (by omega) (by simpa using hyz) ?_); intro v' Z hown' hgrow _; have HS' := Lib.hid (comeW_append (comeW_alloc (comeW_alloc HT.out _) _) hown' hgrow); clear hown' hgrow HT)
            go_roundw
            case rel => exact ⟨j + 1, _, by omega, by omega, by go_num, by simp [doneAt, j0], rfl, by rw [calleeAt, if_neg (by omega)]; exact HS'.out⟩
            case measure => simp [intOf]; omega
        · have hend : n ≤ j ∨ (j < n ∧ 30 ≤ j) := by omega
          have hjn : j = 0 → n = 0 := by omega
          have hj30 : j ≤ 30 := hj2
          obtain ⟨U0, cU, rfl, hU0⟩ := own_shape HD.out.2.2.2.1
          have HF := Lib.hid (show TakeW3 w k base j U0 cU 0 wr from ⟨HD.out.1, HD.out.2.2.2.1, HD.out.2.2.2.2.1⟩)
          have HU := Lib.hid hU0
          have HJ := Lib.hid hjn
          clear HD hlt hjn hU0
          rcases hend with hl1 | ⟨hl1, hl2⟩
          all_goals
            go_wp2_with fail
            go_loopw [20, 21] (fun got i xr => ∃ r : Nat, r ≤ j ∧ i = .int .i64 r ∧ got = .int .i64 (doneAt r) ∧ TakeW3 w k base j U0 cU r xr) (fun _ i _ => j - (intOf i).toNat)
            case atStart => exact ⟨0, Nat.zero_le _, rfl, rfl, HF.out⟩
            case round =>
              obtain ⟨r, hr, rfl, rfl, hT⟩ := hrel
              have HT := Lib.hid hT
              clear hT HF
              by_cases hlt : r < j
              · obtain ⟨gu, rfl⟩ := HU.out (by omega)
                have s0 := ans_cells HT.out.2.1 hlt 0 (by omega)
                have s1 := ans_cells HT.out.2.1 hlt 1 (by omega)
                have s2 := ans_cells HT.out.2.1 hlt 2 (by omega)
                have s3 := ans_cells HT.out.2.1 hlt 3 (by omega)
                have s4 := ans_cells HT.out.2.1 hlt 4 (by omega)
                have s5 := ans_cells HT.out.2.1 hlt 5 (by omega)
                simp only [aC, List.getElem?_cons_zero, List.getElem?_cons_succ, Nat.add_zero] at s0 s1 s2 s3 s4 s5
                by_cases r0 : r = 0
                · subst r0
                  simp only [Nat.zero_mul, Nat.zero_add] at s0 s1 s2 s3 s4 s5
                  have hd0 : doneAt 0 = 0 := rfl
                  go_wp2_with fail
                  refine (ctake_busy w.heap.size k (lastOf k) _ HT.out.1).mono ?_
                  rintro e Y ⟨rfl, hg, hh⟩
                  have HR := Lib.hid (takeW3_call HT.out hg hh)
                  clear hg hh s0 s1 s2 s3 s4 s5 HT
                  have hbA := bodyA_list
                  go_wp2_with fail
                  go_roundw
                  case rel => exact ⟨1, by omega, rfl, rfl, HR.out⟩
                  case measure => simp [intOf]; omega
                · go_wp2_with fail
                  refine (ctake_idle w.heap.size k (lastOf k) _ (by have := HT.out.1; rwa [decide_eq_false r0] at this)).mono ?_
                  rintro e Y ⟨rfl, hg, hh⟩
                  have HR := Lib.hid (takeW3_call HT.out hg hh)
                  clear hg hh s0 s1 s2 s3 s4 s5 HT
                  go_wp2_with fail
                  go_roundw
                  case rel => exact ⟨r + 1, by omega, by go_num, by simp [doneAt, r0], HR.out⟩
                  case measure => simp [intOf]; omega
              · obtain rfl : r = j := by omega
                by_cases j0 : r = 0
                · subst j0
                  obtain rfl := HJ.out rfl
                  have hd0 : doneAt 0 = 0 := rfl
                  go_wp2_with fail
                  go_ret
                  exact ⟨rfl, HT.out.2.2⟩
                · have hd1 : doneAt r = 1 := by simp [doneAt, j0]
                  go_wp2_with fail
                  go_ret
                  exact ⟨rfl, HT.out.2.2⟩
end Go.Proofs.Ytklibbmlkjlbiaa
