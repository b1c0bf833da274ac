/- The calls of package rpc at the packets of this law, walked once each: what they answer, and what becomes of the caller's and the callee's block. -/
import Derived.Test.YtklibbmlkjlbiaaBits
import Derived.Test.YtklibbmlkjlbiaaMem
import Derived.WalkMore
import Derived.Deep.RegionWith
import Derived.Deep.RegionHeld3
namespace Go.Proofs.Ytklibbmlkjlbiaa
open Go.RowKit

theorem ret_b {a b : Bool} (h : a = b) : Ending.returned (.bool a) = .returned (.bool b) := by rw [h]

theorem right_answer (t e s : Int) (b : ByteArray) (w : World) (t0 : 1 ≤ t) (t1 : t ≤ 3) (s0 : 1 ≤ s) (hb : b.size ≤ 16384) :
    Calls Try.prog 30 #[.agg #[.int .u8 2, .int .u8 0, .int .u8 t, .int .u32 e, .int .u32 s, .string b]] w fun x w' => x = .returned (.bool true) ∧ w.alloc (.cells #[.int .u8 2, .int .u8 0, .int .u8 t, .int .u32 e, .int .u32 s, .string b] 48) = w' := by
  go_enter Try.func30, Try.ntmps30
  go_wp2
  go_ret
  exact ⟨ret_b (decide_eq_true (by omega)), rfl⟩

theorem right_ask (f e s : Int) (b : ByteArray) (w : World) (t0 : 1 ≤ f) (t1 : f ≤ 3) (s0 : 1 ≤ s) (hb : b.size ≤ 16384) :
    Calls Try.prog 30 #[.agg #[.int .u8 1, .int .u8 f, .int .u8 0, .int .u32 e, .int .u32 s, .string b]] w fun x w' => x = .returned (.bool true) ∧ w.alloc (.cells #[.int .u8 1, .int .u8 f, .int .u8 0, .int .u32 e, .int .u32 s, .string b] 48) = w' := by
  go_enter Try.func30, Try.ntmps30
  go_wp2
  go_ret
  exact ⟨ret_b (decide_eq_true (by omega)), rfl⟩

/-- The request's text. -/
def bodyQ : ByteArray := ⟨#[100, 111, 32, 105, 116]⟩
/-- The answer's text. -/
def bodyA : ByteArray := ⟨#[100, 111, 110, 101, 32, 49]⟩
def pktQ : Array Value := #[.int .u8 1, .int .u8 1, .int .u8 0, .int .u32 1, .int .u32 1, .string bodyQ]
def pktA : Array Value := #[.int .u8 2, .int .u8 0, .int .u8 1, .int .u32 1, .int .u32 1, .string bodyA]
/-- The caller's cells. -/
def callerC (busy : Bool) (sent last : Int) : List Value := [.int .u8 1, .int .u8 1, .int .u8 0, .int .u32 1, .int .u32 1, .string bodyQ, .bool busy, .int .i64 sent, .int .u64 last]

theorem caller_step (k last now : Int) : callerC true (k + 1) now = ((callerC true k last).set 7 (.int .i64 (k + 1))).set 8 (.int .u64 now) := rfl

set_option maxHeartbeats 1000000 in
theorem tick_any (b : Nat) (k last now : Int) (w : World) (hh : Holds9 w b 90 (callerC true k last)) (hk : 0 ≤ k) (hk1 : k ≤ 100) (hl : 0 ≤ last) (hn : k = 0 ∨ last + 4 ≤ now) (hn1 : now < 18446744073709551616) :
    Calls Try.prog 35 #[.pointer (some ⟨b, 0, none⟩), .int .u64 now] w fun x w' => x = .returned (.tuple #[.agg #[.int .u8 1, .int .u8 1, .int .u8 0, .int .u32 1, .int .u32 1, .string bodyQ], .bool true]) ∧ w.grownBy w' (some b) ∧ Holds9 w' b 90 (callerC true (k + 1) now) := by
  have c0 := h9_cell hh 0
  have c1 := h9_cell hh 1
  have c2 := h9_cell hh 2
  have c3 := h9_cell hh 3
  have c4 := h9_cell hh 4
  have c5 := h9_cell hh 5
  have c6 := h9_cell hh 6
  have c7 := h9_cell hh 7
  have c8 := h9_cell hh 8
  have f7 := h9_free hh 7
  have f8 := h9_free hh 8
  have hlt := h9_lt hh
  simp only [callerC, List.getElem?_cons_zero, List.getElem?_cons_succ] at c0 c1 c2 c3 c4 c5 c6 c7 c8
  have HH := Lib.hid hh
  clear hh
  by_cases k0 : k = 0
  · subst k0
    clear hn
    go_enter Try.func35, Try.ntmps35
    go_wp2
    go_step3
    go_wp2
    rw [Exit.noGoto_ret]
    refine bodyPost_ret (v := .tuple #[.agg #[.int .u8 1, .int .u8 1, .int .u8 0, .int .u32 1, .int .u32 1, .string bodyQ], .bool true]) (by simp [results, Try.results35, go_sem]) rfl ⟨rfl, ?_, ?_⟩
    · refine only_alloc ?_ _
      refine only_set ?_ (.inl rfl) _
      refine only_set ?_ (.inl rfl) _
      exact World.grownBy.refl w _
    · rw [show callerC true (0 + 1) now = ((callerC true 0 last).set 7 (.int .i64 1)).set 8 (.int .u64 now) from rfl]
      refine h9_alloc ?_ _
      refine h9_set ?_ 8 _
      exact h9_set HH.out 7 _
  · have k1 : 0 < k := by omega
    have n1 : ¬ now < last := by omega
    have n2 : ¬ now - last < 4 := by omega
    clear hn k0
    go_enter Try.func35, Try.ntmps35
    go_wp2
    go_step3
    go_wp2
    rw [Exit.noGoto_ret]
    refine bodyPost_ret (v := .tuple #[.agg #[.int .u8 1, .int .u8 1, .int .u8 0, .int .u32 1, .int .u32 1, .string bodyQ], .bool true]) (by simp [results, Try.results35, go_sem]) rfl ⟨rfl, ?_, ?_⟩
    · refine only_alloc ?_ _
      refine only_set ?_ (.inl rfl) _
      refine only_set ?_ (.inl rfl) _
      exact World.grownBy.refl w _
    · rw [caller_step k last now]
      refine h9_alloc ?_ _
      refine h9_set ?_ 8 _
      exact h9_set HH.out 7 _

/-- The callee's cells. -/
def calleeC (st ep sq : Int) (body : ByteArray) : List Value := [.int .u8 st, .int .u32 ep, .int .u32 sq, .string body, .int .u8 0, .int .u32 0, .int .u32 0, .string ⟨#[]⟩, .int .u8 0, .int .u32 0, .int .u32 0, .string ⟨#[]⟩]

/-- What is known of the world while Take runs: the callee's block, the packet's copy, the answer's place. -/
def TakeW (b : Nat) (w : World) (cs : List Value) (X : World) : Prop :=
  Holds9 X b 95 cs ∧ Holds9 X w.heap.size 48 [.int .u8 1, .int .u8 1, .int .u8 0, .int .u32 1, .int .u32 1, .string bodyQ] ∧
  Holds9 X (w.heap.size + 1) 48 [.int .u8 0, .int .u8 0, .int .u8 0, .int .u32 0, .int .u32 0, .string ⟨#[]⟩] ∧ w.grownBy X (some b) ∧ b < w.heap.size

theorem takeW_start {b : Nat} {w : World} {cs : List Value} (h : Holds9 w b 95 cs) :
    TakeW b w cs (((w.alloc (.cells #[.int .u8 1, .int .u8 1, .int .u8 0, .int .u32 1, .int .u32 1, .string bodyQ] 48)).alloc (.cells #[.int .u8 0, .int .u8 0, .int .u8 0, .int .u32 0, .int .u32 0, .string ⟨#[]⟩] 48)).alloc (.cells #[.int .u8 1, .int .u8 1, .int .u8 0, .int .u32 1, .int .u32 1, .string bodyQ] 48)) := by
  refine ⟨?_, ?_, ?_, ?_, h9_lt h⟩
  · exact h9_alloc (h9_alloc (h9_alloc h _) _) _
  · exact h9_alloc (h9_alloc (h9_new w 48 _) _) _
  · have := h9_alloc (h9_new (w.alloc (.cells #[.int .u8 1, .int .u8 1, .int .u8 0, .int .u32 1, .int .u32 1, .string bodyQ] 48)) 48 [.int .u8 0, .int .u8 0, .int .u8 0, .int .u32 0, .int .u32 0, .string ⟨#[]⟩]) (.cells #[.int .u8 1, .int .u8 1, .int .u8 0, .int .u32 1, .int .u32 1, .string bodyQ] 48)
    simpa using this
  · refine only_alloc ?_ _
    refine only_alloc ?_ _
    exact World.grownBy_alloc _ _ _

theorem takeW_drewN {b : Nat} {w X : World} {cs : List Value} (h : TakeW b w cs X) (n : Nat) : TakeW b w cs (X.drewN n) := ⟨h.1, h.2.1, h.2.2.1, only_drewN h.2.2.2.1 n, h.2.2.2.2⟩
theorem takeW_drew {b : Nat} {w X : World} {cs : List Value} (h : TakeW b w cs X) : TakeW b w cs X.drew := ⟨h.1, h.2.1, h.2.2.1, only_drew h.2.2.2.1, h.2.2.2.2⟩
theorem takeW_set {b : Nat} {w X : World} {cs : List Value} (h : TakeW b w cs X) (i : Nat) (u : Value) : TakeW b w (cs.set i u) (X.setCell ⟨b, i, none⟩ u) := by
  obtain ⟨h1, h2, h3, hg, hlt⟩ := h
  refine ⟨h9_set h1 i u, ?_, ?_, ?_, hlt⟩
  · exact h9_far h2 (p := ⟨b, i, none⟩) (show w.heap.size ≠ b by omega) u
  · exact h9_far h3 (p := ⟨b, i, none⟩) (show w.heap.size + 1 ≠ b by omega) u
  · exact only_set hg (p := ⟨b, i, none⟩) (.inl rfl) u

/-- What is known at Take's end. -/
def EndW (b : Nat) (w : World) (cs : List Value) (X : World) : Prop := w.grownBy X (some b) ∧ Holds9 X b 95 cs ∧ b < w.heap.size
theorem endW_of {b : Nat} {w X : World} {cs : List Value} (h : TakeW b w cs X) : EndW b w cs X := ⟨h.2.2.2.1, h.1, h.2.2.2.2⟩
theorem endW_drew {b : Nat} {w X : World} {cs : List Value} (h : EndW b w cs X) : EndW b w cs X.drew := ⟨only_drew h.1, h.2.1, h.2.2⟩
theorem endW_drewN {b : Nat} {w X : World} {cs : List Value} (h : EndW b w cs X) (n : Nat) : EndW b w cs (X.drewN n) := ⟨only_drewN h.1 n, h.2.1, h.2.2⟩
theorem endW_alloc {b : Nat} {w X : World} {cs : List Value} (h : EndW b w cs X) (o : Obj) : EndW b w cs (X.alloc o) := ⟨only_alloc h.1 o, h9_alloc h.2.1 o, h.2.2⟩
theorem endW_set {b : Nat} {w X : World} {cs : List Value} (h : EndW b w cs X) (i : Nat) (u : Value) : EndW b w cs (X.setCell ⟨w.heap.size + 1, i, none⟩ u) := by
  obtain ⟨hg, h1, hlt⟩ := h
  refine ⟨?_, ?_, hlt⟩
  · exact only_set hg (p := ⟨w.heap.size + 1, i, none⟩) (.inr (Nat.le_succ _)) u
  · exact h9_far h1 (p := ⟨w.heap.size + 1, i, none⟩) (show b ≠ w.heap.size + 1 by omega) u
theorem endW_below {b : Nat} {w X Y : World} {cs : List Value} (h : EndW b w cs X) (k : Below X.heap.size X Y) : EndW b w cs Y := ⟨⟨k.os.trans h.1.os, k.tape.trans h.1.tape, k.output.trans h.1.output, Nat.le_trans h.1.size k.size, fun i hi hne => (k.block i (Nat.lt_of_lt_of_le hi h.1.size)).trans (h.1.block i hi hne)⟩, h9_below h.2.1 k (h9_lt h.2.1), h.2.2⟩
theorem endW_out {b : Nat} {w X : World} {cs : List Value} (h : EndW b w cs X) : w.grownBy X (some b) ∧ Holds9 X b 95 cs := ⟨h.1, h.2.1⟩

set_option maxHeartbeats 1000000 in
theorem take_first (b : Nat) (w : World) (hh : Holds9 w b 95 (calleeC 0 0 0 ⟨#[]⟩)) :
    Calls Try.prog 36 #[.pointer (some ⟨b, 0, none⟩), .agg #[.int .u8 1, .int .u8 1, .int .u8 0, .int .u32 1, .int .u32 1, .string bodyQ]] w fun x w' =>
      x = .returned (.tuple #[.string bodyQ, .bool true, .agg #[.int .u8 0, .int .u8 0, .int .u8 0, .int .u32 0, .int .u32 0, .string ⟨#[]⟩], .bool false]) ∧ w.grownBy w' (some b) ∧ Holds9 w' b 95 (calleeC 1 1 1 ⟨#[]⟩) := by
  have HH := Lib.hid hh
  have HS := Lib.hid (show bodyQ.size ≤ 16384 by decide)
  clear hh
  go_enter Try.func36, Try.ntmps36
  go_wp2_with fail
  refine (right_ask 1 1 1 bodyQ _ (by omega) (by omega) (by omega) HS.out).mono ?_
  rintro e w1 ⟨rfl, rfl⟩
  go_wp2
  refine at_world (TakeW b w (calleeC 0 0 0 ⟨#[]⟩)) (takeW_start HH.out) ?_
  rintro X hX
  have HX := Lib.hid hX
  obtain ⟨h1, h2, h3, hg, hlt⟩ := hX
  have c0 := h9_cell h1 0
  have c1 := h9_cell h1 1
  have c2 := h9_cell h1 2
  have c3 := h9_cell h1 3
  have f0 := h9_free h1 0
  have f1 := h9_free h1 1
  have f2 := h9_free h1 2
  have f3 := h9_free h1 3
  have d0 := h9_cell h2 0
  have d1 := h9_cell h2 1
  have d2 := h9_cell h2 2
  have d3 := h9_cell h2 3
  have d4 := h9_cell h2 4
  have d5 := h9_cell h2 5
  have e0 := h9_cell h3 0
  have e1 := h9_cell h3 1
  have e2 := h9_cell h3 2
  have e3 := h9_cell h3 3
  have e4 := h9_cell h3 4
  have e5 := h9_cell h3 5
  simp only [calleeC, List.getElem?_cons_zero, List.getElem?_cons_succ] at c0 c1 c2 c3 d0 d1 d2 d3 d4 d5 e0 e1 e2 e3 e4 e5
  clear h1 h2 h3 hg HH HS
  go_quiet (fail)
  go_wp2
  go_quiet (fail)
  go_wp2
  go_quiet (fail)
  go_wp2
  refine at_world (TakeW b w (calleeC 1 1 1 ⟨#[]⟩)) ?_ ?_
  · rw [show calleeC 1 1 1 ⟨#[]⟩ = ((((calleeC 0 0 0 ⟨#[]⟩).set 0 (.int .u8 1)).set 1 (.int .u32 1)).set 2 (.int .u32 1)).set 3 (.string ⟨#[]⟩) from rfl]
    refine takeW_set ?_ 3 _
    refine takeW_set ?_ 2 _
    refine takeW_set ?_ 1 _
    refine takeW_set ?_ 0 _
    exact takeW_drewN HX.out _
  clear c0 c1 c2 c3 d0 d1 d2 d3 d4 d5 e0 e1 e2 e3 e4 e5 f0 f1 f2 f3 HX hlt
  rintro Y hY
  have HY := Lib.hid hY
  obtain ⟨h1, h2, h3, hg, hlt⟩ := hY
  have d5 := h9_cell h2 5
  have e0 := h9_cell h3 0
  have e1 := h9_cell h3 1
  have e2 := h9_cell h3 2
  have e3 := h9_cell h3 3
  have e4 := h9_cell h3 4
  have e5 := h9_cell h3 5
  have g0 := h9_free h3 0
  have g1 := h9_free h3 1
  have g2 := h9_free h3 2
  have g3 := h9_free h3 3
  have g4 := h9_free h3 4
  have g5 := h9_free h3 5
  simp only [List.getElem?_cons_zero, List.getElem?_cons_succ] at d5 e0 e1 e2 e3 e4 e5
  clear h1 h2 h3 hg
  go_region
  go_wp2
  refine bodyPost_ret (v := .tuple #[.string bodyQ, .bool true, .agg #[.int .u8 0, .int .u8 0, .int .u8 0, .int .u32 0, .int .u32 0, .string ⟨#[]⟩], .bool false]) (by simp [results, Try.results36, go_sem, e0, e1, e2, e3, e4, e5]) rfl ⟨rfl, ?_⟩
  exact endW_out (endW_drew (endW_set (endW_set (endW_set (endW_set (endW_set (endW_set (endW_of HY.out) 0 _) 1 _) 2 _) 3 _) 4 _) 5 _))

theorem answer_any (st ep sq cl : Int) (body : ByteArray) (w : World) :
    Calls Try.prog 48 #[.agg #[.int .u8 st, .int .u32 ep, .int .u32 sq, .string body], .int .u8 cl] w fun x w' =>
      x = .returned (.agg #[.int .u8 2, .int .u8 0, .int .u8 cl, .int .u32 ep, .int .u32 sq, .string body]) ∧
      (w.alloc (.cells #[.int .u8 st, .int .u32 ep, .int .u32 sq, .string body] 92)).alloc (.cells #[.int .u8 2, .int .u8 0, .int .u8 cl, .int .u32 ep, .int .u32 sq, .string body] 48) = w' := by
  go_enter Try.func48, Try.ntmps48
  go_wp2
  exact bodyPost_ret (v := .agg #[.int .u8 2, .int .u8 0, .int .u8 cl, .int .u32 ep, .int .u32 sq, .string body]) (by simp [results, Try.results48, go_sem]) rfl ⟨rfl, rfl⟩

theorem answer_below (st ep sq cl : Int) (body : ByteArray) (w : World) :
    Calls Try.prog 48 #[.agg #[.int .u8 st, .int .u32 ep, .int .u32 sq, .string body], .int .u8 cl] w fun x w' =>
      x = .returned (.agg #[.int .u8 2, .int .u8 0, .int .u8 cl, .int .u32 ep, .int .u32 sq, .string body]) ∧ Below w.heap.size w w' := by
  refine (answer_any st ep sq cl body w).mono ?_
  rintro e w' ⟨rfl, rfl⟩
  exact ⟨rfl, ((Below.refl _ _).alloc (Nat.le_refl _) _).alloc (by simp) _⟩

set_option maxHeartbeats 1000000 in
theorem take_again (b : Nat) (w : World) (hh : Holds9 w b 95 (calleeC 2 1 1 bodyA)) :
    Calls Try.prog 36 #[.pointer (some ⟨b, 0, none⟩), .agg #[.int .u8 1, .int .u8 1, .int .u8 0, .int .u32 1, .int .u32 1, .string bodyQ]] w fun x w' =>
      x = .returned (.tuple #[.string ⟨#[]⟩, .bool false, .agg #[.int .u8 2, .int .u8 0, .int .u8 1, .int .u32 1, .int .u32 1, .string bodyA], .bool true]) ∧ w.grownBy w' (some b) ∧ Holds9 w' b 95 (calleeC 2 1 1 bodyA) := by
  have HH := Lib.hid hh
  have HS := Lib.hid (show bodyQ.size ≤ 16384 by decide)
  clear hh
  go_enter Try.func36, Try.ntmps36
  go_wp2_with fail
  refine (right_ask 1 1 1 bodyQ _ (by omega) (by omega) (by omega) HS.out).mono ?_
  rintro e w1 ⟨rfl, rfl⟩
  go_wp2
  refine at_world (TakeW b w (calleeC 2 1 1 bodyA)) (takeW_start HH.out) ?_
  rintro X hX
  have HX := Lib.hid hX
  obtain ⟨h1, h2, h3, hg, hlt⟩ := hX
  have c0 := h9_cell h1 0
  have c1 := h9_cell h1 1
  have c2 := h9_cell h1 2
  have c3 := h9_cell h1 3
  have f0 := h9_free h1 0
  have f1 := h9_free h1 1
  have f2 := h9_free h1 2
  have f3 := h9_free h1 3
  have d0 := h9_cell h2 0
  have d1 := h9_cell h2 1
  have d2 := h9_cell h2 2
  have d3 := h9_cell h2 3
  have d4 := h9_cell h2 4
  have d5 := h9_cell h2 5
  have e0 := h9_cell h3 0
  have e1 := h9_cell h3 1
  have e2 := h9_cell h3 2
  have e3 := h9_cell h3 3
  have e4 := h9_cell h3 4
  have e5 := h9_cell h3 5
  simp only [calleeC, List.getElem?_cons_zero, List.getElem?_cons_succ] at c0 c1 c2 c3 d0 d1 d2 d3 d4 d5 e0 e1 e2 e3 e4 e5
  have g0 := h9_free h3 0
  have g1 := h9_free h3 1
  have g2 := h9_free h3 2
  have g3 := h9_free h3 3
  have g4 := h9_free h3 4
  have g5 := h9_free h3 5
  have z1 := h9_lt h3
  have z2 := h9_lt h1
  have z3 : w.heap.size < X.heap.size := by omega
  have z4 : b < X.heap.size + 1 := by omega
  have z5 : w.heap.size + 1 < X.heap.size + 1 := by omega
  clear h1 h2 h3 hg HH HS
  go_quiet (fail)
  go_wp2
  go_quiet (fail)
  go_wp2
  go_quiet (fail)
  go_wp2
  refine at_world (TakeW b w (calleeC 2 1 1 bodyA)) (takeW_drewN HX.out _) ?_
  clear c0 c1 c2 c3 d0 d1 d2 d3 d4 d5 e0 e1 e2 e3 e4 e5 f0 f1 f2 f3 g0 g1 g2 g3 g4 g5 HX hlt z1 z2 z3 z4 z5
  rintro Y hY
  have HY := Lib.hid hY
  obtain ⟨h1, h2, h3, hg, hlt⟩ := hY
  have z1 := h9_lt h3
  have c0 := h9_cell h1 0
  have c1 := h9_cell h1 1
  have c2 := h9_cell h1 2
  have c3 := h9_cell h1 3
  have d1 := h9_cell h2 1
  have H3 := Lib.hid h3
  have e0 := h9_cell h3 0
  have e1 := h9_cell h3 1
  have e2 := h9_cell h3 2
  have e3 := h9_cell h3 3
  have e4 := h9_cell h3 4
  have e5 := h9_cell h3 5
  have g0 := h9_free h3 0
  have g1 := h9_free h3 1
  have g2 := h9_free h3 2
  have g3 := h9_free h3 3
  have g4 := h9_free h3 4
  have g5 := h9_free h3 5
  simp only [calleeC, List.getElem?_cons_zero, List.getElem?_cons_succ] at c0 c1 c2 c3 d1 e0 e1 e2 e3 e4 e5
  clear h1 h2 h3 hg
  go_region_with (go_at_call 48; refine (answer_below _ _ _ _ _ _).mono ?_; rintro e w1 ⟨rfl, hb⟩; have q0 := (hb.cell (p := ⟨w.heap.size + 1, 0, none⟩) z1).trans e0; have q1 := (hb.cell (p := ⟨w.heap.size + 1, 1, none⟩) z1).trans e1; have q2 := (hb.cell (p := ⟨w.heap.size + 1, 2, none⟩) z1).trans e2; have q3 := (hb.cell (p := ⟨w.heap.size + 1, 3, none⟩) z1).trans e3; have q4 := (hb.cell (p := ⟨w.heap.size + 1, 4, none⟩) z1).trans e4; have q5 := (hb.cell (p := ⟨w.heap.size + 1, 5, none⟩) z1).trans e5; have r0 := (hb.frozen (p := ⟨w.heap.size + 1, 0, none⟩) z1).trans g0; have r1 := (hb.frozen (p := ⟨w.heap.size + 1, 1, none⟩) z1).trans g1; have r2 := (hb.frozen (p := ⟨w.heap.size + 1, 2, none⟩) z1).trans g2; have r3 := (hb.frozen (p := ⟨w.heap.size + 1, 3, none⟩) z1).trans g3; have r4 := (hb.frozen (p := ⟨w.heap.size + 1, 4, none⟩) z1).trans g4; have r5 := (hb.frozen (p := ⟨w.heap.size + 1, 5, none⟩) z1).trans g5)
  all_goals
    go_wp2
    refine bodyPost_ret (v := .tuple #[.string ⟨#[]⟩, .bool false, .agg #[.int .u8 2, .int .u8 0, .int .u8 1, .int .u32 1, .int .u32 1, .string bodyA], .bool true]) (by simp [results, Try.results36, go_sem, q0, q1, q2, q3, q4, q5]) rfl ⟨rfl, ?_⟩
    refine endW_out ?_
    repeat (refine endW_set ?_ _ _)
    exact endW_below (endW_drew (endW_of HY.out)) hb

set_option maxHeartbeats 1000000 in
theorem reply_taken (b : Nat) (body : ByteArray) (w : World) (hs : body.size ≤ 16384) (hh : Holds9 w b 95 (calleeC 1 1 1 ⟨#[]⟩)) :
    Calls Try.prog 37 #[.pointer (some ⟨b, 0, none⟩), .int .u8 1, .string body] w fun x w' =>
      x = .returned (.tuple #[.agg #[.int .u8 2, .int .u8 0, .int .u8 1, .int .u32 1, .int .u32 1, .string body], .int .i64 0]) ∧ w.grownBy w' (some b) ∧ Holds9 w' b 95 (calleeC 2 1 1 body) := by
  have c0 := h9_cell hh 0
  have c1 := h9_cell hh 1
  have c2 := h9_cell hh 2
  have c3 := h9_cell hh 3
  have f0 := h9_free hh 0
  have f3 := h9_free hh 3
  have hlt := h9_lt hh
  simp only [calleeC, List.getElem?_cons_zero, List.getElem?_cons_succ] at c0 c1 c2 c3
  have HH := Lib.hid hh
  clear hh
  go_enter Try.func37, Try.ntmps37
  go_wp2_with (go_at_call 48; refine (answer_any _ _ _ _ _ _).mono ?_; rintro e w1 ⟨rfl, rfl⟩)
  refine bodyPost_ret (v := .tuple #[.agg #[.int .u8 2, .int .u8 0, .int .u8 1, .int .u32 1, .int .u32 1, .string body], .int .i64 0]) (by simp [results, Try.results37, go_sem]) rfl ⟨rfl, ?_, ?_⟩
  · refine only_alloc ?_ _
    refine only_alloc ?_ _
    refine only_alloc ?_ _
    refine only_set ?_ (.inl rfl) _
    refine only_set ?_ (.inl rfl) _
    exact World.grownBy.refl w _
  · rw [show calleeC 2 1 1 body = ((calleeC 1 1 1 ⟨#[]⟩).set 0 (.int .u8 2)).set 3 (.string body) from rfl]
    refine h9_alloc ?_ _
    refine h9_alloc ?_ _
    refine h9_alloc ?_ _
    refine h9_set ?_ 3 _
    exact h9_set HH.out 0 _

theorem busy_any (b : Nat) (busy : Bool) (k last : Int) (w : World) (hh : Holds9 w b 90 (callerC busy k last)) :
    Calls Try.prog 49 #[.pointer (some ⟨b, 0, none⟩)] w fun x w' => x = .returned (.bool busy) ∧ w = w' := by
  have c6 := h9_cell hh 6
  simp only [callerC, List.getElem?_cons_zero, List.getElem?_cons_succ] at c6
  clear hh
  go_enter Try.func49, Try.ntmps49
  go_wp2
  go_ret
  exact ⟨rfl, rfl⟩

theorem ctake_idle (b : Nat) (k last : Int) (w : World) (hh : Holds9 w b 90 (callerC false k last)) :
    Calls Try.prog 38 #[.pointer (some ⟨b, 0, none⟩), .agg #[.int .u8 2, .int .u8 0, .int .u8 1, .int .u32 1, .int .u32 1, .string bodyA]] w fun x w' =>
      x = .returned (.tuple #[.string ⟨#[]⟩, .bool false]) ∧ w.grownBy w' (some b) ∧ Holds9 w' b 90 (callerC false k last) := by
  have HH := Lib.hid hh
  have HN := Lib.hid (h9_alloc hh (.cells #[.int .u8 2, .int .u8 0, .int .u8 1, .int .u32 1, .int .u32 1, .string bodyA] 48))
  clear hh
  go_enter Try.func38, Try.ntmps38
  go_wp2_with (go_at_call 49; refine (busy_any b false k last _ HN.out).mono ?_; rintro e w1 ⟨rfl, rfl⟩)
  go_ret2
  exact ⟨rfl, World.grownBy_alloc _ _ _, HN.out⟩

/-- What is known of the world while the caller's Take runs. -/
def CTakeW (b : Nat) (w : World) (cs : List Value) (X : World) : Prop :=
  Holds9 X b 90 cs ∧ Holds9 X w.heap.size 48 [.int .u8 2, .int .u8 0, .int .u8 1, .int .u32 1, .int .u32 1, .string bodyA] ∧ w.grownBy X (some b) ∧ b < w.heap.size

theorem ctakeW_start {b : Nat} {w : World} {cs : List Value} (h : Holds9 w b 90 cs) :
    CTakeW b w cs ((w.alloc (.cells #[.int .u8 2, .int .u8 0, .int .u8 1, .int .u32 1, .int .u32 1, .string bodyA] 48)).alloc (.cells #[.int .u8 2, .int .u8 0, .int .u8 1, .int .u32 1, .int .u32 1, .string bodyA] 48)) := by
  refine ⟨?_, ?_, ?_, h9_lt h⟩
  · exact h9_alloc (h9_alloc h _) _
  · exact h9_alloc (h9_new w 48 _) _
  · refine only_alloc ?_ _
    exact World.grownBy_alloc _ _ _

set_option maxHeartbeats 1000000 in
theorem ctake_busy (b : Nat) (k last : Int) (w : World) (hh : Holds9 w b 90 (callerC true k last)) :
    Calls Try.prog 38 #[.pointer (some ⟨b, 0, none⟩), .agg #[.int .u8 2, .int .u8 0, .int .u8 1, .int .u32 1, .int .u32 1, .string bodyA]] w fun x w' =>
      x = .returned (.tuple #[.string bodyA, .bool true]) ∧ w.grownBy w' (some b) ∧ Holds9 w' b 90 (callerC false k last) := by
  have HH := Lib.hid hh
  have HN := Lib.hid (h9_alloc hh (.cells #[.int .u8 2, .int .u8 0, .int .u8 1, .int .u32 1, .int .u32 1, .string bodyA] 48))
  have HS := Lib.hid (show bodyA.size ≤ 16384 by decide)
  clear hh
  go_enter Try.func38, Try.ntmps38
  go_wp2_with fail
  refine (busy_any b true k last _ HN.out).mono ?_
  rintro e w1 ⟨rfl, rfl⟩
  go_wp2_with fail
  refine (right_answer 1 1 1 bodyA _ (by omega) (by omega) (by omega) HS.out).mono ?_
  rintro e w1 ⟨rfl, rfl⟩
  go_wp2
  refine at_world (CTakeW b w (callerC true k last)) (ctakeW_start HH.out) ?_
  rintro X hX
  have HX := Lib.hid hX
  obtain ⟨h1, h2, hg, hlt⟩ := hX
  have c1 := h9_cell h1 1
  have c3 := h9_cell h1 3
  have c4 := h9_cell h1 4
  have c6 := h9_cell h1 6
  have f6 := h9_free h1 6
  have d0 := h9_cell h2 0
  have d1 := h9_cell h2 1
  have d2 := h9_cell h2 2
  have d3 := h9_cell h2 3
  have d4 := h9_cell h2 4
  have d5 := h9_cell h2 5
  have z1 := h9_lt h1
  have z2 := h9_lt h2
  simp only [callerC, List.getElem?_cons_zero, List.getElem?_cons_succ] at c1 c3 c4 c6 d0 d1 d2 d3 d4 d5
  clear h1 h2 hg HH HN HS
  go_region_held3 (fun w' => w'.cell? ⟨b, 1, none⟩ = some (.int .u8 1) ∧ w'.cell? ⟨b, 3, none⟩ = some (.int .u32 1) ∧ w'.cell? ⟨b, 4, none⟩ = some (.int .u32 1) ∧ w'.cell? ⟨w.heap.size, 5, none⟩ = some (.string bodyA))
    (first | go_keep | skip) (skip)
  go_wp2
  go_ret2
  refine ⟨rfl, ?_, ?_⟩
  · refine only_drew ?_
    refine only_alloc ?_ _
    refine only_set ?_ (.inl rfl) _
    exact HX.out.2.2.1
  · rw [show callerC false k last = (callerC true k last).set 6 (.bool false) from rfl]
    show Holds9 (World.alloc _ _) _ _ _
    refine h9_alloc ?_ _
    exact h9_set HX.out.1 6 _
end Go.Proofs.Ytklibbmlkjlbiaa
