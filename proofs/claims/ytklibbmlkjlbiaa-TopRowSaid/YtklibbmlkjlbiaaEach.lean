/- All the packets of bytes: the iterator each, and All's loop over it. -/
import Derived.Test.YtklibbmlkjlbiaaCuts
import Derived.RangeFuncNested
import Derived.RangeFuncBound
import Derived.RangeFuncCalls
import Derived.RangeFuncLeaves
import Derived.RangeFuncBox
import Derived.Shelf.Abstract
import Derived.Shelf.RegionOpen
import Derived.WalkKit
import Derived.OwnWalkIn
import Derived.TacticsInMore
import Derived.LoopNIn
import Derived.LoopIn
import Derived.Maps.AppendAt
namespace Go.Proofs.Ytklibbmlkjlbiaa
open Go.RowKit Go.Shelf
attribute [local go_sem] Oper.semAt_some

theorem each_in (n : Nat) (A : Option Addr) (T c : Nat) (w : World) :
    CallsIn Fence.wide n Try.prog 47 #[.slice A T c] w fun e w' => e = .returned (.func (.func 51) #[] #[.pointer (some ⟨w.heap.size, 0, none⟩)]) ∧ w' = w.alloc (.cells #[.slice A T c] 27) := by
  refine callsIn_of_wp Try.func47 rfl trivial ?_ rfl
  simp only [Try.ntmps47, List.size_toArray, List.length_cons, List.length_nil, Nat.reduceAdd, Nat.reduceSub, Array.replicate_succ, Array.replicate_zero, List.push_toArray, List.append_toArray, List.nil_append, List.cons_append]
  gi_wp2
  go_ret
  exact ⟨rfl, rfl⟩

/-- An answer of the server, as the law makes it: to whom, which, what. -/
structure Pk where
  t : Nat
  s : Nat
  b : ByteArray

/-- The answer's bytes, its value, and that it is a right one. -/
def Pk.enc (p : Pk) : List UInt8 := encB 2 0 p.t 0 p.s p.b.data.toList
def Pk.val (p : Pk) : Value := .agg #[.int .u8 2, .int .u8 0, .int .u8 p.t, .int .u32 0, .int .u32 p.s, .string p.b]
def Pk.ok (p : Pk) : Prop := 1 ≤ p.t ∧ p.t ≤ 3 ∧ 1 ≤ p.s ∧ p.s < 4294967296 ∧ p.b.size ≤ 500
/-- All their bytes. -/
def encs : List Pk → List UInt8
  | [] => []
  | p :: l => p.enc ++ encs l
/-- Where each ends. -/
def ends (a : Nat) : List Pk → List (Nat × Pk)
  | [] => []
  | p :: l => (a + (19 + p.b.size), p) :: ends (a + (19 + p.b.size)) l

theorem enc_length (p : Pk) : p.enc.length = 19 + p.b.size := by
  unfold Pk.enc encB
  rw [List.length_append, encH_length, lowB_length, ← Lib.size_eq]
  omega
theorem encs_app (a b : List Pk) : encs (a ++ b) = encs a ++ encs b := by
  induction a with
  | nil => rfl
  | cons p a ih => simp [encs, ih]
theorem ends_app (x : Nat) (a b : List Pk) : ends x (a ++ b) = ends x a ++ ends (x + (encs a).length) b := by
  induction a generalizing x with
  | nil => simp [ends, encs]
  | cons p a ih =>
    simp only [List.cons_append, ends, ih, encs, List.length_append, enc_length]
    rw [Nat.add_assoc x]
theorem ends_length (x : Nat) (a : List Pk) : (ends x a).length = a.length := by
  induction a generalizing x with
  | nil => rfl
  | cons p a ih => simp [ends, ih]

/-- What the loop is handed. -/
abbrev yv (x : Nat × Pk) : Array Value := #[.int .i64 (x.1 : Int), x.2.val]

/-- The bytes lie below n₀. -/
def Lies (n₀ : Nat) (W : World) (A : Option Addr) (T : Nat) (L : List UInt8) : Prop := T = L.length ∧ (T = 0 ∨ ∃ g, A = some ⟨g, 0, none⟩ ∧ g < n₀ ∧ ∀ j, j < T → W.cell? ⟨g, 0 + j, none⟩ = (cellsOf L)[j]?)
theorem Lies.below {n₀ : Nat} {W X : World} {A : Option Addr} {T : Nat} {L : List UInt8} (h : Lies n₀ W A T L) (hb : Below n₀ W X) : Lies n₀ X A T L := by
  obtain ⟨h1, h2 | ⟨g, rfl, hg, hc⟩⟩ := h
  · exact ⟨h1, .inl h2⟩
  · exact ⟨h1, .inr ⟨g, rfl, hg, fun j hj => (hb.cell (p := ⟨g, 0 + j, none⟩) hg).trans (hc j hj)⟩⟩

/-- What is left of the bytes behind the first packets. -/
theorem Lies.at {n₀ : Nat} {W : World} {A : Option Addr} {T : Nat} {pre : List Pk} {p : Pk} {r : List Pk} (h : Lies n₀ W A T (encs (pre ++ p :: r))) :
    ∃ g, A = some ⟨g, 0, none⟩ ∧ g < n₀ ∧ T = (encs pre).length + (p.enc ++ encs r).length ∧ ∀ j, j < T - (encs pre).length → W.cell? ⟨g, (encs pre).length + j, none⟩ = (cellsOf (p.enc ++ encs r))[j]? := by
  obtain ⟨h1, h2⟩ := h
  have e : encs (pre ++ p :: r) = encs pre ++ (p.enc ++ encs r) := by rw [encs_app]; rfl
  rw [e] at h1 h2
  rw [List.length_append] at h1
  have hp := enc_length p
  rcases h2 with h2 | ⟨g, rfl, hg, hc⟩
  · rw [h2, List.length_append] at h1; omega
  · refine ⟨g, rfl, hg, h1, fun j hj => ?_⟩
    have h := hc ((encs pre).length + j) (by omega)
    rw [Nat.zero_add] at h
    rw [h, cells_app, List.getElem?_append_right (by rw [cells_length]; omega), cells_length]
    congr 1
    omega

theorem first_pk (g off n c : Nat) (p : Pk) (r : List Pk) (W : World) (hp : p.ok) (hg : g < W.heap.size) (hn : n = (p.enc ++ encs r).length) (hnc : n ≤ c) (hn1 : n ≤ 100000) (hc : ∀ j, j < n → W.cell? ⟨g, off + j, none⟩ = (cellsOf (p.enc ++ encs r))[j]?) :
    Calls Try.prog 52 #[.slice (some ⟨g, off, none⟩) n c] W fun x w' => x = .returned (.tuple #[p.val, .int .i64 ((19 + p.b.size : Nat) : Int), .bool true]) ∧ Below W.heap.size W w' := by
  obtain ⟨h1, h2, h3, h4, h5⟩ := hp
  have h := first_ok g off n c 2 0 p.t 0 p.s p.b (encs r) W hg (by omega) (by omega) (by omega) (by omega) h4 (by omega) hn hnc hn1 hc
  have e : rightP ((2 : Nat) : Int) ((0 : Nat) : Int) (p.t : Int) (p.s : Int) p.b.size = true := by unfold rightP; rw [decide_eq_true_eq]; right; omega
  rw [e] at h
  exact h

/-- What the loop's body must keep: what lay below n₀, and the block that holds the bytes. -/
def KeepB (n₀ Bn : Nat) (A B : World) : Prop := Below n₀ A B ∧ B.heap[Bn]? = A.heap[Bn]?

set_option maxRecDepth 100000 in
set_option maxHeartbeats 1000000 in
/-- The iterator: every packet in its order, and where it ends; for every loop body that keeps what lay below n₀. -/
theorem each1_in (n : Nat) (hn : 1 ≤ n) (l Bn n₀ T c : Nat) (A : Option Addr) (ps : List Pk) (hps : ∀ p ∈ ps, p.ok) (hT : T ≤ 100000) (hTc : T ≤ c) (J Jx : List (Nat × Pk) → World → Prop)
    (hY : ∀ pre x W, J pre W → pre.length < ps.length → YieldAt Fence.wide (n - 1) Try.prog l (yv x) W fun e W' =>
      (e = .returned (.bool true) ∧ J (pre ++ [x]) W' ∧ KeepB n₀ Bn W W') ∨ (e = .returned (.bool false) ∧ Jx (pre ++ [x]) W'))
    (W : World) (hJ : AbidesFrom W.heap.size J) (hW0 : n₀ ≤ W.heap.size) (hBn0 : Bn < W.heap.size) (hBn : W.cell? ⟨Bn, 0, none⟩ = some (.slice A T c)) (hL : Lies n₀ W A T (encs ps)) (h0 : J [] W) :
    CallsIn Fence.wide n Try.prog 51 #[.func (.yield l) #[] #[], .pointer (some ⟨Bn, 0, none⟩)] W fun e W' => (∃ v, e = .returned v) ∧
      ((∃ ys, ys = ends 0 ps ∧ J ys W') ∨ (∃ pre, True ∧ Jx pre W')) := by
  refine callsIn_of_wp Try.func51 rfl trivial ?_ rfl
  simp only [Try.ntmps51, List.size_toArray, List.length_cons, List.length_nil, Nat.reduceAdd, Nat.reduceSub, Array.replicate_succ, Array.replicate_zero, List.push_toArray, List.append_toArray, List.nil_append, List.cons_append]
  gi_wp2
  gi_loopw [3] (fun a wr => ∃ (pre rest : List Pk), a = .int .i64 ((encs pre).length : Int) ∧ ps = pre ++ rest ∧ (Below n₀ W wr ∧ wr.heap[Bn]? = W.heap[Bn]?) ∧ W.heap.size ≤ wr.heap.size ∧ J (ends 0 pre) wr)
    (fun a _ => T + 1 - (intOf a).toNat)
  case atStart => exact ⟨[], ps, rfl, rfl, ⟨Below.refl _ _, rfl⟩, Nat.le_refl _, h0⟩
  case round =>
    obtain ⟨pre, rest, rfl, hx, ⟨hbW, hbB⟩, hsz, hJs⟩ := hrel
    have HB := Lib.hid hbW
    have HBB := Lib.hid hbB
    have HJ := Lib.hid hJs
    have HL := Lib.hid (hL.below hbW)
    have hb0 : wr.cell? ⟨Bn, 0, none⟩ = some (.slice A T c) := (World.cell?_of_block (w := W) hbB).trans hBn
    have hpl : (encs pre).length ≤ T := by rw [hL.1, hx, encs_app, List.length_append]; omega
    clear hbW hJs hbB
    have HBn := Lib.hid hBn
    have HL0 := Lib.hid hL
    have HP := Lib.hid hps
    have HX := Lib.hid hx
    clear hBn hL hps hx
    cases rest with
    | nil =>
      have hTe : T = (encs pre).length := by rw [HL0.out.1, HX.out]; simp
      obtain ⟨a, ha⟩ : ∃ a, a = (encs pre).length := ⟨_, rfl⟩
      rw [← ha] at hpl hTe ⊢
      have HTe := Lib.hid hTe
      have haT : T ≤ a := by omega
      clear ha hTe
      gi_wp2_with fail
      all_goals
        refine ⟨trivial, ?_⟩
        refine (callsIn_wide.2 (first_short _ _ _ (by omega) wr)).mono ?_
        rintro e X ⟨rfl, hX⟩
        have HXb := Lib.hid hX
        clear hX
        gi_wp2_with fail
      all_goals
        refine ⟨fun _ h => (by cases h), ?_⟩
        gi_wp2
        refine bodyPost_ret (results_none rfl _ _ _) rfl ?_
        refine ⟨⟨_, rfl⟩, .inl ⟨_, rfl, ?_⟩⟩
        rw [show ps = pre from by rw [HX.out]; simp]
        exact hJ _ wr _ none HJ.out (only_below (HXb.out.alloc HXb.out.size _) none) (fun r h => by cases h)
    | cons p r =>
      obtain ⟨g, hA, hg, hTg, hc⟩ := Lies.at (by rw [← HX.out]; exact HL.out)
      have hpo := HP.out p (by rw [HX.out]; simp)
      have hgw : g < wr.heap.size := by omega
      have hel := enc_length p
      have hfc := first_pk g (encs pre).length (T - (encs pre).length) (c - (encs pre).length) p r wr hpo hgw (by omega) (by omega) (by omega) hc
      unfold Pk.val at hfc
      have HFC := Lib.hid hfc
      have hends : ends 0 (pre ++ [p]) = ends 0 pre ++ [((encs pre).length + (19 + p.b.size), p)] := by rw [ends_app]; simp [ends]
      have hpb : p.b.size ≤ 500 := hpo.2.2.2.2
      have HE := Lib.hid hends
      have hlen : (encs (pre ++ [p])).length = (encs pre).length + (19 + p.b.size) := by rw [encs_app, List.length_append]; simp [encs, hel]
      have HLn := Lib.hid hlen
      have hlt : (encs pre).length + (19 + p.b.size) ≤ T := by rw [hTg, List.length_append, hel]; omega
      obtain ⟨a, ha⟩ : ∃ a, a = (encs pre).length := ⟨_, rfl⟩
      rw [← ha] at hpl HFC HE HLn hlt ⊢
      have HA := Lib.hid ha
      have hat : a < T := by omega
      subst hA
      clear ha hfc hc hends hlen hTg hel hgw
      obtain ⟨m, hm⟩ : ∃ m, m = 19 + p.b.size := ⟨_, rfl⟩
      rw [← hm] at HFC HE HLn hlt
      have hm0 : 0 < m := by omega
      clear hm hpb
      have HN := Lib.hid (show (ends 0 pre).length < ps.length by rw [ends_length, HX.out, List.length_append]; simp)
      gi_wp2_with fail
      refine ⟨trivial, ?_⟩
      refine (callsIn_wide.2 HFC.out).mono ?_
      rintro e X ⟨rfl, hX⟩
      have HXb := Lib.hid (hX.alloc hX.size (.cells #[.int .u8 2, .int .u8 0, .int .u8 p.t, .int .u32 0, .int .u32 p.s, .string p.b] 48))
      have HJ2 := Lib.hid (hJ _ wr _ none HJ.out (only_below HXb.out none) (fun r h => by cases h))
      obtain ⟨fn, tmps, assign, body, hy, hR⟩ := hY (ends 0 pre) (a + m, p) _ HJ2.out HN.out
      simp only [yv, Pk.val, Int.natCast_add] at hy
      have HR := Lib.hid hR
      clear hX hR
      gi_wp2_with fail
      refine HR.out.mono ?_
      rintro e W3 (⟨rfl, hJ3, hk3⟩ | ⟨rfl, hJx3⟩)
      · have HJ3 := Lib.hid hJ3
        have HK3 := Lib.hid hk3
        clear hJ3 hk3
        gi_wp2_with fail
        go_roundw
        case rel =>
          refine ⟨pre ++ [p], r, ?_, by rw [HX.out]; simp, ⟨(HB.out.trans (HXb.out.mono (Nat.le_trans hW0 hsz))).trans HK3.out.1, (HK3.out.2.trans (HXb.out.block Bn (Nat.lt_of_lt_of_le hBn0 hsz))).trans HBB.out⟩, ?_, ?_⟩
          · rw [HLn.out, Int.natCast_add]
          · have h1 := HK3.out.1.size
            have h2 := HXb.out.size
            omega
          · rw [HE.out]
            exact HJ3.out
        case measure => simp [intOf]; omega
      · have HJx3 := Lib.hid hJx3
        clear hJx3
        gi_wp2_with fail
        refine bodyPost_ret (results_none rfl _ _ _) rfl ?_
        exact ⟨⟨_, rfl⟩, .inr ⟨_, trivial, HJx3.out⟩⟩

/-- each's value has the iterator's contract. -/
theorem each_stops (n : Nat) (hn : 1 ≤ n) (Bn n₀ T c : Nat) (A : Option Addr) (ps : List Pk) (hps : ∀ p ∈ ps, p.ok) (hT : T ≤ 100000) (hTc : T ≤ c) (w : World) (hW0 : n₀ ≤ w.heap.size) (hBn0 : Bn < w.heap.size) (hBn : w.cell? ⟨Bn, 0, none⟩ = some (.slice A T c)) (hL : Lies n₀ w A T (encs ps)) :
    SeqStopsK Fence.wide n Try.prog 51 #[.pointer (some ⟨Bn, 0, none⟩)] yv (KeepB n₀ Bn) (fun ys => ys = ends 0 ps) (fun _ => True) ps.length w := fun l J Jx W hW hJ _ hY h0 =>
  each1_in n hn l Bn n₀ T c A ps hps hT hTc J Jx hY W hJ (Nat.le_trans hW0 hW.size) (Nat.lt_of_lt_of_le hBn0 hW.size) ((hW.cell (p := ⟨Bn, 0, none⟩) hBn0).trans hBn) (hL.below (hW.mono hW0)) h0
end Go.Proofs.Ytklibbmlkjlbiaa
