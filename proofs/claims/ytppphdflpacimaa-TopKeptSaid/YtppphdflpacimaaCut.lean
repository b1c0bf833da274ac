/- The first packet of bytes: the function first, where the bytes are a packet's. -/
import Derived.Test.YtppphdflpacimaaFirst
import Derived.StillTailTactics
namespace Go.Proofs.Ytppphdflpacimaa
open Go.RowKit

/-- A quiet walk in one world is a still one. -/
theorem still_of_quiet {P : Program} {ops : Array Oper} {w : World} {Q : Act → Prop} : ∀ (l : List Oper) (a : Act), wpQuiet P ops (fun w' => w' = w) Q l a → wpStill P ops w Q l a
  | [], _, h => h
  | o :: l, a, h => by
    unfold wpQuiet at h
    unfold wpStill
    split
    · rename_i hw
      rw [if_pos hw] at h
      obtain ⟨v, h1, h2⟩ := h
      have h3 := h1 w rfl
      unfold Oper.quietAt at h3
      unfold Oper.still
      generalize (execOp a.eval o).run P w = r at *
      cases r with
      | ok n w' =>
        cases n <;> simp only [Oper.quietUpon] at h3 <;> simp only [Oper.stillUpon]
        case value u => obtain ⟨e1, e2⟩ := h3; exact ⟨e1, by rw [e2]; exact still_of_quiet l _ h2⟩
        case skip => obtain ⟨e1, e2⟩ := h3; exact ⟨e1, by subst e2; exact still_of_quiet l _ h2⟩
        case enter f args => obtain ⟨e1, hc⟩ := h3; exact ⟨e1, v, hc, still_of_quiet l _ h2⟩
      | halt x w' => simp only [Oper.quietUpon] at h3
    · rename_i hw
      rw [if_neg hw] at h
      exact still_of_quiet l _ h

/-- A region that draws its order and stores at its end: its head read in one world, quietly; its tail walked. -/
theorem wp_region_quiet_tail {P : Program} {id : Nat} {Q : Exit → Act → World → Prop} {a : Act} {w : World} {l : List Oper} (n : Nat) (hm : P.follows .mixedOrders = true) (hB : Region.lexTailB .any l.toArray n = true)
    (h : ∀ X, X = w.drew → wpQuiet P l.toArray (fun w' => w' = X) (fun a' => wpList P l.toArray Q (l.drop n) a' X) (l.take n) a) : (Code.region id l.toArray true).wp P Q a w :=
  wp_region_still_tail n hm hB (still_of_quiet _ _ (h _ rfl))

/-- The same world but for draws. -/
def Same (w X : World) : Prop := ∃ n, X = w.drewN n
theorem same_drew {w X : World} (h : Same w X) : Same w X.drew := by
  obtain ⟨n, rfl⟩ := h
  exact ⟨n + 1, rfl⟩
theorem same_refl (w : World) : Same w w := ⟨0, rfl⟩
theorem same_heap {w X : World} (h : Same w X) : X.heap = w.heap := by
  obtain ⟨n, rfl⟩ := h
  rfl
theorem same_cell {w X : World} (h : Same w X) (p : Addr) : X.cell? p = w.cell? p := by
  obtain ⟨n, rfl⟩ := h
  rfl

theorem h9_drew {Z : World} {b : Nat} {t : TypeId} {cs : List Value} (h : Holds9 Z b t cs) : Holds9 Z.drew b t cs := h
theorem pk_facts {Z : World} {b : Nat} {k f t e s : Int} {body : ByteArray} (h : Holds9 Z b 25 [.int .u8 k, .int .u8 f, .int .u8 t, .int .u32 e, .int .u32 s, .string body]) :
    Z.cell? ⟨b, 0, none⟩ = some (.int .u8 k) ∧ Z.cell? ⟨b, 1, none⟩ = some (.int .u8 f) ∧ Z.cell? ⟨b, 2, none⟩ = some (.int .u8 t) ∧ Z.cell? ⟨b, 3, none⟩ = some (.int .u32 e) ∧ Z.cell? ⟨b, 4, none⟩ = some (.int .u32 s) ∧ Z.cell? ⟨b, 5, none⟩ = some (.string body) ∧ Z.frozen? ⟨b, 0, none⟩ = false ∧ Z.frozen? ⟨b, 1, none⟩ = false ∧ Z.frozen? ⟨b, 2, none⟩ = false ∧ Z.frozen? ⟨b, 3, none⟩ = false ∧ Z.frozen? ⟨b, 4, none⟩ = false ∧ Z.frozen? ⟨b, 5, none⟩ = false :=
  ⟨by simpa using h9_cell h 0, by simpa using h9_cell h 1, by simpa using h9_cell h 2, by simpa using h9_cell h 3, by simpa using h9_cell h 4, by simpa using h9_cell h 5, h9_free h 0, h9_free h 1, h9_free h 2, h9_free h 3, h9_free h 4, h9_free h 5⟩

set_option maxHeartbeats 1000000 in
set_option maxRecDepth 100000 in
theorem first_core (g off n c E l0 l1 k f t e s N : Nat) (body : ByteArray) (w : World)
    (hn : E + 4 ≤ n) (hnc : n ≤ c) (hb : n ≤ 100000) (hE : E = 15 + l0 + l1 * 256) (hbs : body.size = E - 15) (h0 : l0 < 256) (h1 : l1 < 256)
    (c0 : (w.alloc (.cells #[.int .u8 0, .int .u8 0, .int .u8 0, .int .u32 0, .int .u32 0, .string ⟨#[]⟩] 25)).cell? ⟨g, off, none⟩ = some (.int .u8 66)) (c1 : (w.alloc (.cells #[.int .u8 0, .int .u8 0, .int .u8 0, .int .u32 0, .int .u32 0, .string ⟨#[]⟩] 25)).cell? ⟨g, off + 1, none⟩ = some (.int .u8 87)) (c2 : (w.alloc (.cells #[.int .u8 0, .int .u8 0, .int .u8 0, .int .u32 0, .int .u32 0, .string ⟨#[]⟩] 25)).cell? ⟨g, off + 2, none⟩ = some (.int .u8 k)) (c3 : (w.alloc (.cells #[.int .u8 0, .int .u8 0, .int .u8 0, .int .u32 0, .int .u32 0, .string ⟨#[]⟩] 25)).cell? ⟨g, off + 3, none⟩ = some (.int .u8 f)) (c4 : (w.alloc (.cells #[.int .u8 0, .int .u8 0, .int .u8 0, .int .u32 0, .int .u32 0, .string ⟨#[]⟩] 25)).cell? ⟨g, off + 4, none⟩ = some (.int .u8 t))
    (c13 : (w.alloc (.cells #[.int .u8 0, .int .u8 0, .int .u8 0, .int .u32 0, .int .u32 0, .string ⟨#[]⟩] 25)).cell? ⟨g, off + 13, none⟩ = some (.int .u8 l0)) (c14 : (w.alloc (.cells #[.int .u8 0, .int .u8 0, .int .u8 0, .int .u32 0, .int .u32 0, .string ⟨#[]⟩] 25)).cell? ⟨g, off + 14, none⟩ = some (.int .u8 l1))
    (hfold : ∀ X c', Same (w.alloc (.cells #[.int .u8 0, .int .u8 0, .int .u8 0, .int .u32 0, .int .u32 0, .string ⟨#[]⟩] 25)) X → Calls Try.prog 14 #[.slice (some ⟨g, off, none⟩) E c'] X fun x w' => x = .returned (.int .u32 N) ∧ X = w')
    (hr1 : ∀ X m c', Same (w.alloc (.cells #[.int .u8 0, .int .u8 0, .int .u8 0, .int .u32 0, .int .u32 0, .string ⟨#[]⟩] 25)) X → 4 ≤ m → Calls Try.prog 23 #[.slice (some ⟨g, off + E, none⟩) m c'] X fun x w' => x = .returned (.int .u32 N) ∧ X = w')
    (hr2 : ∀ X m c', Same (w.alloc (.cells #[.int .u8 0, .int .u8 0, .int .u8 0, .int .u32 0, .int .u32 0, .string ⟨#[]⟩] 25)) X → 4 ≤ m → Calls Try.prog 23 #[.slice (some ⟨g, off + 5, none⟩) m c'] X fun x w' => x = .returned (.int .u32 e) ∧ X = w')
    (hr3 : ∀ X m c', Same (w.alloc (.cells #[.int .u8 0, .int .u8 0, .int .u8 0, .int .u32 0, .int .u32 0, .string ⟨#[]⟩] 25)) X → 4 ≤ m → Calls Try.prog 23 #[.slice (some ⟨g, off + 9, none⟩) m c'] X fun x w' => x = .returned (.int .u32 s) ∧ X = w')
    (hconv : ∀ X c', Same (w.alloc (.cells #[.int .u8 0, .int .u8 0, .int .u8 0, .int .u32 0, .int .u32 0, .string ⟨#[]⟩] 25)) X → (convert 27 9 (.slice (some ⟨g, off + 15, none⟩) (E - 15) c')).run Try.prog X = .ok (.string body) X) :
    Calls Try.prog 20 #[.slice (some ⟨g, off, none⟩) n c] w fun x w' => x = .returned (.tuple #[.agg #[.int .u8 k, .int .u8 f, .int .u8 t, .int .u32 e, .int .u32 s, .string body], .int .i64 ((E + 4 : Nat) : Int), .bool (rightP k f t s (E - 15))]) ∧ Below w.heap.size w w' := by
  have HF := Lib.hid hfold
  have HR1 := Lib.hid hr1
  have HR2 := Lib.hid hr2
  have HR3 := Lib.hid hr3
  have HC := Lib.hid hconv
  clear hfold hr1 hr2 hr3 hconv
  have hn19 : 19 ≤ n := by omega
  have he1 : (15 : Int) + ↑l0 + ↑l1 * 256 = ↑E := by omega
  have HE := Lib.hid hE
  have HBS := Lib.hid hbs
  have hE15 : 15 ≤ E := by omega
  clear hE hbs
  go_enter Try.func20, Try.ntmps20
  go_wp2_with fail
  go_region
  go_wp2_with fail
  have hlt : decide ((n : Int) < (E : Int) + 4) = false := by rw [decide_eq_false_iff_not]; omega
  refine wp_region_class (C := Same (w.alloc (.cells #[.int .u8 0, .int .u8 0, .int .u8 0, .int .u32 0, .int .u32 0, .string ⟨#[]⟩] 25))) rfl (by decide +kernel) (same_drew (same_drew (same_refl _))) ?_
  repeat (first
    | go_big_quiet_skip
    | (go_big_quiet_want
       first
         | (go_big_quiet_op; go_big_quiet_on)
         | (go_big_quiet_op; refine ⟨_, fun _ _ => rfl, ?_⟩; go_big_quiet_on)
         | (go_big_quiet_op; refine ⟨.int .u32 N, fun X hX => (HF.out X _ hX).mono ?_, ?_⟩; (rintro x w1 ⟨rfl, rfl⟩; exact ⟨rfl, hX⟩); go_big_quiet_on)
         | (go_big_quiet_op; refine ⟨.int .u32 N, fun X hX => (HR1.out X _ _ hX (by omega)).mono ?_, ?_⟩; (rintro x w1 ⟨rfl, rfl⟩; exact ⟨rfl, hX⟩); go_big_quiet_on))
    | rw [hlt])
  refine wpQuiet_nil ?_
  intro w1 hw1
  have HW := Lib.hid hw1
  clear hw1 c0 c1 c13 c14 hlt
  go_wp2_with fail
  refine wp_region_quiet_tail 20 rfl (by kernel_rfl) ?_
  intro X hX
  have hS : Same (w.alloc (.cells #[.int .u8 0, .int .u8 0, .int .u8 0, .int .u32 0, .int .u32 0, .string ⟨#[]⟩] 25)) X := by rw [hX]; exact same_drew HW.out
  have d2 := (same_cell hS ⟨g, off + 2, none⟩).trans c2
  have d3 := (same_cell hS ⟨g, off + 3, none⟩).trans c3
  have d4 := (same_cell hS ⟨g, off + 4, none⟩).trans c4
  have hP : Holds9 X w.heap.size 25 [.int .u8 0, .int .u8 0, .int .u8 0, .int .u32 0, .int .u32 0, .string ⟨#[]⟩] := by
    unfold Holds9
    rw [same_heap hS]
    exact h9_new w 25 _
  have hcv := fun c' => HC.out X c' hS
  have HP := Lib.hid hP
  have HS := Lib.hid hS
  clear hP hS hX c2 c3 c4
  simp only [List.take_succ_cons, List.take_zero, List.drop_succ_cons, List.drop_zero]
  repeat (first
    | go_big_quiet_skip
    | (go_big_quiet_want
       first
         | (go_big_quiet_op; go_big_quiet_on)
         | (go_big_quiet_op; refine ⟨_, fun _ _ => rfl, ?_⟩; go_big_quiet_on)
         | (go_big_quiet_op; refine ⟨.int .u32 e, (HR2.out X _ _ HS.out (by omega)).mono ?_, ?_⟩; (rintro x w1 ⟨rfl, rfl⟩; exact ⟨rfl, rfl⟩); go_big_quiet_on; clear HR2)
         | (go_big_quiet_op; refine ⟨.int .u32 s, (HR3.out X _ _ HS.out (by omega)).mono ?_, ?_⟩; (rintro x w1 ⟨rfl, rfl⟩; exact ⟨rfl, rfl⟩); go_big_quiet_on)))
  refine wpQuiet_nil ?_
  have p0 := h9_cell HP.out 0
  have p1 := h9_cell HP.out 1
  have p2 := h9_cell HP.out 2
  have p3 := h9_cell HP.out 3
  have p4 := h9_cell HP.out 4
  have p5 := h9_cell HP.out 5
  have f0 := h9_free HP.out 0
  have f1 := h9_free HP.out 1
  have f2 := h9_free HP.out 2
  have f3 := h9_free HP.out 3
  have f4 := h9_free HP.out 4
  have f5 := h9_free HP.out 5
  simp only [List.getElem?_cons_zero, List.getElem?_cons_succ] at p0 p1 p2 p3 p4 p5
  clear hcv d2 d3 d4
  go_wp2_with fail
  refine at_world (fun Y => Holds9 Y w.heap.size 25 [.int .u8 k, .int .u8 f, .int .u8 t, .int .u32 e, .int .u32 s, .string body] ∧ Below w.heap.size w Y) ⟨?_, ?_⟩ ?_
  · exact h9_set (h9_set (h9_set (h9_set (h9_set (h9_set HP.out 0 (.int .u8 k)) 1 (.int .u8 f)) 2 (.int .u8 t)) 3 (.int .u32 e)) 4 (.int .u32 s)) 5 (.string body)
  · have hX : Below w.heap.size w X := by
      obtain ⟨m, hm⟩ := HS.out
      rw [hm]
      have h0 : Below w.heap.size w _ := (Below.refl w.heap.size w).alloc (Nat.le_refl _) (.cells #[.int .u8 0, .int .u8 0, .int .u8 0, .int .u32 0, .int .u32 0, .string ⟨#[]⟩] 25)
      exact ⟨h0.os, h0.tape, h0.output, h0.size, h0.block⟩
    exact (((((hX.setCell (p := ⟨w.heap.size, 0, none⟩) (Nat.le_refl _) _).setCell (p := ⟨w.heap.size, 1, none⟩) (Nat.le_refl _) _).setCell (p := ⟨w.heap.size, 2, none⟩) (Nat.le_refl _) _).setCell (p := ⟨w.heap.size, 3, none⟩) (Nat.le_refl _) _).setCell (p := ⟨w.heap.size, 4, none⟩) (Nat.le_refl _) _).setCell (p := ⟨w.heap.size, 5, none⟩) (Nat.le_refl _) _
  clear p0 p1 p2 p3 p4 p5 f0 f1 f2 f3 f4 f5
  rintro Y ⟨hY1, hY2⟩
  have p0 := h9_cell hY1 0
  have p1 := h9_cell hY1 1
  have p2 := h9_cell hY1 2
  have p3 := h9_cell hY1 3
  have p4 := h9_cell hY1 4
  have p5 := h9_cell hY1 5
  simp only [List.getElem?_cons_zero, List.getElem?_cons_succ] at p0 p1 p2 p3 p4 p5
  have f0 := h9_free hY1 0
  have f1 := h9_free hY1 1
  have f2 := h9_free hY1 2
  have f3 := h9_free hY1 3
  have f4 := h9_free hY1 4
  have f5 := h9_free hY1 5
  have HY1 := Lib.hid hY1
  have HY2 := Lib.hid hY2
  have hlt := h9_lt hY1
  clear hY1 hY2 HP HS HW HC HF HR1 HR3
  go_region_held3 (fun w' => w'.cell? ⟨w.heap.size, 0, none⟩ = some (.int .u8 k) ∧ w'.cell? ⟨w.heap.size, 1, none⟩ = some (.int .u8 f) ∧ w'.cell? ⟨w.heap.size, 2, none⟩ = some (.int .u8 t) ∧ w'.cell? ⟨w.heap.size, 3, none⟩ = some (.int .u32 e) ∧ w'.cell? ⟨w.heap.size, 4, none⟩ = some (.int .u32 s) ∧ w'.cell? ⟨w.heap.size, 5, none⟩ = some (.string body) ∧ w'.frozen? ⟨w.heap.size, 0, none⟩ = false ∧ w'.frozen? ⟨w.heap.size, 1, none⟩ = false ∧ w'.frozen? ⟨w.heap.size, 2, none⟩ = false ∧ w'.frozen? ⟨w.heap.size, 3, none⟩ = false ∧ w'.frozen? ⟨w.heap.size, 4, none⟩ = false ∧ w'.frozen? ⟨w.heap.size, 5, none⟩ = false)
    (first | with_reducible exact pk_facts (h9_drew HY1.out) | with_reducible exact pk_facts (h9_drew (h9_alloc HY1.out _)) | with_reducible exact pk_facts (h9_drew (h9_alloc (h9_set (h9_set (h9_set (h9_set (h9_set (h9_set HY1.out 0 (.int .u8 k)) 1 (.int .u8 f)) 2 (.int .u8 t)) 3 (.int .u32 e)) 4 (.int .u32 s)) 5 (.string body)) _)) | go_keep)
    ((go_at_call 5; refine (right_any k f t e s body _).mono ?_; rintro x w' ⟨rfl, rfl⟩))
  go_wp2
  have hZ1 := h9_drew (h9_alloc (h9_set (h9_set (h9_set (h9_set (h9_set (h9_set HY1.out 0 (.int .u8 k)) 1 (.int .u8 f)) 2 (.int .u8 t)) 3 (.int .u32 e)) 4 (.int .u32 s)) 5 (.string body)) (.cells #[.int .u8 k, .int .u8 f, .int .u8 t, .int .u32 e, .int .u32 s, .string body] 25))
  have hZ2 := ((((((((HY2.out.setCell (p := ⟨w.heap.size, 0, none⟩) (Nat.le_refl _) (.int .u8 k)).setCell (p := ⟨w.heap.size, 1, none⟩) (Nat.le_refl _) (.int .u8 f)).setCell (p := ⟨w.heap.size, 2, none⟩) (Nat.le_refl _) (.int .u8 t)).setCell (p := ⟨w.heap.size, 3, none⟩) (Nat.le_refl _) (.int .u32 e)).setCell (p := ⟨w.heap.size, 4, none⟩) (Nat.le_refl _) (.int .u32 s)).setCell (p := ⟨w.heap.size, 5, none⟩) (Nat.le_refl _) (.string body))).alloc (by simp [World.setCell]; exact HY2.out.size) (.cells #[.int .u8 k, .int .u8 f, .int .u8 t, .int .u32 e, .int .u32 s, .string body] 25)).drew
  obtain ⟨q0, q1, q2, q3, q4, q5, _⟩ := pk_facts hZ1
  have e1 : IntKind.i64.wrap ((E : Int) + 4) = ((E + 4 : Nat) : Int) := by simp only [IntKind.wrap, IntKind.bits, IntKind.signed]; simp; omega
  rw [HBS.out, e1]
  refine bodyPost_ret (v := .tuple #[.agg #[.int .u8 k, .int .u8 f, .int .u8 t, .int .u32 e, .int .u32 s, .string body], .int .i64 ((E + 4 : Nat) : Int), .bool (rightP k f t s (E - 15))]) ?_ rfl ⟨rfl, hZ2⟩
  simp [results, Try.results20, go_sem, q0, q1, q2, q3, q4, q5]
end Go.Proofs.Ytppphdflpacimaa
