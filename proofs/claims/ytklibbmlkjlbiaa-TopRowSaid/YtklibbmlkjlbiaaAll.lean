/- All: every packet of bytes, gathered, and how far they go. -/
import Derived.Test.YtklibbmlkjlbiaaEach
namespace Go.Proofs.Ytklibbmlkjlbiaa
open Go.RowKit Go.Shelf
attribute [local go_sem] Oper.semAt_some

theorem pkInfo : (Try.prog.info? 48).map (fun i => (i.zero, i.size, i.bytes)) = some (some (.agg #[.int .u8 0, .int .u8 0, .int .u8 0, .int .u32 0, .int .u32 0, .string ⟨#[]⟩]), 6, 32) := by kernel_rfl

/-- A packet's cells; those of many. -/
def Pk.cells (p : Pk) : List Value := [.int .u8 2, .int .u8 0, .int .u8 p.t, .int .u32 0, .int .u32 p.s, .string p.b]
def cellsP : List (Nat × Pk) → List Value
  | [] => []
  | x :: l => x.2.cells ++ cellsP l
theorem cellsP_snoc (l : List (Nat × Pk)) (x : Nat × Pk) : cellsP (l ++ [x]) = cellsP l ++ x.2.cells := by
  induction l with
  | nil => simp [cellsP]
  | cons y l ih => simp [cellsP, ih]
/-- Where the last one ends. -/
def lastAt : List (Nat × Pk) → Nat
  | [] => 0
  | [x] => x.1
  | _ :: y :: l => lastAt (y :: l)
theorem lastAt_snoc (l : List (Nat × Pk)) (x : Nat × Pk) : lastAt (l ++ [x]) = x.1 := by
  induction l with
  | nil => rfl
  | cons y l ih =>
    cases l with
    | nil => rfl
    | cons z l => exact ih
theorem lastAt_ends (ps : List Pk) : lastAt (ends 0 ps) = (encs ps).length := by
  rcases List.eq_nil_or_concat ps with rfl | ⟨l, p, rfl⟩
  · rfl
  · have h : ends 0 (l ++ [p]) = ends 0 l ++ [((encs l).length + (19 + p.b.size), p)] := by rw [ends_app]; simp [ends]
    rw [List.concat_eq_append, h, lastAt_snoc, encs_app, List.length_append]
    simp [encs, enc_length]

theorem encs_ge (ps : List Pk) : ps.length ≤ (encs ps).length := by
  induction ps with
  | nil => simp [encs]
  | cons p l ih => simp [encs, enc_length]; omega
theorem cells_ones (p : Pk) : ∀ u ∈ p.cells, u.oneCell' = true := by
  intro u hu
  simp only [Pk.cells, List.mem_cons, List.not_mem_nil, or_false] at hu
  rcases hu with rfl | rfl | rfl | rfl | rfl | rfl <;> rfl

/-- The world between two rounds. -/
def AllW (w : World) (bv : Value) (pre : List (Nat × Pk)) (W : World) : Prop :=
  ∃ v, Boxed W w.heap.size 49 v ∧ Boxed W (w.heap.size + 1) 3 (.int .i64 (lastAt pre)) ∧ Boxed W (w.heap.size + 1 + 1) 27 bv ∧ W.ownsRow w.heap.size 48 6 v pre.length (cellsP pre) ∧ Below w.heap.size w W

theorem boxed_far {W W' : World} {row : Option Nat} {B : Nat} {t : TypeId} {v : Value} (h : Boxed W B t v) (hg : W.grownBy W' row) (hr : ∀ r, row = some r → ∃ o : Obj, W.heap[r]? = some o ∧ o.isCells = false) : Boxed W' B t v :=
  h.kept hg (fun e => by obtain ⟨o, ho, hc⟩ := hr B e.symm; rw [show W.heap[B]? = _ from h] at ho; cases ho; cases hc)
theorem row_far {W W' : World} {row : Option Nat} {base e size n : Nat} {v : Value} {xs : List Value} (h : W.ownsRow base e size v n xs) (hg : W.grownBy W' row) (hr : ∀ r, row = some r → ∃ o : Obj, W.heap[r]? = some o ∧ o.isCells = false) : W'.ownsRow base e size v n xs := by
  refine h.kept hg ?_
  by_cases hv : v.ownBlock = none
  · exact .inl hv
  · right
    intro e'
    rcases h.2 with ⟨rfl, _⟩ | ⟨g, cap, cur, rfl, _, hgb, _⟩
    · exact hv rfl
    · have e2 : row = some g := by rw [← e']; rfl
      obtain ⟨o, ho, hc⟩ := hr g e2
      rw [hgb] at ho
      cases ho
      cases hc

theorem allW_own (w : World) (bv : Value) (B : Nat) (hB : w.heap.size ≤ B) : OwnFrom B (AllW w bv) := by
  rintro s W W' row ⟨v, h1, h2, h3, h4, h5⟩ hg hr
  have hr' : ∀ r, row = some r → ∃ o : Obj, W.heap[r]? = some o ∧ o.isCells = false := fun r e => (hr r e).2
  exact ⟨v, boxed_far h1 hg hr', boxed_far h2 hg hr', boxed_far h3 hg hr', row_far h4 hg hr', h5.grown hg h5.size (fun k e => Nat.le_trans hB (hr k e).1)⟩

theorem allW_step {w W w1 : World} {bv v v' : Value} {pre : List (Nat × Pk)} {x : Nat × Pk} {o : Obj} (h1 : Boxed W w.heap.size 49 v) (h2 : Boxed W (w.heap.size + 1) 3 (.int .i64 (lastAt pre))) (h3 : Boxed W (w.heap.size + 1 + 1) 27 bv) (h4 : W.ownsRow w.heap.size 48 6 v pre.length (cellsP pre)) (h5 : Below w.heap.size w W)
    (hown' : w1.ownsRow w.heap.size 48 6 v' (pre.length + 1) (cellsP pre ++ x.2.cells)) (hg : (W.alloc o).grownBy w1 v.ownBlock) (B : Nat) :
    Boxed w1 w.heap.size 49 v ∧ Boxed w1 (w.heap.size + 1) 3 (.int .i64 (lastAt pre)) ∧
    (KeepsFrom B W ((w1.setCell ⟨w.heap.size, 0, none⟩ v').setCell ⟨w.heap.size + 1, 0, none⟩ (.int .i64 (x.1 : Int))) ∧ KeepB w.heap.size (w.heap.size + 1 + 1) W ((w1.setCell ⟨w.heap.size, 0, none⟩ v').setCell ⟨w.heap.size + 1, 0, none⟩ (.int .i64 (x.1 : Int))) ∧
      AllW w bv (pre ++ [x]) ((w1.setCell ⟨w.heap.size, 0, none⟩ v').setCell ⟨w.heap.size + 1, 0, none⟩ (.int .i64 (x.1 : Int)))) := by
  obtain ⟨a1, a2, a3, a4, a5⟩ := h1.appended (by decide) h4 h5.size (Nat.le_refl _) hown' hg
  have n1 : Boxed w1 (w.heap.size + 1) 3 (.int .i64 (lastAt pre)) := (h2.alloc o).kept hg (h2.not_row (by decide) h4)
  have b1 : Boxed w1 (w.heap.size + 1 + 1) 27 bv := (h3.alloc o).kept hg (h3.not_row (by decide) h4)
  have n2 := n1.other (B' := w.heap.size) (by omega) v'
  have b2 := b1.other (B' := w.heap.size) (by omega) v'
  have n3 := n2.set (.int .i64 (x.1 : Int))
  have b3 := b2.other (B' := w.heap.size + 1) (by omega) (.int .i64 (x.1 : Int))
  have o3 := a2.other (B' := w.heap.size + 1) (by omega) (.int .i64 (x.1 : Int))
  have r3 := a3.kept (grownBy_setCell' _ (w.heap.size + 1) (.int .i64 (x.1 : Int))) (.inr (n2.not_row (by decide) a3).symm)
  have bel : Below w.heap.size W ((w1.setCell ⟨w.heap.size, 0, none⟩ v').setCell ⟨w.heap.size + 1, 0, none⟩ (.int .i64 (x.1 : Int))) := a5.setCell (p := ⟨w.heap.size + 1, 0, none⟩) (by simp) _
  refine ⟨a1, n1, (a4.trans (KeepsOthers.setCell _ _ _)).from B, ⟨bel, (show _ = _ from b3).trans (show _ = _ from h3).symm⟩, v', o3, ?_, b3, ?_, h5.trans bel⟩
  · rw [lastAt_snoc]; exact n3
  · rw [cellsP_snoc, List.length_append]; exact r3

theorem keepB_t {n₀ Bn : Nat} {A B C : World} (h : KeepB n₀ Bn A B) (k : KeepB n₀ Bn B C) : KeepB n₀ Bn A C := ⟨h.1.trans k.1, k.2.trans h.2⟩
theorem keepB_b {n₀ Bn : Nat} {w : World} (hn : n₀ ≤ w.heap.size) (hB : Bn < w.heap.size) (W : World) (l : Nat) (o o' : Obj) (hl : w.heap.size ≤ l) (h : W.heap[l]? = some o) (h1 : o.isCells = false) (h2 : o.isWalk = false) : KeepB n₀ Bn W (W.putObj l o') :=
  ⟨belowK_b hn W l o o' hl h h1 h2, World.putObj_heap_other (by omega)⟩

set_option maxRecDepth 100000 in
set_option maxHeartbeats 2000000 in
theorem all_in (n : Nat) (hn : 3 ≤ n) (T c : Nat) (A : Option Addr) (ps : List Pk) (hps : ∀ p ∈ ps, p.ok) (hT : T ≤ 100000) (hTc : T ≤ c) (w : World) (hL : Lies w.heap.size w A T (encs ps)) :
    CallsIn Fence.wide n Try.prog 29 #[.slice A T c] w fun e W' => ∃ B d, e = .returned (.tuple #[.slice B ps.length d, .int .i64 T]) ∧ Below w.heap.size w W' := by
  have h1 : 1 ≤ n := by omega
  obtain ⟨i0, hi, hz0, hz1, hz2⟩ := info_parts pkInfo
  refine callsIn_of_wp_marks Try.func29 rfl trivial ?_ rfl
  simp only [Try.ntmps29, List.size_toArray, List.length_cons, List.length_nil, Nat.reduceAdd, Nat.reduceSub, Array.replicate_succ, Array.replicate_zero, List.push_toArray, List.append_toArray, List.nil_append, List.cons_append]
  gi_wp2_with fail
  refine ⟨trivial, ?_⟩
  refine (each_in (n - 1) A T c _).mono ?_
  rintro e X ⟨rfl, rfl⟩
  gi_wp2_with fail
  obtain ⟨W0, hW0⟩ : ∃ W0, ((w.alloc (Obj.cells #[Value.slice none 0 0] 49)).alloc (Obj.cells #[Value.int IntKind.i64 0] 3)).alloc (Obj.cells #[Value.slice A T c] 27) = W0 := ⟨_, rfl⟩
  have bO : Boxed W0 w.heap.size 49 (.slice none 0 0) := by rw [← hW0]; exact ((Boxed.new w 49 (.slice none 0 0)).alloc _).alloc _
  have bN : Boxed W0 (w.heap.size + 1) 3 (.int .i64 0) := by
    have h := (Boxed.new (w.alloc (.cells #[.slice none 0 0] 49)) 3 (.int .i64 0)).alloc (.cells #[.slice A T c] 27)
    rw [World.size_alloc] at h
    rw [← hW0]; exact h
  have bB : Boxed W0 (w.heap.size + 1 + 1) 27 (.slice A T c) := by
    have h := Boxed.new ((w.alloc (.cells #[.slice none 0 0] 49)).alloc (.cells #[.int .i64 0] 3)) 27 (.slice A T c)
    rw [World.size_alloc, World.size_alloc] at h
    rw [← hW0]; exact h
  have hB0 : Below w.heap.size w W0 := by rw [← hW0]; exact (((Below.refl _ w).alloc (Nat.le_refl _) _).alloc (by simp) _).alloc (by simp; omega) _
  have hsz : W0.heap.size = w.heap.size + 1 + 1 + 1 := by rw [← hW0]; simp
  rw [hW0]
  refine wpIn_rangeFunc_ownH rfl h1 (gf := 51) (lb := #[.pointer (some ⟨w.heap.size + 1 + 1, 0, none⟩)]) rfl trivial (enters_of Try.func51 (by kernel_rfl) rfl)
    (each_stops (n - 1) (by omega) (w.heap.size + 1 + 1) w.heap.size T c A ps hps hT hTc W0 hB0.size (by omega) bB.cell (hL.below hB0)) keepB_t (keepB_b (by omega) (by omega)) (Below.refl _ _) (fun _ => rfl)
    (AllW w (.slice A T c)) (fun _ _ _ => False) (allW_own w _ _ (by omega)) (fun _ _ _ _ _ hs _ _ => hs)
    ⟨_, bO, bN, bB, World.ownsRow_nil _ _ _ _, hB0⟩
    (fun x a' W => ∃ Bx, Holds9 W Bx 48 x.2.cells ∧ a' = { tmps := #[.slice A T c, undef, .pointer (some ⟨w.heap.size, 0, none⟩), .pointer (some ⟨w.heap.size + 1, 0, none⟩), .int .i64 (x.1 : Int), .pointer (some ⟨Bx, 0, none⟩), .slice A T c, .func (.func 51) #[] #[.pointer (some ⟨w.heap.size + 1 + 1, 0, none⟩)], .int .i64 (x.1 : Int), x.2.val, undef, undef, undef, undef, undef, undef, undef], defers := [] })
    (fun x a' _ X Y row hs hg hr => by
      obtain ⟨Bx, h2, h3⟩ := hs
      exact ⟨Bx, h9_grown h2 hg (fun e => by obtain ⟨o, ho, hc⟩ := (hr Bx e.symm).2; unfold Holds9 at h2; rw [h2] at ho; cases ho; cases hc), h3⟩)
    ?assign ?body ?done ?stop
  case assign =>
    rintro l pre x W K hA hK
    simp only [Pk.val] at hK
    unfold yv Pk.val
    gi_wp2_with fail
    have hs : w.heap.size ≤ W.heap.size := by obtain ⟨v, _, _, _, _, h5⟩ := hA; exact h5.size
    have hBn : w.heap.size + 1 + 1 < W.heap.size := by obtain ⟨v, _, _, h3, _, _⟩ := hA; exact h3.lt
    exact hK _ _ ((KeepsOthers.alloc _ _).from _) ⟨(Below.refl _ W).alloc hs _, Below.heap_alloc W _ _ hBn⟩ ((allW_own w (.slice A T c) W0.heap.size (by omega)).alloc _ hA) ⟨W.heap.size, h9_new W 48 x.2.cells, rfl⟩
  case body =>
    rintro l pre x a' W hl ⟨r, hr⟩ ⟨v, q1, q2, q3, q4, q5⟩ ⟨Bx, hp, rfl⟩ hlt
    have hc := q1.cell
    have p0 := h9_cell hp 0
    have p1 := h9_cell hp 1
    have p2 := h9_cell hp 2
    have p3 := h9_cell hp 3
    have p4 := h9_cell hp 4
    have p5 := h9_cell hp 5
    simp only [Pk.cells, List.getElem?_cons_zero, List.getElem?_cons_succ] at p0 p1 p2 p3 p4 p5
    have Q1 := Lib.hid q1
    have Q2 := Lib.hid q2
    have Q3 := Lib.hid q3
    have Q4 := Lib.hid q4
    have Q5 := Lib.hid q5
    have HI := Lib.hid hi
    have HI1 := Lib.hid hz0
    have HI2 := Lib.hid hz1
    have HI3 := Lib.hid hz2
    have hpl : ps.length ≤ 100000 := by have h := encs_ge ps; have := hL.1; omega
    have HN := Lib.hid (news_block W x.2.cells 48 W.heap.size rfl (.cells #[.int .u8 2, .int .u8 0, .int .u8 x.2.t, .int .u32 0, .int .u32 x.2.s, .string x.2.b] 48) rfl)
    have HLT := Lib.hid hlt
    have hbs : w.heap.size ≤ W.heap.size + 1 := by have := q5.size; omega
    clear q1 q2 q3 q4 q5 hi hz0 hz1 hz2 hp hr bO bN bB hlt
    unfold Pk.val
    gi_wp2_with (gi_at_builtin; refine wpListIn_append_own _ rfl (.tmp 10) (.tmp 12) 49 rfl w.heap.size 48 i0 _ 6 32 Try.underlying49 HI.out HI1.out HI2.out HI3.out rfl (by omega) v pre.length (cellsP pre) rfl (Q4.out.alloc _) ⟨W.heap.size, 0, none⟩ 1 1 x.2.cells rfl rfl HN.out (cells_ones x.2) (by have := HLT.out; unfold maxLen; omega) (by have := HLT.out; omega) (by simpa using hbs) ?_; intro v' w1 hown' hgrow _; have HS := Lib.hid (allW_step (x := x) Q1.out Q2.out Q3.out Q4.out Q5.out hown' hgrow W0.heap.size); obtain ⟨A', c1, rfl⟩ := own_shape9 hown'; have s1 := HS.out.1.cell; have s2 := HS.out.1.frozen; have s3 := HS.out.2.1.cell; have s4 := HS.out.2.1.frozen; clear hown' hgrow)
    exact HS.out.2.2
  case done =>
    rintro D ys W hD hys hA hK
    obtain ⟨v, q1, q2, q3, q4, q5⟩ := hA
    obtain ⟨A', c1, rfl⟩ := own_shape9 q4
    have hc := q1.cell
    have hf := q1.frozen
    have hc2 := q2.cell
    have hf2 := q2.frozen
    have HYS := Lib.hid hys
    clear hys
    gi_wp2_with fail
    gi_region
    have b1 : Boxed ((W.setCell ⟨w.heap.size, 0, none⟩ (.slice A' ys.length c1)).setCell ⟨w.heap.size + 1, 0, none⟩ (.int .i64 (lastAt ys : Int))).drew w.heap.size 49 (.slice A' ys.length c1) := (q1.set (.slice A' ys.length c1)).other (by omega) _
    have b2 : Boxed ((W.setCell ⟨w.heap.size, 0, none⟩ (.slice A' ys.length c1)).setCell ⟨w.heap.size + 1, 0, none⟩ (.int .i64 (lastAt ys : Int))).drew (w.heap.size + 1) 3 (.int .i64 (lastAt ys : Int)) := (q2.other (B' := w.heap.size) (by omega) (.slice A' ys.length c1)).set (.int .i64 (lastAt ys : Int))
    have b3 : Below w.heap.size w ((W.setCell ⟨w.heap.size, 0, none⟩ (.slice A' ys.length c1)).setCell ⟨w.heap.size + 1, 0, none⟩ (.int .i64 (lastAt ys : Int))).drew := ((q5.setCell (p := ⟨w.heap.size, 0, none⟩) (Nat.le_refl _) _).setCell (p := ⟨w.heap.size + 1, 0, none⟩) (by simp) _).drew
    have b4 : ((W.setCell ⟨w.heap.size, 0, none⟩ (.slice A' ys.length c1)).setCell ⟨w.heap.size + 1, 0, none⟩ (.int .i64 (lastAt ys : Int))).drew.heap[D]? = some (.deferred (some [])) := by
      have e1 : ((W.setCell ⟨w.heap.size, 0, none⟩ (.slice A' ys.length c1)).setCell ⟨w.heap.size + 1, 0, none⟩ (.int .i64 (lastAt ys : Int))).heap[D]? = W.heap[D]? := (Below.heap_setCell _ ⟨w.heap.size + 1, 0, none⟩ _ D (by simp; omega)).trans (Below.heap_setCell _ ⟨w.heap.size, 0, none⟩ _ D (by simp; omega))
      exact e1.trans hK
    generalize ((W.setCell ⟨w.heap.size, 0, none⟩ (.slice A' ys.length c1)).setCell ⟨w.heap.size + 1, 0, none⟩ (.int .i64 (lastAt ys : Int))).drew = Z at b1 b2 b3 b4 ⊢
    clear hc hf hc2 hf2 q1 q2 q3 q4 q5 hK
    gi_wp2_with fail
    refine ⟨by simp, .inl ⟨_, _, rfl, run_takeDeferred b4, ?_⟩⟩
    have k1 := cell_kept b1.cell (grownBy_putObj' Z D (.deferred none)) (fun r e => by cases e; exact ⟨_, b4, rfl⟩)
    have k2 := cell_kept b2.cell (grownBy_putObj' Z D (.deferred none)) (fun r e => by cases e; exact ⟨_, b4, rfl⟩)
    have hlen : ys.length = ps.length := by rw [HYS.out, ends_length]
    have hlast : lastAt ys = T := by rw [HYS.out, lastAt_ends, hL.1]
    rw [hlen] at k1
    rw [hlast] at k2
    refine ⟨.tuple #[.slice A' ps.length c1, .int .i64 T], ?_, A', c1, rfl, b3.trans (belowK_b (w := w) (Nat.le_refl _) Z D _ _ (by omega) b4 rfl rfl)⟩
    simp [results, Try.f29, go_sem, k1, k2]
  case stop =>
    rintro D c' pre W _ _ h _
    exact h.elim
end Go.Proofs.Ytklibbmlkjlbiaa
