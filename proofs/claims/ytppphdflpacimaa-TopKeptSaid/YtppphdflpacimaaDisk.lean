/- The disk: its making, its writes into the buffer, what stands in it. -/
import Derived.Test.YtppphdflpacimaaCuts
import Derived.Maps.Own
import Derived.Maps.OwnOps
import Derived.Maps.OwnSet
import Derived.Maps.RangeWalk
import Derived.OwnWalk
import Derived.Deep.MidRow
namespace Go.Proofs.Ytppphdflpacimaa
open Go.RowKit Go.Maps

/-- How an element of the buffer reads: as itself. -/
def Rv (v : Value) : Option (DataW Value × List MemPlace) := some (.held v, [])
/-- A sector as a value. -/
def sec (s : List UInt8) : Value := .agg (cellsOf s).toArray
/-- The empty sector. -/
def zsec : List UInt8 := List.replicate 32 0

theorem secInfo : (Try.prog.info? 35).map (fun i => (i.zero, i.size, i.bytes)) = some (some (sec zsec), 32, 32) := by kernel_rfl

/-- The disk lies at gd, its sectors at gs, its buffer at gm. -/
structure DiskW (w0 : World) (B gd gs gm : Nat) (S : List (List UInt8)) (D : DataW Value) (n : Nat) (X : World) : Prop where
  head : Holds9 X gd 55 [.slice (some ⟨gs, 0, none⟩) 30 30, .map (some gm)]
  secs : Holds9 X gs 35 (cellsOf S.flatten)
  buf : X.ownsMap Try.prog 3 Rv gm n D
  below : Below B w0 X
  bd : B ≤ gd
  bs : B ≤ gs
  bm : B ≤ gm
  len : S.length = 30
  all : ∀ s ∈ S, s.length = 32

theorem zsec_cells : (sec zsec).cells = Array.replicate 32 (.int .u8 0) := by
  show (cellsOf zsec).toArray = _
  unfold cellsOf zsec
  rw [List.map_replicate, List.toArray_replicate]
  rfl
theorem made_zero : (madeCells (sec zsec).cells (30 * 32)).toList = cellsOf (List.replicate 30 zsec).flatten := by
  rw [zsec_cells]
  have h1 : madeCells (Array.replicate 32 (Value.int .u8 0)) (30 * 32) = Array.replicate (30 * 32) (.int .u8 0) := by
    apply Array.ext
    · simp [madeCells]
    · intro i hi1 hi2
      simp only [madeCells, Array.getElem_map, Array.getElem_range, Array.size_replicate, Array.getElem_replicate]
      rw [getElem!_pos _ _ (by simp; omega)]
      simp
  rw [h1]
  unfold cellsOf zsec
  rw [List.flatten_replicate_replicate, List.map_replicate, Array.toList_replicate]
  rfl

/-- A row that is owned from its first cell to its last is known whole. -/
theorem holds_of_owns {X : World} {base e size g n : Nat} {xs : List Value} (h : X.ownsRow base e size (.slice (some ⟨g, 0, none⟩) n n) n xs) : Holds9 X g e xs ∧ base ≤ g := by
  rcases h.2 with ⟨h', _⟩ | ⟨g', cap', cur, h', hb, hg, _, _, hcs, htake⟩
  · simp at h'
  · simp only [Value.slice.injEq, Option.some.injEq, Addr.mk.injEq, and_true, true_and] at h'
    obtain ⟨rfl, rfl⟩ := h'
    have e1 : cur.toList = xs := by rw [← htake, List.take_of_length_le (by rw [Array.length_toList, hcs]; exact Nat.le_refl _)]
    refine ⟨?_, hb⟩
    unfold Holds9
    rw [hg, ← e1]

set_option maxHeartbeats 1000000 in
set_option maxRecDepth 100000 in
theorem new_any (n : Nat) (hn : n = 30) (w : World) :
    Calls Try.prog 6 #[.int .i64 n] w fun e w' => ∃ gd gs gm : Nat, e = .returned (.pointer (some ⟨gd, 0, none⟩)) ∧ DiskW w w.heap.size gd gs gm (List.replicate 30 zsec) (.map []) 0 w' := by
  have hmm := @run_makeMap Try.prog
  have h1 : 1 ≤ n := by omega
  have h2 : n ≤ 30 := by omega
  obtain ⟨i0, hi0, hz0, hz1, hz2⟩ := info_parts secInfo
  have HI := Lib.hid hi0
  have HI1 := Lib.hid hz0
  have HI2 := Lib.hid hz1
  have HI3 := Lib.hid hz2
  have HN := Lib.hid hn
  clear hi0 hz0 hz1 hz2 hn
  go_enter Try.func6, Try.ntmps6
  go_wp2_with (at_make; refine wpList_make_full _ rfl _ _ 52 rfl w.heap.size 35 i0 _ 32 Try.underlying52 HI.out HI1.out HI2.out _ _ _ _ n rfl rfl rfl rfl (by rw [HI3.out]; omega) (by unfold maxLen; omega) (Nat.le_refl _) ?_; intro X hown hgrow; have HX := Lib.hid hown; have HG := Lib.hid hgrow; clear hown hgrow)
  go_ret
  obtain rfl := HN.out
  have hx := HX.out
  rw [made_zero] at hx
  obtain ⟨hh, _⟩ := holds_of_owns hx
  have hb : Below w.heap.size w X := ⟨HG.out.os, HG.out.tape, HG.out.output, HG.out.size, fun i hi => HG.out.block i hi (by simp)⟩
  have hs := hb.size
  refine ⟨_, _, _, rfl, ?_, h9_alloc (h9_alloc hh _) _, ?_, (hb.alloc hs _).alloc (by simp; omega) _, by omega, Nat.le_refl _, hs, by simp, fun s hs => by rw [List.eq_of_mem_replicate hs]; rfl⟩
  · have h := h9_new (X.alloc (.map #[] 0)) 55 [.slice (some ⟨w.heap.size, 0, none⟩) 30 30, .map (some X.heap.size)]
    simpa using h
  · exact (World.ownsMap_made X Try.prog 3 Rv).kept (World.grownBy_alloc _ _ none) (by simp)

theorem secSize : (Try.prog.info? 35).map (·.size) = some 32 := by
  obtain ⟨i, hi, _, h, _⟩ := info_parts secInfo
  rw [hi]
  simp [h]

section
variable {w0 X Y : World} {B gd gs gm n : Nat} {S : List (List UInt8)} {D : DataW Value}
/-- The disk lies as it lay where blocks of others alone have turned. -/
theorem DiskW.kept {row : Option Nat} (h : DiskW w0 B gd gs gm S D n X) (hg : X.grownBy Y row) (hr : ∀ r, row = some r → B ≤ r ∧ r ≠ gd ∧ r ≠ gs ∧ r ≠ gm) : DiskW w0 B gd gs gm S D n Y :=
  ⟨h9_grown h.head hg (fun e => (hr gd e.symm).2.1 rfl), h9_grown h.secs hg (fun e => (hr gs e.symm).2.2.1 rfl), h.buf.kept hg (fun e => (hr gm e.symm).2.2.2 rfl),
   h.below.grown hg (Nat.le_trans h.bd (Nat.le_of_lt (h9_lt h.head))) (fun r e => (hr r e).1), h.bd, h.bs, h.bm, h.len, h.all⟩
theorem DiskW.alloc (h : DiskW w0 B gd gs gm S D n X) (o : Obj) : DiskW w0 B gd gs gm S D n (X.alloc o) := h.kept (World.grownBy_alloc X o none) (fun r e => by cases e)
theorem DiskW.below' (h : DiskW w0 B gd gs gm S D n X) (hb : Below X.heap.size X Y) : DiskW w0 B gd gs gm S D n Y := h.kept (only_below hb none) (fun r e => by cases e)
theorem DiskW.drew (h : DiskW w0 B gd gs gm S D n X) : DiskW w0 B gd gs gm S D n X.drew := h.below' (Below.refl _ X).drew
theorem DiskW.size (h : DiskW w0 B gd gs gm S D n X) : B ≤ X.heap.size := Nat.le_trans h.bd (Nat.le_of_lt (h9_lt h.head))
/-- A write into the buffer. -/
theorem DiskW.put {D' : DataW Value} {n' : Nat} (h : DiskW w0 B gd gs gm S D n X) (hm : Y.ownsMap Try.prog 3 Rv gm n' D') (hg : X.grownBy Y (some gm)) : DiskW w0 B gd gs gm S D' n' Y := by
  have hd : gd ≠ gm := by
    rintro rfl
    obtain ⟨es, clock, hb, _⟩ := h.buf
    have h' := h.head
    unfold Holds9 at h'
    rw [hb] at h'
    cases h'
  have hs : gs ≠ gm := by
    rintro rfl
    obtain ⟨es, clock, hb, _⟩ := h.buf
    have h' := h.secs
    unfold Holds9 at h'
    rw [hb] at h'
    cases h'
  exact ⟨h9_grown h.head hg (fun e => hd (by injection e)), h9_grown h.secs hg (fun e => hs (by injection e)), hm, h.below.grown hg h.size (fun r e => by cases e; exact h.bm), h.bd, h.bs, h.bm, h.len, h.all⟩
end

/-- A whole array read out of a block, as a quiet operation. -/
theorem quiet_load_mid {P : Program} {C : World → Prop} {K : Act → Prop} {op : Oper} {a : Act} (ty : TypeId) (x : Operand) (ho : op.op = .load ty x) (b o : Nat) (hx : a.eval x = .pointer (some ⟨b, o, none⟩)) (cs : List Value) (d : TypeDesc) (hc : ∀ w, C w → w.rangeAt b o cs)
    (hu : P.underlying ty = some d) (hd : d.isRow = true) (hi : (P.info? ty).map (·.size) = some cs.length) (h : K (a.put op.dst (.agg cs.toArray))) : op.quiet P a C K :=
  ⟨_, fun w hw => by
    unfold Oper.quietAt execOp
    simp only [ho, hx, Instr.loadAt, Instr.sureAddr, Sem.run_bind, Sem.run_pure, Result.andThen_ok, run_loadVar_mid w b o ty cs d (hc w hw) hu hd hi]
    exact ⟨rfl, rfl⟩, h⟩

theorem below_setCells {B b : Nat} (hb : B ≤ b) : ∀ (vs : List Value) (o : Nat) {a w : World}, Below B a w → Below B a (w.setCells b o vs)
  | [], _, _, _, h => h
  | v :: r, o, _, _, h => below_setCells hb r (o + 1) (h.setCell (p := ⟨b, o, none⟩) hb v)
theorem h9_setCells {b : Nat} {t : TypeId} : ∀ (vs : List Value) (o : Nat) {w : World} {cs : List Value}, Holds9 w b t cs → o + vs.length ≤ cs.length → Holds9 (w.setCells b o vs) b t (cs.take o ++ vs ++ cs.drop (o + vs.length))
  | [], o, w, cs, h, _ => by simpa [World.setCells] using h
  | v :: r, o, w, cs, h, hl => by
    simp only [List.length_cons] at hl
    have h1 := h9_set h o v
    have h2 := h9_setCells r (o + 1) h1 (by rw [List.length_set]; omega)
    have e : (cs.set o v).take (o + 1) ++ r ++ (cs.set o v).drop (o + 1 + r.length) = cs.take o ++ (v :: r) ++ cs.drop (o + (v :: r).length) := by
      have ho : o < cs.length := by omega
      rw [List.take_add_one, List.getElem?_set_self ho, List.take_set_of_le (Nat.le_refl _), List.drop_set_of_lt (by omega)]
      simp [Nat.add_assoc, Nat.add_comm 1]
    rw [e] at h2
    exact h2
theorem h9_there {w : World} {b : Nat} {t : TypeId} {cs : List Value} (h : Holds9 w b t cs) (o n : Nat) (hn : o + n ≤ cs.length) : w.there b o n := fun j hj => ⟨by rw [h9_cell h, List.getElem?_eq_getElem (by omega)]; rfl, h9_free h _⟩
theorem h9_range {w : World} {b : Nat} {t : TypeId} {cs : List Value} (h : Holds9 w b t cs) : w.rangeAt b 0 cs := fun j v hv => by rw [Nat.zero_add, h9_cell h]; exact hv

/-- The world at hand under a name of its own, in a list of operations. -/
theorem at_worldL {P : Program} {ops : Array Oper} {rest : List Oper} {Q : Exit → Act → World → Prop} {a : Act} {W : World} (C : World → Prop) (hC : C W) (h : ∀ X, C X → wpList P ops Q rest a X) : wpList P ops Q rest a W := h W hC

theorem sec_range (X : World) (s : List UInt8) (t : TypeId) : (X.alloc (.cells (cellsOf s).toArray t)).rangeAt X.heap.size 0 (cellsOf s) := by
  intro j v hv
  rw [Nat.zero_add]
  have h := h9_cell (h9_new X t (cellsOf s)) j
  rw [h]
  exact hv
end Go.Proofs.Ytppphdflpacimaa
