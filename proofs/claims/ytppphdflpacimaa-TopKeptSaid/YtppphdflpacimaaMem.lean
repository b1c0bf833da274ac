/- Words for memory: a block that is known whole; a world in which one old block alone has turned. Plain facts. -/
import Derived.Below
import Derived.Laws.OwnMore
import Derived.Laws.AppendOwn
import Derived.Deep.Draws
import Derived.Deep.AppendLies
import Derived.Laws.Rows
import Derived.OwnWalk
import Derived.Maps.AppendAt
import Derived.BigQuiet
namespace Go.Proofs.Ytppphdflpacimaa
open Go.RowKit

/-- Block b holds just these cells, none of them frozen. -/
def Holds9 (w : World) (b : Nat) (t : TypeId) (cs : List Value) : Prop := w.heap[b]? = some (.cells cs.toArray t (0, 0))

section
variable {w w' : World} {b : Nat} {t : TypeId} {cs : List Value}
theorem h9_lt (h : Holds9 w b t cs) : b < w.heap.size := by
  unfold Holds9 at h
  exact (Array.getElem?_eq_some_iff.1 h).1
theorem h9_cell (h : Holds9 w b t cs) (i : Nat) : w.cell? ⟨b, i, none⟩ = cs[i]? := by
  have := cell_of_row w b i cs.toArray t (0, 0) h
  simpa using this
theorem h9_free (h : Holds9 w b t cs) (i : Nat) : w.frozen? ⟨b, i, none⟩ = false := by
  unfold Holds9 at h
  simp [World.frozen?, h]
theorem h9_new (w : World) (t : TypeId) (cs : List Value) : Holds9 (w.alloc (.cells cs.toArray t)) w.heap.size t cs := heap_alloc_new w _
theorem h9_alloc (h : Holds9 w b t cs) (o : Obj) : Holds9 (w.alloc o) b t cs := (Below.heap_alloc w o b (h9_lt h)).trans h
theorem h9_set (h : Holds9 w b t cs) (i : Nat) (u : Value) : Holds9 (w.setCell ⟨b, i, none⟩ u) b t (cs.set i u) := by
  unfold Holds9 at h ⊢
  simp [World.setCell, Array.getElem?_modify, h]
theorem h9_far (h : Holds9 w b t cs) {p : Addr} (hp : b ≠ p.block) (u : Value) : Holds9 (w.setCell p u) b t cs := (Below.heap_setCell w p u b hp).trans h
theorem h9_below {B : Nat} (h : Holds9 w b t cs) (hb : Below B w w') (hg : b < B) : Holds9 w' b t cs := (hb.block b hg).trans h
theorem h9_grown {row : Option Nat} (h : Holds9 w b t cs) (hb : w.grownBy w' row) (hg : some b ≠ row) : Holds9 w' b t cs := (hb.block b (h9_lt h) hg).trans h
theorem h9_ne {b' : Nat} {t' : TypeId} {cs' : List Value} (h : Holds9 w b t cs) (h' : Holds9 w b' t' cs') (hne : t ≠ t') : b ≠ b' := by
  rintro rfl
  unfold Holds9 at h h'
  rw [h] at h'
  injection h' with h'
  injection h' with _ ht
  exact hne ht
theorem h9_own {base : Nat} {e : TypeId} {size n : Nat} {v : Value} {xs : List Value} (h : w.ownsRow base e size v n xs) (hg : Holds9 w b t cs) (hne : e ≠ t) : v.ownBlock ≠ some b := by
  rcases h.2 with ⟨rfl, _⟩ | ⟨g', cap, cur, rfl, _, hh, _⟩
  · simp [Value.ownBlock]
  · intro he
    obtain rfl : g' = b := by simpa [Value.ownBlock] using he
    unfold Holds9 at hg
    rw [hh] at hg
    injection hg with hg
    injection hg with _ ht
    exact hne ht
end

section
variable {a w : World} {row : Option Nat} {g : Nat}
theorem only_drewN (h : a.grownBy w row) (n : Nat) : a.grownBy (w.drewN n) row := ⟨h.os, h.tape, h.output, h.size, h.block⟩
theorem only_drew (h : a.grownBy w row) : a.grownBy w.drew row := ⟨h.os, h.tape, h.output, h.size, h.block⟩
theorem only_alloc (h : a.grownBy w row) (o : Obj) : a.grownBy (w.alloc o) row :=
  ⟨h.os, h.tape, h.output, Nat.le_trans h.size (by simp), fun i hi hne => (Below.heap_alloc w o i (Nat.lt_of_lt_of_le hi h.size)).trans (h.block i hi hne)⟩
theorem only_set (h : a.grownBy w (some g)) {p : Addr} (hp : p.block = g ∨ a.heap.size ≤ p.block) (u : Value) : a.grownBy (w.setCell p u) (some g) :=
  ⟨h.os, h.tape, h.output, by simpa [World.setCell] using h.size, fun i hi hne => (Below.heap_setCell w p u i (by
    rintro rfl
    rcases hp with hp | hp
    · exact hne (by rw [hp])
    · omega)).trans (h.block i hi hne)⟩
theorem only_new (h : a.grownBy w none) {p : Addr} (hp : a.heap.size ≤ p.block) (u : Value) : a.grownBy (w.setCell p u) none :=
  ⟨h.os, h.tape, h.output, by simpa [World.setCell] using h.size, fun i hi hne => (Below.heap_setCell w p u i (by
    rintro rfl
    omega)).trans (h.block i hi hne)⟩
theorem only_below (h : Below a.heap.size a w) (row : Option Nat) : a.grownBy w row := ⟨h.os, h.tape, h.output, h.size, fun i hi _ => h.block i hi⟩
theorem below_only (h : a.grownBy w none) : Below a.heap.size a w := ⟨h.os, h.tape, h.output, h.size, fun i hi => h.block i hi (by simp)⟩
theorem only_wide (h : a.grownBy w none) (row : Option Nat) : a.grownBy w row := only_below (below_only h) row
end

/-- The world at hand under a name of its own: what is known of it is said by C. -/
theorem at_world {P : Program} {code : Code} {Q : Exit → Act → World → Prop} {a : Act} {W : World} (C : World → Prop) (hC : C W) (h : ∀ X, C X → code.wp P Q a X) : code.wp P Q a W := h W hC

/-- A region that draws its order, every operation quiet in a class of worlds of the prover's own. -/
theorem wp_region_class {P : Program} {C : World → Prop} {id : Nat} {Q : Exit → Act → World → Prop} {a : Act} {w : World} {l : List Oper} (hm : P.follows .mixedOrders = true) (hB : Region.lexB .any l.toArray = true) (hC : C w.drew)
    (h : wpQuiet P l.toArray C (fun a' => ∀ w', C w' → Q .normal a' w') l a) : (Code.region id l.toArray true).wp P Q a w :=
  wp_region_quiet hm hB hC (by simpa using h)
end Go.Proofs.Ytppphdflpacimaa
