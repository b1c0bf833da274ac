/- BitsMade: a fid tells who made it, and which it is; unlike ones are of unlike clients or numbers. For every two clients and numbers of their kinds; no condition. -/
import Derived.Test.YtklibbmlkjlbiaaBits
import Derived.Deep.RegionHeld3
import Derived.BigQuiet
namespace Go.Proofs.Ytklibbmlkjlbiaa
open Go.RowKit Go.Proofs.YtklibbmlkjlbiaaMath

theorem made_kept {w w1 : World} {a b n m : Value} {s t : TypeId} (hb : Below ((w.alloc (Obj.cells #[a, b] s)).alloc (Obj.cells #[n, m] t)).drew.heap.size ((w.alloc (Obj.cells #[a, b] s)).alloc (Obj.cells #[n, m] t)).drew w1) :
    w1.cell? ⟨w.heap.size, 0, none⟩ = some a ∧ w1.cell? ⟨w.heap.size, 1, none⟩ = some b ∧ w1.cell? ⟨w.heap.size + 1, 0, none⟩ = some n ∧ w1.cell? ⟨w.heap.size + 1, 1, none⟩ = some m := by
  refine ⟨(hb.cell (p := ⟨w.heap.size, 0, none⟩) (by simp; omega)).trans ?_, (hb.cell (p := ⟨w.heap.size, 1, none⟩) (by simp; omega)).trans ?_, (hb.cell (p := ⟨w.heap.size + 1, 0, none⟩) (by simp)).trans ?_, (hb.cell (p := ⟨w.heap.size + 1, 1, none⟩) (by simp)).trans ?_⟩ <;> go_simp

set_option maxHeartbeats 1600000 in
theorem bitsMade_okok (c d n m f g : Int) (w : World) (hf : c * 16777216 + n = f) (hg : d * 16777216 + m = g) (c0 : 0 ≤ c) (c1 : c ≤ 3) (d0 : 0 ≤ d) (d1 : d ≤ 3) (n0 : 1 ≤ n) (n1 : n ≤ 16777215) (m0 : 1 ≤ m) (m1 : m ≤ 16777215)
    (hcd : (c == d) = true) (hnm : (n == m) = (f == g)) (hff : (f != 0) = true) :
    Calls Try.prog 8 #[.agg #[.int .u8 c, .int .u8 d], .agg #[.int .u32 n, .int .u32 m]] w fun e w' => e = .returned (.bool true) ∧ Below w.heap.size w w' := by
  have F := Lib.hid hf
  have G := Lib.hid hg
  have f0 : 0 ≤ f := by omega
  have f1 : f < 4294967296 := by omega
  have Q1 := Lib.hid (show f / 16777216 = c by omega)
  have Q2 := Lib.hid (show f % 16777216 = n by omega)
  clear hf hg
  go_enter Try.func8, Try.ntmps8
  go_wp2_with fail
  refine (make_ok c n _ c0 c1 n0 n1).mono ?_
  rintro e w' ⟨rfl, rfl⟩
  rw [F.out]
  go_wp2_with fail
  refine (make_ok d m _ d0 d1 m0 m1).mono ?_
  rintro e w' ⟨rfl, rfl⟩
  rw [G.out]
  go_wp2_with fail
  go_region_held3 (fun w' => w'.cell? ⟨w.heap.size, 0, none⟩ = some (.int .u8 c) ∧ w'.cell? ⟨w.heap.size, 1, none⟩ = some (.int .u8 d) ∧ w'.cell? ⟨w.heap.size + 1, 0, none⟩ = some (.int .u32 n) ∧ w'.cell? ⟨w.heap.size + 1, 1, none⟩ = some (.int .u32 m))
    (first | go_keep | exact made_kept hb)
    ((first | (go_at_call 15; refine (live_any _).mono ?_; rintro e w1 ⟨rfl, hb⟩) | (go_at_call 24; refine (who_any f _ f0 f1).mono ?_; rintro e w' ⟨rfl, rfl⟩; rw [Q1.out]) | (go_at_call 26; refine (number_any f _ f0 f1).mono ?_; rintro e w' ⟨rfl, rfl⟩; rw [Q2.out])))
  go_wp2
  go_ret
  exact ⟨rfl, ((((Below.refl _ _).alloc (Nat.le_refl _) _).alloc (by simp) _).drew).trans (hb.mono (by simp; omega))⟩

/-- A region that draws its order, every operation quiet in a class of worlds of the prover's own. -/
theorem wp_region_class {P : Program} {C : World → Prop} {id : Nat} {Q : Exit → Act → World → Prop} {a : Act} {w : World} {l : List Oper} (hm : P.follows .mixedOrders = true) (hB : Region.lexB .any l.toArray = true) (hC : C w.drew)
    (h : wpQuiet P l.toArray C (fun a' => ∀ w', C w' → Q .normal a' w') l a) : (Code.region id l.toArray true).wp P Q a w :=
  wp_region_quiet hm hB hC (by simpa using h)

/-- The worlds that are as w below block B. -/
def Cls (B : Nat) (w : World) : World → Prop := fun W => Below B w W
theorem cls_on {w W w1 : World} (h : Cls w.heap.size w W) (k : Below W.heap.size W w1) : Cls w.heap.size w w1 := Below.trans h (k.mono h.size)

set_option maxHeartbeats 1600000 in
theorem bitsMade_okno (c d n m f g : Int) (w : World) (hf : c * 16777216 + n = f) (hg : d * 16777216 + m = g) (c0 : 0 ≤ c) (c1 : c ≤ 3) (d0 : 0 ≤ d) (d1 : d ≤ 3) (n0 : 1 ≤ n) (n1 : n ≤ 16777215) (m0 : 1 ≤ m) (m1 : m ≤ 16777215)
    (hcd : (c == d) = false) (hfg : (f == g) = false) (hff : (f != 0) = true) :
    Calls Try.prog 8 #[.agg #[.int .u8 c, .int .u8 d], .agg #[.int .u32 n, .int .u32 m]] w fun e w' => e = .returned (.bool true) ∧ Below w.heap.size w w' := by
  have F := Lib.hid hf
  have G := Lib.hid hg
  have f0 : 0 ≤ f := by omega
  have f1 : f < 4294967296 := by omega
  have Q1 := Lib.hid (show f / 16777216 = c by omega)
  have Q2 := Lib.hid (show f % 16777216 = n by omega)
  clear hf hg
  go_enter Try.func8, Try.ntmps8
  go_wp2_with fail
  refine (make_ok c n _ c0 c1 n0 n1).mono ?_
  rintro e w' ⟨rfl, rfl⟩
  rw [F.out]
  go_wp2_with fail
  refine (make_ok d m _ d0 d1 m0 m1).mono ?_
  rintro e w' ⟨rfl, rfl⟩
  rw [G.out]
  go_wp2_with fail
  obtain ⟨X, hX⟩ : ∃ X : World, X = ((w.alloc (Obj.cells #[Value.int .u8 c, Value.int .u8 d] 41)).alloc (Obj.cells #[Value.int .u32 n, Value.int .u32 m] 39)).drew := ⟨_, rfl⟩
  have HX := Lib.hid hX
  have g1 : ∀ W, Cls X.heap.size X W → W.cell? ⟨w.heap.size, 0, none⟩ = some (.int .u8 c) := by intro W h; subst hX; exact (made_kept h).1
  have g2 : ∀ W, Cls X.heap.size X W → W.cell? ⟨w.heap.size, 1, none⟩ = some (.int .u8 d) := by intro W h; subst hX; exact (made_kept h).2.1
  have g3 : ∀ W, Cls X.heap.size X W → W.cell? ⟨w.heap.size + 1, 0, none⟩ = some (.int .u32 n) := by intro W h; subst hX; exact (made_kept h).2.2.1
  have g4 : ∀ W, Cls X.heap.size X W → W.cell? ⟨w.heap.size + 1, 1, none⟩ = some (.int .u32 m) := by intro W h; subst hX; exact (made_kept h).2.2.2
  refine wp_region_class (C := Cls X.heap.size X) (by kernel_rfl) (by kernel_rfl) (by rw [HX.out]; exact Below.refl _ _) ?_
  clear hX
  repeat (first
    | go_big_quiet_skip
    | (go_big_quiet_want
       first
         | (go_big_quiet_op; go_big_quiet_on)
         | (go_big_quiet_op; refine ⟨_, fun _ _ => rfl, ?_⟩; go_big_quiet_on)
         | (go_big_quiet_op; refine ⟨.bool true, fun W hW => (live_any W).mono ?_, ?_⟩; (rintro e w1 ⟨rfl, hb⟩; exact ⟨rfl, cls_on hW hb⟩); go_big_quiet_on)
         | (go_big_quiet_op; refine ⟨.int .u8 c, fun W hW => (who_any f W f0 f1).mono ?_, ?_⟩; (rintro e w1 ⟨rfl, rfl⟩; exact ⟨ret_i Q1.out, hW⟩); go_big_quiet_on)
         | (go_big_quiet_op; refine ⟨.int .u32 n, fun W hW => (number_any f W f0 f1).mono ?_, ?_⟩; (rintro e w1 ⟨rfl, rfl⟩; exact ⟨ret_i Q2.out, hW⟩); go_big_quiet_on)
         | (go_big_quiet_op; apply Exists.intro; refine ⟨fun W hW => ?_, ?_⟩; ((first | rw [g1 W hW] | rw [g2 W hW] | rw [g3 W hW] | rw [g4 W hW]); exact ⟨rfl, rfl⟩); go_big_quiet_on)
    ))
  refine wpQuiet_nil ?_
  intro w1 hw1
  have hb : Below w.heap.size w w1 := by
    have hx := HX.out
    subst hx
    exact ((((Below.refl _ _).alloc (Nat.le_refl _) _).alloc (by simp) _).drew).trans (Below.mono hw1 (by simp; omega))
  clear hw1 g1 g2 g3 g4
  go_wp2
  go_ret
  exact ⟨rfl, hb⟩

set_option maxHeartbeats 800000 in
theorem bitsMade_walk (c d n m : Int) (w : World) (hc : (Lit.int .u8 c).wf = true) (hd : (Lit.int .u8 d).wf = true) (hn : (Lit.int .u32 n).wf = true) (hm : (Lit.int .u32 m).wf = true) :
    Calls Try.prog 8 #[.agg #[.int .u8 c, .int .u8 d], .agg #[.int .u32 n, .int .u32 m]] w fun e w' => e = .returned (.bool true) ∧ Below w.heap.size w w' := by
  obtain ⟨c0, c1⟩ := bounds_of_wf_u8 hc
  obtain ⟨d0, d1⟩ := bounds_of_wf_u8 hd
  obtain ⟨n0, n1⟩ := bounds_of_wf_u32 hn
  obtain ⟨m0, m1⟩ := bounds_of_wf_u32 hm
  clear hc hd hn hm
  by_cases h1 : c ≤ 3 ∧ 1 ≤ n ∧ n ≤ 16777215
  · by_cases h2 : d ≤ 3 ∧ 1 ≤ m ∧ m ≤ 16777215
    · by_cases h : c = d
      · exact bitsMade_okok c d n m _ _ w rfl rfl c0 h1.1 d0 h2.1 h1.2.1 h1.2.2 h2.2.1 h2.2.2 (by simpa using h) (by subst h; rw [Bool.eq_iff_iff]; simp) (by simp; omega)
      · exact bitsMade_okno c d n m _ _ w rfl rfl c0 h1.1 d0 h2.1 h1.2.1 h1.2.2 h2.2.1 h2.2.2 (by simpa using h) (by simp; omega) (by simp; omega)
    · have H := Lib.hid h2
      obtain ⟨k1, k2, k3⟩ := h1
      clear h2
      go_enter Try.func8, Try.ntmps8
      go_wp2_with fail
      refine (make_ok c n _ c0 k1 k2 k3).mono ?_
      rintro e w' ⟨rfl, rfl⟩
      go_wp2_with fail
      refine (make_no d m _ d0 m0 H.out).mono ?_
      rintro e w' ⟨rfl, rfl⟩
      go_wp2_with fail
      refine (live_any _).mono ?_
      rintro e w1 ⟨rfl, hb⟩
      go_wp2
      go_ret
      exact ⟨rfl, (((Below.refl _ _).alloc (Nat.le_refl _) _).alloc (by simp) _).trans (hb.mono (by simp; omega))⟩
  · have H1 := Lib.hid h1
    clear h1
    by_cases h2 : d ≤ 3 ∧ 1 ≤ m ∧ m ≤ 16777215
    · obtain ⟨k1, k2, k3⟩ := h2
      go_enter Try.func8, Try.ntmps8
      go_wp2_with fail
      refine (make_no c n _ c0 n0 H1.out).mono ?_
      rintro e w' ⟨rfl, rfl⟩
      go_wp2_with fail
      refine (make_ok d m _ d0 k1 k2 k3).mono ?_
      rintro e w' ⟨rfl, rfl⟩
      go_wp2_with fail
      refine (live_any _).mono ?_
      rintro e w1 ⟨rfl, hb⟩
      go_wp2
      go_ret
      exact ⟨rfl, (((Below.refl _ _).alloc (Nat.le_refl _) _).alloc (by simp) _).trans (hb.mono (by simp; omega))⟩
    · have H2 := Lib.hid h2
      clear h2
      go_enter Try.func8, Try.ntmps8
      go_wp2_with fail
      refine (make_no c n _ c0 n0 H1.out).mono ?_
      rintro e w' ⟨rfl, rfl⟩
      go_wp2_with fail
      refine (make_no d m _ d0 m0 H2.out).mono ?_
      rintro e w' ⟨rfl, rfl⟩
      go_wp2_with fail
      refine (live_any _).mono ?_
      rintro e w1 ⟨rfl, hb⟩
      go_wp2
      go_ret
      exact ⟨rfl, (((Below.refl _ _).alloc (Nat.le_refl _) _).alloc (by simp) _).trans (hb.mono (by simp; omega))⟩
end Go.Proofs.Ytklibbmlkjlbiaa
