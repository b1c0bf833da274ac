/- How a path of letters and of .. is cut into names: the function Split, for every list of such pieces. -/
import Derived.Test.YtkagiccjlppcaaaPath
import Derived.Lib.Hide
import Derived.Laws.IdiomStrings
import Derived.WalkSpells
import Derived.Deep.RegionWith
import Derived.Deep.RegionHeld3
namespace Go.Proofs.Ytkagiccjlppcaaa
open Go.RowKit

/-- A piece of the law's paths: nothing, two dots, a small letter. -/
def Piece (p : List UInt8) : Prop := p = [] ∨ p = [46, 46] ∨ ∃ c : UInt8, p = [c] ∧ 97 ≤ c.toNat ∧ c.toNat ≤ 122
/-- What a piece does to the names so far. -/
def step (out p : List UInt8) : List UInt8 := if p = [46, 46] then out.dropLast else out ++ p
/-- The pieces with a stroke between each two. -/
def restOf : List (List UInt8) → List UInt8
  | [] => []
  | p :: l => p ++ (if l = [] then [] else 47 :: restOf l)
/-- Names as cells. -/
def names (l : List UInt8) : List Value := l.map (fun c => .string (One c))

theorem piece_no (p : List UInt8) (h : Piece p) : (47 : UInt8) ∉ p := by
  rcases h with rfl | rfl | ⟨c, rfl, h0, h1⟩
  · simp
  · decide
  · simp; rintro rfl; simp at h0

theorem own_shape {X : World} {base e size n : Nat} {v : Value} {xs : List Value} (h : X.ownsRow base e size v n xs) : ∃ A c, v = .slice A n c := by
  rcases h.2 with ⟨rfl, rfl⟩ | ⟨g, cap, cur, rfl, _⟩
  · exact ⟨none, 0, rfl⟩
  · exact ⟨_, cap, rfl⟩

theorem owns_cut {X : World} {base e n m c : Nat} {A : Option Addr} {xs : List Value} (h : X.ownsRow base e 1 (.slice A n c) n xs) (hm : m ≤ n) : X.ownsRow base e 1 (.slice A m c) m (xs.take m) := by
  have hl : xs.length = n * 1 := h.1
  refine ⟨by rw [List.length_take]; omega, ?_⟩
  rcases h.2 with ⟨h1, h2⟩ | ⟨g, cap, cur, h1, hb, hg, hnc, hcm, hcs, htake⟩
  · injection h1 with a b d
    subst a b d
    obtain rfl : m = 0 := by omega
    exact .inl ⟨rfl, by simp⟩
  · injection h1 with a b d
    subst a d
    exact .inr ⟨g, c, cur, rfl, hb, hg, by omega, hcm, hcs, by rw [← htake, List.take_take]; congr 1; omega⟩

theorem names_length (l : List UInt8) : (names l).length = l.length := by simp [names]
theorem names_take (l : List UInt8) (m : Nat) : (names l).take m = names (l.take m) := by simp [names, List.map_take]

/-- How far the loop is. -/
def mea (r m : Value) : Nat := match m, r with
  | .bool true, .string s => s.size + 1
  | _, _ => 0

theorem strInfo : (Try.prog.info? 9).map (fun i => (i.zero, i.size, i.bytes)) = some (some (.string ⟨#[]⟩), 1, 16) := by kernel_rfl

theorem one_news (Y : World) (u : Value) (t : TypeId) : ∀ j x, [u][j]? = some x → (Y.alloc (.cells #[u] t)).cell? ((⟨Y.heap.size, 0, none⟩ : Addr).add j) = some x := by
  have h := World.news_of_block (heap_alloc_new Y (.cells #[u] t))
  simpa using h

/-- The world while a path is cut. -/
def CutW (w : World) (v : Value) (out : List UInt8) (X : World) : Prop := X.ownsRow w.heap.size 9 1 v out.length (names out) ∧ Below w.heap.size w X

theorem cutW_drew {w X : World} {v : Value} {out : List UInt8} (h : CutW w v out X) (n : Nat) : CutW w v out (X.drewN n) := ⟨⟨h.1.1, h.1.2⟩, ⟨h.2.os, h.2.tape, h.2.output, h.2.size, h.2.block⟩⟩

theorem cutW_app {w Y Z : World} {v v' : Value} {out : List UInt8} {c : UInt8} {q : ByteArray} {o : Obj} (h : CutW w v out Y) (hq : q = T [c]) (ho : Z.ownsRow w.heap.size 9 1 v' (out.length + 1) (names out ++ [.string q])) (hg : (Y.alloc o).grownBy Z v.ownBlock) : CutW w v' (out ++ [c]) Z := by
  refine ⟨?_, ?_⟩
  · have e : names (out ++ [c]) = names out ++ [.string q] := by rw [hq]; simp [names]
    rw [e, List.length_append]
    exact ho
  · have hb : Below w.heap.size w (Y.alloc o) := h.2.alloc h.2.size _
    exact hb.grown hg hb.size (fun j e => by have := (h.1.lt j e).1; omega)

theorem cut_pieces (p : List UInt8) (l : List (List UInt8)) (hno : (47 : UInt8) ∉ p) (hlen : (restOf (p :: l)).length < 120) (w : World) :
    Calls Try.prog 7 #[.string (T (restOf (p :: l))), .string ⟨#[47]⟩] w fun e w' => e = .returned (.tuple #[.string (T p), .string (T (restOf l)), .bool (decide (l ≠ []))]) ∧ ∃ n, w' = w.drewN n := by
  by_cases hl : l = []
  · subst hl
    have hr : restOf [p] = p := by simp [restOf]
    rw [hr]
    exact cut_miss p hno w
  · have hr : restOf (p :: l) = p ++ 47 :: restOf l := by simp [restOf, hl]
    rw [hr] at hlen ⊢
    simp only [List.length_append, List.length_cons] at hlen
    rw [show decide (l ≠ []) = true from by simp [hl]]
    exact cut_hit p (restOf l) hno (by omega) w

theorem rest_len (p : List UInt8) (l : List (List UInt8)) : (restOf l).length ≤ (restOf (p :: l)).length := by
  by_cases hl : l = []
  · subst hl; simp [restOf]
  · simp [restOf, hl]; omega
theorem rest_one (c : UInt8) (l : List (List UInt8)) : (restOf l).length + 1 ≤ (restOf ([c] :: l)).length := by
  by_cases hl : l = []
  · subst hl; simp [restOf]
  · simp [restOf, hl]
theorem rest_mea (p : List UInt8) (l : List (List UInt8)) : mea (.string (T (restOf l))) (.bool (decide (l ≠ []))) < mea (.string (T (restOf (p :: l)))) (.bool true) := by
  by_cases hl : l = []
  · subst hl; simp [mea]
  · rw [show decide (l ≠ []) = true from by simp [hl]]
    simp [mea, restOf, hl, ByteArray.size]
    omega

set_option maxHeartbeats 1000000 in
set_option maxRecDepth 100000 in
theorem split_any (ps : List (List UInt8)) (hne : ps ≠ []) (hps : ∀ p ∈ ps, Piece p) (hlen : (restOf ps).length < 120) (w : World) :
    Calls Try.prog 4 #[.string (T (47 :: restOf ps))] w fun e w' => ∃ v, e = .returned (.tuple #[v, .int .i64 0]) ∧ w'.ownsRow w.heap.size 9 1 v (ps.foldl step []).length (names (ps.foldl step [])) ∧ Below w.heap.size w w' := by
  have hcp := strings_CutPrefix (T (47 :: restOf ps)) ⟨#[47]⟩ w
  rw [show Lib.trimPrefix (T (47 :: restOf ps)).data.toList (⟨#[47]⟩ : ByteArray).data.toList = restOf ps from rfl, show Lib.hasPrefix (T (47 :: restOf ps)).data.toList (⟨#[47]⟩ : ByteArray).data.toList = true from rfl] at hcp
  obtain ⟨s, hs⟩ : ∃ s, s = T (47 :: restOf ps) := ⟨_, rfl⟩
  have hsz : ¬ (120 < (s.size : Int)) := by rw [hs]; simp [ByteArray.size]; omega
  rw [← hs] at hcp ⊢
  clear hs
  go_enter Try.func4, Try.ntmps4
  go_wp2_with fail
  refine hcp.mono ?_
  rintro e w' ⟨rfl, rfl⟩
  go_wp2_with fail
  have HI := Lib.hid (show CutW w' (.slice (some ⟨w'.heap.size, 0, none⟩) 0 0) [] (w'.alloc (.cells #[] 9)) from ⟨World.ownsRow_lit w' #[] 0 (Nat.le_refl _) (by unfold maxLen; omega) rfl, (Below.refl _ w').alloc (Nat.le_refl _) _⟩)
  go_loopw [4, 6, 7] (fun r v m X => ∃ (todo : List (List UInt8)) (out : List UInt8) (V : Value), V = v ∧ r = .string (T (restOf todo)) ∧ m = .bool (decide (todo ≠ [])) ∧ (∀ p ∈ todo, Piece p) ∧ out.length + (restOf todo).length < 120 ∧ todo.foldl step out = ps.foldl step [] ∧ CutW w' V out X) (fun r _ m _ => mea r m)
  case atStart => exact ⟨ps, [], _, rfl, rfl, by simp [hne], hps, by simpa using hlen, rfl, HI.out⟩
  case round =>
    obtain ⟨todo, out, V, hV, rfl, rfl, hp, hl, hf, hW⟩ := hrel
    subst hV
    have HW := Lib.hid hW
    have HF := Lib.hid hf
    have HP := Lib.hid hp
    clear hW hf hp HI hcp
    rcases todo with _ | ⟨p, l⟩
    · go_wp2_with fail
      go_ret2
      exact ⟨V, rfl, by rw [← HF.out]; exact HW.out.1, HW.out.2⟩
    · have hp0 := HP.out p (List.mem_cons_self)
      have hno := piece_no p hp0
      have hcut := cut_pieces p l hno (by omega) wr
      have hrl := rest_len p l
      have hrm := Lib.hid (rest_mea p l)
      have hd : decide (p :: l ≠ []) = true := by simp
      rw [hd]
      clear hd
      obtain ⟨r, hr⟩ : ∃ r, r = T (restOf (p :: l)) := ⟨_, rfl⟩
      rw [← hr] at hcut ⊢
      have HR := Lib.hid hr
      clear hr
      go_wp2_with fail
      refine hcut.mono ?_
      rintro e X ⟨rfl, n, rfl⟩
      have HX := Lib.hid (cutW_drew HW.out n)
      clear hcut HW
      generalize wr.drewN n = X at HX ⊢
      have HL := Lib.hid (show (∀ q ∈ l, Piece q) from fun q hq => HP.out q (List.mem_cons_of_mem _ hq))
      have HG := Lib.hid (show l.foldl step (step out p) = ps.foldl step [] from HF.out)
      have HN := Lib.hid hl
      have HRL := Lib.hid hrl
      clear HP HF hrl hl
      obtain ⟨r2, hr2⟩ : ∃ r2, r2 = T (restOf l) := ⟨_, rfl⟩
      obtain ⟨m2, hm2⟩ : ∃ m2, m2 = decide (l ≠ []) := ⟨_, rfl⟩
      have HR2 := Lib.hid hr2
      have HM2 := Lib.hid hm2
      rw [← hr2, ← hm2]
      clear hr2 hm2
      rcases hp0 with rfl | rfl | ⟨c, rfl, hc0, hc1⟩
      · have hs1 : step out [] = out := by simp [step]
        rw [hs1] at HG
        go_wp2_with fail
        go_roundw
        case rel => exact ⟨l, out, V, rfl, by rw [HR2.out], by rw [HM2.out], HL.out, by have := HN.out; have := HRL.out; omega, HG, HX.out⟩
        case measure => have := hrm.out; rw [← HR.out, ← HR2.out, ← HM2.out] at this; exact this
      · have hs1 : step out [46, 46] = out.dropLast := rfl
        rw [hs1] at HG
        obtain ⟨A, c, hV⟩ := own_shape HX.out.1
        obtain ⟨n, hn⟩ : ∃ n, n = out.length := ⟨_, rfl⟩
        rw [← hn] at hV
        subst hV
        have hmx : max (wrap64 (↑n - 1)) 0 = ((n - 1 : Nat) : Int) := by have := HN.out; unfold wrap64; omega
        have hcc : ((n - 1 : Nat) : Int) ≤ (c : Int) := by
          rcases HX.out.1.2 with ⟨h1, h2⟩ | ⟨g, cap, cur, h1, hb, hg, hnc, _⟩
          · injection h1 with a b d; omega
          · injection h1 with a b d; omega
        have HV := Lib.hid hn
        clear hn
        go_wp2_with fail
        go_roundw
        case rel =>
          refine ⟨l, out.dropLast, _, rfl, by rw [HR2.out], by rw [HM2.out], HL.out, by have := HN.out; have := HRL.out; simp; omega, HG, ?_, HX.out.2⟩
          have h := HX.out.1
          rw [← HV.out] at h
          have h' := owns_cut h (Nat.sub_le n 1)
          rw [names_take, HV.out, ← List.dropLast_eq_take] at h'
          have e : out.dropLast.length = n - 1 := by rw [HV.out]; simp
          rw [e]
          rw [← HV.out] at h'
          simpa using h'
        case measure => have := hrm.out; rw [← HR.out, ← HR2.out, ← HM2.out] at this; exact this
      · have hs1 : step out [c] = out ++ [c] := by
          unfold step
          rw [if_neg (by simp)]
        rw [hs1] at HG
        have hnm : Calls Try.prog 8 #[.string (T [c])] X fun e w' => e = .returned (.bool true) ∧ Below X.heap.size X w' := name_letter c hc0 hc1 X
        obtain ⟨i0, hi0, hz0, hz1, hz2⟩ := info_parts strInfo
        have HI := Lib.hid hi0
        have HI1 := Lib.hid hz0
        have HI2 := Lib.hid hz1
        have HI3 := Lib.hid hz2
        have HO := Lib.hid (rest_one c l)
        have HC := Lib.hid hc0
        clear hi0 hz0 hz1 hz2 hc0 hc1
        have t0 : (T [c]).toList.isEmpty = false := by rw [Lib.toList_data]; rfl
        have t1 : ((T [c]).toList == [46]) = false := by rw [Lib.toList_data, beq_eq_false_iff_ne]; intro h; have h' : [c] = [46] := h; injection h' with h'; have := HC.out; rw [h'] at this; simp at this
        have t2 : ((T [c]).toList == [46, 46]) = false := by rw [Lib.toList_data, beq_eq_false_iff_ne]; intro h; have h' : [c] = [46, 46] := h; simp at h'
        obtain ⟨q, hq⟩ : ∃ q, q = T [c] := ⟨_, rfl⟩
        rw [← hq] at hnm t0 t1 t2 ⊢
        have HQ := Lib.hid hq
        clear hq
        go_wp2_with fail
        refine hnm.mono ?_
        rintro e Y ⟨rfl, hY⟩
        have HY := Lib.hid (show CutW w' V out Y from ⟨HX.out.1.kept (only_below hY none) (Classical.em _), HX.out.2.trans (hY.mono HX.out.2.size)⟩)
        have hyb : w'.heap.size ≤ Y.heap.size + 1 := by have := HY.out.2.size; omega
        have HB := Lib.hid (show out.length + 1 < 200 by have := HN.out; have := HO.out; omega)
        go_wp2_with (at_builtin; refine wpList_append_own _ rfl (.tmp 29) (.tmp 31) 23 rfl w'.heap.size 9 i0 _ 1 16 Try.underlying23 HI.out HI1.out HI2.out HI3.out rfl (by omega) V out.length (names out) rfl (HY.out.1.alloc _) ⟨Y.heap.size, 0, none⟩ 1 1 [.string q] rfl rfl (one_news Y _ 9) (by intro u hu; simp only [List.mem_cons, List.not_mem_nil, or_false] at hu; rw [hu]; rfl) (by have := HB.out; unfold maxLen; omega) (by have := HB.out; omega) (by simpa using hyb) ?_; intro v' Z hown' hgrow _; have HZ := Lib.hid (show CutW w' v' (out ++ [c]) Z from cutW_app HY.out HQ.out hown' hgrow); clear hown' hgrow HY)
        go_roundw
        case rel => exact ⟨l, out ++ [c], v', rfl, by rw [HR2.out], by rw [HM2.out], HL.out, by have := HN.out; have := HO.out; simp; omega, HG, HZ.out⟩
        case measure => have := hrm.out; rw [← HR.out, ← HR2.out, ← HM2.out] at this; exact this
end Go.Proofs.Ytkagiccjlppcaaa
