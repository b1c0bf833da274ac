/- The disk: what a sector reads as where the buffer holds nothing at it. -/
import Derived.Test.YtppphdflpacimaaWrite
import Derived.Laws.ResultCell
namespace Go.Proofs.Ytppphdflpacimaa
open Go.RowKit Go.Maps

theorem secs_at {S : List (List UInt8)} (hl : ∀ s ∈ S, s.length = 32) (i : Nat) (hi : i < S.length) (j : Nat) (hj : j < 32) : (cellsOf S.flatten)[i * 32 + j]? = (cellsOf (S[i]))[j]? := by
  induction S generalizing i with
  | nil => simp at hi
  | cons s S ih =>
    have hs := hl s List.mem_cons_self
    cases i with
    | zero =>
      simp only [List.flatten_cons, cells_app, Nat.zero_mul, Nat.zero_add, List.getElem_cons_zero]
      rw [List.getElem?_append_left (by rw [cells_length, hs]; exact hj)]
    | succ i =>
      simp only [List.flatten_cons, cells_app, List.getElem_cons_succ]
      rw [List.getElem?_append_right (by rw [cells_length, hs]; omega), cells_length, hs, ← ih (fun q hq => hl q (List.mem_cons_of_mem _ hq)) i (by simpa using hi)]
      congr 1
      omega

theorem DiskW.range {w0 X : World} {B gd gs gm n : Nat} {S : List (List UInt8)} {D : DataW Value} (h : DiskW w0 B gd gs gm S D n X) (i : Nat) (hi : i < 30) : X.rangeAt gs (i * 32) (cellsOf (S[i]'(by rw [h.len]; exact hi))) := by
  have hi' : i < S.length := by rw [h.len]; exact hi
  intro j v hv
  have hj : j < 32 := by
    have := (List.getElem?_eq_some_iff.1 hv).1
    rw [cells_length, h.all _ (List.getElem_mem hi')] at this
    exact this
  rw [h9_cell h.secs, secs_at h.all i hi' j hj]
  exact hv

theorem res_set {Z : World} {b : Nat} {t : TypeId} {vs : List Value} (hl : vs.length = 32) (h : Holds9 Z b t (cellsOf zsec)) : Holds9 (Z.setCells b 0 vs) b t vs := by
  have h1 := h9_setCells vs 0 h (by rw [hl]; exact Nat.le_refl 32)
  rw [hl, show List.drop (0 + 32) (cellsOf zsec) = [] from rfl] at h1
  simpa using h1

theorem zero_sec (w : World) : (zeroValue 35).run Try.prog w = .ok (sec zsec) w := by
  obtain ⟨i, hi, hz, _, _⟩ := info_parts secInfo
  simp [zeroValue, typeInfo, hi, hz]

set_option maxHeartbeats 1000000 in
set_option maxRecDepth 100000 in
theorem read_disk (w0 : World) (B gd gs gm i n : Nat) (hi : i < 30) (S : List (List UInt8)) (D : DataW Value) (X : World) (h : DiskW w0 B gd gs gm S D n X) (hD : D.atKey (.int .i64 i) (.held (sec zsec)) = .held (sec zsec)) (hH : Maps.has D (.int .i64 i) = false) (s : List UInt8) (hs : S[i]? = some s) :
    Calls Try.prog 10 #[.pointer (some ⟨gd, 0, none⟩), .int .i64 i] X fun e w' => e = .returned (.tuple #[sec s, .int .i64 0]) ∧ Below X.heap.size X w' := by
  have law : Keyed Try.prog 3 := int_keyed Try.underlying3
  have HK : RowKit.Hid (keyOf Try.prog 3 (.int .i64 i) = some (.int .i64 i)) := Lib.hid (keyOf_int_mk Try.underlying3 (by simp [Lit.wf, IntKind.min, IntKind.max, IntKind.signed, IntKind.bits]; omega))
  have H := Lib.hid h
  go_enter Try.func10, Try.ntmps10
  go_wp2_with fail
  refine (may_any gd gs gm i hi _ (h.alloc _).head).mono ?_
  rintro e Y ⟨rfl, hw⟩
  have HY := Lib.hid (show DiskW w0 B gd gs gm S D n Y ∧ Holds9 Y X.heap.size 35 (cellsOf zsec) ∧ Below X.heap.size X Y from by
    rw [← hw]
    exact ⟨h.alloc _, h9_new X 35 (cellsOf zsec), (Below.refl _ X).alloc (Nat.le_refl _) _⟩)
  have c0 := h9_cell HY.out.1.head 0
  have c1 := h9_cell HY.out.1.head 1
  simp only [List.getElem?_cons_zero, List.getElem?_cons_succ] at c0 c1
  obtain ⟨v, ps, hrun, hv⟩ := HY.out.1.buf.look_ok law Try.underlying53 (zero_sec Y) (zd := .held (sec zsec)) (zp := []) rfl HK.out
  have hvz : v = sec zsec := by
    rw [hD] at hv
    unfold Rv at hv
    injection hv with hv
    injection hv with hv1 hv2
    injection hv1
  obtain ⟨za, hza⟩ : ∃ za, za = (cellsOf zsec).toArray := ⟨_, rfl⟩
  have hv2 : v = .agg za := by rw [hvz, hza]; rfl
  subst hv2
  rw [hH] at hrun
  have HZA := Lib.hid hza
  clear hw H hv hvz hza
  have HZS := Lib.hid (show (Try.prog.info? 35).map (·.size) = some za.size from by rw [HZA.out]; exact secSize)
  have HZ1 := Lib.hid (show za.all (·.oneCell') = true from by rw [HZA.out]; exact all_oneCell_toArray (cells_one zsec))
  have HTH := Lib.hid (show ∀ o, o = .cells (cellsOf zsec).toArray 35 → (Y.alloc o).there Y.heap.size 0 za.size from by
    rintro o rfl
    rw [HZA.out]
    exact h9_there (h9_new Y 35 (cellsOf zsec)) 0 _ (by simp))
  have HC := Lib.hid (show ∀ o, o = .cells (cellsOf zsec).toArray 35 → DiskW w0 B gd gs gm S D n ((Y.alloc o).setCells Y.heap.size 0 za.toList) ∧ Holds9 ((Y.alloc o).setCells Y.heap.size 0 za.toList) X.heap.size 35 (cellsOf zsec) ∧ Below X.heap.size X ((Y.alloc o).setCells Y.heap.size 0 za.toList) from by
    intro o _
    have hb : Below Y.heap.size Y ((Y.alloc o).setCells Y.heap.size 0 za.toList) := below_setCells (Nat.le_refl _) _ _ ((Below.refl _ Y).alloc (Nat.le_refl _) o)
    exact ⟨HY.out.1.below' hb, h9_below HY.out.2.1 hb (h9_lt HY.out.2.1), HY.out.2.2.trans (hb.mono HY.out.2.2.size)⟩)
  obtain ⟨hil, hsi⟩ := List.getElem?_eq_some_iff.1 hs
  have hs32 : s.length = 32 := by rw [← hsi]; exact h.all _ (List.getElem_mem _)
  have HS := Lib.hid (show (Try.prog.info? 35).map (·.size) = some (cellsOf s).length from by rw [cells_length, hs32]; exact secSize)
  have HS2 := Lib.hid (show (Try.prog.info? 35).map (·.size) = some (cellsOf s).toArray.size from by rw [List.size_toArray, cells_length, hs32]; exact secSize)
  have HS1 := Lib.hid (show (cellsOf s).toArray.all (·.oneCell') = true from all_oneCell_toArray (cells_one s))
  have HSL := Lib.hid (show (cellsOf s).length = 32 from by rw [cells_length, hs32])
  have HR := Lib.hid (show ∀ Z, DiskW w0 B gd gs gm S D n Z → Z.rangeAt gs (i * 32) (cellsOf s) from fun Z hZ => by rw [← hsi]; exact hZ.range i hi)
  clear hs hs32 hsi hil
  go_wp2_with (first
    | (refine wpList_store_mid rfl 35 _ _ rfl Y.heap.size 0 za rfl rfl (HTH.out _ rfl) HZS.out HZ1.out ?_; refine at_worldL (fun Z => DiskW w0 B gd gs gm S D n Z ∧ Holds9 Z X.heap.size 35 (cellsOf zsec) ∧ Below X.heap.size X Z) (HC.out _ rfl) ?_; clear hrun c0 c1; intro Z hZ; have HZ := Lib.hid hZ; have c0 := h9_cell HZ.out.1.head 0; have c1 := h9_cell HZ.out.1.head 1; simp only [List.getElem?_cons_zero, List.getElem?_cons_succ] at c0 c1; clear hZ)
    | (refine wpList_load_mid rfl 35 _ rfl gs (i * 32) rfl (cellsOf s) _ (HR.out _ HZ.out.1) Try.underlying35 rfl HS.out ?_)
    | (refine wpList_store_mid rfl 35 _ _ rfl X.heap.size 0 (cellsOf s).toArray rfl rfl (h9_there HZ.out.2.1 0 _ (by rw [List.size_toArray, HSL.out]; exact Nat.le_refl 32)) HS2.out HS1.out ?_; refine at_worldL (fun V => Holds9 V X.heap.size 35 (cellsOf s) ∧ Below X.heap.size X V) ⟨res_set HSL.out HZ.out.2.1, below_setCells (Nat.le_refl _) _ _ HZ.out.2.2⟩ ?_; intro V hV; have HV := Lib.hid hV; clear hV))
  refine bodyPost_ret (v := .tuple #[sec s, .int .i64 0]) ?_ rfl ⟨rfl, HV.out.2⟩
  rw [results_cell_tmp (p := 4) (u := 5) (ty := 35) rfl]
  have hl := run_loadVar_mid (P := Try.prog) V X.heap.size 0 35 (cellsOf s) _ (h9_range HV.out.1) Try.underlying35 rfl HS.out
  show ((asAddr (.pointer (some ⟨X.heap.size, 0, none⟩))).run Try.prog V).andThen _ = _
  simp only [asAddr, Sem.run_pure, Result.andThen_ok, hl]
  rfl
end Go.Proofs.Ytppphdflpacimaa
