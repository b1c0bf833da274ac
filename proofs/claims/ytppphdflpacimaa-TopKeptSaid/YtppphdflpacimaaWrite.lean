/- The disk: whether a sector's number is one; a write into the buffer. -/
import Derived.Test.YtppphdflpacimaaDisk
namespace Go.Proofs.Ytppphdflpacimaa
open Go.RowKit Go.Maps

theorem may_any (gd gs gm i : Nat) (hi : i < 30) (X : World) (h : Holds9 X gd 55 [.slice (some ⟨gs, 0, none⟩) 30 30, .map (some gm)]) :
    Calls Try.prog 15 #[.pointer (some ⟨gd, 0, none⟩), .int .i64 i] X fun e w' => e = .returned (.int .i64 0) ∧ X = w' := by
  have c0 := h9_cell h 0
  simp only [List.getElem?_cons_zero] at c0
  go_enter Try.func15, Try.ntmps15
  go_wp2
  go_ret
  exact ⟨rfl, rfl⟩

set_option maxHeartbeats 1000000 in
set_option maxRecDepth 100000 in
theorem write_any (w0 : World) (B gd gs gm i n : Nat) (hi : i < 30) (S : List (List UInt8)) (D : DataW Value) (s : List UInt8) (hs : s.length = 32) (hn : n < 1000) (X : World) (h : DiskW w0 B gd gs gm S D n X) :
    Calls Try.prog 7 #[.pointer (some ⟨gd, 0, none⟩), .int .i64 i, sec s] X fun e w' => e = .returned (.int .i64 0) ∧ DiskW w0 B gd gs gm S (D.put (.int .i64 i) (.held (sec s))) (n + 1) w' := by
  obtain ⟨a, ha⟩ : ∃ a, a = (cellsOf s).toArray := ⟨_, rfl⟩
  have hsec : sec s = .agg a := by unfold sec; rw [ha]
  have h1 : DiskW w0 B gd gs gm S D n (X.alloc (.cells a 35)) := h.alloc _
  have HM := Lib.hid (may_any gd gs gm i hi _ h1.head)
  have c1 := h9_cell h1.head 1
  simp only [List.getElem?_cons_zero, List.getElem?_cons_succ] at c1
  have H := Lib.hid h1
  have HR : RowKit.Hid ((X.alloc (.cells a 35)).rangeAt X.heap.size 0 (cellsOf s)) := by
    rw [ha]
    exact Lib.hid (sec_range X s 35)
  have law : Keyed Try.prog 3 := int_keyed Try.underlying3
  have HI : RowKit.Hid ((Try.prog.info? 35).map (·.size) = some (cellsOf s).length) := by
    have e : (cellsOf s).length = 32 := by simp [cellsOf, hs]
    rw [e]
    exact Lib.hid secSize
  have HA := Lib.hid ha
  have HK : RowKit.Hid (keyOf Try.prog 3 (.int .i64 i) = some (.int .i64 i)) := Lib.hid (keyOf_int_mk Try.underlying3 (by simp [Lit.wf, IntKind.min, IntKind.max, IntKind.signed, IntKind.bits]; omega))
  rw [hsec]
  clear ha h h1
  go_enter Try.func7, Try.ntmps7
  go_wp2_with fail
  refine HM.out.mono ?_
  rintro e w' ⟨rfl, hw⟩
  subst hw
  go_wp2_with fail
  refine wp_region_quiet_tail 6 rfl (by kernel_rfl) ?_
  intro Y hY
  have HD := Lib.hid (show DiskW w0 B gd gs gm S D n Y from by rw [hY]; exact H.out.drew)
  have HRY := Lib.hid (show ∀ W, W = Y → W.rangeAt X.heap.size 0 (cellsOf s) from by rintro W rfl; rw [hY]; simpa using HR.out)
  have c2 := h9_cell HD.out.head 1
  simp only [List.getElem?_cons_zero, List.getElem?_cons_succ] at c2
  clear hY c1 HM H HR
  simp only [List.take_succ_cons, List.take_zero, List.drop_succ_cons, List.drop_zero]
  repeat (first
    | go_big_quiet_skip
    | (go_big_quiet_want
       first
         | (refine quiet_load_mid 35 _ rfl X.heap.size 0 rfl (cellsOf s) _ HRY.out Try.underlying35 rfl HI.out ?_; go_frame; go_big_quiet_on)
         | (go_big_quiet_op; go_big_quiet_on)
         | (go_big_quiet_op; refine ⟨_, fun _ _ => rfl, ?_⟩; go_big_quiet_on)))
  refine wpQuiet_nil ?_
  go_wp2_with (at_mapUpdate; refine wpList_mapUpdate_own _ rfl _ _ _ 53 rfl 3 35 law Try.underlying53 Rv gm n D rfl HD.out.buf (by unfold maxLen; omega) _ _ _ rfl rfl HK.out (.held (.agg (cellsOf s).toArray)) [] rfl ?_; intro w1 hown1 hgrow1; have HZ := Lib.hid (HD.out.put hown1 hgrow1); clear hown1 hgrow1 HD)
  go_ret
  exact ⟨rfl, by rw [HA.out]; exact HZ.out⟩
end Go.Proofs.Ytppphdflpacimaa
