/- Settle, as Flush calls it. -/
import Derived.Test.YtppphdflpacimaaSets
namespace Go.Proofs.Ytppphdflpacimaa
open Go.RowKit Go.Maps

theorem put_none (a : Act) (v : Value) : a.put none v = a := rfl
theorem List.set_getElem?_self' {α : Type} {l : List α} {i : Nat} {a : α} (h : l[i]? = some a) : l.set i a = l := by
  apply List.ext_getElem?
  intro j
  rw [List.getElem?_set]
  by_cases hij : i = j
  · subst hij
    have hl := (List.getElem?_eq_some_iff.1 h).1
    simp [hl]
    exact ((List.getElem?_eq_some_iff.1 h).2).symm
  · rw [if_neg hij]

set_option maxHeartbeats 1000000 in
set_option maxRecDepth 100000 in
theorem settle_flush (w0 : World) (B gd gs gm n m : Nat) (v : Nat → List UInt8) (S : List (List UInt8)) (D : DataW Value) (X : World) (h : DiskW w0 B gd gs gm S D n X) (hv : ∀ i, (v i).length = 32) (hm : m ≤ 30)
    (hD : ∀ kl, Maps.has D kl = true → ∃ i : Nat, i < m ∧ kl = .int .i64 i ∧ ∀ zd, D.atKey kl zd = .held (sec (v i))) (hD2 : ∀ i : Nat, i < m → Maps.has D (.int .i64 i) = true) :
    Calls Try.prog 16 #[.pointer (some ⟨gd, 0, none⟩), .func (.func 17) #[] #[]] X fun e w' => e = .returned (.int .i64 0) ∧ ∃ Dc, DiskW w0 B gd gs gm (outS S m v (fun _ => true) (fun _ => false)) Dc n w' ∧ ∀ kl, Maps.has Dc kl = false := by
  have law : Keyed Try.prog 3 := int_keyed Try.underlying3
  have c0 := h9_cell h.head 0
  have c1 := h9_cell h.head 1
  simp only [List.getElem?_cons_zero, List.getElem?_cons_succ] at c0 c1
  go_enter Try.func16, Try.ntmps16
  go_wp2_with (at_range; refine wpList_range_own _ rfl _ 53 rfl 3 35 law Try.underlying53 Rv gm n D rfl h.buf ?_; intro X1 hrg hg hs)
  go_frame
  have hS0 : SetW w0 B gd gs gm X.heap.size n m S v (fun _ => true) (Maps.size D) X1 := by
    refine ⟨Maps.has D, D, hrg, ?_, fun kl hk => ?_, fun _ => rfl, fun i hi => ?_, h.size⟩
    · have e : outS S m v (fun _ => true) (Maps.has D) = S := by
        unfold outS
        apply List.ext_getElem?
        intro j
        rw [List.getElem?_map]
        by_cases hj : j < 30
        · rw [List.getElem?_range hj]
          have hl : j < S.length := by rw [h.len]; exact hj
          by_cases hjm : j < m
          · simp [hD2 j hjm, List.getD_eq_getElem?_getD, hl]
          · simp [hjm, List.getD_eq_getElem?_getD, hl]
        · rw [List.getElem?_eq_none (by simp; omega), List.getElem?_eq_none (by rw [h.len]; omega)]
          rfl
      rw [e]
      exact h.kept hg (fun r e => by cases e)
    · obtain ⟨i, hi, hk', hz⟩ := hD kl hk
      exact ⟨i, by omega, hk', hz⟩
    · obtain ⟨j, hj, hk', _⟩ := hD _ hi
      cases hk'
      exact hj
  have HS := Lib.hid hS0
  clear hS0 hrg hg hs c0 c1
  obtain ⟨r, hr⟩ : ∃ r, r = X.heap.size := ⟨_, rfl⟩
  rw [← hr] at HS ⊢
  clear hr
  go_loopw [] (fun Y => ∃ cnt, SetW w0 B gd gs gm r n m S v (fun _ => true) cnt Y) (fun Y => Y.rangeLeft gm r)
  case atStart => exact ⟨_, HS.out⟩
  case round =>
    obtain ⟨cnt, left, Dc, hrg, hd, hdesc, hhas, hlm, hBr⟩ := hrel
    have HD := Lib.hid hd
    have HR := Lib.hid hrg
    have HDS := Lib.hid hdesc
    have HH := Lib.hid hhas
    have HLM := Lib.hid hlm
    clear hd hrg hdesc hhas hlm HS
    go_wp2_with (at_next; refine wpList_next_sec _ rfl _ rfl gm r n Dc left cnt v rfl HR.out HDS.out ?_ ?_)
    · intro hl0
      go_wp2_with fail
      go_ret
      have hlf : left = fun _ => false := funext hl0
      refine ⟨rfl, Dc, ?_, fun kl => by rw [← HH.out kl, hl0 kl]⟩
      have hd := HD.out
      rw [hlf] at hd
      exact hd
    · intro i Y cnt' hi hli hrg' hlt hgr hsz hen
      obtain ⟨sv, hsv⟩ : ∃ sv, sv = v i := ⟨_, rfl⟩
      rw [← hsv] at hen ⊢
      have hs32 : sv.length = 32 := by rw [hsv]; exact hv i
      have him : i < m := HLM.out i hli
      have HSV := Lib.hid (show ∀ o, o = .cells (cellsOf zsec).toArray 35 → _ from fun o ho => set_var (o := o) (s := sv) HD.out HR.out hBr hrg' hgr hs32 ho)
      have HTH := Lib.hid (show ∀ o, o = .cells (cellsOf zsec).toArray 35 → (Y.alloc o).there Y.heap.size 0 (cellsOf sv).toArray.size from by
        rintro o rfl
        have e : (cellsOf sv).toArray.size = 32 := by rw [List.size_toArray, cells_length, hs32]
        rw [e]
        exact h9_there (h9_new Y 35 (cellsOf zsec)) 0 _ (Nat.le_refl 32))
      have HSZ := Lib.hid (show (Try.prog.info? 35).map (·.size) = some (cellsOf sv).toArray.size from by rw [List.size_toArray, cells_length, hs32]; exact secSize)
      have HSZ2 := Lib.hid (show (Try.prog.info? 35).map (·.size) = some (cellsOf sv).length from by rw [cells_length, hs32]; exact secSize)
      have HON := Lib.hid (show (cellsOf sv).toArray.all (·.oneCell') = true from all_oneCell_toArray (cells_one sv))
      have HGV := Lib.hid hsv
      have HLI := Lib.hid hli
      have HLT := Lib.hid hlt
      have HS32 := Lib.hid hs32
      clear hsv hs32 hli hrg' hlt hgr hsz
      go_wp2_with (refine wpList_store_mid rfl 35 _ _ rfl Y.heap.size 0 (cellsOf sv).toArray rfl rfl (HTH.out _ rfl) HSZ.out HON.out ?_; refine at_worldL (fun Z => DiskW w0 B gd gs gm (outS S m v (fun _ => true) left) Dc n Z ∧ Z.ranges Try.prog 3 Rv gm r n Dc (fun z => left z && !z.sameKey (.int .i64 (i : Int))) cnt' ∧ Holds9 Z Y.heap.size 35 (cellsOf sv) ∧ Y.heap.size < Z.heap.size) (HSV.out _ rfl) ?_; clear hen; intro Z hZ; have HZ := Lib.hid hZ; clear hZ)
      go_frame
      obtain ⟨sc, hsc⟩ : ∃ sc, (outS S m v (fun _ => true) left)[i]? = some sc := ⟨_, outS_get _ _ _ _ _ i hi⟩
      obtain ⟨hil, hsci⟩ := List.getElem?_eq_some_iff.1 hsc
      have hc32 : sc.length = 32 := by rw [← hsci]; exact HZ.out.1.all _ (List.getElem_mem _)
      obtain ⟨Z1, hZ1⟩ : ∃ Z1, Z1 = Z.drew := ⟨_, rfl⟩
      have HZ1 := Lib.hid (show DiskW w0 B gd gs gm (outS S m v (fun _ => true) left) Dc n Z1 ∧ Z1.ranges Try.prog 3 Rv gm r n Dc (fun z => left z && !z.sameKey (.int .i64 (i : Int))) cnt' ∧ Holds9 Z1 Y.heap.size 35 (cellsOf sv) ∧ Y.heap.size < Z1.heap.size from by
        rw [hZ1]
        exact ⟨HZ.out.1.drew, HZ.out.2.1.kept (only_drew (World.grownBy.refl Z none)) (by simp) (by simp), HZ.out.2.2.1, HZ.out.2.2.2⟩)
      have HRC := Lib.hid (show ∀ W, W = Z1 → W.rangeAt gs (i * 32) (cellsOf sc) from by
        rintro W rfl
        have := HZ1.out.1.range i hi
        rw [hsci] at this
        exact this)
      have HRV := Lib.hid (show ∀ W, W = Z1 → W.rangeAt Y.heap.size 0 (cellsOf sv) from by rintro W rfl; exact h9_range HZ1.out.2.2.1)
      have HSC := Lib.hid (show (Try.prog.info? 35).map (·.size) = some (cellsOf sc).length from by rw [cells_length, hc32]; exact secSize)
      have heq := eq_sec Z1 sc sv hc32 HS32.out
      have k0 := h9_cell HZ1.out.1.head 0
      have k1 := h9_cell HZ1.out.1.head 1
      simp only [List.getElem?_cons_zero, List.getElem?_cons_succ] at k0 k1
      have HSCI := Lib.hid hsc
      clear hsc hsci hil hc32 HZ
      refine wp_region_class (C := fun W => W = Z1) rfl (by decide +kernel) hZ1.symm ?_
      clear hZ1
      repeat (first
        | go_big_quiet_skip
        | (go_big_quiet_want
           first
             | (refine quiet_load_mid 35 _ rfl gs (i * 32) rfl (cellsOf sc) _ HRC.out Try.underlying35 rfl HSC.out ?_; go_frame; go_big_quiet_on)
             | (refine quiet_load_mid 35 _ rfl Y.heap.size 0 rfl (cellsOf sv) _ HRV.out Try.underlying35 rfl HSZ2.out ?_; go_frame; go_big_quiet_on)
             | (go_big_quiet_op; go_big_quiet_on)
             | (go_big_quiet_op; refine ⟨_, fun _ _ => rfl, ?_⟩; go_big_quiet_on)
             | (go_big_quiet_op; refine ⟨.bool true, (such_all i Z1).mono ?_, ?_⟩; (rintro x w1 ⟨rfl, rfl⟩; exact ⟨rfl, rfl⟩); go_big_quiet_on)))
      refine wpQuiet_nil ?_
      intro W hW
      have e1 : Z1 = W := hW.symm
      subst e1
      clear hW heq
      have HKY := Lib.hid (show keyOf Try.prog 3 (.int .i64 i) = some (.int .i64 i) from keyOf_int_mk Try.underlying3 (by simp [Lit.wf, IntKind.min, IntKind.max, IntKind.signed, IntKind.bits]; omega))
      cases hb : (sc == sv)
      · simp only [Bool.not_false]
        go_wp2_with fail
        refine wp_region_quiet_tail 7 rfl (by kernel_rfl) ?_
        intro V hV
        have HV := Lib.hid (show DiskW w0 B gd gs gm (outS S m v (fun _ => true) left) Dc n V ∧ V.ranges Try.prog 3 Rv gm r n Dc (fun z => left z && !z.sameKey (.int .i64 (i : Int))) cnt' ∧ Holds9 V Y.heap.size 35 (cellsOf sv) from by
          rw [hV]
          exact ⟨HZ1.out.1.drew, HZ1.out.2.1.kept (only_drew (World.grownBy.refl _ none)) (by simp) (by simp), HZ1.out.2.2.1⟩)
        have HRV2 := Lib.hid (show ∀ W, W = V → W.rangeAt Y.heap.size 0 (cellsOf sv) from by rintro W rfl; exact h9_range HV.out.2.2)
        clear k0 k1 hV
        have k0 := h9_cell HV.out.1.head 0
        simp only [List.getElem?_cons_zero] at k0
        simp only [List.take_succ_cons, List.take_zero, List.drop_succ_cons, List.drop_zero]
        repeat (first
          | go_big_quiet_skip
          | (go_big_quiet_want
             first
               | (refine quiet_load_mid 35 _ rfl Y.heap.size 0 rfl (cellsOf sv) _ HRV2.out Try.underlying35 rfl HSZ2.out ?_; go_frame; go_big_quiet_on)
               | (go_big_quiet_op; go_big_quiet_on)
               | (go_big_quiet_op; refine ⟨_, fun _ _ => rfl, ?_⟩; go_big_quiet_on)))
        refine wpQuiet_nil ?_
        go_wp2_with (first | (at_delete; refine wpList_delete_ranges _ rfl _ _ 53 3 rfl 35 law Try.underlying53 Rv gm r n Dc _ cnt' rfl HZ9.out.2 _ (.int .i64 i) rfl HKY.out ?_; intro w2 cnt2 hrg2 hle hturn; rw [Maps.strike_twice] at hrg2; have HR2 := Lib.hid hrg2; have HT2 := Lib.hid hturn.grown; have HL2 := Lib.hid hle; clear hrg2 hturn hle; simp only [put_none]) | (refine wpList_store_mid rfl 35 _ _ rfl gs (i * 32) (cellsOf sv).toArray rfl rfl (HV.out.1.there i hi sv HS32.out) HSZ.out HON.out ?_; refine at_worldL (fun Z => DiskW w0 B gd gs gm ((outS S m v (fun _ => true) left).set i sv) Dc n Z ∧ Z.ranges Try.prog 3 Rv gm r n Dc (fun z => left z && !z.sameKey (.int .i64 (i : Int))) cnt') ⟨HV.out.1.store i hi sv HS32.out, HV.out.1.ranges_store HV.out.2.1 _ _⟩ ?_; intro Z9 hZ9; have HZ9 := Lib.hid hZ9; clear hZ9 HV HRV2 k0; have k0 := h9_cell HZ9.out.1.head 0; have k1 := h9_cell HZ9.out.1.head 1; simp only [List.getElem?_cons_zero, List.getElem?_cons_succ] at k0 k1))
        go_roundw
        · exact ⟨cnt2, set_step HZ9.out.1 HR2.out HT2.out (by rw [HGV.out]; exact (outS_yes hi him rfl).symm) HDS.out HH.out HLM.out hBr⟩
        · rw [HR2.out.left_eq, HR.out.left_eq]
          have h1 := HL2.out
          have h2 := HLT.out
          omega
      · simp only [Bool.not_true]
        go_wp2_with (at_delete; refine wpList_delete_ranges _ rfl _ _ 53 3 rfl 35 law Try.underlying53 Rv gm r n Dc _ cnt' rfl HZ1.out.2.1 _ (.int .i64 i) rfl HKY.out ?_; intro w2 cnt2 hrg2 hle hturn; rw [Maps.strike_twice] at hrg2; have HR2 := Lib.hid hrg2; have HT2 := Lib.hid hturn.grown; have HL2 := Lib.hid hle; clear hrg2 hturn hle; simp only [put_none])
        go_roundw
        · refine ⟨cnt2, set_step HZ1.out.1 HR2.out HT2.out ?_ HDS.out HH.out HLM.out hBr⟩
          rw [outS_yes hi him rfl, ← HGV.out, List.set_getElem?_self' (HSCI.out.trans (by rw [eq_of_beq hb]))]
        · rw [HR2.out.left_eq, HR.out.left_eq]
          have h1 := HL2.out
          have h2 := HLT.out
          omega

set_option maxHeartbeats 1000000 in
theorem flush_any (w0 : World) (B gd gs gm n m : Nat) (v : Nat → List UInt8) (S : List (List UInt8)) (D : DataW Value) (X : World) (h : DiskW w0 B gd gs gm S D n X) (hv : ∀ i, (v i).length = 32) (hm : m ≤ 30)
    (hD : ∀ kl, Maps.has D kl = true → ∃ i : Nat, i < m ∧ kl = .int .i64 i ∧ ∀ zd, D.atKey kl zd = .held (sec (v i))) (hD2 : ∀ i : Nat, i < m → Maps.has D (.int .i64 i) = true) :
    Calls Try.prog 8 #[.pointer (some ⟨gd, 0, none⟩)] X fun e w' => e = .returned (.int .i64 0) ∧ ∃ Dc, DiskW w0 B gd gs gm (outS S m v (fun _ => true) (fun _ => false)) Dc n w' ∧ ∀ kl, Maps.has Dc kl = false := by
  have HC := Lib.hid (settle_flush w0 B gd gs gm n m v S D X h hv hm hD hD2)
  clear h hv hm hD hD2
  go_enter Try.func8, Try.ntmps8
  go_wp2_with fail
  refine HC.out.mono ?_
  rintro e w' ⟨rfl, hw⟩
  have HW := Lib.hid hw
  clear hw HC
  go_wp2_with fail
  go_ret
  exact ⟨rfl, HW.out⟩
end Go.Proofs.Ytppphdflpacimaa
