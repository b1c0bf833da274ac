/- Settle, as Crash calls it: what is kept is written out. -/
import Derived.Test.YtppphdflpacimaaSettle
import Derived.Test.YtppphdflpacimaaKeep
namespace Go.Proofs.Ytppphdflpacimaa
open Go.RowKit Go.Maps

/-- The numbers that are kept lie below B, and their slice stands in a box of its own. -/
def KB (A : Option Addr) (N C kb B : Nat) (ks : List Int) (X : World) : Prop := Holds9 X kb 26 [.slice A N C] ∧ KeepW X A N ks ∧ ∀ g o, A = some ⟨g, o, none⟩ → N ≠ 0 → g < B

theorem cell_kept {X Y : World} {row : Option Nat} {g i : Nat} {u : Value} (hg : X.grownBy Y row) (hne : some g ≠ row) (h : X.cell? ⟨g, i, none⟩ = some u) : Y.cell? ⟨g, i, none⟩ = some u := by
  have hl := World.block_lt_of_cell? X _ h
  have hb := hg.block g hl hne
  unfold World.cell? at h ⊢
  simp only at h ⊢
  rw [hb]
  exact h
theorem KB.kept {A : Option Addr} {N C kb B : Nat} {ks : List Int} {X Y : World} {row : Option Nat} (h : KB A N C kb B ks X) (hg : X.grownBy Y row) (hr : ∀ r, row = some r → B ≤ r ∧ r ≠ kb) : KB A N C kb B ks Y := by
  obtain ⟨h1, ⟨h2, h3⟩, h4⟩ := h
  refine ⟨h9_grown h1 hg (fun e => (hr kb e.symm).2 rfl), ⟨h2, fun hn => ?_⟩, h4⟩
  obtain ⟨g, o, ha, hc⟩ := h3 hn
  refine ⟨g, o, ha, fun j hj => cell_kept hg (fun e => ?_) (hc j hj)⟩
  have := (hr g e.symm).1
  have := h4 g o ha hn
  omega
theorem KB.ne_map {A : Option Addr} {N C kb B : Nat} {ks : List Int} {X : World} {gm n : Nat} {D : DataW Value} (h : KB A N C kb B ks X) (hm : X.ownsMap Try.prog 3 Rv gm n D) : gm ≠ kb := by
  rintro rfl
  obtain ⟨es, clock, hb, _⟩ := hm
  have h' := h.1
  unfold Holds9 at h'
  rw [hb] at h'
  cases h'
theorem KB.var {A : Option Addr} {N C kb B : Nat} {ks : List Int} {X Y : World} {r cnt n gm : Nat} {D : DataW Value} {left : Lit → Bool} {o : Obj} {vs : List Value} (h : KB A N C kb B ks X) (hr : X.ranges Try.prog 3 Rv gm r n D left cnt) (hBr : B ≤ r) (hg : X.grownBy Y (some r)) :
    KB A N C kb B ks ((Y.alloc o).setCells Y.heap.size 0 vs) := by
  have hY := h.kept hg (fun k e => by cases e; exact ⟨hBr, range_ne hr h.1⟩)
  exact hY.kept (only_below (below_setCells (Nat.le_refl _) _ _ ((Below.refl _ Y).alloc (Nat.le_refl _) o)) none) (fun k e => by cases e)
theorem KB.drew {A : Option Addr} {N C kb B : Nat} {ks : List Int} {X : World} (h : KB A N C kb B ks X) : KB A N C kb B ks X.drew := h.kept (only_drew (World.grownBy.refl X none)) (fun k e => by cases e)
theorem KB.such {A : Option Addr} {N C kb B : Nat} {ks : List Int} {X : World} (h : KB A N C kb B ks X) (hN : N ≤ 9223372036854775807) (i : Int) : Calls Try.prog 18 #[.int .i64 i, .pointer (some ⟨kb, 0, none⟩)] X fun e w' => e = .returned (.bool (decide (i ∈ ks))) ∧ X = w' :=
  such_keep A N C kb ks i X hN h.2.1 (h9_cell h.1 0)

set_option maxHeartbeats 1000000 in
set_option maxRecDepth 100000 in
theorem settle_crash (w0 : World) (B gd gs gm n m : Nat) (A : Option Addr) (N C kb : Nat) (ks : List Int) (hN : N ≤ 9223372036854775807) (v : Nat → List UInt8) (S : List (List UInt8)) (D : DataW Value) (X : World) (h : DiskW w0 B gd gs gm S D n X) (hkb : KB A N C kb B ks X) (hv : ∀ i, (v i).length = 32) (hm : m ≤ 30)
    (hD : ∀ kl, Maps.has D kl = true → ∃ i : Nat, i < m ∧ kl = .int .i64 i ∧ ∀ zd, D.atKey kl zd = .held (sec (v i))) (hD2 : ∀ i : Nat, i < m → Maps.has D (.int .i64 i) = true) :
    Calls Try.prog 16 #[.pointer (some ⟨gd, 0, none⟩), .func (.func 18) #[] #[.pointer (some ⟨kb, 0, none⟩)]] X fun e w' => e = .returned (.int .i64 0) ∧ ∃ Dc, DiskW w0 B gd gs gm (outS S m v (fun i => decide ((i : Int) ∈ ks)) (fun _ => false)) Dc n w' ∧ ∀ kl, Maps.has Dc kl = false := by
  have law : Keyed Try.prog 3 := int_keyed Try.underlying3
  have c0 := h9_cell h.head 0
  have c1 := h9_cell h.head 1
  simp only [List.getElem?_cons_zero, List.getElem?_cons_succ] at c0 c1
  go_enter Try.func16, Try.ntmps16
  go_wp2_with (at_range; refine wpList_range_own _ rfl _ 53 rfl 3 35 law Try.underlying53 Rv gm n D rfl h.buf ?_; intro X1 hrg hg hs)
  go_frame
  have hS0 : SetW w0 B gd gs gm X.heap.size n m S v (fun i => decide ((i : Int) ∈ ks)) (Maps.size D) X1 := by
    refine ⟨Maps.has D, D, hrg, ?_, fun kl hk => ?_, fun _ => rfl, fun i hi => ?_, h.size⟩
    · have e : outS S m v (fun i => decide ((i : Int) ∈ ks)) (Maps.has D) = S := by
        unfold outS
        apply List.ext_getElem?
        intro j
        rw [List.getElem?_map]
        by_cases hj : j < 30
        · rw [List.getElem?_range hj]
          have hl : j < S.length := by rw [h.len]; exact hj
          by_cases hjm : j < m
          · simp [hD2 j hjm, List.getD_eq_getElem?_getD, hl]
          · simp [hjm, List.getD_eq_getElem?_getD, hl]
        · rw [List.getElem?_eq_none (by simp; omega), List.getElem?_eq_none (by rw [h.len]; omega)]
          rfl
      rw [e]
      exact h.kept hg (fun r e => by cases e)
    · obtain ⟨i, hi, hk', hz⟩ := hD kl hk
      exact ⟨i, by omega, hk', hz⟩
    · obtain ⟨j, hj, hk', _⟩ := hD _ hi
      cases hk'
      exact hj
  have HS := Lib.hid hS0
  have HK0 := Lib.hid (hkb.kept hg (fun r e => by cases e))
  clear hS0 hrg hg hs c0 c1
  obtain ⟨r, hr⟩ : ∃ r, r = X.heap.size := ⟨_, rfl⟩
  rw [← hr] at HS ⊢
  clear hr
  go_loopw [] (fun Y => (∃ cnt, SetW w0 B gd gs gm r n m S v (fun i => decide ((i : Int) ∈ ks)) cnt Y) ∧ KB A N C kb B ks Y) (fun Y => Y.rangeLeft gm r)
  case atStart => exact ⟨⟨_, HS.out⟩, HK0.out⟩
  case round =>
    obtain ⟨⟨cnt, left, Dc, hrg, hd, hdesc, hhas, hlm, hBr⟩, hkw⟩ := hrel
    have HKW := Lib.hid hkw
    have HD := Lib.hid hd
    have HR := Lib.hid hrg
    have HDS := Lib.hid hdesc
    have HH := Lib.hid hhas
    have HLM := Lib.hid hlm
    clear hd hrg hdesc hhas hlm HS hkw HK0
    go_wp2_with (at_next; refine wpList_next_sec _ rfl _ rfl gm r n Dc left cnt v rfl HR.out HDS.out ?_ ?_)
    · intro hl0
      go_wp2_with fail
      go_ret
      have hlf : left = fun _ => false := funext hl0
      refine ⟨rfl, Dc, ?_, fun kl => by rw [← HH.out kl, hl0 kl]⟩
      have hd := HD.out
      rw [hlf] at hd
      exact hd
    · intro i Y cnt' hi hli hrg' hlt hgr hsz hen
      obtain ⟨sv, hsv⟩ : ∃ sv, sv = v i := ⟨_, rfl⟩
      rw [← hsv] at hen ⊢
      have hs32 : sv.length = 32 := by rw [hsv]; exact hv i
      have him : i < m := HLM.out i hli
      have HSV := Lib.hid (show ∀ o, o = .cells (cellsOf zsec).toArray 35 → _ from fun o ho => set_var (o := o) (s := sv) HD.out HR.out hBr hrg' hgr hs32 ho)
      have HKV := Lib.hid (show ∀ o, KB A N C kb B ks ((Y.alloc o).setCells Y.heap.size 0 (cellsOf sv)) from fun o => HKW.out.var HR.out hBr hgr)
      have HTH := Lib.hid (show ∀ o, o = .cells (cellsOf zsec).toArray 35 → (Y.alloc o).there Y.heap.size 0 (cellsOf sv).toArray.size from by
        rintro o rfl
        have e : (cellsOf sv).toArray.size = 32 := by rw [List.size_toArray, cells_length, hs32]
        rw [e]
        exact h9_there (h9_new Y 35 (cellsOf zsec)) 0 _ (Nat.le_refl 32))
      have HSZ := Lib.hid (show (Try.prog.info? 35).map (·.size) = some (cellsOf sv).toArray.size from by rw [List.size_toArray, cells_length, hs32]; exact secSize)
      have HSZ2 := Lib.hid (show (Try.prog.info? 35).map (·.size) = some (cellsOf sv).length from by rw [cells_length, hs32]; exact secSize)
      have HON := Lib.hid (show (cellsOf sv).toArray.all (·.oneCell') = true from all_oneCell_toArray (cells_one sv))
      have HGV := Lib.hid hsv
      have HLI := Lib.hid hli
      have HLT := Lib.hid hlt
      have HS32 := Lib.hid hs32
      clear hsv hs32 hli hrg' hlt hgr hsz
      go_wp2_with (refine wpList_store_mid rfl 35 _ _ rfl Y.heap.size 0 (cellsOf sv).toArray rfl rfl (HTH.out _ rfl) HSZ.out HON.out ?_; refine at_worldL (fun Z => DiskW w0 B gd gs gm (outS S m v (fun i => decide ((i : Int) ∈ ks)) left) Dc n Z ∧ Z.ranges Try.prog 3 Rv gm r n Dc (fun z => left z && !z.sameKey (.int .i64 (i : Int))) cnt' ∧ Holds9 Z Y.heap.size 35 (cellsOf sv) ∧ Y.heap.size < Z.heap.size ∧ KB A N C kb B ks Z) (show _ ∧ _ from ⟨(HSV.out _ rfl).1, (HSV.out _ rfl).2.1, (HSV.out _ rfl).2.2.1, (HSV.out _ rfl).2.2.2, HKV.out _⟩) ?_; clear hen; intro Z hZ; have HZ := Lib.hid hZ; clear hZ)
      go_frame
      obtain ⟨sc, hsc⟩ : ∃ sc, (outS S m v (fun i => decide ((i : Int) ∈ ks)) left)[i]? = some sc := ⟨_, outS_get _ _ _ _ _ i hi⟩
      obtain ⟨hil, hsci⟩ := List.getElem?_eq_some_iff.1 hsc
      have hc32 : sc.length = 32 := by rw [← hsci]; exact HZ.out.1.all _ (List.getElem_mem _)
      obtain ⟨Z1, hZ1⟩ : ∃ Z1, Z1 = Z.drew := ⟨_, rfl⟩
      have HZ1 := Lib.hid (show DiskW w0 B gd gs gm (outS S m v (fun i => decide ((i : Int) ∈ ks)) left) Dc n Z1 ∧ Z1.ranges Try.prog 3 Rv gm r n Dc (fun z => left z && !z.sameKey (.int .i64 (i : Int))) cnt' ∧ Holds9 Z1 Y.heap.size 35 (cellsOf sv) ∧ Y.heap.size < Z1.heap.size ∧ KB A N C kb B ks Z1 from by
        rw [hZ1]
        exact ⟨HZ.out.1.drew, HZ.out.2.1.kept (only_drew (World.grownBy.refl Z none)) (by simp) (by simp), HZ.out.2.2.1, HZ.out.2.2.2.1, HZ.out.2.2.2.2.drew⟩)
      have HRC := Lib.hid (show ∀ W, W = Z1 → W.rangeAt gs (i * 32) (cellsOf sc) from by
        rintro W rfl
        have := HZ1.out.1.range i hi
        rw [hsci] at this
        exact this)
      have HRV := Lib.hid (show ∀ W, W = Z1 → W.rangeAt Y.heap.size 0 (cellsOf sv) from by rintro W rfl; exact h9_range HZ1.out.2.2.1)
      have HSC := Lib.hid (show (Try.prog.info? 35).map (·.size) = some (cellsOf sc).length from by rw [cells_length, hc32]; exact secSize)
      have heq := eq_sec Z1 sc sv hc32 HS32.out
      have k0 := h9_cell HZ1.out.1.head 0
      have k1 := h9_cell HZ1.out.1.head 1
      simp only [List.getElem?_cons_zero, List.getElem?_cons_succ] at k0 k1
      have HSCI := Lib.hid hsc
      clear hsc hsci hil hc32 HZ
      have HKY := Lib.hid (show keyOf Try.prog 3 (.int .i64 i) = some (.int .i64 i) from keyOf_int_mk Try.underlying3 (by simp [Lit.wf, IntKind.min, IntKind.max, IntKind.signed, IntKind.bits]; omega))
      cases hf : decide ((i : Int) ∈ ks)
      · refine wp_region_class (C := fun W => W = Z1) rfl (by decide +kernel) hZ1.symm ?_
        clear hZ1
        repeat (first
          | go_big_quiet_skip
          | (go_big_quiet_want
             first
               | (refine quiet_load_mid 35 _ rfl gs (i * 32) rfl (cellsOf sc) _ HRC.out Try.underlying35 rfl HSC.out ?_; go_frame; go_big_quiet_on)
               | (refine quiet_load_mid 35 _ rfl Y.heap.size 0 rfl (cellsOf sv) _ HRV.out Try.underlying35 rfl HSZ2.out ?_; go_frame; go_big_quiet_on)
               | (go_big_quiet_op; go_big_quiet_on)
               | (go_big_quiet_op; refine ⟨_, fun _ _ => rfl, ?_⟩; go_big_quiet_on)
               | (go_big_quiet_op; refine ⟨.bool (decide ((i : Int) ∈ ks)), (HZ1.out.2.2.2.2.such hN i).mono ?_, ?_⟩; (rintro x w1 ⟨rfl, rfl⟩; exact ⟨rfl, rfl⟩); rw [hf]; go_big_quiet_on)))
        refine wpQuiet_nil ?_
        intro W hW
        have e1 : Z1 = W := hW.symm
        subst e1
        clear hW heq
        go_wp2_with (at_delete; refine wpList_delete_ranges _ rfl _ _ 53 3 rfl 35 law Try.underlying53 Rv gm r n Dc _ cnt' rfl HZ1.out.2.1 _ (.int .i64 i) rfl HKY.out ?_; intro w2 cnt2 hrg2 hle hturn; rw [Maps.strike_twice] at hrg2; have HR2 := Lib.hid hrg2; have HT2 := Lib.hid hturn.grown; have HL2 := Lib.hid hle; clear hrg2 hturn hle; simp only [put_none])
        go_roundw
        · refine ⟨⟨cnt2, set_step HZ1.out.1 HR2.out HT2.out ?_ HDS.out HH.out HLM.out hBr⟩, HZ1.out.2.2.2.2.kept HT2.out (fun k e => by cases e; exact ⟨HZ1.out.1.bm, HZ1.out.2.2.2.2.ne_map HZ1.out.1.buf⟩)⟩
          exact (outS_no hf).symm
        · rw [HR2.out.left_eq, HR.out.left_eq]
          have h1 := HL2.out
          have h2 := HLT.out
          omega

      · refine wp_region_class (C := fun W => W = Z1) rfl (by decide +kernel) hZ1.symm ?_
        clear hZ1
        repeat (first
          | go_big_quiet_skip
          | (go_big_quiet_want
             first
               | (refine quiet_load_mid 35 _ rfl gs (i * 32) rfl (cellsOf sc) _ HRC.out Try.underlying35 rfl HSC.out ?_; go_frame; go_big_quiet_on)
               | (refine quiet_load_mid 35 _ rfl Y.heap.size 0 rfl (cellsOf sv) _ HRV.out Try.underlying35 rfl HSZ2.out ?_; go_frame; go_big_quiet_on)
               | (go_big_quiet_op; go_big_quiet_on)
               | (go_big_quiet_op; refine ⟨_, fun _ _ => rfl, ?_⟩; go_big_quiet_on)
               | (go_big_quiet_op; refine ⟨.bool (decide ((i : Int) ∈ ks)), (HZ1.out.2.2.2.2.such hN i).mono ?_, ?_⟩; (rintro x w1 ⟨rfl, rfl⟩; exact ⟨rfl, rfl⟩); rw [hf]; go_big_quiet_on)))
        refine wpQuiet_nil ?_
        intro W hW
        have e1 : Z1 = W := hW.symm
        subst e1
        clear hW heq
        cases hb : (sc == sv)
        · simp only [Bool.not_false]
          go_wp2_with fail
          refine wp_region_quiet_tail 7 rfl (by kernel_rfl) ?_
          intro V hV
          have HV := Lib.hid (show DiskW w0 B gd gs gm (outS S m v (fun i => decide ((i : Int) ∈ ks)) left) Dc n V ∧ V.ranges Try.prog 3 Rv gm r n Dc (fun z => left z && !z.sameKey (.int .i64 (i : Int))) cnt' ∧ Holds9 V Y.heap.size 35 (cellsOf sv) ∧ KB A N C kb B ks V from by
            rw [hV]
            exact ⟨HZ1.out.1.drew, HZ1.out.2.1.kept (only_drew (World.grownBy.refl _ none)) (by simp) (by simp), HZ1.out.2.2.1, HZ1.out.2.2.2.2.drew⟩)
          have HRV2 := Lib.hid (show ∀ W, W = V → W.rangeAt Y.heap.size 0 (cellsOf sv) from by rintro W rfl; exact h9_range HV.out.2.2.1)
          clear k0 k1 hV
          have k0 := h9_cell HV.out.1.head 0
          simp only [List.getElem?_cons_zero] at k0
          simp only [List.take_succ_cons, List.take_zero, List.drop_succ_cons, List.drop_zero]
          repeat (first
            | go_big_quiet_skip
            | (go_big_quiet_want
               first
                 | (refine quiet_load_mid 35 _ rfl Y.heap.size 0 rfl (cellsOf sv) _ HRV2.out Try.underlying35 rfl HSZ2.out ?_; go_frame; go_big_quiet_on)
                 | (go_big_quiet_op; go_big_quiet_on)
                 | (go_big_quiet_op; refine ⟨_, fun _ _ => rfl, ?_⟩; go_big_quiet_on)))
          refine wpQuiet_nil ?_
          go_wp2_with (first | (at_delete; refine wpList_delete_ranges _ rfl _ _ 53 3 rfl 35 law Try.underlying53 Rv gm r n Dc _ cnt' rfl HZ9.out.2.1 _ (.int .i64 i) rfl HKY.out ?_; intro w2 cnt2 hrg2 hle hturn; rw [Maps.strike_twice] at hrg2; have HR2 := Lib.hid hrg2; have HT2 := Lib.hid hturn.grown; have HL2 := Lib.hid hle; clear hrg2 hturn hle; simp only [put_none]) | (refine wpList_store_mid rfl 35 _ _ rfl gs (i * 32) (cellsOf sv).toArray rfl rfl (HV.out.1.there i hi sv HS32.out) HSZ.out HON.out ?_; refine at_worldL (fun Z => DiskW w0 B gd gs gm ((outS S m v (fun i => decide ((i : Int) ∈ ks)) left).set i sv) Dc n Z ∧ Z.ranges Try.prog 3 Rv gm r n Dc (fun z => left z && !z.sameKey (.int .i64 (i : Int))) cnt' ∧ KB A N C kb B ks Z) ⟨HV.out.1.store i hi sv HS32.out, HV.out.1.ranges_store HV.out.2.1 _ _, HV.out.2.2.2.kept (only_setCells _ _ (World.grownBy.refl _ (some gs))) (fun k e => by cases e; exact ⟨HV.out.1.bs, h9_ne HV.out.1.secs HV.out.2.2.2.1 (by decide)⟩)⟩ ?_; intro Z9 hZ9; have HZ9 := Lib.hid hZ9; clear hZ9 HV HRV2 k0; have k0 := h9_cell HZ9.out.1.head 0; have k1 := h9_cell HZ9.out.1.head 1; simp only [List.getElem?_cons_zero, List.getElem?_cons_succ] at k0 k1))
          go_roundw
          · exact ⟨⟨cnt2, set_step HZ9.out.1 HR2.out HT2.out (by rw [HGV.out]; exact (outS_yes hi him hf).symm) HDS.out HH.out HLM.out hBr⟩, HZ9.out.2.2.kept HT2.out (fun k e => by cases e; exact ⟨HZ9.out.1.bm, HZ9.out.2.2.ne_map HZ9.out.1.buf⟩)⟩
          · rw [HR2.out.left_eq, HR.out.left_eq]
            have h1 := HL2.out
            have h2 := HLT.out
            omega
        · simp only [Bool.not_true]
          go_wp2_with (at_delete; refine wpList_delete_ranges _ rfl _ _ 53 3 rfl 35 law Try.underlying53 Rv gm r n Dc _ cnt' rfl HZ1.out.2.1 _ (.int .i64 i) rfl HKY.out ?_; intro w2 cnt2 hrg2 hle hturn; rw [Maps.strike_twice] at hrg2; have HR2 := Lib.hid hrg2; have HT2 := Lib.hid hturn.grown; have HL2 := Lib.hid hle; clear hrg2 hturn hle; simp only [put_none])
          go_roundw
          · refine ⟨⟨cnt2, set_step HZ1.out.1 HR2.out HT2.out ?_ HDS.out HH.out HLM.out hBr⟩, HZ1.out.2.2.2.2.kept HT2.out (fun k e => by cases e; exact ⟨HZ1.out.1.bm, HZ1.out.2.2.2.2.ne_map HZ1.out.1.buf⟩)⟩
            rw [outS_yes hi him hf, ← HGV.out, List.set_getElem?_self' (HSCI.out.trans (by rw [eq_of_beq hb]))]
          · rw [HR2.out.left_eq, HR.out.left_eq]
            have h1 := HL2.out
            have h2 := HLT.out
            omega

set_option maxHeartbeats 1000000 in
theorem crash_any (w0 : World) (B gd gs gm n m : Nat) (A : Option Addr) (N C : Nat) (ks : List Int) (hN : N ≤ 9223372036854775807) (v : Nat → List UInt8) (S : List (List UInt8)) (D : DataW Value) (X : World) (h : DiskW w0 B gd gs gm S D n X) (hk : KeepW X A N ks) (hkB : ∀ g o, A = some ⟨g, o, none⟩ → N ≠ 0 → g < B) (hv : ∀ i, (v i).length = 32) (hm : m ≤ 30)
    (hD : ∀ kl, Maps.has D kl = true → ∃ i : Nat, i < m ∧ kl = .int .i64 i ∧ ∀ zd, D.atKey kl zd = .held (sec (v i))) (hD2 : ∀ i : Nat, i < m → Maps.has D (.int .i64 i) = true) :
    Calls Try.prog 9 #[.pointer (some ⟨gd, 0, none⟩), .slice A N C] X fun e w' => e = .returned (.int .i64 0) ∧ ∃ Dc, DiskW w0 B gd gs gm (outS S m v (fun i => decide ((i : Int) ∈ ks)) (fun _ => false)) Dc n w' ∧ ∀ kl, Maps.has Dc kl = false := by
  have hkb : KB A N C X.heap.size B ks (X.alloc (.cells #[.slice A N C] 26)) := by
    refine ⟨h9_new X 26 [.slice A N C], ⟨hk.1, fun hn => ?_⟩, hkB⟩
    obtain ⟨g, o, ha, hc⟩ := hk.2 hn
    exact ⟨g, o, ha, fun j hj => cell_kept (World.grownBy_alloc X _ none) (by simp) (hc j hj)⟩
  have HC := Lib.hid (settle_crash w0 B gd gs gm n m A N C X.heap.size ks hN v S D _ (h.alloc (.cells #[.slice A N C] 26)) hkb hv hm hD hD2)
  clear h hv hm hD hD2 hk hkB hkb
  go_enter Try.func9, Try.ntmps9
  go_wp2_with fail
  refine HC.out.mono ?_
  rintro e w' ⟨rfl, hw⟩
  have HW := Lib.hid hw
  clear hw HC
  go_wp2_with fail
  go_ret
  exact ⟨rfl, HW.out⟩
end Go.Proofs.Ytppphdflpacimaa
