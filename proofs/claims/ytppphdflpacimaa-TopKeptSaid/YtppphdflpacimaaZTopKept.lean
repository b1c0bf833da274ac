/- TopKept: a packet that is written to a disk and flushed is read as it was, behind a loss of power; where the last sector was kept it is no packet. For every packet and every list of kept sectors that can be read; no condition. -/
import Derived.Test.YtppphdflpacimaaSpan
import Derived.Test.YtppphdflpacimaaFrame
import Derived.Deep.CutBlock
namespace Go.Proofs.Ytppphdflpacimaa
open Go.RowKit Go.Maps

set_option maxHeartbeats 2000000 in
set_option maxRecDepth 100000 in
theorem topKept_core (k f t e s : Nat) (b : ByteArray) (A : Option Addr) (N C : Nat) (ks : List Int) (W : World) (hk : k < 256) (hf : f < 256) (ht : t < 256) (he : e < 4294967296) (hs : s < 4294967296) (hb : b.size ≤ 9223372036854775807)
    (hN : N ≤ 9223372036854775807) (hkeep : KeepW W A N ks) (hkB : ∀ g o, A = some ⟨g, o, none⟩ → N ≠ 0 → g < W.heap.size) :
    Calls Try.prog 3 #[.agg #[.int .u8 k, .int .u8 f, .int .u8 t, .int .u32 e, .int .u32 s, .string b], .slice A N C] W fun x w' => x = .returned (.bool true) ∧ Below W.heap.size W w' := by
  have HK := Lib.hid hkeep
  have HKB := Lib.hid hkB
  have H1 := Lib.hid hk
  have H2 := Lib.hid hf
  have H3 := Lib.hid ht
  have H4 := Lib.hid he
  have H5 := Lib.hid hs
  clear hkeep hkB hk hf ht he hs
  go_enter Try.func3, Try.ntmps3
  go_upto_if 23 with fail
  go_cut [] from 20 to 27 (fun w => Holds9 w W.heap.size 25 (pktC k f t e s (body6 b)) ∧ Below W.heap.size W w)
  case first =>
    go_wp2_with fail
    · go_meet
      refine ⟨?_, (Below.refl _ W).alloc (Nat.le_refl _) _⟩
      rw [body6, if_pos (by omega)]
      exact h9_new W 25 _
    · go_meet
      refine ⟨?_, (Below.refl _ W).alloc (Nat.le_refl _) _⟩
      rw [body6, if_neg (by omega)]
      exact h9_new W 25 _
  case rest =>
    obtain ⟨q, hq⟩ : ∃ q, q = body6 b := ⟨_, rfl⟩
    have hqs : q.size ≤ 600 := by rw [hq]; exact body6_size b
    rw [← hq] at hcut
    obtain ⟨hP, hB⟩ := hcut
    have HP := Lib.hid hP
    have HB := Lib.hid hB
    clear hq hP hB hb
    obtain ⟨p0, p1, p2, p3, p4, p5⟩ := pk_cells HP.out
    by_cases hr : rightP k f t s q.size = true
    · go_wp2_with fail
      refine (encode_any k f t e s q wc hr H4.out H5.out H1.out H2.out H3.out).mono ?_
      rintro x E ⟨v, rfl, ho, hbE⟩
      obtain ⟨L, hL⟩ : ∃ L, L = encB k f t e s q.data.toList := ⟨_, rfl⟩
      rw [← hL] at ho
      have hLl : L.length = 19 + q.size := by rw [hL, encB_length, Lib.size_eq]
      obtain ⟨g, cp, rfl, hg1, hg2⟩ := ho.form (by omega)
      have HPE := Lib.hid (h9_below HP.out hbE (h9_lt HP.out))
      have HWE := Lib.hid (HB.out.trans (hbE.mono HB.out.size))
      have HGE := Lib.hid (bytes_at ho rfl hg2)
      have HKE := Lib.hid (keepW_below HK.out HWE.out HKB.out)
      have HL := Lib.hid hL
      obtain ⟨n, hn⟩ : ∃ n, n = L.length := ⟨_, rfl⟩
      rw [← hn] at hLl ⊢
      have hn0 : 0 < n := by omega
      have hn1 : n ≤ 619 := by omega
      have HN := Lib.hid hn
      have HLQ := Lib.hid hLl
      have HG2 := Lib.hid hg2
      clear HP HB HK hbE ho hL hg1 hg2 hn hLl p0 p1 p2 p3 p4 p5
      go_wp2_with fail
      refine (new_any 30 rfl E).mono ?_
      rintro x X0 ⟨gd, gs, gm, rfl, hX⟩
      have HX0 := Lib.hid hX
      clear hX
      go_wp2_with fail
      go_loopw [8] (fun i X => ∃ (m c : Nat) (D : DataW Value), i = .int .i64 m ∧ m * 32 < n + 32 ∧ c ≤ m ∧ BufD D m (vv L) ∧ DiskW E E.heap.size gd gs gm (List.replicate 30 zsec) D c X) (fun i _ => 1000 - (intOf i).toNat)
      case atStart => exact ⟨0, 0, .map [], rfl, by omega, by omega, bufD_empty has_start _, HX0.out⟩
      case round =>
        obtain ⟨m, c, D, rfl, hm, hc, hbuf, hd⟩ := hrel
        have HBU := Lib.hid hbuf
        have HD := Lib.hid hd
        clear hbuf hd HX0
        obtain ⟨X, rfl⟩ : ∃ X, X = wr := ⟨_, rfl⟩
        by_cases hlt : m * 32 < n
        · have hltz : (m : Int) * 32 < n := by omega
          go_upto_block 2 with fail
          go_cut [] from 43 to 71 (fun Y => Holds9 Y X.heap.size 35 (cellsOf (vv L m)) ∧ Below X.heap.size X Y)
          case first =>
            go_wp2_with fail
            go_loopw [10] (fun kv Y => ∃ kk : Nat, kv = .int .i64 kk ∧ kk ≤ 32 ∧ m * 32 + kk ≤ n ∧ Holds9 Y X.heap.size 35 (cellsOf (part L m kk)) ∧ Below X.heap.size X Y) (fun kv _ => 32 - (intOf kv).toNat)
            case atStart => exact ⟨0, rfl, by omega, by omega, by rw [part_zero]; exact h9_new X 35 (cellsOf zsec), (Below.refl _ X).alloc (Nat.le_refl _) _⟩
            case round =>
              obtain ⟨kk, rfl, hk32, hkn, hh, hbl⟩ := hrel
              have HH := Lib.hid hh
              have HBL := Lib.hid hbl
              clear hh hbl
              by_cases h1 : kk < 32
              · by_cases h2 : m * 32 + kk < n
                · obtain ⟨c0, hc0⟩ : ∃ c0, L[m * 32 + kk]? = some c0 := ⟨_, List.getElem?_eq_getElem (by rw [← HN.out]; exact h2)⟩
                  obtain ⟨u0, hu0⟩ : ∃ u0, (cellsOf (part L m kk))[kk]? = some u0 := ⟨_, List.getElem?_eq_getElem (by rw [cells_length, part_length]; exact h1)⟩
                  have c1 := HGE.out wr (HD.out.below.trans (HBL.out.mono HD.out.size)) _ _ hc0
                  have c2 := (h9_cell HH.out kk).trans hu0
                  have c3 := h9_free HH.out kk
                  have HC0 := Lib.hid hc0
                  clear hc0 hu0
                  go_wp2_with fail
                  go_roundw
                  case rel =>
                    refine ⟨kk + 1, ?_, by omega, by omega, ?_, ?_⟩
                    · go_num
                    · rw [← part_next L m kk h1 c0 HC0.out]
                      exact h9_set HH.out kk _
                    · exact HBL.out.setCell (p := ⟨X.heap.size, kk, none⟩) (Nat.le_refl _) _
                  case measure => simp [intOf]; omega
                · go_wp2_with fail
                  go_meet
                  exact ⟨by rw [← part_end L m kk (.inr (by rw [← HN.out]; omega))]; exact HH.out, HBL.out⟩
              · go_wp2_with fail
                go_meet
                exact ⟨by rw [← part_end L m kk (.inl (by omega))]; exact HH.out, HBL.out⟩
          case rest =>
            obtain ⟨hv, hbl⟩ := hcut
            obtain ⟨sv, hsv⟩ : ∃ sv, sv = vv L m := ⟨_, rfl⟩
            rw [← hsv] at hv
            have hs32 : sv.length = 32 := by rw [hsv]; exact vv_length L m
            have HD1 := Lib.hid (HD.out.below' hbl)
            have HV := Lib.hid (h9_range hv)
            have HSZ := Lib.hid (show (Try.prog.info? 35).map (·.size) = some (cellsOf sv).length from by rw [cells_length, hs32]; exact secSize)
            have HSV := Lib.hid hsv
            have HS32 := Lib.hid hs32
            clear hv hbl HD hsv hs32
            go_wp2_with (refine wpList_load_mid rfl 35 _ rfl X.heap.size 0 rfl (cellsOf sv) _ HV.out Try.underlying35 rfl HSZ.out ?_)
            refine (write_any E E.heap.size gd gs gm m c (by omega) _ D sv HS32.out (by omega) wc HD1.out).mono ?_
            rintro x Y ⟨rfl, hY⟩
            have HY := Lib.hid hY
            clear hY
            go_wp2_with fail
            go_roundw
            case rel => exact ⟨m + 1, c + 1, _, by go_num, by omega, by omega, by rw [HSV.out]; exact bufD_put HBU.out HD1.out.buf.isMap, HY.out⟩
            case measure => simp [intOf]; omega
        · have hm30 : m ≤ 30 := by omega
          go_wp2_with fail
          refine (flush_any E E.heap.size gd gs gm c m (vv L) _ D X HD.out (vv_length L) hm30 HBU.out.1 HBU.out.2).mono ?_
          rintro x X1 ⟨rfl, Dc, hX1, hDc⟩
          obtain ⟨S1, hS1⟩ : ∃ S1, S1 = outS (List.replicate 30 zsec) m (vv L) (fun _ => true) (fun _ => false) := ⟨_, rfl⟩
          have hA1 : AllV S1 L := by rw [hS1]; exact allV_flush L m (by rw [← HN.out]; omega)
          rw [← hS1] at hX1
          have HX1 := Lib.hid hX1
          have HA1 := Lib.hid hA1
          have HDC := Lib.hid hDc
          clear hX1 hA1 hDc hS1 HD HBU
          go_wp2_with fail
          rw [← nine_sec]
          refine (write_any E E.heap.size gd gs gm 0 c (by omega) S1 Dc nine nine_length (by omega) X1 HX1.out).mono ?_
          rintro x X2 ⟨rfl, hX2⟩
          have hB2 : BufD (Dc.put (.int .i64 ((0 : Nat) : Int)) (.held (sec nine))) 1 (fun _ => nine) := bufD_put (v := fun _ => nine) (bufD_empty HDC.out _) HX1.out.buf.isMap
          obtain ⟨D2, hD2⟩ : ∃ D2, D2 = Dc.put (.int .i64 ((0 : Nat) : Int)) (.held (sec nine)) := ⟨_, rfl⟩
          rw [← hD2] at hX2 hB2
          have HX2 := Lib.hid hX2
          have HB2 := Lib.hid hB2
          have HK2 := Lib.hid (keepW_below HKE.out hX2.below (fun g o ha hn => Nat.lt_of_lt_of_le (HKB.out g o ha hn) HWE.out.size))
          clear hX2 hB2 hD2 HDC HX1
          go_wp2_with fail
          go_loopw [11, 12] (fun lost i Y => Y = X2 ∧ ∃ (j : Nat) (l : Bool), i = .int .i64 j ∧ j ≤ N ∧ lost = .bool l ∧ l = decide ((0 : Int) ∉ ks.take j)) (fun _ i _ => N - (intOf i).toNat)
          case atStart => exact ⟨rfl, 0, true, rfl, by omega, rfl, by simp⟩
          case round =>
            obtain ⟨hwr, j, l, rfl, hj, rfl, hl⟩ := hrel
            subst hwr
            have HLL := Lib.hid hl
            clear hl
            by_cases hjN : j < N
            · obtain ⟨gk, ok, rfl, hck⟩ := keepW_at HK2.out hjN
              have HLX := Lib.hid (lost_next ks j (by rw [HK2.out.1]; exact hjN))
              obtain ⟨kv, hkv⟩ : ∃ kv, kv = ks.getD j 0 := ⟨_, rfl⟩
              rw [← hkv] at hck HLX
              have HKV := Lib.hid hkv
              clear hkv
              cases l
              · go_wp2_with fail
                go_roundw
                · exact ⟨trivial, j + 1, false, by go_num, by omega, rfl, by rw [← HLX.out, ← HLL.out]; rfl⟩
                · simp only [intOf]; omega
              · go_wp2_with fail
                go_roundw
                · exact ⟨trivial, j + 1, kv != 0, by go_num, by omega, rfl, by rw [← HLX.out, ← HLL.out]; rfl⟩
                · simp only [intOf]; omega
            · obtain rfl : j = N := by omega
              have hl : l = decide ((0 : Int) ∉ ks) := by rw [HLL.out, List.take_of_length_le (by rw [HK2.out.1]; exact Nat.le_refl _)]
              have HLF := Lib.hid hl
              clear hl HLL
              go_wp2_with fail
              refine (crash_any E E.heap.size gd gs gm (c + 1) 1 A j C ks hN (fun _ => nine) S1 D2 wr HX2.out HK2.out (fun g o ha hn => Nat.lt_of_lt_of_le (HKB.out g o ha hn) HWE.out.size) (fun _ => nine_length) (by omega) HB2.out.1 HB2.out.2).mono ?_
              rintro x X3 ⟨rfl, D3, hX3, hD3⟩
              obtain ⟨S2, hS2⟩ : ∃ S2, S2 = outS S1 1 (fun _ => nine) (fun i => decide ((i : Int) ∈ ks)) (fun _ => false) := ⟨_, rfl⟩
              have hYes : (0 : Int) ∈ ks → S2[0]? = some nine := fun h0 => by rw [hS2]; exact nine_crash _ (decide_eq_true h0)
              have hNo : (0 : Int) ∉ ks → AllV S2 L := fun h0 => by rw [hS2]; exact allV_crash HA1.out _ (decide_eq_false h0)
              rw [← hS2] at hX3
              have HYES := Lib.hid hYes
              have HNO := Lib.hid hNo
              have HX3 := Lib.hid hX3
              have HD3 := Lib.hid hD3
              clear hYes hNo hX3 hD3 hS2 HB2 HX2 HA1 HK2
              go_wp2_with fail
              go_loopw [13, 14] (fun cv i Y => ∃ (h : Nat), i = .int .i64 h ∧ h ≤ 30 ∧ Y.ownsRow E.heap.size 5 1 cv (h * 32) (cellsOf (S2.take h).flatten) ∧ DiskW E E.heap.size gd gs gm S2 D3 (c + 1) Y) (fun _ i _ => 30 - (intOf i).toNat)
              case atStart => exact ⟨0, rfl, by omega, World.ownsRow_nil _ _ _ _, HX3.out⟩
              case round =>
                obtain ⟨h, rfl, hh, ho, hd⟩ := hrel
                have HO := Lib.hid ho
                have HD := Lib.hid hd
                clear ho hd HX3
                obtain ⟨Y, rfl⟩ : ∃ Y, Y = wr := ⟨_, rfl⟩
                by_cases h30 : h < 30
                · obtain ⟨sv, hsv⟩ : ∃ sv, S2[h]? = some sv := ⟨_, List.getElem?_eq_getElem (by rw [HD.out.len]; exact h30)⟩
                  have hs32 : sv.length = 32 := HD.out.all _ (List.mem_of_getElem? hsv)
                  have HSV := Lib.hid hsv
                  have HS32 := Lib.hid hs32
                  clear hsv hs32
                  go_wp2_with fail
                  refine (read_disk E E.heap.size gd gs gm h (c + 1) h30 S2 D3 Y HD.out (atKey_of_not_has (HD3.out _) _) (HD3.out _) sv HSV.out).mono ?_
                  rintro x Y1 ⟨rfl, hY1⟩
                  have HO1 := Lib.hid (HO.out.kept (only_below hY1 none) (by cases hv : Value.ownBlock _ <;> simp))
                  have HD1 := Lib.hid (HD.out.below' hY1)
                  have hfr : ∀ o, Below Y1.heap.size Y1 ((Y1.alloc o).setCells Y1.heap.size 0 (cellsOf sv)) := fun o => below_setCells (Nat.le_refl _) _ _ ((Below.refl _ Y1).alloc (Nat.le_refl _) o)
                  have HFR := Lib.hid (show ∀ o, o = .cells (cellsOf zsec).toArray 35 → DiskW E E.heap.size gd gs gm S2 D3 (c + 1) ((Y1.alloc o).setCells Y1.heap.size 0 (cellsOf sv)) ∧ ((Y1.alloc o).setCells Y1.heap.size 0 (cellsOf sv)).ownsRow E.heap.size 5 1 u13 (h * 32) (cellsOf (S2.take h).flatten) ∧ Holds9 ((Y1.alloc o).setCells Y1.heap.size 0 (cellsOf sv)) Y1.heap.size 35 (cellsOf sv) from by
                    rintro o rfl
                    exact ⟨HD1.out.below' (hfr _), HO1.out.kept (only_below (hfr _) none) (by cases hv : Value.ownBlock _ <;> simp), res_set (by rw [cells_length]; exact HS32.out) (h9_new Y1 35 (cellsOf zsec))⟩)
                  have HTH := Lib.hid (show ∀ o, o = .cells (cellsOf zsec).toArray 35 → (Y1.alloc o).there Y1.heap.size 0 (cellsOf sv).toArray.size from by
                    rintro o rfl
                    have e : (cellsOf sv).toArray.size = 32 := by rw [List.size_toArray, cells_length, HS32.out]
                    rw [e]
                    exact h9_there (h9_new Y1 35 (cellsOf zsec)) 0 _ (Nat.le_refl 32))
                  have HSZ := Lib.hid (show (Try.prog.info? 35).map (·.size) = some (cellsOf sv).toArray.size from by rw [List.size_toArray, cells_length, HS32.out]; exact secSize)
                  have HON := Lib.hid (show (cellsOf sv).toArray.all (·.oneCell') = true from all_oneCell_toArray (cells_one sv))
                  obtain ⟨i0, hi0, hz0, hz1, hz2⟩ := info_parts byteInfo
                  have HI := Lib.hid hi0
                  have HI1 := Lib.hid hz0
                  have HI2 := Lib.hid hz1
                  have HI3 := Lib.hid hz2
                  clear hY1 HO HD hfr hi0 hz0 hz1 hz2
                  go_upto_region 30 with (refine wpList_store_mid rfl 35 _ _ rfl Y1.heap.size 0 (cellsOf sv).toArray rfl rfl (HTH.out _ rfl) HSZ.out HON.out ?_; refine at_worldL (fun Z => DiskW E E.heap.size gd gs gm S2 D3 (c + 1) Z ∧ Z.ownsRow E.heap.size 5 1 u13 (h * 32) (cellsOf (S2.take h).flatten) ∧ Holds9 Z Y1.heap.size 35 (cellsOf sv)) (HFR.out _ rfl) ?_; intro Z hZ; have HZ := Lib.hid hZ; clear hZ)
                  have hbZ : E.heap.size ≤ Z.heap.size := HZ.out.1.size
                  have HNW := Lib.hid (show ∀ w u, (cellsOf sv)[w]? = some u → Z.cell? ((⟨Y1.heap.size, 0, none⟩ : Addr).add w) = some u from by
                    have := World.news_of_block HZ.out.2.2
                    simpa using this)
                  have hlen : (cellsOf sv).length = 32 * 1 := by rw [cells_length, HS32.out]
                  have HLN := Lib.hid hlen
                  clear hlen
                  go_wp2_with (at_builtin; refine wpList_append_own _ rfl (.tmp 109) (.tmp 110) 27 rfl E.heap.size 5 i0 _ 1 1 Try.underlying27 HI.out HI1.out HI2.out HI3.out rfl (by omega) u13 (h * 32) (cellsOf (S2.take h).flatten) rfl HZ.out.2.1 ⟨Y1.heap.size, 0, none⟩ 32 32 (cellsOf sv) rfl HLN.out HNW.out (cells_one sv) (by unfold maxLen; omega) (by omega) hbZ ?_; intro v' V hown' hgrow _; have HV := Lib.hid (show V.ownsRow E.heap.size 5 1 v' ((h + 1) * 32) (cellsOf (S2.take (h + 1)).flatten) ∧ DiskW E E.heap.size gd gs gm S2 D3 (c + 1) V from ⟨by rw [take_flat h sv HSV.out, cells_app, show (h + 1) * 32 = h * 32 + 32 from by omega]; exact hown', HZ.out.1.kept hgrow (own_apart HZ.out.2.1 HZ.out.1 (Nat.le_refl _))⟩); clear hown' hgrow)
                  go_roundw
                  · exact ⟨h + 1, by go_num, by omega, HV.out.1, HV.out.2⟩
                  · simp only [intOf]; omega
                · obtain rfl : h = 30 := by omega
                  obtain ⟨g2, cp2, hcv, hg2a, hg2b⟩ := HO.out.form (by omega)
                  subst hcv
                  have hcap := own_cap HO.out
                  have hfl : (S2.take 30).flatten = S2.flatten := by rw [List.take_of_length_le (by rw [HD.out.len]; exact Nat.le_refl _)]
                  have hown := HO.out
                  rw [hfl] at hown
                  have HC := Lib.hid (fun j hj => hown.cellAt j hj)
                  have HLF2 := Lib.hid hfl
                  have hYB := HD.out.below
                  have HYB := Lib.hid hYB
                  clear hown hfl hYB
                  by_cases h0 : (0 : Int) ∈ ks
                  · obtain rfl : l = false := by rw [HLF.out]; simp [h0]
                    have hc0 : Y.cell? ⟨g2, 0, none⟩ = some (.int .u8 9) := by
                      rw [HC.out 0 (by omega)]
                      have h1 := flat_at S2 0 0 HD.out.all (by omega) nine (HYES.out h0)
                      exact cell_of _ 0 9 9 (by simpa [nine] using h1) rfl
                    have HCB := Lib.hid (cut_bad g2 0 960 cp2 (by omega) 9 (by decide) Y hg2b hc0)
                    clear hc0
                    go_wp2_with fail
                    refine HCB.out.mono ?_
                    rintro x V ⟨rfl, hV⟩
                    have HV := Lib.hid (HWE.out.trans ((HYB.out.trans (hV.mono HYB.out.size)).mono HWE.out.size))
                    clear hV HCB
                    go_wp2_with fail
                    go_ret
                    exact ⟨rfl, HV.out.alloc HV.out.size _⟩
                  · obtain rfl : l = true := by rw [HLF.out]; simp [h0]
                    have hLn : L.length = n := HN.out.symm
                    have hfw := flat_whole (HNO.out h0) HD.out.len HD.out.all (by omega)
                    rw [hLn] at hfw
                    have hcc : ∀ j, j < 960 → Y.cell? ⟨g2, 0 + j, none⟩ = (cellsOf (encB k f t e s q.data.toList ++ List.replicate (960 - n) 0))[j]? := fun j hj => by
                      rw [Nat.zero_add, HC.out j (by omega), hfw, ← HL.out]
                    have hqn := HLQ.out
                    have HCO := Lib.hid (cut_ok g2 0 960 cp2 k f t e s q (List.replicate (960 - n) 0) Y hg2b H1.out H2.out H3.out H4.out H5.out hr (by omega) (by rw [← HL.out, List.length_append, hLn, List.length_replicate]; omega) (by omega) (by omega) (by rw [List.length_replicate]; omega) hcc)
                    clear hcc hfw hqn hLn
                    go_wp2_with fail
                    refine HCO.out.mono ?_
                    rintro x V ⟨⟨vr, rfl⟩, hV⟩
                    have hEV : Below E.heap.size E V := HYB.out.trans (hV.mono HYB.out.size)
                    have HV := Lib.hid (HWE.out.trans (hEV.mono HWE.out.size))
                    obtain ⟨q0, q1, q2, q3, q4, q5⟩ := pk_cells (h9_alloc (h9_below HPE.out hEV (h9_lt HPE.out)) (.cells #[.int .u8 k, .int .u8 f, .int .u8 t, .int .u32 e, .int .u32 s, .string q] 25))
                    clear hV HCO hEV
                    go_wp2_with fail
                    go_ret
                    exact ⟨rfl, HV.out.alloc HV.out.size _⟩
    · have hr' : rightP k f t s q.size = false := by simpa using hr
      go_wp2_with fail
      refine (encode_no k f t e s q wc hr').mono ?_
      rintro x X ⟨rfl, hX⟩
      have HX := Lib.hid hX
      obtain ⟨q0, q1, q2, q3, q4, q5⟩ := pk_cells (h9_below HP.out hX (h9_lt HP.out))
      clear hX
      go_wp2_with fail
      refine (right_any k f t e s q _).mono ?_
      rintro x X1 ⟨rfl, rfl⟩
      rw [hr']
      go_wp2_with fail
      go_ret
      exact ⟨rfl, (HB.out.trans (HX.out.mono HB.out.size)).alloc (Nat.le_trans HB.out.size HX.out.size) _⟩

theorem nat_u8 {x : Int} (h : (Lit.int .u8 x).wf = true) : ∃ n : Nat, x = n ∧ n < 256 := by
  simp [Lit.wf, IntKind.min, IntKind.max, IntKind.signed, IntKind.bits] at h
  exact ⟨x.toNat, by omega, by omega⟩
theorem nat_u32 {x : Int} (h : (Lit.int .u32 x).wf = true) : ∃ n : Nat, x = n ∧ n < 4294967296 := by
  simp [Lit.wf, IntKind.min, IntKind.max, IntKind.signed, IntKind.bits] at h
  exact ⟨x.toNat, by omega, by omega⟩
theorem array6 {α : Type} {cs : Array α} (h : cs.size = 6) : ∃ c0 c1 c2 c3 c4 c5, cs = #[c0, c1, c2, c3, c4, c5] := by
  obtain ⟨l⟩ := cs
  match l, h with
  | [c0, c1, c2, c3, c4, c5], _ => exact ⟨c0, c1, c2, c3, c4, c5, rfl⟩

/-- A packet, by value, opened. -/
theorem open_pkt {H : Type} {enc : TypeId × Value → H} {W : World} {base : Nat} {spare : Nat → Bool} {held : Bool} {r : Reach} {b0 : Nat} {v : Value} {d : DataW H} {p : List MemPlace}
    (hv : Value.okWide Try.prog W r b0 25 v) (h : DataW.Trod enc Try.prog W base spare held 25 v d p) :
    ∃ (k f t e s : Int) (b : ByteArray), v = .agg #[.int .u8 k, .int .u8 f, .int .u8 t, .int .u32 e, .int .u32 s, .string b] ∧ (Lit.int .u8 k).wf = true ∧ (Lit.int .u8 f).wf = true ∧ (Lit.int .u8 t).wf = true ∧ (Lit.int .u32 e).wf = true ∧ (Lit.int .u32 s).wf = true ∧ b.size ≤ maxLen := by
  obtain ⟨cs, rfl, hsz⟩ := Go.WideShapes.okWide_struct Try.underlying25 hv
  obtain ⟨c0, c1, c2, c3, c4, c5, rfl⟩ := array6 (hsz.trans (by kernel_rfl))
  obtain ⟨fuel, hf⟩ := h
  obtain ⟨xs, m, _, _, hl, hlen, hel⟩ := DataW.trod_struct Try.underlying25 hf
  match xs, hlen with
  | [y0, y1, y2, y3, y4, y5], _ =>
    have e0 := hel 0 _ rfl
    have e1 := hel 1 _ rfl
    have e2 := hel 2 _ rfl
    have e3 := hel 3 _ rfl
    have e4 := hel 4 _ rfl
    have e5 := hel 5 _ rfl
    have s22 : Try.prog.cellsOf 22 = 1 := by kernel_rfl
    have s5 : Try.prog.cellsOf 5 = 1 := by kernel_rfl
    have s23 : Try.prog.cellsOf 23 = 1 := by kernel_rfl
    have s9 : Try.prog.cellsOf 9 = 1 := by kernel_rfl
    simp [Value.cells, s22, s5, s23, s9] at e0 e1 e2 e3 e4 e5
    obtain ⟨x0, f0, _, w0⟩ := DataW.trod_int Try.underlying22 e0
    obtain ⟨x1, f1, _, w1⟩ := DataW.trod_int Try.underlying5 e1
    obtain ⟨x2, f2, _, w2⟩ := DataW.trod_int Try.underlying5 e2
    obtain ⟨x3, f3, _, w3⟩ := DataW.trod_int Try.underlying23 e3
    obtain ⟨x4, f4, _, w4⟩ := DataW.trod_int Try.underlying23 e4
    obtain ⟨x5, f5, _, w5⟩ := DataW.trod_string Try.underlying9 e5
    simp at f0 f1 f2 f3 f4 f5
    subst f0 f1 f2 f3 f4 f5
    exact ⟨x0, x1, x2, x3, x4, x5, rfl, w0, w1, w2, w3, w4, w5⟩

theorem topKept_walk (k f t e s : Int) (b : ByteArray) (A : Option Addr) (N C : Nat) (ks : List Int) (W : World) (hk : (Lit.int .u8 k).wf = true) (hf : (Lit.int .u8 f).wf = true) (ht : (Lit.int .u8 t).wf = true) (he : (Lit.int .u32 e).wf = true) (hs : (Lit.int .u32 s).wf = true) (hb : b.size ≤ maxLen)
    (hi : IsInts .i64 W A N C ks) (hy : N * 8 ≤ 140737488351232) :
    Calls Try.prog 3 #[.agg #[.int .u8 k, .int .u8 f, .int .u8 t, .int .u32 e, .int .u32 s, .string b], .slice A N C] W fun x w' => x = .returned (.bool true) ∧ Below W.heap.size W w' := by
  obtain ⟨k, rfl, qk⟩ := nat_u8 hk
  obtain ⟨f, rfl, qf⟩ := nat_u8 hf
  obtain ⟨t, rfl, qt⟩ := nat_u8 ht
  obtain ⟨e, rfl, qe⟩ := nat_u32 he
  obtain ⟨s, rfl, qs⟩ := nat_u32 hs
  obtain ⟨h1, _, _, _, h5⟩ := hi
  refine topKept_core k f t e s b A N C ks W qk qf qt qe qs hb (by omega) ⟨h1, fun hn => ?_⟩ (fun g o ha hn => ?_)
  · rcases h5 with h0 | ⟨g, o, ha, _, hc⟩
    · exact absurd h0 hn
    · exact ⟨g, o, ha, hc⟩
  · rcases h5 with h0 | ⟨g', o', ha', hlt, _⟩
    · exact absurd h0 hn
    · rw [ha'] at ha
      cases ha
      exact hlt
end Go.Proofs.Ytppphdflpacimaa
