/- The disk: its buffer is written out, or lost. -/
import Derived.Test.YtppphdflpacimaaRead
import Derived.Stop.BytesEq
namespace Go.Proofs.Ytppphdflpacimaa
open Go.RowKit Go.Maps

theorem such_all (i : Int) (w : World) : Calls Try.prog 17 #[.int .i64 i] w fun e w' => e = .returned (.bool true) ∧ w = w' := by
  go_enter Try.func17, Try.ntmps17
  go_wp2
  go_ret
  exact ⟨rfl, rfl⟩

theorem size_byte (w : World) : (sizeOf 5).run Try.prog w = .ok 1 w := by
  obtain ⟨i, hi, _, hs, _⟩ := info_parts byteInfo
  simp [sizeOf, typeInfo, hi, hs]
theorem eq_sec (w : World) (xs ys : List UInt8) (hx : xs.length = 32) (hy : ys.length = 32) : (Op.equalIn 10000 35 (.agg (cellsOf xs).toArray) (.agg (cellsOf ys).toArray)).run Try.prog w = .ok (xs == ys) w :=
  run_equalIn_bytes w 9998 35 5 32 Try.underlying35 Try.underlying5 size_byte xs ys hx hy

/-- The next entry of the buffer, whose values are known. -/
theorem wpList_next_sec (w : World) {ops : Array Oper} {rest : List Oper} {o : Oper} {a : Act} {Q : Exit → Act → World → Prop} (hg : o.guard = none) (it : Operand) (hop : o.op = Op.next it false) (gm r n : Nat) (Dc : DataW Value) (left : Lit → Bool) (cnt : Nat) (v : Nat → List UInt8)
    (hit : a.eval it = .pointer (some ⟨r, 0, none⟩)) (h : w.ranges Try.prog 3 Rv gm r n Dc left cnt) (hdesc : ∀ kl, left kl = true → ∃ i : Nat, i < 30 ∧ kl = .int .i64 i ∧ ∀ zd, Dc.atKey kl zd = .held (sec (v i)))
    (hDone : (∀ kl, left kl = false) → wpList Try.prog ops Q rest (a.put o.dst (.tuple #[.bool false])) w)
    (hMore : ∀ (i : Nat) (w' : World) (cnt' : Nat), i < 30 → left (.int .i64 i) = true → w'.ranges Try.prog 3 Rv gm r n Dc (fun z => left z && !z.sameKey (.int .i64 i)) cnt' → cnt' < cnt → w.grownBy w' (some r) → w'.heap.size = w.heap.size →
      (Instr.entry (.pointer (some ⟨r, 0, none⟩))).run Try.prog w' = .ok (.tuple #[.int .i64 i, .agg (cellsOf (v i)).toArray]) w' → wpList Try.prog ops Q rest (a.put o.dst (.tuple #[.bool true, .int .i64 i, .agg (cellsOf (v i)).toArray])) w') :
    wpList Try.prog ops Q (o :: rest) a w := by
  refine wpList_next_ranges w hg it hop 3 (int_keyed Try.underlying3) Rv (Value.int .i64) (fun c : Value => c) (fun key kl hkey => by obtain ⟨x, rfl, _⟩ := Maps.keyOf_int_inv Try.underlying3 hkey; exact ⟨x, rfl⟩) (fun v y _ => ⟨v, rfl⟩) gm r n Dc left cnt hit h (fun _ h => hDone h) ?_
  intro x c kl y w' cnt' hkey hlk hv hat hrg hlt hgr hsz hen
  obtain ⟨x', ex, hkl, _⟩ := Maps.keyOf_int_inv Try.underlying3 hkey
  cases ex
  obtain ⟨i, hi, hki, hval⟩ := hdesc kl hlk
  have hxi : x = (i : Int) := by rw [hki] at hkl; cases hkl; rfl
  have hc : c = sec (v i) := by
    have h1 := hval (.held c)
    rw [hat (.held c)] at h1
    have h2 : y = (.held c, []) := by unfold Rv at hv; injection hv with hv; exact hv.symm
    rw [h2] at h1
    injection h1
  subst hki
  subst hxi
  subst hc
  exact hMore i w' cnt' hi hlk hrg hlt hgr hsz hen

/-- What the sectors are when the keys that are no longer left have been dealt with. -/
def outS (S0 : List (List UInt8)) (m : Nat) (v : Nat → List UInt8) (f : Nat → Bool) (left : Lit → Bool) : List (List UInt8) :=
  (List.range 30).map (fun j => if j < m ∧ f j = true ∧ left (.int .i64 (j : Int)) = false then v j else S0.getD j [])

/-- The disk while its buffer is gone through. -/
def SetW (w0 : World) (B gd gs gm r n m : Nat) (S0 : List (List UInt8)) (v : Nat → List UInt8) (f : Nat → Bool) (cnt : Nat) (X : World) : Prop :=
  ∃ (left : Lit → Bool) (Dc : DataW Value), X.ranges Try.prog 3 Rv gm r n Dc left cnt ∧ DiskW w0 B gd gs gm (outS S0 m v f left) Dc n X ∧ (∀ kl, left kl = true → ∃ i : Nat, i < 30 ∧ kl = .int .i64 i ∧ ∀ zd, Dc.atKey kl zd = .held (sec (v i))) ∧
    (∀ kl, left kl = Maps.has Dc kl) ∧ (∀ i : Nat, left (.int .i64 i) = true → i < m) ∧ B ≤ r

theorem outS_get (S0 : List (List UInt8)) (m : Nat) (v : Nat → List UInt8) (f : Nat → Bool) (left : Lit → Bool) (j : Nat) (hj : j < 30) :
    (outS S0 m v f left)[j]? = some (if j < m ∧ f j = true ∧ left (.int .i64 (j : Int)) = false then v j else S0.getD j []) := by
  unfold outS
  rw [List.getElem?_map, List.getElem?_range hj]
  rfl
theorem outS_length (S0 : List (List UInt8)) (m : Nat) (v : Nat → List UInt8) (f : Nat → Bool) (left : Lit → Bool) : (outS S0 m v f left).length = 30 := by simp [outS]

theorem int_same (i j : Nat) : (Lit.int .i64 (i : Int)).sameKey (.int .i64 (j : Int)) = decide (i = j) := by
  by_cases h : i = j
  · subst h
    simp [Lit.sameKey]
  · rw [decide_eq_false h]
    exact Maps.sameKey_ne (fun e => h (by injection e with _ e; omega))

/-- One entry more has been dealt with, and is such. -/
theorem outS_yes {S0 : List (List UInt8)} {m : Nat} {v : Nat → List UInt8} {f : Nat → Bool} {left : Lit → Bool} {i : Nat} (hi : i < 30) (him : i < m) (hf : f i = true) :
    outS S0 m v f (fun z => left z && !z.sameKey (.int .i64 (i : Int))) = (outS S0 m v f left).set i (v i) := by
  apply List.ext_getElem?
  intro j
  by_cases hj : j < 30
  · rw [outS_get _ _ _ _ _ j hj, List.getElem?_set]
    by_cases hij : i = j
    · subst hij
      simp [him, hf, int_same, outS_length, hi]
    · rw [if_neg hij, outS_get _ _ _ _ _ j hj]
      have : (Lit.int .i64 (j : Int)).sameKey (.int .i64 (i : Int)) = false := by rw [int_same, decide_eq_false (fun e => hij e.symm)]
      simp [this]
  · rw [List.getElem?_eq_none (by rw [outS_length]; omega), List.getElem?_eq_none (by rw [List.length_set, outS_length]; omega)]
/-- One entry more has been dealt with, and is not such. -/
theorem outS_no {S0 : List (List UInt8)} {m : Nat} {v : Nat → List UInt8} {f : Nat → Bool} {left : Lit → Bool} {i : Nat} (hf : f i = false) :
    outS S0 m v f (fun z => left z && !z.sameKey (.int .i64 (i : Int))) = outS S0 m v f left := by
  apply List.ext_getElem?
  intro j
  by_cases hj : j < 30
  · rw [outS_get _ _ _ _ _ j hj, outS_get _ _ _ _ _ j hj]
    by_cases hij : i = j
    · subst hij
      simp [hf]
    · have : (Lit.int .i64 (j : Int)).sameKey (.int .i64 (i : Int)) = false := by rw [int_same, decide_eq_false (fun e => hij e.symm)]
      simp [this]
  · rw [List.getElem?_eq_none (by rw [outS_length]; omega), List.getElem?_eq_none (by rw [outS_length]; omega)]

theorem range_ne {X : World} {gm r n gd : Nat} {Dc : DataW Value} {left : Lit → Bool} {cnt : Nat} {t : TypeId} {cs : List Value} (h : X.ranges Try.prog 3 Rv gm r n Dc left cnt) (hd : Holds9 X gd t cs) : r ≠ gd := by
  rintro rfl
  obtain ⟨es, clock, since, seen, c0, _, _, _, _, hr, _⟩ := h
  unfold Holds9 at hd
  rw [hr] at hd
  cases hd

/-- Behind the step, and behind the loop's own variable. -/
theorem set_var {w0 X Y : World} {B gd gs gm r n : Nat} {S : List (List UInt8)} {Dc : DataW Value} {left left' : Lit → Bool} {cnt cnt' : Nat} {o : Obj} {s : List UInt8} (hd : DiskW w0 B gd gs gm S Dc n X) (hr : X.ranges Try.prog 3 Rv gm r n Dc left cnt) (hBr : B ≤ r)
    (hr' : Y.ranges Try.prog 3 Rv gm r n Dc left' cnt') (hg : X.grownBy Y (some r)) (hs : s.length = 32) (ho : o = .cells (cellsOf zsec).toArray 35) :
    DiskW w0 B gd gs gm S Dc n ((Y.alloc o).setCells Y.heap.size 0 (cellsOf s)) ∧ ((Y.alloc o).setCells Y.heap.size 0 (cellsOf s)).ranges Try.prog 3 Rv gm r n Dc left' cnt' ∧ Holds9 ((Y.alloc o).setCells Y.heap.size 0 (cellsOf s)) Y.heap.size 35 (cellsOf s) ∧ Y.heap.size < ((Y.alloc o).setCells Y.heap.size 0 (cellsOf s)).heap.size := by
  have hY : DiskW w0 B gd gs gm S Dc n Y := hd.kept hg (fun k e => by cases e; exact ⟨hBr, range_ne hr hd.head, range_ne hr hd.secs, hr.ne⟩)
  have hb : Below Y.heap.size Y ((Y.alloc o).setCells Y.heap.size 0 (cellsOf s)) := below_setCells (Nat.le_refl _) _ _ ((Below.refl _ Y).alloc (Nat.le_refl _) o)
  have hn : Holds9 ((Y.alloc o).setCells Y.heap.size 0 (cellsOf s)) Y.heap.size 35 (cellsOf s) := by
    rw [ho]
    exact res_set (by rw [cells_length, hs]) (h9_new Y 35 (cellsOf zsec))
  exact ⟨hY.below' hb, hr'.kept (only_below hb none) (by simp) (by simp), hn, h9_lt hn⟩


theorem flatten_set (s : List UInt8) (hs : s.length = 32) : ∀ (S : List (List UInt8)) (i : Nat), (∀ q ∈ S, q.length = 32) → i < S.length → (S.set i s).flatten = S.flatten.take (i * 32) ++ s ++ S.flatten.drop (i * 32 + 32)
  | [], i, _, hi => by simp at hi
  | q :: S, 0, hl, _ => by
    have hq := hl q List.mem_cons_self
    simp only [List.set_cons_zero, List.flatten_cons, Nat.zero_mul, List.take_zero, List.nil_append, Nat.zero_add]
    rw [← hq, List.drop_left]
  | q :: S, i + 1, hl, hi => by
    have hq := hl q List.mem_cons_self
    have ih := flatten_set s hs S i (fun z hz => hl z (List.mem_cons_of_mem _ hz)) (by simpa using hi)
    simp only [List.set_cons_succ, List.flatten_cons]
    rw [ih, show (i + 1) * 32 = q.length + i * 32 by omega, List.take_length_add_append, Nat.add_assoc, List.drop_length_add_append]
    simp

theorem only_setCells {g : Nat} : ∀ (vs : List Value) (o : Nat) {a w : World}, a.grownBy w (some g) → a.grownBy (w.setCells g o vs) (some g)
  | [], _, _, _, h => h
  | v :: r, o, _, _, h => only_setCells r (o + 1) (only_set (p := ⟨g, o, none⟩) h (.inl rfl) v)

/-- A sector is written. -/
theorem DiskW.store {w0 X : World} {B gd gs gm n : Nat} {S : List (List UInt8)} {D : DataW Value} (h : DiskW w0 B gd gs gm S D n X) (i : Nat) (hi : i < 30) (s : List UInt8) (hs : s.length = 32) :
    DiskW w0 B gd gs gm (S.set i s) D n (X.setCells gs (i * 32) (cellsOf s)) := by
  have hfl : (cellsOf S.flatten).length = 960 := by
    rw [cells_length]
    have : ∀ (S : List (List UInt8)), (∀ q ∈ S, q.length = 32) → S.flatten.length = S.length * 32 := by
      intro S
      induction S with
      | nil => simp
      | cons q S ih =>
        intro hl
        have := ih (fun z hz => hl z (List.mem_cons_of_mem _ hz))
        have := hl q List.mem_cons_self
        simp only [List.flatten_cons, List.length_append, List.length_cons]
        omega
    rw [this S h.all, h.len]
  have hg : X.grownBy (X.setCells gs (i * 32) (cellsOf s)) (some gs) := only_setCells _ _ (World.grownBy.refl X _)
  have hne : gd ≠ gs := h9_ne h.head h.secs (by decide)
  have hme : gm ≠ gs := by
    rintro rfl
    obtain ⟨es, clock, hb, _⟩ := h.buf
    have h' := h.secs
    unfold Holds9 at h'
    rw [hb] at h'
    cases h'
  refine ⟨h9_grown h.head hg (fun e => hne (by injection e)), ?_, h.buf.kept hg (fun e => hme (by injection e)), h.below.grown hg h.size (fun r e => by cases e; exact h.bs), h.bd, h.bs, h.bm, by rw [List.length_set]; exact h.len, fun q hq => ?_⟩
  · have h1 := h9_setCells (cellsOf s) (i * 32) h.secs (by rw [cells_length, hs, hfl]; omega)
    have e : cellsOf (S.set i s).flatten = (cellsOf S.flatten).take (i * 32) ++ cellsOf s ++ (cellsOf S.flatten).drop (i * 32 + (cellsOf s).length) := by
      rw [flatten_set s hs S i h.all (by rw [h.len]; exact hi), cells_length, hs]
      unfold cellsOf
      simp [List.map_take, List.map_drop]
    rw [e]
    exact h1
  · rcases List.mem_or_eq_of_mem_set hq with hq | rfl
    · exact h.all q hq
    · exact hs
theorem DiskW.there {w0 X : World} {B gd gs gm n : Nat} {S : List (List UInt8)} {D : DataW Value} (h : DiskW w0 B gd gs gm S D n X) (i : Nat) (hi : i < 30) (s : List UInt8) (hs : s.length = 32) : X.there gs (i * 32) (cellsOf s).toArray.size := by
  have e : (cellsOf s).toArray.size = 32 := by rw [List.size_toArray, cells_length, hs]
  rw [e]
  refine h9_there h.secs _ _ ?_
  rw [cells_length]
  have : ∀ (S : List (List UInt8)), (∀ q ∈ S, q.length = 32) → S.flatten.length = S.length * 32 := by
    intro S
    induction S with
    | nil => simp
    | cons q S ih =>
      intro hl
      have := ih (fun z hz => hl z (List.mem_cons_of_mem _ hz))
      have := hl q List.mem_cons_self
      simp only [List.flatten_cons, List.length_append, List.length_cons]
      omega
  rw [this S h.all, h.len]
  omega
theorem DiskW.ranges_store {w0 X : World} {B gd gs gm n : Nat} {S : List (List UInt8)} {D : DataW Value} {r cnt : Nat} {left : Lit → Bool} (h : DiskW w0 B gd gs gm S D n X) (hr : X.ranges Try.prog 3 Rv gm r n D left cnt) (o : Nat) (vs : List Value) :
    (X.setCells gs o vs).ranges Try.prog 3 Rv gm r n D left cnt := by
  have hne := range_ne hr h.secs
  have hme : gm ≠ gs := by
    rintro rfl
    obtain ⟨es, clock, hb, _⟩ := h.buf
    have h' := h.secs
    unfold Holds9 at h'
    rw [hb] at h'
    cases h'
  exact hr.kept (only_setCells vs o (World.grownBy.refl X (some gs))) (fun e => hme (by injection e)) (fun e => hne (by injection e))

/-- One entry more has been dealt with. -/
theorem set_step {w0 Z Y : World} {B gd gs gm r n m : Nat} {S S' : List (List UInt8)} {v : Nat → List UInt8} {f : Nat → Bool} {left : Lit → Bool} {Dc : DataW Value} {cnt2 i : Nat} (hd : DiskW w0 B gd gs gm S' Dc n Z)
    (hr : Y.ranges Try.prog 3 Rv gm r n (Dc.del (.int .i64 (i : Int))) (fun z => left z && !z.sameKey (.int .i64 (i : Int))) cnt2) (hturn : Z.grownBy Y (some gm))
    (hS : S' = outS S m v f (fun z => left z && !z.sameKey (.int .i64 (i : Int))))
    (hdesc : ∀ kl, left kl = true → ∃ i : Nat, i < 30 ∧ kl = .int .i64 i ∧ ∀ zd, Dc.atKey kl zd = .held (sec (v i))) (hhas : ∀ kl, left kl = Maps.has Dc kl) (hlm : ∀ i : Nat, left (.int .i64 i) = true → i < m) (hB : B ≤ r) :
    SetW w0 B gd gs gm r n m S v f cnt2 Y := by
  subst hS
  refine ⟨_, _, hr, hd.put hr.owns hturn, fun kl hk => ?_, fun kl => ?_, fun j hj => ?_, hB⟩
  · simp only [Bool.and_eq_true, Bool.not_eq_true'] at hk
    obtain ⟨j, hj, hkj, hz⟩ := hdesc kl hk.1
    refine ⟨j, hj, hkj, fun zd => ?_⟩
    rw [Maps.atKey_del_other]
    · exact hz zd
    · subst hkj
      have h2 := hk.2
      rw [int_same] at h2
      intro e
      injection e with _ e
      exact of_decide_eq_false h2 (by omega)
  · by_cases e : kl = .int .i64 (i : Int)
    · subst e
      rw [Maps.has_del_same]
      simp [int_same]
    · rw [Maps.has_del_other e, ← hhas kl, Maps.sameKey_ne e]
      simp
  · simp only [Bool.and_eq_true] at hj
    exact hlm j hj.1

end Go.Proofs.Ytppphdflpacimaa
