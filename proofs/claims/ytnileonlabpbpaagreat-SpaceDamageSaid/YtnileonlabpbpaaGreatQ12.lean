/- SpG; ReadF; Reads; SpH (merged by group.py) -/
import Derived.Test.YtnileonlabpbpaaGreatQ11
import Derived.Test.YtnileonlabpbpaaGreatQ06
namespace Go.Proofs.YtnileonlabpbpaaGreat
section
open Go.RowKit
set_option linter.unusedVariables false
set_option maxRecDepth 20000

/-- the sum of the rooms of the first k pages -/
noncomputable def sumRoom (l : List ByteArray) : Nat → Int
  | 0 => 0
  | k + 1 => sumRoom l k + roomP (nthB l k)
theorem sumRoom_le (l : List ByteArray) (hv : ∀ i, i < l.length → ValidR (nthB l i)) : ∀ k, k ≤ l.length → 0 ≤ sumRoom l k ∧ sumRoom l k ≤ k * 4096 := by
  intro k
  induction k with
  | zero => intro _; simp [sumRoom]
  | succ k ih =>
    intro hk
    have h1 := ih (by omega)
    have h2 := roomP_le (hv k (by omega))
    have h3 := sizes_of (hv k (by omega))
    unfold sumRoom
    omega
theorem sfree_any (A g size cap : Nat) (l : List ByteArray) (lv : List UInt8) (w : World) (h : Sp w A g size l lv cap) :
    Calls Tryz.prog 75 #[.pointer (some ⟨A, 0, none⟩)] w fun e w' => e = .returned (.int .i64 (sumRoom l l.length)) ∧ Ext w w' := by
  have hle := h.le
  have hgood := fun i hi => (h.good i hi).1
  have hb := sumRoom_le l hgood
  have hF : ∀ i, i < l.length → ∀ W, Calls Tryz.prog 111 #[.string (nthB l i)] W fun e w' => e = .returned (.tuple #[.int .i64 (roomP (nthB l i)), .int .i64 0]) ∧ Ext W w' := fun i hi W => free_ok _ W (hgood i hi)
  go_enter Tryz.func75, Tryz.ntmps75
  go_wp2_with (go_at_call 66; refine (pages_is A lv size _ _ cap _ h.ar).mono ?_; rintro e w1 ⟨rfl, rfl⟩)
  go_loopw [3, 4, 5, 6, 9] (fun s _ _ _ i wr => ∃ k : Nat, k ≤ l.length ∧ i = .int .i64 k ∧ s = .int .i64 (sumRoom l k) ∧ Ext w wr) (fun _ _ _ _ i _ => l.length - (intOf i).toNat)
  case atStart => exact ⟨0, by omega, rfl, rfl, Ext.refl w⟩
  case round =>
    obtain ⟨k, hk, rfl, rfl, hx⟩ := hrel
    by_cases hlt : k < l.length
    · have h1 := h.ext hx
      have g1 := h1.ar.pagesC
      have g2 := nthCell h1 k hlt
      have c1 : (k : Int) < l.length := by omega
      have b1 := hb k hk
      have b2 := hb (k + 1) (by omega)
      have e1 : sumRoom l (k + 1) = sumRoom l k + roomP (nthB l k) := rfl
      rw [e1] at b2
      have He := Lib.hid e1
      have hFk := hF k hlt
      clear e1 hF hb hgood
      generalize sumRoom l k = s0 at *
      generalize roomP (nthB l k) = r0 at *
      go_wp2_with (go_at_call 111; refine (hFk _).mono ?_; rintro e w2 ⟨rfl, hx2⟩)
      exact ⟨⟨k + 1, by omega, by go_num, by rw [He.out], hx.trans hx2⟩, by simp [intOf]; omega⟩
    · obtain rfl : k = l.length := by omega
      go_wp2
      go_ret
      exact ⟨rfl, hx⟩

/-- a reader in memory -/
def Rdr (w : World) (R : Nat) (s : ByteArray) (at_ : Nat) : Prop := w.heap[R]? = some (.cells #[.string s, .int .i64 at_] 105 (0, 0))
theorem Rdr.cells {w : World} {R : Nat} {s : ByteArray} {at_ : Nat} (h : Rdr w R s at_) : w.cell? ⟨R, 0, none⟩ = some (.string s) ∧ w.cell? ⟨R, 1, none⟩ = some (.int .i64 at_) ∧ w.frozen? ⟨R, 0, none⟩ = false ∧ w.frozen? ⟨R, 1, none⟩ = false := addr_cells h
theorem Rdr.set_ {w : World} {R : Nat} {s : ByteArray} {a : Nat} (h : Rdr w R s a) (b : Nat) (v : Value) (hv : v = .int .i64 b) : Rdr (w.setCell ⟨R, 1, none⟩ v) R s b := by
  subst hv
  unfold Rdr at *
  rw [heap_setCell_same w R 1 _ _ _ h]
  rfl
theorem byte_end (R : Nat) (s : ByteArray) (a : Nat) (w : World) (h : Rdr w R s a) (ha : s.size ≤ a) (hs : a ≤ 4611686018427387904) :
    Calls Tryz.prog 68 #[.pointer (some ⟨R, 0, none⟩)] w fun e w' => e = .returned (.int .i64 (-1)) ∧ Rdr w' R s a ∧ Upd w R w' := by
  obtain ⟨c0, c1, f0, f1⟩ := h.cells
  have d1 : (s.size : Int) ≤ a := by omega
  go_enter Tryz.func68, Tryz.ntmps68
  go_wp2
  go_quiet (fail)
  go_wp2
  go_ret
  exact ⟨rfl, h, Upd.of_ext ((Ext.refl w).drewN _) R⟩
theorem byte_next (R : Nat) (s : ByteArray) (a : Nat) (w : World) (h : Rdr w R s a) (ha : a < s.size) (hs : s.size ≤ 140737488355328) :
    Calls Tryz.prog 68 #[.pointer (some ⟨R, 0, none⟩)] w fun e w' => e = .returned (.int .i64 (bt s a)) ∧ Rdr w' R s (a + 1) ∧ Upd w R w' := by
  obtain ⟨c0, c1, f0, f1⟩ := h.cells
  have d1 : ¬ (s.size : Int) ≤ a := by omega
  have hg := get_bt s a ha
  have hb := bt_lt s a
  have k1 : IntKind.i64.wrap ((a : Int) + 1) = a + 1 := IntWalk.i64_in _ ⟨by omega, by omega⟩
  have k2 : IntKind.i64.wrap ((a : Int) + 1 - 1) = a := by rw [Int.add_sub_cancel]; exact IntWalk.i64_in _ ⟨by omega, by omega⟩
  have d2 : (a : Int) < s.size := by omega
  go_enter Tryz.func68, Tryz.ntmps68
  go_wp2
  go_quiet (fail)
  go_wp2
  have h7 : Rdr ((w.drewN nq).setCell ⟨R, 1, none⟩ (.int .i64 ((a : Int) + 1))) R s (a + 1) := Rdr.set_ (w := w.drewN nq) h (a + 1) _ (by simp)
  have hu7 : Upd w R ((w.drewN nq).setCell ⟨R, 1, none⟩ (.int .i64 ((a : Int) + 1))) := (Upd.of_ext ((Ext.refl w).drewN nq) R).trans (Upd.setCell _ _ _ _)
  obtain ⟨q0, q1, _, _⟩ := h7.cells
  have q2 : ((a + 1 : Nat) : Int) = (a : Int) + 1 := by omega
  rw [q2] at q1
  clear c0 c1 f0 f1 q2
  generalize (w.drewN nq).setCell ⟨R, 1, none⟩ (.int .i64 ((a : Int) + 1)) = W7 at *
  go_quiet (fail)
  go_wp2
  go_ret
  exact ⟨rfl, h7, hu7.trans (Upd.of_ext ((Ext.refl W7).drewN _) R)⟩

theorem number_end (R : Nat) (s : ByteArray) (a : Nat) (fv : Value) (w : World) (h : Rdr w R s a) (ha : a ≤ s.size) (ha2 : s.size < a + 2) (hs : s.size ≤ 140737488355328) :
    Calls Tryz.prog 69 #[.pointer (some ⟨R, 0, none⟩), fv] w fun e w' => e = .returned (.tuple #[.int .i64 0, .bool false]) ∧ Rdr w' R s s.size ∧ Upd w R w' := by
  have step2 : ∀ (v : Int) (b : Nat) (W : World), Rdr W R s b → s.size ≤ b → b ≤ 140737488355328 → Calls Tryz.prog 68 #[.pointer (some ⟨R, 0, none⟩)] W fun e w' => e = .returned (.int .i64 (-1)) ∧ Rdr w' R s b ∧ Upd W R w' :=
    fun v b W hW h1 h2 => byte_end R s b W hW h1 (by omega)
  rcases Nat.lt_or_ge a s.size with hlt | hge
  · have hB := byte_next R s a w h hlt hs
    generalize bt s a = v0 at *
    go_enter Tryz.func69, Tryz.ntmps69
    go_wp2_with fail
    refine hB.mono ?_
    rintro e w1 ⟨rfl, h1, hu1⟩
    go_wp2_with fail
    refine (step2 0 (a + 1) w1 h1 (by omega) (by omega)).mono ?_
    rintro e w2 ⟨rfl, h2, hu2⟩
    obtain ⟨c0, c1, f0, f1⟩ := h2.cells
    have h3 := h2.set_ s.size (.int .i64 s.size) rfl
    go_wp2
    go_ret2
    exact ⟨rfl, h3, (hu1.trans hu2).trans (Upd.setCell _ _ _ _)⟩
  · go_enter Tryz.func69, Tryz.ntmps69
    go_wp2_with fail
    refine (step2 0 a w h (by omega) (by omega)).mono ?_
    rintro e w1 ⟨rfl, h1, hu1⟩
    go_wp2_with fail
    refine (step2 0 a w1 h1 (by omega) (by omega)).mono ?_
    rintro e w2 ⟨rfl, h2, hu2⟩
    obtain ⟨c0, c1, f0, f1⟩ := h2.cells
    have h3 := h2.set_ s.size (.int .i64 s.size) rfl
    go_wp2
    go_ret2
    exact ⟨rfl, h3, (hu1.trans hu2).trans (Upd.setCell _ _ _ _)⟩

theorem number_in (R : Nat) (s : ByteArray) (a : Nat) (fid : FuncId) (m : Bool) (w : World) (h : Rdr w R s a) (ha : a + 2 ≤ s.size) (hs : s.size ≤ 140737488355328) (hf : ∀ args w, (callFunc fid args).run Tryz.prog w = .ok (.enter fid args) w)
    (hM : ∀ W, Calls Tryz.prog fid #[.int .i64 (twoF s a)] W fun e w' => e = .returned (.bool m) ∧ Ext W w') :
    Calls Tryz.prog 69 #[.pointer (some ⟨R, 0, none⟩), .func (.func fid) #[] #[]] w fun e w' =>
      e = .returned (.tuple #[.int .i64 (if m then (twoF s a : Int) else 0), .bool m]) ∧ Rdr w' R s (if m then a + 2 else a) ∧ Upd w R w' := by
  have hB1 := byte_next R s a w h (by omega) hs
  have hB2 := fun W hW => byte_next R s (a + 1) W hW (by omega) hs
  have b1 := bt_lt s a
  have b2 := bt_lt s (a + 1)
  have ho := or_two _ _ b1 b2
  rw [IntWalk.wrap64_in _ ⟨by omega, by omega⟩] at ho
  have ht : twoF s a = 256 * bt s a + bt s (a + 1) := rfl
  rw [← ht] at ho
  have Ht := Lib.hid ht
  clear ht
  have hRl : R < w.heap.size := (Array.getElem?_eq_some_iff.1 h).1
  generalize bt s a = x at *
  generalize bt s (a + 1) = y at *
  generalize twoF s a = v at *
  cases m with
  | true =>
    simp only [if_true]
    go_enter Tryz.func69, Tryz.ntmps69
    go_wp2_with fail
    refine hB1.mono ?_
    rintro e w1 ⟨rfl, h1, hu1⟩
    go_wp2_with fail
    refine (hB2 w1 h1).mono ?_
    rintro e w2 ⟨rfl, h2, hu2⟩
    go_wp2_with fail
    refine (hM _).mono ?_
    rintro e w3 ⟨rfl, hx3⟩
    go_wp2
    go_ret2
    exact ⟨rfl, hx3.heap h2, (hu1.trans hu2).trans (Upd.of_ext hx3 R)⟩
  | false =>
    simp only [Bool.false_eq_true, if_false]
    have k1 : ((a : Int) + 1 + 1 - 2) = a := by omega
    go_enter Tryz.func69, Tryz.ntmps69
    go_wp2_with fail
    refine hB1.mono ?_
    rintro e w1 ⟨rfl, h1, hu1⟩
    go_wp2_with fail
    refine (hB2 w1 h1).mono ?_
    rintro e w2 ⟨rfl, h2, hu2⟩
    go_wp2_with fail
    refine (hM _).mono ?_
    rintro e w3 ⟨rfl, hx3⟩
    have h3 : Rdr w3 R s (a + 1 + 1) := hx3.heap h2
    obtain ⟨c0, c1, f0, f1⟩ := h3.cells
    have h4 := h3.set_ a (.int .i64 a) rfl
    have c2 : w3.cell? ⟨R, 1, none⟩ = some (.int .i64 ((a : Int) + 2)) := by rw [c1]; congr 2
    clear c1
    go_wp2
    go_ret2
    exact ⟨rfl, h4, ((hu1.trans hu2).trans (Upd.of_ext hx3 R)).trans (Upd.setCell _ _ _ _)⟩
end
section
open Go.RowKit
set_option linter.unusedVariables false
set_option maxRecDepth 20000
attribute [local go_sem] Oper.semAt_some

def flatI (l : List Cel) : List Value := l.map fun c => .int .i64 c.1
theorem flatI_snoc (l : List Cel) (c : Cel) : flatI (l ++ [c]) = flatI l ++ [.int .i64 c.1] := by simp [flatI]
theorem Tryz.infoI : (Tryz.prog.info? 3).map (fun i => (i.zero, i.size, i.bytes)) = some (some (.int .i64 0), 1, 8) := by kernel_rfl
theorem append_int (w : World) (base : Nat) (v : Value) (n : Nat) (xs : List Value) (hown : w.ownsRow base 3 1 v n xs) (a : Addr) (x : Value) (hnews : ∀ j u, [x][j]? = some u → w.cell? (a.add j) = some u)
    (h1 : x.oneCell' = true) (hn : n ≤ 1024) (hbase : base ≤ w.heap.size) :
    ∃ v' w', (Builtin.append_ #[128, 128] 128 #[v, .slice (some a) 1 1]).run Tryz.prog w = .ok v' w' ∧ w'.ownsRow base 3 1 v' (n + 1) (xs ++ [x]) ∧ w.grownBy w' v.ownBlock ∧
      (v' = .slice none 0 0 ↔ v = .slice none 0 0 ∧ 1 = 0) ∧ (v'.ownBlock = v.ownBlock ∨ v'.ownBlock = some w.heap.size) := by
  obtain ⟨i0, hi, hz0, hz1, hz2⟩ := info_parts Tryz.infoI
  exact run_append_own_at (P := Tryz.prog) w base 128 128 3 i0 _ 1 8 Tryz.underlying128 hi hz0 hz1 hz2 rfl (by decide) v n xs hown a 1 1 [x] rfl hnews (by simp [h1]) (by simp only [maxLen]; omega) (by omega) hbase
theorem lineS_any (p : ByteArray) (k : Nat) (w : World) :
    Calls Tryz.prog 127 #[.agg #[.int .i64 (k + 1), .int .i64 (twoF p (2 + 4 * k)), .int .i64 (twoF p (4 + 4 * k))]] w fun e w' => e = .returned (.int .i64 (k + 1)) ∧ Ext w w' := by
  go_enter Tryz.func127, Tryz.ntmps127
  go_wp2
  go_ret
  exact ⟨rfl, (Ext.refl w).alloc _⟩

set_option maxRecDepth 20000 in
set_option maxHeartbeats 2000000 in
theorem gatherI_any (p : ByteArray) (w : World) (h32 : 32 ≤ p.size) (hp : p.size ≤ 4096) (hN : 2 + 4 * twoF p 0 ≤ p.size) :
    Calls Tryz.prog 126 #[.string p, .func (.func 127) #[] #[]] w fun e w' => ∃ v, e = .returned v ∧ w'.ownsRow w.heap.size 3 1 v (usedL p (twoF p 0)).length (flatI (usedL p (twoF p 0))) ∧ Ext w w' := by
  refine calls_of_wpAt Tryz.func126 rfl ?_
  simp only [Tryz.ntmps126, List.size_toArray, List.length_cons, List.length_nil, Nat.reduceAdd, Nat.reduceSub, Array.replicate_succ, Array.replicate_zero, List.push_toArray, List.append_toArray, List.nil_append, List.cons_append]
  refine wpAt_seq_k (fun K hK => ?_)
  go_wp2
  refine wpAt_seq_k (fun K hK => ?_)
  go_wp2
  refine wpAt_seq ?_
  refine wpAt_seq_k (fun K hK => ?_)
  go_wp2_with (go_at_call 129; refine (slots_any p _).mono ?_; rintro e w1 ⟨rfl, rfl⟩)
  obtain ⟨W1, hW1⟩ : ∃ W1, (((w.alloc (.cells #[.func (.func 127) #[] #[]] 152)).alloc (.cells #[.slice none 0 0] 128)).alloc (.cells #[.string p] 9)) = W1 := ⟨_, rfl⟩
  have hb1 : Boxed W1 w.heap.size 152 (.func (.func 127) #[] #[]) := by
    rw [← hW1]; exact ((Boxed.new _ _ _).alloc _).alloc _
  have hb2 : Boxed W1 (w.heap.size + 1) 128 (.slice none 0 0) := by
    rw [← hW1]
    have := Boxed.new (w.alloc (.cells #[.func (.func 127) #[] #[]] 152)) 128 (.slice none 0 0)
    rw [World.size_alloc] at this
    exact this.alloc _
  have hb3 : Boxed W1 (w.heap.size + 2) 9 (.string p) := by
    rw [← hW1]
    have := Boxed.new ((w.alloc (.cells #[.func (.func 127) #[] #[]] 152)).alloc (.cells #[.slice none 0 0] 128)) 9 (.string p)
    rw [World.size_alloc, World.size_alloc] at this
    exact this
  have hsz : W1.heap.size = w.heap.size + 3 := by rw [← hW1]; simp [World.size_alloc]
  have hx0 : Ext w W1 := by rw [← hW1]; exact (((Ext.refl w).alloc _).alloc _).alloc _
  rw [hW1]
  clear hW1
  refine wpAt_block ?_
  refine wpAt_rangeFunc (hf := Tryz.func126) (gf := 134) (lb := #[.pointer (some ⟨w.heap.size + 2, 0, none⟩)]) rfl (enters_of Tryz.func134 (by kernel_rfl) rfl)
    (slots_seq p _ (by omega) (by omega) hN) (fun _ => rfl)
    (fun i W => Boxed W w.heap.size 152 (.func (.func 127) #[] #[]) ∧ Boxed W (w.heap.size + 2) 9 (.string p) ∧ Ext w W ∧
      ∃ v, Boxed W (w.heap.size + 1) 128 v ∧ W.ownsRow (w.heap.size + 5) 3 1 v (usedL p i).length (flatI (usedL p i)))
    (fun _ _ _ => False)
    (fun _ _ _ => False)
    (fun i A B ⟨h1, h3, h4, v, h5, h6⟩ hx => ⟨hx.heap h1, hx.heap h3, h4.trans hx, v, hx.heap h5, ownsRow_ext h6 hx⟩)
    (fun _ _ _ _ h _ => h)
    (fun i A B ⟨h1, h3, h4, v, h5, h6⟩ hx => ⟨hx.heap h1 (by omega), hx.heap h3 (by omega), Upd.ext h4 hx (by omega), v, hx.heap h5 (by omega), ownsRow_upd h6 hx (by omega)⟩)
    (fun _ _ _ _ h _ => h)
    (fun i A h => h.2.1.cell)
    ⟨hb1, hb3, hx0, _, hb2, World.ownsRow_nil _ _ _ _⟩ ?round ?done (fun _ _ _ _ h _ => h.elim) (fun _ _ _ _ h _ => h.elim)
  case round =>
    rintro i W ⟨h1, h3, hx, v, h2, hown⟩ hW hi
    have hul := usedL_length p i
    have hlen : (slotV p i) = .agg #[.int .i64 (i + 1), .int .i64 (twoF p (2 + 4 * i)), .int .i64 (twoF p (4 + 4 * i))] := rfl
    have c2 : twoF p (4 + 4 * i) < 65536 := by have := bt_lt p (4 + 4 * i); have := bt_lt p (4 + 4 * i + 1); unfold twoF; omega
    have eu : usedL p (i + 1) = if twoF p (4 + 4 * i) = 0 then usedL p i else usedL p i ++ [cellS p i] := rfl
    have hcall : ∀ W, Calls Tryz.prog 127 #[.agg #[.int .i64 (i + 1), .int .i64 (twoF p (2 + 4 * i)), .int .i64 (twoF p (4 + 4 * i))]] W fun e w' => e = .returned (.int .i64 (i + 1)) ∧ Ext W w' :=
      fun W => lineS_any p i W
    simp only [slotV]
    gi_wp2
    have hxa : Ext W (W.alloc (.cells #[.int .i64 (i + 1), .int .i64 (twoF p (2 + 4 * i)), .int .i64 (twoF p (4 + 4 * i))] 142)) := (Ext.refl W).alloc _
    have hn5 : (W.alloc (.cells #[.int .i64 (i + 1), .int .i64 (twoF p (2 + 4 * i)), .int .i64 (twoF p (4 + 4 * i))] 142)).heap[W.heap.size]? = some (.cells #[.int .i64 (i + 1), .int .i64 (twoF p (2 + 4 * i)), .int .i64 (twoF p (4 + 4 * i))] 142 (0, 0)) := World.alloc_heap_new _ _
    refine ⟨hxa.block (by omega), hxa.block (by omega), ?_⟩
    intro W2 hu2 hs2
    replace hn5 := hu2.heap hn5 (by omega)
    replace h1 : Boxed W2 _ _ _ := hu2.heap (hxa.heap h1) (by omega)
    replace h2 : Boxed W2 _ _ _ := hu2.heap (hxa.heap h2) (by omega)
    replace h3 : Boxed W2 _ _ _ := hu2.heap (hxa.heap h3) (by omega)
    replace hown := ownsRow_upd (ownsRow_ext hown hxa) hu2 (by omega)
    replace hx := Upd.ext (hx.trans hxa) hu2 (by omega)
    have hsz2 : w.heap.size + 5 ≤ W2.heap.size := by have := hu2.size; have := hxa.size; omega
    have g0 : W2.cell? ⟨W.heap.size, 0, none⟩ = some (.int .i64 (i + 1)) := by simp [World.cell?, hn5]
    have g1 : W2.cell? ⟨W.heap.size, 1, none⟩ = some (.int .i64 (twoF p (2 + 4 * i))) := by simp [World.cell?, hn5]
    have g2 : W2.cell? ⟨W.heap.size, 2, none⟩ = some (.int .i64 (twoF p (4 + 4 * i))) := by simp [World.cell?, hn5]
    have q1 := h1.cell
    have q2 := h2.cell
    clear hu2 hs2 hxa
    generalize W.heap.size = c5 at *
    by_cases hl0 : twoF p (4 + 4 * i) = 0
    · rw [if_pos hl0] at eu
      rw [hl0] at g2
      gi_wp2
      exact ⟨rfl, rfl, h1, h3, hx, v, h2, by rw [eu]; exact hown⟩
    · rw [if_neg hl0] at eu
      have hl1 : (0 : Int) < twoF p (4 + 4 * i) := by omega
      have hE := Lib.hid eu
      clear eu
      generalize twoF p (4 + 4 * i) = len at *
      generalize twoF p (2 + 4 * i) = off at *
      gi_wp2
      have hne : ∀ g, v.ownBlock = some g → g ≠ c5 ∧ g ≠ w.heap.size ∧ g ≠ w.heap.size + 1 ∧ g ≠ w.heap.size + 2 ∧ g ≠ w.heap.size + 3 ∧ g ≠ w.heap.size + 4 := by
        intro g hg
        have hge := (hown.lt g hg).1
        refine ⟨?_, by omega, by omega, by omega, by omega, by omega⟩
        rcases hown.2 with ⟨hv, _⟩ | ⟨g', cap, cur, hv, _, hgh, _⟩
        · rw [hv] at hg; simp [Value.ownBlock] at hg
        · rw [hv] at hg
          simp [Value.ownBlock] at hg
          subst hg
          intro e
          subst e
          rw [hgh] at hn5
          simp at hn5
      have hc5l : c5 < W2.heap.size := block_lt g0
      have hcells : ∀ W, W2.grownBy W v.ownBlock → W.cell? ⟨w.heap.size, 0, none⟩ = some (.func (.func 127) #[] #[]) ∧
        W.cell? ⟨c5, 0, none⟩ = some (.int .i64 (i + 1)) ∧ W.cell? ⟨c5, 1, none⟩ = some (.int .i64 off) ∧ W.cell? ⟨c5, 2, none⟩ = some (.int .i64 len) := fun W hg => by
        have e1 : W.cell? ⟨w.heap.size, 0, none⟩ = W2.cell? ⟨w.heap.size, 0, none⟩ := World.cell?_of_block (hg.block _ (block_lt q1) (fun e => (hne _ e.symm).2.1 rfl))
        have e2 : ∀ j, W.cell? ⟨c5, j, none⟩ = W2.cell? ⟨c5, j, none⟩ := fun j => World.cell?_of_block (hg.block _ hc5l (fun e => (hne _ e.symm).1 rfl))
        exact ⟨e1.trans q1, (e2 0).trans g0, (e2 1).trans g1, (e2 2).trans g2⟩
      refine wpIn_round_held (fun W => W.cell? ⟨w.heap.size, 0, none⟩ = some (.func (.func 127) #[] #[]) ∧
        W.cell? ⟨c5, 0, none⟩ = some (.int .i64 (i + 1)) ∧ W.cell? ⟨c5, 1, none⟩ = some (.int .i64 off) ∧ W.cell? ⟨c5, 2, none⟩ = some (.int .i64 len)) (by kernel_rfl) (by rintro ⟨a, w, h⟩; exact h) (by kernel_rfl) ?_
      refine wpAnyH_take (i := 1) (v := .func (.func 127) #[] #[]) (fuel := 6) rfl (by kernel_rfl) (by kernel_rfl) (by kernel_rfl) (fun _ _ _ h => h) (.inl ⟨rfl, fun W hS => by obtain ⟨e2, e3, e4, e5⟩ := hS; go_simp⟩) ⟨q1, g0, g1, g2⟩ ?_
      refine wpAnyH_take (i := 2) (v := .agg #[.int .i64 (i + 1), .int .i64 off, .int .i64 len]) (fuel := 5) rfl (by kernel_rfl) (by kernel_rfl) (by kernel_rfl) (fun _ _ _ h => h) (.inl ⟨rfl, fun W hS => by obtain ⟨e2, e3, e4, e5⟩ := hS; go_simp⟩) ⟨q1, g0, g1, g2⟩ ?_
      refine wpAnyH_two (i := 0) (j := 3) (fuel := 4) rfl rfl (by kernel_rfl) rfl rfl (fun K' hK => ?_) (fun K' hK => ?_)
      · go_simp
        refine hK _ _ ⟨q1, g0, g1, g2⟩ ?_
        clear hK K'
        refine wpAnyH_one (i := 3) (fuel := 3) rfl (by kernel_rfl) rfl fun K' hK => ?_
        go_simp
        refine (hcall _).mono ?_
        rintro e w5 ⟨rfl, hx5⟩
        have hx5' : Ext W2 w5 := Ext.trans (Ext.drew (Ext.refl W2)) hx5
        refine hK _ _ (hcells _ (grownBy_ext hx5' _)) ?_
        clear hK K'
        refine wpAnyH_one (i := 4) (fuel := 2) rfl (by kernel_rfl) rfl fun K' hK => ?_
        go_simp
        refine hK _ _ (hcells _ (grownBy_ext (hx5'.alloc _) _)) ?_
        clear hK K'
        obtain ⟨v', w7, hrun, hown', hgrow, hnil, hat⟩ := append_int (w5.alloc (.cells #[.int .i64 (i + 1)] 3)) (w.heap.size + 5) v (usedL p i).length (flatI (usedL p i)) (ownsRow_ext hown (hx5'.alloc _)) ⟨w5.heap.size, 0, none⟩ (.int .i64 (i + 1)) (cell_one_new _ _ _) rfl (by omega) (by have := hx5'.size; simp [World.size_alloc] at this ⊢; omega)
        refine wpAnyH_one (i := 5) (fuel := 1) rfl (by kernel_rfl) rfl fun K' hK => ?_
        refine wp_append_at (.tmp 13) (.tmp 17) 128 rfl v (.slice (some ⟨w5.heap.size, 0, none⟩) 1 1) rfl rfl hrun ?_
        have hg7 : W2.grownBy w7 v.ownBlock := (grownBy_ext (hx5'.alloc _) _).trans hgrow
        refine hK _ _ (hcells _ hg7) ?_
        clear hK K'
        obtain ⟨g', cap', rfl⟩ := ownsRow_succ hown'
        have k7 : Boxed w7 (w.heap.size + 1) 128 v := (hg7.block _ (block_lt q2) (fun e => (hne _ e.symm).2.2.1 rfl)).trans h2
        have k1 : Boxed w7 w.heap.size 152 _ := (hg7.block _ (block_lt q1) (fun e => (hne _ e.symm).2.1 rfl)).trans h1
        have k3 : Boxed w7 (w.heap.size + 2) 9 _ := (hg7.block _ (by omega) (fun e => (hne _ e.symm).2.2.2.1 rfl)).trans h3
        have q7 := k7.cell
        have f7 := k7.frozen
        refine wpAnyH_one (i := 6) (fuel := 0) rfl (by kernel_rfl) rfl fun K' hK => ?_
        go_simp
        have hkc := hcells _ hg7
        have hu : ∀ u, Upd w7 (w.heap.size + 1) (w7.setCell ⟨w.heap.size + 1, 0, none⟩ u) := fun u => Upd.setCell w7 _ 0 u
        refine hK _ _ ⟨(hu _).cell hkc.1 (by simp), (hu _).cell hkc.2.1 (by simp; omega), (hu _).cell hkc.2.2.1 (by simp; omega), (hu _).cell hkc.2.2.2 (by simp; omega)⟩ ?_
        clear hK K'
        refine wpAnyH_done (by kernel_rfl) ?_ 0
        have hbk : ∀ u k, k ≠ w.heap.size + 1 → k < W2.heap.size → v.ownBlock ≠ some k → (w7.setCell ⟨w.heap.size + 1, 0, none⟩ u).heap[k]? = W2.heap[k]? := fun u k n1 n2 n3 =>
          (Below.heap_setCell _ _ _ k n1).trans (hg7.block k n2 (fun e => n3 e.symm))
        have hxf : ∀ u, Ext w (w7.setCell ⟨w.heap.size + 1, 0, none⟩ u) := fun u =>
          Ext.setCell (Below.grown hx hg7 hx.size (fun k hk => by have := (hown.lt k hk).1; omega)) (Nat.le_succ _) u
        refine ⟨hbk _ _ (by omega) (by omega) (fun e => (hne _ e).2.2.2.2.1 (by omega)), hbk _ _ (by omega) (by omega) (fun e => (hne _ e).2.2.2.2.2 (by omega)), k1.other (by omega) _, k3.other (by omega) _, hxf _, _, k7.set _, ?_⟩
        rw [hE.out]
        have hk := hown'.kept (grownBy_setCell' w7 (w.heap.size + 1) (.slice (some ⟨g', 0, none⟩) ((usedL p i).length + 1) cap')) (.inr (by simp [Value.ownBlock]; have := (hown'.lt g' rfl).1; omega))
        rw [flatI_snoc, List.length_append]
        exact hk
      · go_simp
        refine (hcall _).mono ?_
        rintro e w5 ⟨rfl, hx5⟩
        have hx5' : Ext W2 w5 := Ext.trans (Ext.drew (Ext.refl W2)) hx5
        refine hK _ _ (hcells _ (grownBy_ext hx5' _)) ?_
        clear hK K'
        have q5 := hx5'.cell q2
        refine wpAnyH_two (i := 0) (j := 4) (fuel := 3) rfl rfl (by kernel_rfl) rfl rfl (fun K' hK => ?_) (fun K' hK => ?_)
        · go_simp
          refine hK _ _ (hcells _ (grownBy_ext hx5' _)) ?_
          clear hK K'
          refine wpAnyH_one (i := 4) (fuel := 2) rfl (by kernel_rfl) rfl fun K' hK => ?_
          go_simp
          refine hK _ _ (hcells _ (grownBy_ext (hx5'.alloc _) _)) ?_
          clear hK K'
          obtain ⟨v', w7, hrun, hown', hgrow, hnil, hat⟩ := append_int (w5.alloc (.cells #[.int .i64 (i + 1)] 3)) (w.heap.size + 5) v (usedL p i).length (flatI (usedL p i)) (ownsRow_ext hown (hx5'.alloc _)) ⟨w5.heap.size, 0, none⟩ (.int .i64 (i + 1)) (cell_one_new _ _ _) rfl (by omega) (by have := hx5'.size; simp [World.size_alloc] at this ⊢; omega)
          refine wpAnyH_one (i := 5) (fuel := 1) rfl (by kernel_rfl) rfl fun K' hK => ?_
          refine wp_append_at (.tmp 13) (.tmp 17) 128 rfl v (.slice (some ⟨w5.heap.size, 0, none⟩) 1 1) rfl rfl hrun ?_
          have hg7 : W2.grownBy w7 v.ownBlock := (grownBy_ext (hx5'.alloc _) _).trans hgrow
          refine hK _ _ (hcells _ hg7) ?_
          clear hK K'
          obtain ⟨g', cap', rfl⟩ := ownsRow_succ hown'
          have k7 : Boxed w7 (w.heap.size + 1) 128 v := (hg7.block _ (block_lt q2) (fun e => (hne _ e.symm).2.2.1 rfl)).trans h2
          have k1 : Boxed w7 w.heap.size 152 _ := (hg7.block _ (block_lt q1) (fun e => (hne _ e.symm).2.1 rfl)).trans h1
          have k3 : Boxed w7 (w.heap.size + 2) 9 _ := (hg7.block _ (by omega) (fun e => (hne _ e.symm).2.2.2.1 rfl)).trans h3
          have q7 := k7.cell
          have f7 := k7.frozen
          refine wpAnyH_one (i := 6) (fuel := 0) rfl (by kernel_rfl) rfl fun K' hK => ?_
          go_simp
          have hkc := hcells _ hg7
          have hu : ∀ u, Upd w7 (w.heap.size + 1) (w7.setCell ⟨w.heap.size + 1, 0, none⟩ u) := fun u => Upd.setCell w7 _ 0 u
          refine hK _ _ ⟨(hu _).cell hkc.1 (by simp), (hu _).cell hkc.2.1 (by simp; omega), (hu _).cell hkc.2.2.1 (by simp; omega), (hu _).cell hkc.2.2.2 (by simp; omega)⟩ ?_
          clear hK K'
          refine wpAnyH_done (by kernel_rfl) ?_ 0
          have hbk : ∀ u k, k ≠ w.heap.size + 1 → k < W2.heap.size → v.ownBlock ≠ some k → (w7.setCell ⟨w.heap.size + 1, 0, none⟩ u).heap[k]? = W2.heap[k]? := fun u k n1 n2 n3 =>
            (Below.heap_setCell _ _ _ k n1).trans (hg7.block k n2 (fun e => n3 e.symm))
          have hxf : ∀ u, Ext w (w7.setCell ⟨w.heap.size + 1, 0, none⟩ u) := fun u =>
            Ext.setCell (Below.grown hx hg7 hx.size (fun k hk => by have := (hown.lt k hk).1; omega)) (Nat.le_succ _) u
          refine ⟨hbk _ _ (by omega) (by omega) (fun e => (hne _ e).2.2.2.2.1 (by omega)), hbk _ _ (by omega) (by omega) (fun e => (hne _ e).2.2.2.2.2 (by omega)), k1.other (by omega) _, k3.other (by omega) _, hxf _, _, k7.set _, ?_⟩
          rw [hE.out]
          have hk := hown'.kept (grownBy_setCell' w7 (w.heap.size + 1) (.slice (some ⟨g', 0, none⟩) ((usedL p i).length + 1) cap')) (.inr (by simp [Value.ownBlock]; have := (hown'.lt g' rfl).1; omega))
          rw [flatI_snoc, List.length_append]
          exact hk
        · go_simp
          refine hK _ _ (hcells _ (grownBy_ext (hx5'.alloc _) _)) ?_
          clear hK K'
          have q6 := (hx5'.alloc (.cells #[.int .i64 (i + 1)] 3)).cell q2
          refine wpAnyH_one (i := 0) (fuel := 2) rfl (by kernel_rfl) rfl fun K' hK => ?_
          go_simp
          refine hK _ _ (hcells _ (grownBy_ext (hx5'.alloc _) _)) ?_
          clear hK K'
          obtain ⟨v', w7, hrun, hown', hgrow, hnil, hat⟩ := append_int (w5.alloc (.cells #[.int .i64 (i + 1)] 3)) (w.heap.size + 5) v (usedL p i).length (flatI (usedL p i)) (ownsRow_ext hown (hx5'.alloc _)) ⟨w5.heap.size, 0, none⟩ (.int .i64 (i + 1)) (cell_one_new _ _ _) rfl (by omega) (by have := hx5'.size; simp [World.size_alloc] at this ⊢; omega)
          refine wpAnyH_one (i := 5) (fuel := 1) rfl (by kernel_rfl) rfl fun K' hK => ?_
          refine wp_append_at (.tmp 13) (.tmp 17) 128 rfl v (.slice (some ⟨w5.heap.size, 0, none⟩) 1 1) rfl rfl hrun ?_
          have hg7 : W2.grownBy w7 v.ownBlock := (grownBy_ext (hx5'.alloc _) _).trans hgrow
          refine hK _ _ (hcells _ hg7) ?_
          clear hK K'
          obtain ⟨g', cap', rfl⟩ := ownsRow_succ hown'
          have k7 : Boxed w7 (w.heap.size + 1) 128 v := (hg7.block _ (block_lt q2) (fun e => (hne _ e.symm).2.2.1 rfl)).trans h2
          have k1 : Boxed w7 w.heap.size 152 _ := (hg7.block _ (block_lt q1) (fun e => (hne _ e.symm).2.1 rfl)).trans h1
          have k3 : Boxed w7 (w.heap.size + 2) 9 _ := (hg7.block _ (by omega) (fun e => (hne _ e.symm).2.2.2.1 rfl)).trans h3
          have q7 := k7.cell
          have f7 := k7.frozen
          refine wpAnyH_one (i := 6) (fuel := 0) rfl (by kernel_rfl) rfl fun K' hK => ?_
          go_simp
          have hkc := hcells _ hg7
          have hu : ∀ u, Upd w7 (w.heap.size + 1) (w7.setCell ⟨w.heap.size + 1, 0, none⟩ u) := fun u => Upd.setCell w7 _ 0 u
          refine hK _ _ ⟨(hu _).cell hkc.1 (by simp), (hu _).cell hkc.2.1 (by simp; omega), (hu _).cell hkc.2.2.1 (by simp; omega), (hu _).cell hkc.2.2.2 (by simp; omega)⟩ ?_
          clear hK K'
          refine wpAnyH_done (by kernel_rfl) ?_ 0
          have hbk : ∀ u k, k ≠ w.heap.size + 1 → k < W2.heap.size → v.ownBlock ≠ some k → (w7.setCell ⟨w.heap.size + 1, 0, none⟩ u).heap[k]? = W2.heap[k]? := fun u k n1 n2 n3 =>
            (Below.heap_setCell _ _ _ k n1).trans (hg7.block k n2 (fun e => n3 e.symm))
          have hxf : ∀ u, Ext w (w7.setCell ⟨w.heap.size + 1, 0, none⟩ u) := fun u =>
            Ext.setCell (Below.grown hx hg7 hx.size (fun k hk => by have := (hown.lt k hk).1; omega)) (Nat.le_succ _) u
          refine ⟨hbk _ _ (by omega) (by omega) (fun e => (hne _ e).2.2.2.2.1 (by omega)), hbk _ _ (by omega) (by omega) (fun e => (hne _ e).2.2.2.2.2 (by omega)), k1.other (by omega) _, k3.other (by omega) _, hxf _, _, k7.set _, ?_⟩
          rw [hE.out]
          have hk := hown'.kept (grownBy_setCell' w7 (w.heap.size + 1) (.slice (some ⟨g', 0, none⟩) ((usedL p i).length + 1) cap')) (.inr (by simp [Value.ownBlock]; have := (hown'.lt g' rfl).1; omega))
          rw [flatI_snoc, List.length_append]
          exact hk
  case done =>
    rintro W ⟨h1, h3, hx, v, h2, hown⟩ hD
    have q2 := h2.cell
    refine wpAt_of_wp ?_
    go_wp2
    refine ⟨by simp, .inl ⟨_, _, rfl, run_takeDeferred (by rw [← hsz]; exact hD), ?_⟩⟩
    rw [← hsz]
    refine ⟨_, results_tmp rfl _ _ _, v, rfl, ?_, Upd.ext hx (grownBy_putObj' _ _ _) (by omega)⟩
    exact ownsRow_base (ownsRow_upd hown (grownBy_putObj' _ _ _) (by omega)) (by omega)
end
section
open Go.RowKit
set_option linter.unusedVariables false
set_option maxRecDepth 20000

/-- a slice of ints, read -/
structure IntS (w : World) (A : Option Addr) (n : Nat) (g : Nat → Int) : Prop where
  at_ : ∀ i, i < n → ∃ b off, A = some ⟨b, off, none⟩ ∧ w.cell? ⟨b, off + i, none⟩ = some (.int .i64 (g i))
theorem IntS.ext {w w' : World} {A : Option Addr} {n : Nat} {g : Nat → Int} (h : IntS w A n g) (he : Ext w w') : IntS w' A n g :=
  ⟨fun i hi => by obtain ⟨b, off, e, h1⟩ := h.at_ i hi; exact ⟨b, off, e, he.cell h1⟩⟩
theorem intS_of_row {w : World} {base : Nat} {v : Value} {l : List Cel} (h : w.ownsRow base 3 1 v l.length (flatI l)) : ∃ A cap, v = .slice A l.length cap ∧ IntS w A l.length (fun i => (nthC l i).1) := by
  rcases h.2 with ⟨hv, h0⟩ | ⟨g, cap, cur, hv, _⟩
  · exact ⟨none, 0, by rw [hv, h0], ⟨fun i hi => by omega⟩⟩
  · subst hv
    refine ⟨some ⟨g, 0, none⟩, cap, rfl, ⟨fun i hi => ⟨g, 0, rfl, ?_⟩⟩⟩
    have := h.cellAt i (by omega)
    rw [Nat.zero_add, this]
    simp [flatI, nthC, List.getD_eq_getElem?_getD, List.getElem?_eq_getElem hi]

theorem lines_ok (p : ByteArray) (w : World) (hv : ValidR p) :
    Calls Tryz.prog 104 #[.string p] w fun e w' => ∃ A cap, e = .returned (.tuple #[.slice A (cnt p) cap, .int .i64 0]) ∧ IntS w' A (cnt p) (fun i => (cel p i).1) ∧ Ext w w' := by
  obtain ⟨z1, z2⟩ := sizes_of hv
  go_enter Tryz.func104, Tryz.ntmps104
  go_wp2_with (first
    | (go_at_call 87; refine (valid_any p _ (by omega)).mono ?_; rintro e w1 ⟨rfl, hx1⟩; rw [decide_eq_true hv])
    | (go_at_call 126; refine (gatherI_any p _ z1 z2 hv.1.2.2).mono ?_; rintro e w2 ⟨v, rfl, hown, hx2⟩))
  obtain ⟨A, cap, rfl, hs⟩ := intS_of_row hown
  go_wp2
  go_ret2
  exact ⟨A, cap, rfl, hs, hx1.trans hx2⟩
theorem lines_no (p : ByteArray) (w : World) (hp : p.size ≤ 140737488355328) (hv : ¬ ValidR p) :
    Calls Tryz.prog 104 #[.string p] w fun e w' => e = .returned (.tuple #[.slice none 0 0, .int .i64 1]) ∧ Ext w w' := by
  go_enter Tryz.func104, Tryz.ntmps104
  go_wp2_with (go_at_call 87; refine (valid_any p _ hp).mono ?_; rintro e w1 ⟨rfl, hx1⟩; rw [decide_eq_false hv])
  go_ret2
  exact ⟨rfl, hx1⟩

theorem wrong_both (p : ByteArray) (hp : p.size ≤ 140737488355328) : ∃ a e : Int,
    (∀ w, Calls Tryz.prog 73 #[.string p] w fun e' w' => e' = .returned (.tuple #[.int .i64 a, .int .i64 e]) ∧ Ext w w') ∧
    (∀ w, Calls Tryz.prog 79 #[.string p] w fun e' w' => e' = .returned (.tuple #[.int .i64 a, .int .i64 e]) ∧ Ext w w') := by
  obtain ⟨a, e, hw, _⟩ := wrong_any p default hp
  refine ⟨a, e, fun w => ?_, fun w => ?_⟩
  · obtain ⟨b, g, hw', hc⟩ := wrong_any p w hp
    obtain ⟨rfl, rfl⟩ := hw.uniq hw'
    exact hc
  · obtain ⟨b, g, hw', hc⟩ := refWrong_any p w hp
    obtain ⟨rfl, rfl⟩ := hw.uniq hw'
    exact hc

theorem fill_of (p : ByteArray) (hv : ValidR p) (A : Option Addr) (cap : Nat) (w : World) (hs : SlC w A (cnt p) (cel p)) :
    Calls Tryz.prog 106 #[.int .i64 p.size, .slice A (cnt p) cap] w fun e w' => e = .returned (.tuple #[.string p, .int .i64 0]) ∧ Ext w w' := by
  have hz := sizes_of hv
  have hg := cel_good hv
  have := fill_any p.size A cap (cnt p) (cel p) w (by omega) (by omega) (cnt_le hv) hs (cel_size hv) (fun i hi => by have := good_at hg i hi; omega)
  rw [fill_cells hv] at this
  exact this
end
section
open Go.RowKit
set_option linter.unusedVariables false
set_option maxRecDepth 20000

/-- what Load gives: a place, an error, the size and the pages -/
def LdR := Int × Int × Option (Nat × List ByteArray)
/-- the first wrong byte of bytes that are no page, and the error -/
theorem wrongR_ex (p : ByteArray) (hp : p.size ≤ 140737488355328) : ∃ r : Nat × Nat, WrongR p r.1 r.2 := by
  obtain ⟨a, e, h, _⟩ := wrong_any p default hp
  exact ⟨(a, e), h⟩
noncomputable def wrongN (p : ByteArray) (hp : p.size ≤ 140737488355328) : Nat × Nat := Classical.choose (wrongR_ex p hp)
theorem wrongN_is (p : ByteArray) (hp : p.size ≤ 140737488355328) : WrongR p (wrongN p hp).1 (wrongN p hp).2 := Classical.choose_spec (wrongR_ex p hp)
theorem wrong_prog (p : ByteArray) (hp : p.size ≤ 140737488355328) (w : World) :
    Calls Tryz.prog 73 #[.string p] w fun e w' => e = .returned (.tuple #[.int .i64 (wrongN p hp).1, .int .i64 (wrongN p hp).2]) ∧ Ext w w' := by
  obtain ⟨a, e, h, hc⟩ := wrong_any p w hp
  obtain ⟨rfl, rfl⟩ := h.uniq (wrongN_is p hp)
  exact hc
theorem wrongN_le (p : ByteArray) (hp : p.size ≤ 140737488355328) : (wrongN p hp).1 ≤ p.size := by
  have h := wrongN_is p hp
  rcases h with ⟨_, ha, _⟩ | ⟨_, _, ha, _⟩ | ⟨hh, ⟨k, hk, _, _, ha⟩, _⟩ | ⟨hh, _, _, ha, _⟩ | ⟨_, _, _, ⟨i, h1, h2, _, _, ha⟩, _⟩ | ⟨_, _, _, _, ha, _⟩
  · omega
  · omega
  · have := hh.2.2; omega
  · have := hh.2.2; omega
  · have := (topF_in p (by assumption : headR p).2.2 _ (by assumption)).2
    omega
  · omega
def markB (i : Nat) : Nat := [65, 82, 69, 65].getD i 0
/-- page i of an image, as it lies there -/
def pageAt (s : ByteArray) (n size i : Nat) : ByteArray := s.extract (8 + n + i * size) (8 + n + i * size + size)
open Classical in
noncomputable def levS (s : ByteArray) (n size : Nat) (l : List ByteArray) : Nat → Nat → LdR
  | 0, i => if 8 + n + n * size < s.size then (((8 + n + n * size : Nat) : Int), 12, none) else (0, 0, some (size, l))
  | d + 1, i => if bt s (8 + i) = levP size (nthB l i) then levS s n size l d (i + 1) else (((8 + i : Nat) : Int), 12, none)
open Classical in
noncomputable def pageS (s : ByteArray) (hs : s.size ≤ 140737488355328) (n size : Nat) : Nat → Nat → List ByteArray → LdR
  | 0, i, l => levS s n size l n 0
  | d + 1, i, l => if s.size < 8 + n + i * size + size then ((s.size : Int), 12, none)
    else if ValidR (pageAt s n size i) then pageS s hs n size d (i + 1) (l ++ [pageAt s n size i])
    else (((8 + n + i * size : Nat) : Int) + ((wrongN (pageAt s n size i) (by unfold pageAt; rw [ByteArray.size_extract]; omega)).1 : Int), 12, none)
open Classical in
noncomputable def headS (s : ByteArray) (hs : s.size ≤ 140737488355328) : LdR :=
  if s.size < 6 then ((s.size : Int), 12, none) else if sizeB (twoF s 4) = false then (4, 12, none) else if s.size < 8 then ((s.size : Int), 12, none)
  else if ¬ (1 ≤ twoF s 6 ∧ twoF s 6 ≤ 200) then (6, 12, none) else pageS s hs (twoF s 6) (twoF s 4) (twoF s 6) 0 []
open Classical in
noncomputable def markS (s : ByteArray) (hs : s.size ≤ 140737488355328) : Nat → Nat → LdR
  | 0, i => headS s hs
  | d + 1, i => if i < s.size ∧ bt s i = markB i then markS s hs d (i + 1) else ((i : Int), 12, none)
noncomputable def loadF (s : ByteArray) (hs : s.size ≤ 140737488355328) : LdR := if 900000 < s.size then (0, 3, none) else markS s hs 4 0

section
variable {s : ByteArray} {hs : s.size ≤ 140737488355328} {n size d i : Nat} {l : List ByteArray}
theorem markS_yes (h1 : i < s.size) (h2 : bt s i = markB i) : markS s hs (d + 1) i = markS s hs d (i + 1) := if_pos ⟨h1, h2⟩
theorem markS_no (h : ¬ (i < s.size ∧ bt s i = markB i)) : markS s hs (d + 1) i = ((i : Int), 12, none) := if_neg h
theorem head_six (h : s.size < 6) : headS s hs = ((s.size : Int), 12, none) := if_pos h
theorem head_size (h : ¬ s.size < 6) (h1 : sizeB (twoF s 4) = false) : headS s hs = (4, 12, none) := (if_neg h).trans (if_pos h1)
theorem head_eight (h : ¬ s.size < 6) (h1 : ¬ sizeB (twoF s 4) = false) (h2 : s.size < 8) : headS s hs = ((s.size : Int), 12, none) := (if_neg h).trans ((if_neg h1).trans (if_pos h2))
theorem head_count (h : ¬ s.size < 6) (h1 : ¬ sizeB (twoF s 4) = false) (h2 : ¬ s.size < 8) (h3 : ¬ (1 ≤ twoF s 6 ∧ twoF s 6 ≤ 200)) : headS s hs = (6, 12, none) := (if_neg h).trans ((if_neg h1).trans ((if_neg h2).trans (if_pos h3)))
theorem head_ok (h : ¬ s.size < 6) (h1 : ¬ sizeB (twoF s 4) = false) (h2 : ¬ s.size < 8) (h3 : 1 ≤ twoF s 6 ∧ twoF s 6 ≤ 200) : headS s hs = pageS s hs (twoF s 6) (twoF s 4) (twoF s 6) 0 [] :=
  (if_neg h).trans ((if_neg h1).trans ((if_neg h2).trans (if_neg (fun h => h h3))))
theorem pageAt_le (s : ByteArray) (hs : s.size ≤ 140737488355328) (n size i : Nat) : (pageAt s n size i).size ≤ 140737488355328 := by unfold pageAt; rw [ByteArray.size_extract]; omega
theorem page_short (h : s.size < 8 + n + i * size + size) : pageS s hs n size (d + 1) i l = ((s.size : Int), 12, none) := if_pos h
theorem page_yes (h : ¬ s.size < 8 + n + i * size + size) (h1 : ValidR (pageAt s n size i)) : pageS s hs n size (d + 1) i l = pageS s hs n size d (i + 1) (l ++ [pageAt s n size i]) := (if_neg h).trans (if_pos h1)
theorem page_no (h : ¬ s.size < 8 + n + i * size + size) (h1 : ¬ ValidR (pageAt s n size i)) : pageS s hs n size (d + 1) i l = (((8 + n + i * size : Nat) : Int) + ((wrongN (pageAt s n size i) (pageAt_le s hs n size i)).1 : Int), 12, none) := (if_neg h).trans (if_neg h1)
theorem lev_yes (h : bt s (8 + i) = levP size (nthB l i)) : levS s n size l (d + 1) i = levS s n size l d (i + 1) := if_pos h
theorem lev_no (h : ¬ bt s (8 + i) = levP size (nthB l i)) : levS s n size l (d + 1) i = (((8 + i : Nat) : Int), 12, none) := if_neg h
theorem lev_long (h : 8 + n + n * size < s.size) : levS s n size l 0 i = (((8 + n + n * size : Nat) : Int), 12, none) := if_pos h
theorem lev_end (h : ¬ 8 + n + n * size < s.size) : levS s n size l 0 i = (0, 0, some (size, l)) := if_neg h
end

theorem load1_any (v : Nat) (w : World) (hv : v ≤ 65535) :
    Calls Tryz.prog 70 #[.int .i64 v] w fun e w' => e = .returned (.bool (sizeB v)) ∧ Ext w w' := by
  have hN := fun W => new_any v W (by omega) (by omega)
  cases hz : sizeB v with
  | true =>
    obtain ⟨_, _, _, e⟩ := newP_ok v hz
    rw [e] at hN
    go_enter Tryz.func70, Tryz.ntmps70
    go_wp2_with (go_at_call 71; refine (hN _).mono ?_; rintro e w1 ⟨rfl, hx1⟩)
    go_ret
    exact ⟨rfl, hx1⟩
  | false =>
    have e : (fillRes v 0 fun _ => ((0, ⟨#[]⟩) : Cel)) = (⟨#[]⟩, 7) := by
      have hA : ¬ AnyBad (fun _ => ((0, ⟨#[]⟩) : Cel)) 0 := fun ⟨i, hi, _⟩ => by omega
      simp [fillRes, hA, hz]
    rw [e] at hN
    go_enter Tryz.func70, Tryz.ntmps70
    go_wp2_with (go_at_call 71; refine (hN _).mono ?_; rintro e w1 ⟨rfl, hx1⟩)
    go_ret
    exact ⟨rfl, hx1⟩
theorem load2_any (v : Nat) (w : World) (hv : v ≤ 65535) :
    Calls Tryz.prog 72 #[.int .i64 v] w fun e w' => e = .returned (.bool (decide (1 ≤ v ∧ v ≤ 200))) ∧ Ext w w' := by
  by_cases h : 1 ≤ v ∧ v ≤ 200
  · rw [decide_eq_true h]
    obtain ⟨h1, h2⟩ := h
    have c1 : (1 : Int) ≤ v := by omega
    have c2 : (v : Int) ≤ 200 := by omega
    go_enter Tryz.func72, Tryz.ntmps72
    go_wp2
    go_ret
    exact ⟨rfl, Ext.refl w⟩
  · rw [decide_eq_false h]
    by_cases h1 : 1 ≤ v
    · have c1 : (1 : Int) ≤ v := by omega
      have c2 : ¬ (v : Int) ≤ 200 := by omega
      clear h
      go_enter Tryz.func72, Tryz.ntmps72
      go_wp2
      go_ret
      exact ⟨rfl, Ext.refl w⟩
    · have c1 : ¬ (1 : Int) ≤ v := by omega
      clear h
      go_enter Tryz.func72, Tryz.ntmps72
      go_wp2
      go_ret
      exact ⟨rfl, Ext.refl w⟩
end
end Go.Proofs.YtnileonlabpbpaaGreat
