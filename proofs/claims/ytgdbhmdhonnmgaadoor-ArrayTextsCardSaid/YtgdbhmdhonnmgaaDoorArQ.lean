/- Arrays: slices.Clone of a block, an element put into a block; own arrays with one block more; laws for a walk past a range. -/
import Derived.Test.YtgdbhmdhonnmgaaDoorArI
import Derived.Test.YtgdbhmdhonnmgaaDoorArP
import Derived.Lib.BufferMore
import Derived.Shelf.Abstract
namespace Go.Proofs.YtgdbhmdhonnmgaaDoor
open Go.RowKit Go.Maps
set_option linter.unusedVariables false
set_option maxRecDepth 20000
set_option linter.unusedSimpArgs false
set_option maxRecDepth 20000
attribute [local go_sem] Oper.semAt_some

theorem wpAt_mono {f : FuncId} {P : Program} {Q Q' : Exit → Act → World → Prop} {a : Act} {w : World} {c : Code} (h : wpAt f P c Q' a w) (hm : ∀ e a w, Q' e a w → Q e a w) : wpAt f P c Q a w := by
  intro b k cs hro hb
  obtain ⟨e, a', w', hq, harr⟩ := h b k cs hro hb
  exact ⟨e, a', w', hm _ _ _ hq, harr⟩

/-- a walk that ends in a known frame -/
theorem wpAt_to {f : FuncId} {P : Program} {Q : Exit → Act → World → Prop} {a : Act} {w : World} {c : Code} (a1 : Act) (F : World → Prop) (h : wpAt f P c (fun e a' W => e = .normal ∧ a' = a1 ∧ F W) a w) (hm : ∀ W, F W → Q .normal a1 W) : wpAt f P c Q a w :=
  wpAt_mono h (by rintro e a' W ⟨rfl, rfl, hF⟩; exact hm W hF)

theorem grown_frozen {w w' : World} {row : Option Nat} {a : Addr} {v : Value} (hg : w.grownBy w' row) (h : w.cell? a = some v) (hf : w.frozen? a = false) (hne : some a.block ≠ row) : w'.frozen? a = false :=
  (World.frozen?_of_block (hg.block a.block (block_lt h) hne)).trans hf
theorem Ext.frozen {w w' : World} {a : Addr} {v : Value} (hx : Ext w w') (h : w.cell? a = some v) (hf : w.frozen? a = false) : w'.frozen? a = false :=
  (World.frozen?_of_block (hx.block (block_lt h))).trans hf

theorem slI_some {w : World} {P : Option Addr} {cap : Nat} {l : List Int} (h : SlI w P cap l) (hl : l ≠ []) : ∃ b off, P = some ⟨b, off, none⟩ := by
  obtain ⟨b, off, e, _⟩ := h.at_ 0 (List.length_pos_iff.2 hl)
  exact ⟨b, off, e⟩
theorem TightB.of {w : World} {base : Nat} {v : Value} {l : List Int} (h : w.ownsRow base 3 1 v l.length (intVs l)) (hl : l ≠ []) : ∃ g c, v = .slice (some ⟨g, 0, none⟩) l.length c ∧ TightB w base ⟨g, c, l⟩ := by
  rcases h.2 with ⟨_, h0⟩ | ⟨g, cap, cur, rfl, _⟩
  · exact absurd (List.length_eq_zero_iff.1 h0) hl
  · exact ⟨g, cap, rfl, h⟩
theorem len_le_flat : ∀ (LL : List (List Int)), (∀ l ∈ LL, l ≠ []) → LL.length ≤ LL.flatten.length
  | [], _ => by simp
  | l :: r, h => by
    have h1 := len_le_flat r (fun x hx => h x (by simp [hx]))
    have h2 := List.length_pos_iff.2 (h l (by simp))
    rw [List.flatten_cons, List.length_append, List.length_cons]
    omega
theorem nthA_mid (X Y : List (List Int)) (m : List Int) : nthA (X ++ m :: Y) X.length = m := by
  simp [nthA, List.getD_eq_getElem?_getD]
theorem putAt_mid (b : Int) (X Y : List (List Int)) (m : List Int) (q p : Nat) (k : Int) (hq : X.length = q) : putAt b (X ++ m :: Y) q p k = X ++ splitF b (insI m p k) ++ Y := by
  subst hq
  have e2 : (X ++ m :: Y).drop (X.length + 1) = Y := by rw [List.append_cons]; exact List.drop_left' (by simp)
  unfold putAt
  rw [nthA_mid, List.take_left, e2]
/-- how an insertion ends -/
def InsPost (b : Int) (base : Nat) (RR : List Row) (index : Nat) (k : Int) (w : World) (e : Ending) (w' : World) : Prop :=
  ∃ v' RR', e = .returned v' ∧ OwnA w' base v' RR' ∧ RR'.map Row.l = insF b (RR.map Row.l) index k ∧ Below base w w' ∧ (index = (RR.map Row.l).flatten.length → ∃ RR0 r, RR' = RR0 ++ [r] ∧ TightB w' base r)
/-- a block cloned -/
theorem clone_any (P : Option Addr) (cap : Nat) (l : List Int) (w : World) (h : SlI w P cap l) (hl : l ≠ []) (hn : l.length ≤ 1000) :
    Calls Tryd.prog 43 #[.slice P l.length cap] w fun e w' => ∃ g c, e = .returned (.slice (some ⟨g, 0, none⟩) l.length c) ∧ TightB w' w.heap.size ⟨g, c, l⟩ ∧ Ext w w' := by
  obtain ⟨b, off, rfl⟩ := slI_some h hl
  have h1 : (w.alloc (.cells #[] 3)).ownsRow w.heap.size 3 1 (.slice (some ⟨w.heap.size, 0, none⟩) 0 0) ([] : List Int).length (intVs []) := World.ownsRow_made w #[] 0 (Nat.le_refl _) (by simp [maxLen]) (by simp)
  have hx1 : Ext w (w.alloc (.cells #[] 3)) := (Ext.refl w).alloc _
  obtain ⟨v', w', hrun, hown, hg, hb⟩ := append_ints (w.alloc (.cells #[] 3)) w.heap.size (.slice (some ⟨w.heap.size, 0, none⟩) 0 0) [] l b off cap h1 (h.ext hx1) (by simp; omega) (by simp)
  rw [List.nil_append] at hown
  obtain ⟨g, c, rfl, hT⟩ := TightB.of hown hl
  have hx : Ext w w' := Below.grown hx1 hg (by simp) (fun k hk => by simp [Value.ownBlock] at hk; omega)
  have hnil : ∀ W, (binOp .eql 31 (.slice (some ⟨b, off, none⟩) l.length cap) (.slice none 0 0)).run Tryd.prog W = .ok (.bool false) W := fun W => Lib.run_eql_slice_some_nil W _ _ _ Tryd.underlying31
  clear h1 hown hb hx1
  go_enter Tryd.func43, Tryd.ntmps43
  go_wp2_with (at_builtin; refine Lib.wpList_append_run _ rfl _ _ _ _ rfl _ _ rfl rfl _ _ hrun ?_)
  go_ret
  exact ⟨g, c, rfl, hT, hx⟩
/-- a key put into a block -/
theorem insert_row (base : Nat) (r : Row) (p : Nat) (k : Int) (vb : Nat) (w : World) (hT : TightB w base r) (hp : p ≤ r.l.length) (hn : r.l.length ≤ 1000) (hbase : base ≤ w.heap.size) (hv : w.heap[vb]? = some (.cells #[.int .i64 k] 3 (0, 0))) (hne : r.h ≠ vb) :
    Calls Tryd.prog 41 #[.slice (some ⟨r.h, 0, none⟩) r.l.length r.c, .int .i64 p, .slice (some ⟨vb, 0, none⟩) 1 1] w fun e w' =>
      ∃ h c, e = .returned (.slice (some ⟨h, 0, none⟩) (r.l.length + 1) c) ∧ TightB w' base ⟨h, c, insI r.l p k⟩ ∧ w.grownBy w' (some r.h) ∧ (h = r.h ∨ h = w.heap.size) := by
  have e := intVs_length r.l
  have h1 := insertI (intVs r.l) r.v base p (.int .i64 k) vb w (by omega) (intVs_one _) rfl (by omega) hbase (by rw [e]; exact hT) hv (by simp only [Row.v, Value.ownBlock]; exact fun e => hne (by injection e))
  refine h1.mono ?_
  rintro e' w' ⟨v', rfl, ho, hg, hb⟩
  rw [e, intVs_ins] at ho
  have e2 : r.l.length + 1 = (insI r.l p k).length := (insI_length hp).symm
  rw [e2] at ho ⊢
  obtain ⟨h, c, rfl, hT'⟩ := TightB.of ho (fun e => by rw [← List.length_eq_zero_iff] at e; omega)
  refine ⟨h, c, rfl, hT', hg, ?_⟩
  rcases hb with e | e
  · exact .inl (by simpa [Value.ownBlock, Row.v] using e)
  · exact .inr (by simpa [Value.ownBlock] using e)

section
variable {w w' : World} {base : Nat} {v : Value} {RR : List Row}
theorem TightB.down {r : Row} {b' : Nat} (h : TightB w base r) (hb : b' ≤ base) : TightB w b' r := rowBase h hb
theorem InB.down {r : Row} {b' : Nat} (h : InB w base r) (hb : b' ≤ base) : InB w b' r := ⟨Nat.le_trans hb h.1, h.2⟩
theorem OwnA.down {b' : Nat} (h : OwnA w base v RR) (hb : b' ≤ base) : OwnA w b' v RR := ⟨rowBase h.out hb, fun r hr => (h.row r hr).down hb, h.apart, h.far⟩
theorem OwnA.ge (h : OwnA w base v RR) {r : Row} (hr : r ∈ RR) : base ≤ r.h := (h.row r hr).1
theorem OwnA.lt (h : OwnA w base v RR) {r : Row} (hr : r ∈ RR) : r.h < w.heap.size := (h.row r hr).lt
theorem OwnA.nil (w : World) (base : Nat) : OwnA w base (.slice none 0 0) [] := ⟨World.ownsRow_nil w base _ 1, fun r hr => (by cases hr), List.nodup_nil, fun r hr => (by cases hr)⟩
/-- any array of the call's own, read -/
theorem OwnA.read (h : OwnA w base v RR) : ∃ P cap Q C, v = .slice P (RR.map Row.l).length cap ∧ SlA w P cap Q C (RR.map Row.l) := by
  rcases h.cases with ⟨rfl, rfl⟩ | ⟨g, cap, rfl, _, _, _⟩
  · exact ⟨none, 0, fun _ => none, fun _ => 0, rfl, ⟨fun i hi => by simp at hi, fun i hi => by simp at hi, Nat.le_refl _, by omega⟩⟩
  · exact ⟨_, cap, _, _, by simp, h.slA⟩
/-- the block of another kind of object is none of the array's -/
theorem OwnA.ne {k : Nat} {o : Obj} (h : OwnA w base v RR) (hk : w.heap[k]? = some o) (ho : ∀ cs t fr, o ≠ .cells cs t fr) : v.ownBlock ≠ some k ∧ ∀ r ∈ RR, r.h ≠ k := by
  refine ⟨fun e => ?_, fun r hr e => ?_⟩
  · rcases h.out.2 with ⟨hv, _⟩ | ⟨g, cap, cur, hv, _, hg, _⟩
    · rw [hv] at e; simp [Value.ownBlock] at e
    · rw [hv] at e
      simp [Value.ownBlock] at e
      subst e
      rw [hg] at hk
      injection hk with hk
      exact ho _ _ _ hk.symm
  · obtain ⟨_, cur, hg, _⟩ := h.row r hr
    rw [e, hk] at hg
    injection hg with hg
    exact ho _ _ _ hg
theorem OwnA.putD {k : Nat} {o o' : Obj} (h : OwnA w base v RR) (hk : w.heap[k]? = some o) (ho : ∀ cs t fr, o ≠ .cells cs t fr) : OwnA (w.putObj k o') base v RR :=
  h.kept (grownBy_putObj' w k o') (h.ne hk ho).1 (h.ne hk ho).2
theorem TightB.kept {k : Nat} {r : Row} (h : TightB w base r) (hu : Upd w k w') (hne : r.h ≠ k) : TightB w' base r :=
  h.same (hu.block _ h.inB.lt (fun e => hne (by injection e)))
theorem TightB.ext {r : Row} (h : TightB w base r) (hx : Ext w w') : TightB w' base r := h.same (hx.block h.inB.lt)
/-- one block is put behind the others: by an append of one -/
theorem OwnA.snoc {r' : Row} {v' : Value} (h : OwnA w base v RR) (hr : InB w base r') (hne : ∀ x ∈ RR, x.h ≠ r'.h) (ho : w'.ownsRow base 31 1 v' (RR.length + 1) (RR.map Row.v ++ [r'.v]))
    (hnv : v.ownBlock ≠ some r'.h) (hg : w.grownBy w' v.ownBlock) (hb : v'.ownBlock = v.ownBlock ∨ ∃ k, v'.ownBlock = some k ∧ w.heap.size ≤ k) : OwnA w' base v' (RR ++ [r']) :=
  OwnA.ins (A := RR) (B := []) (by simpa using h) hr (by simpa using hne) hnv (by simpa using ho) hg hb
/-- the head of a block, as a block -/
theorem InB.head {r : Row} (h : InB w base r) (n : Nat) (hn : n ≤ r.l.length) : InB w base ⟨r.h, n, r.l.take n⟩ := by
  obtain ⟨hb, cur, hc, h1, h2, h3, ht⟩ := h
  have e : (r.l.take n).length = n := by rw [List.length_take]; omega
  refine ⟨hb, cur, hc, by simp only [e]; omega, by simp only; omega, by simp only; omega, ?_⟩
  simp only [e]
  rw [← intVs_take, ← ht, List.take_take, Nat.min_eq_left hn]
/-- a block put between, by slices.Insert -/
theorem OwnA.insert {A B : List Row} {r2 : Row} {vb : Nat} (h : OwnA w base v (A ++ B)) (hr2 : TightB w base r2) (hne : ∀ x ∈ A ++ B, x.h ≠ r2.h) (hnv : v.ownBlock ≠ some r2.h) (hvb : w.heap[vb]? = some (.cells #[r2.v] 31 (0, 0))) (hnb : v.ownBlock ≠ some vb) (hbase : base ≤ w.heap.size) (hn : (A ++ B).length ≤ 100000) :
    Calls Tryd.prog 44 #[v, .int .i64 A.length, .slice (some ⟨vb, 0, none⟩) 1 1] w fun e w' => ∃ v', e = .returned v' ∧ OwnA w' base v' (A ++ r2 :: B) ∧ TightB w' base r2 ∧ w.grownBy w' v.ownBlock := by
  have ho := h.out
  have hl : ((A ++ B).map Row.v).length = (A ++ B).length := List.length_map ..
  rw [← hl] at ho
  have h1 := insertJ ((A ++ B).map Row.v) v base A.length r2.v vb w (by omega) (rowVs_one _) rfl (by rw [hl]; simp) hbase ho hvb hnb
  refine h1.mono ?_
  rintro e w' ⟨v', rfl, ho', hg, hb⟩
  have e1 : ((A ++ B).map Row.v).take A.length ++ r2.v :: ((A ++ B).map Row.v).drop A.length = A.map Row.v ++ r2.v :: B.map Row.v := by
    rw [List.map_append, List.take_left' (by simp), List.drop_left' (by simp)]
  rw [e1, hl] at ho'
  refine ⟨v', rfl, OwnA.ins h hr2.inB hne hnv ho' hg (hb.imp id fun e => ⟨_, e, Nat.le_refl _⟩), hr2.same (hg.block _ hr2.inB.lt (fun e => hnv e.symm)), hg⟩
end
end Go.Proofs.YtgdbhmdhonnmgaaDoor
