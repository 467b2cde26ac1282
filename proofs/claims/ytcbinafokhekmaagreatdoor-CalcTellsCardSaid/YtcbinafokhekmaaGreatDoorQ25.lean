/- RowBase; ItRow; ItTab; CaRow0; CaTl (merged by group.py) -/
import Derived.Test.YtcbinafokhekmaaGreatDoorProg
import Derived.Test.YtcbinafokhekmaaGreatDoorRows
import Derived.Below
import Derived.Deep.SlicePairs
import Derived.ChangeSame
import Derived.SizedLaws
import Derived.OpenShut
import Derived.Test.YtcbinafokhekmaaGreatDoorQ02
import Derived.Deep.Slices
import Derived.Deep.Strs
import Derived.Test.YtcbinafokhekmaaGreatDoorQ04
import Derived.ProofKit
import Derived.LaidMore
import Derived.Stop.Joined
import Derived.Test.YtcbinafokhekmaaGreatDoorQ19
import Derived.Test.YtcbinafokhekmaaGreatDoorQ24
namespace Go.Proofs.YtcbinafokhekmaaGreatDoor
section
open Go.RowKit Go.WideShapes Go.ChangeShapes Go.Deep
set_option linter.unusedVariables false
set_option maxRecDepth 20000

section
variable {H : Type} {enc : TypeId × Value → H} {P : Program}
theorem post_of_below {f : Func} {s : ChangeSpec} {apart fresh handsOn again : Bool} {W W' : World} {args : Array Value} {v : Value} {ds gs : List (DataW H)} {before pa pv : List MemPlace}
    (hW : DataW.Whole enc P f.params.toList s.vars apart W args.toList ds gs before)
    (hres : ∀ (b : Nat) (sp : Nat → Bool) (hd : Bool), DataW.TrodAll enc P W' b sp hd f.resultTypes.toList (v.resultList f.resultTypes.size) (s.fn H (ds ++ gs)).results [])
    (hargs : ∀ sp : Nat → Bool, (∀ p ∈ before, sp p.block = true) → DataW.TrodAll enc P W' 0 sp true f.params.toList args.toList (s.fn H (ds ++ gs)).args pa)
    (hvars : ∀ sp : Nat → Bool, (∀ p ∈ before, sp p.block = true) → DataW.TrodVars enc P W' sp s.vars (s.fn H (ds ++ gs)).vars pv)
    (hps : before = pa ++ pv) (hb : Below W.heap.size W W')
    (hok : ∀ (j : Nat) (t : TypeId) (r : Value), f.resultTypes[j]? = some t → (v.resultList f.resultTypes.size)[j]? = some r → Value.okWide P W' .any 0 t r) :
    s.post enc P f apart fresh handsOn again W args v W' := by
  have hlt : ∀ p ∈ before, p.block < W.heap.size := fun p hp => hW.lt p hp
  have hold : ∀ p ∈ before, (fun b => decide (b < W.heap.size)) p.block = true := fun p hp => by simpa using hlt p hp
  refine ⟨ds, gs, before, [], pa, pv, hW, hres _ _ _, hargs _ hold, hvars _ hold, World.keptBut_mono (fun p hp => ⟨hp, ?_⟩) (hb.frame (· ∈ before)), fun _ => ?_⟩
  · rw [hps, List.mem_append] at hp
    exact Or.inr hp
  · obtain ⟨_, _, _, _, _, hz, hn⟩ := hW
    refine ⟨hok, _, _, ([] ++ pa) ++ pv, ⟨[] ++ pa, pv, trodAll_append (hargs _ (fun _ _ => rfl)) (hres _ _ _), hvars _ (fun _ _ => rfl), rfl, ?_, ?_⟩, ?_⟩
    · intro b off hp
      have hin : MemPlace.cell b off ∈ before := by rw [hps]; simpa using hp
      rw [hb.frozen (hlt _ hin)]
      exact hz b off hin
    · intro ha
      have := hn ha
      rw [hps] at this
      simpa using this
    · intro p hp _
      rw [hps]
      simpa using hp
end

theorem own : ownKnob Tryz.prog.godebug = none := by kernel_rfl
theorem laidOut : laidOutB Tryz.prog = true := by kernel_rfl

theorem weightsAll_in {H : Type} {P : Program} {e : TypeId} : ∀ {l : List (DataW H)} {d : DataW H}, d ∈ l → ∀ n ∈ d.weights P e, n ∈ DataW.weightsAll P e l
  | c :: l, d, hd, n, hn => by
    simp only [DataW.weightsAll, List.mem_append]
    rcases List.mem_cons.1 hd with h | h
    · subst h; exact .inl hn
    · exact .inr (weightsAll_in h n hn)
  | [], _, hd, _, _ => by cases hd
end
section
open Go.RowKit Go.WideShapes Go.ChangeShapes Go.ChangeAt Go.Deep
set_option linter.unusedVariables false
set_option maxRecDepth 20000
set_option linter.unusedSimpArgs false
set_option linter.unusedSectionVars false
set_option maxRecDepth 20000

/-- A slice of elements, read. -/
theorem open_slG {α : Type} {H : Type} {enc : TypeId × Value → H} {W : World} {base b0 : Nat} {r : Reach} {sp : Nat → Bool} {v : Value} {d : DataW H} {ps : List MemPlace} {ts : List TypeId} {ds : List (DataW H)} {j : Nat} {t e : TypeId} [Inhabited α]
    (cs : α → List Value) (ok : α → Prop) (k by_ : Nat) (hk : ∀ x, (cs x).length = k) (hk0 : 1 ≤ k) (ht : Tryz.prog.underlying t = some (.slice e)) (ce : Tryz.prog.cellsOf e = k) (hby : Tryz.prog.bytesOf e = by_) (hb1 : 1 ≤ by_)
    (hel : ∀ cs' n y, DataW.trod enc Tryz.prog W base sp true n e cs' = some y → cs'.length = k → ∃ x, cs' = cs x ∧ ((∀ m ∈ y.1.weights Tryz.prog e, m ≤ reachBytes) → ok x))
    (hval : Value.okWide Tryz.prog W r b0 t v) (h : DataW.Trod enc Tryz.prog W base sp true t v d ps)
    (hsz : (DataW.weightsEach Tryz.prog ts ds).all (· ≤ reachBytes) = true) (hj : ts[j]? = some t) (hd : ds[j]? = some d) :
    ∃ (P : Option Addr) (cap : Nat) (l : List α), v = .slice P l.length cap ∧ SlG cs W P cap l ∧ (∀ x ∈ l, ok x) ∧ l.length ≤ 140737488355328 := by
  obtain ⟨a0, len0, cap0, rfl⟩ := okWide_slice ht hval
  obtain ⟨fuel, hf⟩ := h
  have hw : ∀ n ∈ d.weights Tryz.prog t, n ≤ reachBytes := fun n hn => by
    have := List.all_eq_true.1 hsz _ (DataW.weights_mem_each hj hd n hn)
    simpa using this
  have hrl := reachBytes_lt
  rcases open_slice ht hf with ⟨h0, hx⟩ | ⟨a, len, cap, m, n, D, Pl, h0, hb, hlc, hcap, hm, hx, hi⟩
  · simp [Value.cells] at h0
    obtain ⟨rfl, rfl, rfl⟩ := h0
    exact ⟨none, 0, [], rfl, SlG.nil _ _, fun x hx => (by cases hx), by simp⟩
  · simp [Value.cells] at h0
    obtain ⟨rfl, rfl, rfl⟩ := h0
    simp only [Prod.mk.injEq] at hx
    obtain ⟨rfl, _⟩ := hx
    have hlm : len0 ≤ m := by rw [hm]; split <;> omega
    have each : ∀ i, i < len0 → ∃ y : α, ok y ∧ ∀ (q : Nat) (u : Value), (cs y)[q]? = some u → W.cell? (a.add (i * k + q)) = some u := by
      intro i hil
      obtain ⟨cs', h1, h2⟩ := hi i (by omega)
      obtain ⟨_, h3, h4⟩ := World.cells?_some h1
      rw [ce] at h3 h4
      obtain ⟨x, rfl, hok⟩ := hel cs' n _ h2 h3
      refine ⟨x, hok fun q hq => hw q ?_, fun q u hq => ?_⟩
      · simp only [DataW.weights, ht]
        exact List.mem_cons_of_mem _ (List.mem_append.2 (.inl (weightsAll_in (d := D i) (List.mem_map.2 ⟨i, List.mem_range.2 hil, rfl⟩) _ hq)))
      · have hq' : q < k := by rw [← hk x]; exact (List.getElem?_eq_some_iff.1 hq).1
        have := h4 q hq'
        rw [hq] at this
        rw [← this, add_add]
    obtain ⟨g, hg⟩ := choose_lt each
    refine ⟨some a, cap0, (List.range len0).map g, by simp, ⟨fun i x hix => ?_, by simpa using hlc, by simpa only [maxLen] using hcap⟩, fun x hx => ?_, ?_⟩
    · have hil : i < len0 := by
        have := (List.getElem?_eq_some_iff.1 hix).1
        simpa using this
      have hx : x = g i := by
        simp [hil] at hix
        exact hix.symm
      subst hx
      obtain ⟨_, hc⟩ := hg i hil
      obtain ⟨b, off, spot⟩ := a
      have hspot : spot = none := by
        obtain ⟨u, hu⟩ : ∃ u, (cs (g 0))[0]? = some u := by
          have : 0 < (cs (g 0)).length := by rw [hk]; omega
          exact ⟨_, List.getElem?_eq_getElem this⟩
        simpa [Addr.add] using World.cell?_spot ((hg 0 (by omega)).2 0 u hu)
      subst hspot
      refine ⟨b, off, rfl, fun q u hq => ?_⟩
      have := hc q u hq
      rw [Go.WideShapes.add_plain, ← hk (g i)] at this
      rw [← this]
      congr 2
      omega
    · simp only [List.mem_map, List.mem_range] at hx
      obtain ⟨i, hil, rfl⟩ := hx
      exact (hg i hil).1
    · have h1 := hw _ (by simp only [DataW.weights, ht]; exact List.mem_cons_self ..)
      rw [hby] at h1
      simp at h1
      have : len0 + (m - len0) ≤ (len0 + (m - len0)) * by_ := Nat.le_mul_of_pos_right _ hb1
      simp
      omega

def OkI (x : Int) : Prop := -9223372036854775808 ≤ x ∧ x ≤ 9223372036854775807
theorem okI_of {x : Int} (h : (Lit.int .i64 x).wf = true) : OkI x := by
  simp [Lit.wf, IntKind.min, IntKind.max, IntKind.signed, IntKind.bits] at h
  unfold OkI
  omega
def OkS (s : ByteArray) : Prop := s.size ≤ 140737488355328
def OkV (x : Vl) : Prop := OkI x.1 ∧ OkI x.2.1 ∧ OkS x.2.2
def OkT (x : It) : Prop := OkS x.1 ∧ OkI x.2.1 ∧ OkI x.2.2.1 ∧ OkI x.2.2.2.1 ∧ OkI x.2.2.2.2
section
variable {H : Type} {enc : TypeId × Value → H} {W : World} {base b0 : Nat} {r : Reach} {sp : Nat → Bool} {v : Value} {d : DataW H} {ps : List MemPlace} {ts : List TypeId} {ds : List (DataW H)} {j : Nat}
theorem one_cell {t : TypeId} (h : Tryz.prog.cellsOf t = 1) {cs : List Value} {k : Nat} {u : Value} (hk : cs[k]? = some u) : (cs.drop k).take (Tryz.prog.cellsOf t) = [u] := by
  rw [h]
  obtain ⟨hl, rfl⟩ := List.getElem?_eq_some_iff.1 hk
  rw [List.drop_eq_getElem_cons hl]
  rfl
theorem trod_five {P : Program} {t : TypeId} {f0 f1 f2 f3 f4 : Field} {fuel : Nat} {cs : List Value} {x : DataW H × List MemPlace} {w : World} {hd : Bool} (ht : P.underlying t = some (.struct #[f0, f1, f2, f3, f4])) (h : DataW.trod enc P w base sp hd fuel t cs = some x) :
    ∃ y0 y1 y2 y3 y4 n, x.1 = .agg [y0.1, y1.1, y2.1, y3.1, y4.1] ∧ DataW.trod enc P w base sp hd n f0.type ((cs.drop f0.offset).take (P.cellsOf f0.type)) = some y0 ∧ DataW.trod enc P w base sp hd n f1.type ((cs.drop f1.offset).take (P.cellsOf f1.type)) = some y1 ∧
      DataW.trod enc P w base sp hd n f2.type ((cs.drop f2.offset).take (P.cellsOf f2.type)) = some y2 ∧ DataW.trod enc P w base sp hd n f3.type ((cs.drop f3.offset).take (P.cellsOf f3.type)) = some y3 ∧ DataW.trod enc P w base sp hd n f4.type ((cs.drop f4.offset).take (P.cellsOf f4.type)) = some y4 := by
  obtain ⟨xs, n, _, rfl, hl, hlen, hf⟩ := DataW.trod_struct ht h
  match xs, hlen with
  | [y0, y1, y2, y3, y4], _ => exact ⟨y0, y1, y2, y3, y4, n, by simp, by simpa using hf 0 f0 rfl, by simpa using hf 1 f1 rfl, by simpa using hf 2 f2 rfl, by simpa using hf 3 f3 rfl, by simpa using hf 4 f4 rfl⟩
/-- A row of values, read. -/
theorem open_row (hval : Value.okWide Tryz.prog W r b0 33 v) (h : DataW.Trod enc Tryz.prog W base sp true 33 v d ps)
    (hsz : (DataW.weightsEach Tryz.prog ts ds).all (· ≤ reachBytes) = true) (hj : ts[j]? = some 33) (hd : ds[j]? = some d) :
    ∃ (P : Option Addr) (cap : Nat) (l : List Vl), v = .slice P l.length cap ∧ SlV W P cap l ∧ (∀ x ∈ l, OkV x) ∧ l.length ≤ 140737488355328 := by
  refine open_slG Vl.cells OkV 3 32 (fun x => rfl) (by omega) Tryz.underlying33 (by kernel_rfl) (by kernel_rfl) (by omega) (fun cs' n y h hl => ?_) hval h hsz hj hd
  obtain ⟨y0, y1, y2, n', rfl, _, t0, t1, t2⟩ := trod_struct3 Tryz.underlying68 h
  match cs', hl with
  | [v0, v1, v2], _ =>
    rw [one_cell (by kernel_rfl) (rfl : [v0, v1, v2][0]? = some v0)] at t0
    rw [one_cell (by kernel_rfl) (rfl : [v0, v1, v2][1]? = some v1)] at t1
    rw [one_cell (by kernel_rfl) (rfl : [v0, v1, v2][2]? = some v2)] at t2
    obtain ⟨x0, a0, c0, w0⟩ := DataW.trod_int (k := .i64) Tryz.underlying3 t0
    obtain ⟨x1, a1, c1, w1⟩ := DataW.trod_int (k := .i64) Tryz.underlying3 t1
    obtain ⟨s, a2, c2, _⟩ := DataW.trod_string Tryz.underlying9 t2
    simp only [List.cons.injEq, and_true] at a0 a1 a2
    subst a0 a1 a2 c0 c1 c2
    refine ⟨(x0, x1, s), rfl, fun hq => ⟨okI_of w0, okI_of w1, ?_⟩⟩
    have h1 := hq s.data.toList.length (by simp [DataW.weights, Tryz.underlying68, DataW.weightsEach])
    have : s.size = s.data.toList.length := by simp
    have hr := reachBytes_lt
    show s.size ≤ _
    omega

/-- Names, read. -/
theorem open_names (hval : Value.okWide Tryz.prog W r b0 109 v) (h : DataW.Trod enc Tryz.prog W base sp true 109 v d ps)
    (hsz : (DataW.weightsEach Tryz.prog ts ds).all (· ≤ reachBytes) = true) (hj : ts[j]? = some 109) (hd : ds[j]? = some d) :
    ∃ (P : Option Addr) (cap : Nat) (l : List ByteArray), v = .slice P l.length cap ∧ SlS W P cap l ∧ (∀ x ∈ l, OkS x) ∧ l.length ≤ 140737488355328 := by
  refine open_slG (fun s => [.string s]) OkS 1 16 (fun x => rfl) (by omega) Tryz.underlying109 (by kernel_rfl) (by kernel_rfl) (by omega) (fun cs' n y h hl => ?_) hval h hsz hj hd
  match cs', hl with
  | [v0], _ =>
    obtain ⟨s, a0, c0, _⟩ := DataW.trod_string Tryz.underlying9 h
    simp only [List.cons.injEq, and_true] at a0
    subst a0 c0
    refine ⟨s, rfl, fun hq => ?_⟩
    have h1 := hq s.data.toList.length (by simp [DataW.weights])
    have : s.size = s.data.toList.length := by simp
    have hr := reachBytes_lt
    show s.size ≤ _
    omega
end
/-- What came in reads behind the call as it did. -/
theorem backV {H : Type} {enc : TypeId × Value → H} {W W' : World} {v : Value} {d : DataW H} {ps : List MemPlace} (h : DataW.Trod enc Tryz.prog W 0 (fun _ => true) true 33 v d ps) (hb : Below W.heap.size W W')
    (hlt : ∀ x ∈ ps, x.block < W.heap.size) (sp : Nat → Bool) (hsp : ∀ x ∈ ps, sp x.block = true) : DataW.Trod enc Tryz.prog W' 0 sp true 33 v d ps :=
  WideElems.Trod_stays laidOut (by kernel_rfl) (of_decide_eq_true (by kernel_rfl)) h (fun x hx => hb.same (hlt x hx)) hsp

theorem backS {H : Type} {enc : TypeId × Value → H} {W W' : World} {v : Value} {d : DataW H} {ps : List MemPlace} (h : DataW.Trod enc Tryz.prog W 0 (fun _ => true) true 109 v d ps) (hb : Below W.heap.size W W')
    (hlt : ∀ x ∈ ps, x.block < W.heap.size) (sp : Nat → Bool) (hsp : ∀ x ∈ ps, sp x.block = true) : DataW.Trod enc Tryz.prog W' 0 sp true 109 v d ps :=
  WideElems.Trod_stays laidOut (by kernel_rfl) (of_decide_eq_true (by kernel_rfl)) h (fun x hx => hb.same (hlt x hx)) hsp
end
section
open Go.RowKit Go.WideShapes Go.ChangeShapes Go.ChangeAt Go.Deep
set_option linter.unusedVariables false
set_option maxRecDepth 20000
set_option linter.unusedSimpArgs false
set_option linter.unusedSectionVars false
set_option maxRecDepth 100000

abbrev laid3 : List (String × DataW Unit) := [("math/bits.deBruijn32tab", Rows.laid_math_bits_deBruijn32tab), ("math/bits.deBruijn64tab", Rows.laid_math_bits_deBruijn64tab), ("internal/strconv.uint64pow10", Rows.laid_internal_strconv_uint64pow10)]
theorem pow10_data : (Rows.laid_internal_strconv_uint64pow10 : DataW Unit) = Lib.tabData .u64 Lib.pow10Tab := by rfl
theorem tab_of_laid {W : World} (h : laidMetH Tryz.prog laid3 W) : Tab W := by
  rw [MakeChecks.laidMetH_plain _ _ _ (by kernel_rfl)] at h
  obtain ⟨ps, ⟨g0, t0, cs0, f0, p0, q0, hg0, ht0, hv0, hd0, ⟨g1, t1, cs1, f1, p1, q1, hg1, ht1, hv1, hd1, ⟨g2, t2, cs2, f2, p2, q2, hg2, ht2, hv2, hd2, _, _⟩, _⟩, _⟩, _, _⟩ := h
  obtain rfl := Option.some.inj ((show Tryz.prog.globalNamed "internal/strconv.uint64pow10" = some 3 by kernel_rfl).symm.trans hg2)
  obtain rfl := Option.some.inj ((show (Tryz.prog.globals[3]?).map (·.type) = some 214 by kernel_rfl).symm.trans ht2)
  rw [pow10_data] at hd2
  unfold Tab Lib.TabIs
  rw [hv2, ← Lib.cells_of_tab Tryz.underlying214 Tryz.underlying124 (by kernel_rfl) (by kernel_rfl) hd2]
theorem door_met (os : Os) (args : Array Value) : laidMetH Tryz.prog laid3 ((World.doorLaid Tryz.prog 400 os).forCall (fun _ _ => 0) ⟨#[], args, []⟩).memory := by
  rw [MakeChecks.laidMetH_plain _ _ _ (by kernel_rfl)]
  exact laidMet_of_run' 8 (by kernel_rfl) (by kernel_rfl)
end
section
open Go.RowKit Go.WideShapes Go.ChangeShapes Go.ChangeAt Go.Deep
set_option linter.unusedVariables false
set_option linter.unusedSimpArgs false
set_option linter.unusedSectionVars false
set_option maxRecDepth 20000

/-- A slice of elements that lies in a cell, read. -/
theorem trod_slG {α : Type} {H : Type} {enc : TypeId × Value → H} {W : World} {base : Nat} {sp : Nat → Bool} {u : Value} {y0 : DataW H × List MemPlace} {n0 : Nat} {t e : TypeId} [Inhabited α]
    (cs : α → List Value) (ok : α → Prop) (k by_ : Nat) (hk : ∀ x, (cs x).length = k) (hk0 : 1 ≤ k) (ht : Tryz.prog.underlying t = some (.slice e)) (ce : Tryz.prog.cellsOf e = k) (hby : Tryz.prog.bytesOf e = by_) (hb1 : 1 ≤ by_)
    (hel : ∀ cs' n y, DataW.trod enc Tryz.prog W base sp true n e cs' = some y → cs'.length = k → ∃ x, cs' = cs x ∧ ((∀ m ∈ y.1.weights Tryz.prog e, m ≤ reachBytes) → ok x))
    (hf : DataW.trod enc Tryz.prog W base sp true n0 t [u] = some y0) (hw : ∀ n ∈ y0.1.weights Tryz.prog t, n ≤ reachBytes) :
    ∃ (P : Option Addr) (cap : Nat) (l : List α), u = .slice P l.length cap ∧ SlG cs W P cap l ∧ (∀ x ∈ l, ok x) ∧ l.length ≤ 140737488355328 ∧ (P = none → cap = 0) := by
  have hrl := reachBytes_lt
  rcases open_slice ht hf with ⟨h0, hx⟩ | ⟨a, len, cap, m, n, D, Pl, h0, hb, hlc, hcap, hm, hx, hi⟩
  · simp at h0
    subst h0
    exact ⟨none, 0, [], rfl, SlG.nil _ _, fun x hx => (by cases hx), by simp, fun _ => rfl⟩
  · simp at h0
    subst h0
    subst hx
    have hlm : len ≤ m := by rw [hm]; split <;> omega
    have each : ∀ i, i < len → ∃ y : α, ok y ∧ ∀ (q : Nat) (u : Value), (cs y)[q]? = some u → W.cell? (a.add (i * k + q)) = some u := by
      intro i hil
      obtain ⟨cs', h1, h2⟩ := hi i (by omega)
      obtain ⟨_, h3, h4⟩ := World.cells?_some h1
      rw [ce] at h3 h4
      obtain ⟨x, rfl, hok⟩ := hel cs' n _ h2 h3
      refine ⟨x, hok fun q hq => hw q ?_, fun q u hq => ?_⟩
      · simp only [DataW.weights, ht]
        exact List.mem_cons_of_mem _ (List.mem_append.2 (.inl (weightsAll_in (d := D i) (List.mem_map.2 ⟨i, List.mem_range.2 hil, rfl⟩) _ hq)))
      · have hq' : q < k := by rw [← hk x]; exact (List.getElem?_eq_some_iff.1 hq).1
        have := h4 q hq'
        rw [hq] at this
        rw [← this, add_add]
    obtain ⟨g, hg⟩ := choose_lt each
    refine ⟨some a, cap, (List.range len).map g, by simp, ⟨fun i x hix => ?_, by simpa using hlc, by simpa only [maxLen] using hcap⟩, fun x hx => ?_, ?_, fun e => by cases e⟩
    · have hil : i < len := by
        have := (List.getElem?_eq_some_iff.1 hix).1
        simpa using this
      have hx : x = g i := by
        simp [hil] at hix
        exact hix.symm
      subst hx
      obtain ⟨_, hc⟩ := hg i hil
      obtain ⟨b, off, spot⟩ := a
      have hspot : spot = none := by
        obtain ⟨u, hu⟩ : ∃ u, (cs (g 0))[0]? = some u := by
          have : 0 < (cs (g 0)).length := by rw [hk]; omega
          exact ⟨_, List.getElem?_eq_getElem this⟩
        simpa [Addr.add] using World.cell?_spot ((hg 0 (by omega)).2 0 u hu)
      subst hspot
      refine ⟨b, off, rfl, fun q u hq => ?_⟩
      have := hc q u hq
      rw [Go.WideShapes.add_plain, ← hk (g i)] at this
      rw [← this]
      congr 2
      omega
    · simp only [List.mem_map, List.mem_range] at hx
      obtain ⟨i, hil, rfl⟩ := hx
      exact (hg i hil).1
    · have h1 := hw _ (by simp only [DataW.weights, ht]; exact List.mem_cons_self ..)
      rw [hby] at h1
      simp at h1
      have : len + (m - len) ≤ (len + (m - len)) * by_ := Nat.le_mul_of_pos_right _ hb1
      simp
      omega
/-- a slice that lies in a cell is a slice -/
theorem trod_slV {H : Type} {enc : TypeId × Value → H} {W : World} {base : Nat} {sp : Nat → Bool} {u : Value} {y0 : DataW H × List MemPlace} {n0 : Nat} {t e : TypeId} (ht : Tryz.prog.underlying t = some (.slice e))
    (hf : DataW.trod enc Tryz.prog W base sp true n0 t [u] = some y0) : ∃ P n c, u = .slice P n c := by
  rcases open_slice ht hf with ⟨h0, hx⟩ | ⟨a, len, cap, m, n, D, Pl, h0, hb, hlc, hcap, hm, hx, hi⟩
  · simp at h0
    exact ⟨_, _, _, h0⟩
  · simp at h0
    exact ⟨_, _, _, h0⟩
theorem val_el {H : Type} {enc : TypeId × Value → H} {W : World} {base : Nat} {sp : Nat → Bool} (cs' : List Value) (n : Nat) (y : DataW H × List MemPlace) (h : DataW.trod enc Tryz.prog W base sp true n 68 cs' = some y) (hl : cs'.length = 3) :
    ∃ x : Vl, cs' = Vl.cells x ∧ ((∀ m ∈ y.1.weights Tryz.prog 68, m ≤ reachBytes) → OkV x) := by
  obtain ⟨y0, y1, y2, n', rfl, _, t0, t1, t2⟩ := trod_struct3 Tryz.underlying68 h
  match cs', hl with
  | [v0, v1, v2], _ =>
    rw [one_cell (by kernel_rfl) (rfl : [v0, v1, v2][0]? = some v0)] at t0
    rw [one_cell (by kernel_rfl) (rfl : [v0, v1, v2][1]? = some v1)] at t1
    rw [one_cell (by kernel_rfl) (rfl : [v0, v1, v2][2]? = some v2)] at t2
    obtain ⟨x0, a0, c0, w0⟩ := DataW.trod_int (k := .i64) Tryz.underlying3 t0
    obtain ⟨x1, a1, c1, w1⟩ := DataW.trod_int (k := .i64) Tryz.underlying3 t1
    obtain ⟨s, a2, c2, _⟩ := DataW.trod_string Tryz.underlying9 t2
    simp only [List.cons.injEq, and_true] at a0 a1 a2
    subst a0 a1 a2 c0 c1 c2
    refine ⟨(x0, x1, s), rfl, fun hq => ⟨okI_of w0, okI_of w1, ?_⟩⟩
    have h1 := hq s.data.toList.length (by simp [DataW.weights, Tryz.underlying68, DataW.weightsEach])
    have : s.size = s.data.toList.length := by simp
    have hr := reachBytes_lt
    show s.size ≤ _
    omega
/-- what is known of an act that came in -/
def OkAc (W : World) (x : AcR) : Prop := SlV W x.2.2.1 x.2.2.2.1 x.2.2.2.2 ∧ (x.2.2.1 = none → x.2.2.2.1 = 0) ∧ ∀ y ∈ x.2.2.2.2, OkV y
instance : Inhabited AcR := ⟨(0, 0, none, 0, [])⟩
section
variable {H : Type} {enc : TypeId × Value → H} {W : World} {base b0 : Nat} {r : Reach} {sp : Nat → Bool} {v : Value} {d : DataW H} {ps : List MemPlace} {ts : List TypeId} {ds : List (DataW H)} {j : Nat}
/-- A list of acts, read. -/
theorem open_actsC (hval : Value.okWide Tryz.prog W r b0 22 v) (h : DataW.Trod enc Tryz.prog W base sp true 22 v d ps)
    (hsz : (DataW.weightsEach Tryz.prog ts ds).all (· ≤ reachBytes) = true) (hj : ts[j]? = some 22) (hd : ds[j]? = some d) :
    ∃ (P : Option Addr) (cap : Nat) (l : List AcR), v = .slice P l.length cap ∧ SlAc W P cap l := by
  obtain ⟨P, cap, l, e, hs, hok, _⟩ := open_slG csAc (OkAc W) 3 40 (fun x => rfl) (by omega) Tryz.underlying22 (by kernel_rfl) (by kernel_rfl) (by omega) (fun cs' n y h hl => (by
    obtain ⟨y0, y1, y2, n', hy, _, t0, t1, t2⟩ := trod_struct3 Tryz.underlying64 h
    match cs', hl with
    | [v0, v1, v2], _ =>
      rw [one_cell (by kernel_rfl) (rfl : [v0, v1, v2][0]? = some v0)] at t0
      rw [one_cell (by kernel_rfl) (rfl : [v0, v1, v2][1]? = some v1)] at t1
      rw [one_cell (by kernel_rfl) (rfl : [v0, v1, v2][2]? = some v2)] at t2
      obtain ⟨x0, a0, c0, w0⟩ := DataW.trod_int (k := .i64) Tryz.underlying3 t0
      obtain ⟨x1, a1, c1, w1⟩ := DataW.trod_int (k := .i64) Tryz.underlying3 t1
      simp only [List.cons.injEq, and_true] at a0 a1
      subst a0 a1
      by_cases hq : ∀ m ∈ y.1.weights Tryz.prog 64, m ≤ reachBytes
      · obtain ⟨P, c, l, rfl, hs, hv, _, hn⟩ := trod_slG Vl.cells OkV 3 32 (fun x => rfl) (by omega) Tryz.underlying33 (by kernel_rfl) (by kernel_rfl) (by omega) val_el t2 (fun m hm => hq m (by
          rw [hy]
          simp only [DataW.weights, Tryz.underlying64, DataW.weightsEach]
          simp [DataW.weightsEach, hm]))
        exact ⟨(x0, x1, P, c, l), rfl, fun _ => ⟨hs, hn, hv⟩⟩
      · obtain ⟨P, n, c, rfl⟩ := trod_slV Tryz.underlying33 t2
        exact ⟨(x0, x1, P, c, List.replicate n (0, 0, ⟨#[]⟩)), by simp [csAc], fun h => absurd h hq⟩)) hval h hsz hj hd
  exact ⟨P, cap, l, e, ⟨hs, fun x hx => ⟨(hok x hx).1, (hok x hx).2.1⟩⟩⟩
end
theorem backAcC {H : Type} {enc : TypeId × Value → H} {W W' : World} {v : Value} {d : DataW H} {ps : List MemPlace} (h : DataW.Trod enc Tryz.prog W 0 (fun _ => true) true 22 v d ps) (hb : Below W.heap.size W W')
    (hlt : ∀ x ∈ ps, x.block < W.heap.size) (sp : Nat → Bool) (hsp : ∀ x ∈ ps, sp x.block = true) : DataW.Trod enc Tryz.prog W' 0 sp true 22 v d ps :=
  WideElems.Trod_stays laidOut (by kernel_rfl) (of_decide_eq_true (by kernel_rfl)) h (fun x hx => hb.same (hlt x hx)) hsp
end
section
open Go.RowKit Go.Maps
set_option linter.unusedVariables false
set_option linter.unusedSimpArgs false
set_option linter.unusedSectionVars false
set_option maxRecDepth 100000
attribute [local go_sem] Oper.semAt_some

/-- what Find tells of any row -/
def findA (T : List (Bkt Hd)) (h : Nat) (row : List Vl) : List Int := if rowB row = true then keysK T h row else []
def findC (row : List Vl) : Int := if rowB row = true then 0 else 1
def FindP (l : List Int) (code : Int) (w : World) (e : Ending) (w' : World) : Prop := ∃ P' c', e = .returned (.tuple #[.slice P' l.length c', .int .i64 code]) ∧ SlI w' P' c' l ∧ Ext w w'
theorem ask1_iff (row : List Vl) : askB row 1 = rowB row := by
  unfold askB
  rw [show keyB 1 = true from by decide, Bool.and_true]
theorem cfind_any (t h r : Nat) (P : Option Addr) (c : Nat) (raw : List BkR) (Pr : Option Addr) (cr : Nat) (row : List Vl) (w : World) (H : CtR w t h r P c raw) (hT : FullT hdV hdH h r (absT raw)) (ht : Tab w) (hs : SlV w Pr cr row) :
    Calls Tryz.prog 11 #[.pointer (some ⟨t, 0, none⟩), .slice Pr row.length cr] w (FindP (findA (absT raw) h row) (findC row) w) := by
  by_cases hr : rowB row = true
  · refine (findk_any t h r P c raw Pr cr row w H hT ht hs (by rw [ask1_iff]; exact hr)).mono ?_
    rintro e w' ⟨⟨v, rfl, ho⟩, hx⟩
    obtain ⟨P', c', rfl, h1⟩ := ho.slG elemI (by have := keysK_le hT row; omega)
    refine ⟨P', c', ?_, ?_, hx⟩
    · rw [show findA (absT raw) h row = keysK (absT raw) h row from if_pos hr, show findC row = 0 from if_pos hr]
    · rw [show findA (absT raw) h row = keysK (absT raw) h row from if_pos hr]; exact h1
  · refine (find_no t Pr cr row w hs (by rw [ask1_iff]; simpa using hr)).mono ?_
    rintro e w' ⟨rfl, hx⟩
    refine ⟨none, 0, ?_, ?_, hx⟩
    · rw [show findA (absT raw) h row = [] from if_neg hr, show findC row = 1 from if_neg hr]; rfl
    · rw [show findA (absT raw) h row = [] from if_neg hr]; exact SlG.nil _ _
theorem rfind2_any (h r : Nat) (P : Option Addr) (c : Nat) (l : List BkR) (Pr : Option Addr) (cr : Nat) (row : List Vl) (w : World) (hs : SlB w P c l) (hT : FullT hdV hdH h r (absT l)) (hrow : SlV w Pr cr row) :
    Calls Tryz.prog 12 #[.agg #[.int .i64 h, .int .i64 r, .slice P l.length c], .slice Pr row.length cr] w (FindP (findA (absT l) h row) (findC row) w) := by
  by_cases hr : rowB row = true
  · refine (rfind_any h r P c l Pr cr row w hs hT hrow hr).mono ?_
    rintro e w' ⟨⟨P', c', rfl, h1⟩, hx⟩
    refine ⟨P', c', ?_, ?_, hx⟩
    · rw [show findA (absT l) h row = keysK (absT l) h row from if_pos hr, show findC row = 0 from if_pos hr]
    · rw [show findA (absT l) h row = keysK (absT l) h row from if_pos hr]; exact h1
  · refine (rfind_no h r P c l.length Pr cr row w hrow (by simpa using hr)).mono ?_
    rintro e w' ⟨rfl, hx⟩
    refine ⟨none, 0, ?_, ?_, hx⟩
    · rw [show findA (absT l) h row = [] from if_neg hr, show findC row = 1 from if_neg hr]; rfl
    · rw [show findA (absT l) h row = [] from if_neg hr]; exact SlG.nil _ _
theorem findA_le {h r : Nat} {T : List (Bkt Hd)} (F : FullT hdV hdH h r T) (row : List Vl) : (findA T h row).length ≤ 500 := by
  unfold findA
  split
  · exact keysK_le F row
  · simp
/-- what Run tells of any home -/
def runA (T : List (Bkt Hd)) (h : Nat) (k : Int) : List Hd := if 0 ≤ k ∧ k < h then runE T k.toNat else []
def runC (h : Nat) (k : Int) : Int := if 0 ≤ k ∧ k < h then 0 else 7
def RunsP (m : List Hd) (code : Int) (w : World) (e : Ending) (w' : World) : Prop := ∃ P' c' l', e = .returned (.tuple #[.slice P' (List.length l') c', .int .i64 code]) ∧ SlH w' P' c' l' ∧ l'.map hdA = m ∧ (∀ x ∈ l', rowB x.1.2.2 = true) ∧ Ext w w'
theorem run_ok {h r : Nat} {T : List (Bkt Hd)} (F : FullT hdV hdH h r T) {k : Nat} (hk : k < h) {l : List HdR} (e : l.map hdA = runE T k) : ∀ x ∈ l, rowB x.1.2.2 = true := fun x hx =>
  (F.hom hk (hdA x) (by rw [← e]; exact List.mem_map.2 ⟨x, hx, rfl⟩)).1.1
theorem crun_any (t h r : Nat) (P : Option Addr) (c : Nat) (raw : List BkR) (k : Int) (w : World) (H : CtR w t h r P c raw) (hT : FullT hdV hdH h r (absT raw)) :
    Calls Tryz.prog 16 #[.pointer (some ⟨t, 0, none⟩), .int .i64 k] w (RunsP (runA (absT raw) h k) (runC h k) w) := by
  by_cases hk : 0 ≤ k ∧ k < h
  · obtain ⟨n, rfl⟩ : ∃ n : Nat, k = n := ⟨k.toNat, by omega⟩
    have hn : n < h := by omega
    refine (runc_any t h r P c raw n w H hT hn).mono ?_
    rintro e w' ⟨v, l', w1, rfl, hx1, ho, hm, hx⟩
    have e1 : l'.map hdA = runE (absT raw) n := hm.trans (runR_abs hT hn)
    have hl : l'.length ≤ 500 := by
      have h1 := congrArg List.length e1
      rw [List.length_map] at h1
      have h2 := hT.run_le hn
      omega
    obtain ⟨P', c', rfl, h1, h2⟩ := ho.own.read elemHd (by omega)
    refine ⟨P', c', l', ?_, ⟨h1, h2, fun x hx => ⟨(ho.row x hx).1, (ho.row x hx).2.1⟩⟩, ?_, run_ok hT hn e1, hx⟩
    · rw [show runC h n = 0 from if_pos hk]
    · rw [show runA (absT raw) h n = runE (absT raw) n from if_pos hk]; exact e1
  · refine (runc_no t h r P c raw k w H hT.hh.2.1 (by omega)).mono ?_
    rintro e w' ⟨rfl, rfl⟩
    refine ⟨none, 0, [], ?_, SlH.nil_ _, ?_, (fun x hx => by cases hx), Ext.refl _⟩
    · rw [show runC h k = 7 from if_neg hk]; rfl
    · rw [show runA (absT raw) h k = [] from if_neg hk]; rfl
theorem rrun2_any (h r : Nat) (P : Option Addr) (c : Nat) (l : List BkR) (k : Int) (w : World) (hs : SlB w P c l) (hT : FullT hdV hdH h r (absT l)) :
    Calls Tryz.prog 17 #[.agg #[.int .i64 h, .int .i64 r, .slice P l.length c], .int .i64 k] w (RunsP (runA (absT l) h k) (runC h k) w) := by
  by_cases hk : 0 ≤ k ∧ k < h
  · obtain ⟨n, rfl⟩ : ∃ n : Nat, k = n := ⟨k.toNat, by omega⟩
    have hn : n < h := by omega
    refine (rrun_yes h r P c l n w hs hT hn).mono ?_
    rintro e w' ⟨⟨P', c', rfl, h1⟩, hx⟩
    have e1 := runR_abs hT hn
    refine ⟨P', c', runR l n, ?_, h1, ?_, run_ok hT hn e1, hx⟩
    · rw [show runC h n = 0 from if_pos hk]
    · rw [show runA (absT l) h n = runE (absT l) n from if_pos hk]; exact e1
  · refine (rrun_no h r P c l.length k w hT.hh.2.1 (by omega)).mono ?_
    rintro e w' ⟨rfl, hx⟩
    refine ⟨none, 0, [], ?_, SlH.nil_ _, ?_, (fun x hx => by cases hx), hx⟩
    · rw [show runC h k = 7 from if_neg hk]; rfl
    · rw [show runA (absT l) h k = [] from if_neg hk]; rfl
set_option maxHeartbeats 16000000 in
theorem calcTells_any (x0 x1 : Int) (PL : Option Addr) (cL : Nat) (L : List AcR) (Pw : Option Addr) (cw : Nat) (row : List Vl) (key home : Int) (w : World) (hL : SlAc w PL cL L) (hrow : SlV w Pw cw row) (ht : Tab w) :
    Calls Tryz.prog 4 #[.int .i64 x0, .int .i64 x1, .slice PL L.length cL, .slice Pw row.length cw, .int .i64 key, .int .i64 home] w fun e w' => e = .returned (.bool true) ∧ Ext w w' := by
  have hA := acts_any PL cL L w hL
  have hAw := fun W (hx : Ext w W) => awake_any W (ht.ext hx)
  go_enter Tryz.func4, Tryz.ntmps4
  go_wp2_with (fail)
  refine hA.mono ?_
  rintro e w1 ⟨b, rfl, hb, hx1⟩
  cases b with
  | false =>
    go_wp2_with (go_at_call 8; refine (hAw _ hx1).mono ?_; rintro e w2 ⟨rfl, hx2⟩)
    go_ret
    exact ⟨rfl, hx1.trans hx2⟩
  | true =>
    have hLn := hb rfl
    have hxa := (Ext.refl w1).alloc (.cells #[.slice Pw row.length cw] 33)
    have hR := lrows_any (some ⟨w1.heap.size, 0, none⟩) 1 [(Pw, cw, row)] _ (SlG.one (w := w1) (cs := Rw.cells) (k := 1) (fun _ => rfl) (Pw, cw, row) (t0 := 33) (C := #[.slice Pw row.length cw]) rfl rfl) (fun x hx' => by
      obtain rfl := List.mem_singleton.1 hx'
      exact hrow.ext (hx1.trans hxa))
    have hx2 := hx1.trans hxa
    clear hb hxa
    go_wp2_with (fail)
    refine hR.mono ?_
    rintro e w2 ⟨⟨z, rfl⟩, rfl⟩
    dsimp only
    generalize w1.alloc (.cells #[.slice Pw row.length cw] 33) = w2 at *
    clear hR hx1
    cases z with
    | false =>
      go_wp2_with (go_at_call 8; refine (hAw _ hx2).mono ?_; rintro e w3 ⟨rfl, hx3⟩)
      go_ret
      exact ⟨rfl, hx2.trans hx3⟩
    | true =>
      have hP := play_any x0 x1 PL cL L w2 (hL.ext hx2) hLn (ht.ext hx2)
      go_wp2_with (fail)
      refine hP.mono ?_
      intro e w3 hpe
      unfold PlayE at hpe
      cases hR : rightB x0 x1 with
      | false =>
        rw [hR, if_neg (by decide)] at hpe
        obtain ⟨rfl, hx3⟩ := hpe
        dsimp only
        have hbX := BoxN.new w3 30 PlN
        have hx4 := (hx2.trans hx3).alloc (.cells PlN 30)
        have p4 := hbX.cell (i := 4) rfl
        have p5 := hbX.cell (i := 5) rfl
        clear hR hP
        go_wp2_with (fail)
        generalize w3.alloc (.cells PlN 30) = w4 at *
        go_wp2_with (go_at_call 8; refine (hAw _ hx4).mono ?_; rintro e w5 ⟨rfl, hx5⟩)
        go_ret
        exact ⟨rfl, hx4.trans hx5⟩
      | true =>
        rw [hR, if_pos rfl] at hpe
        obtain ⟨r, t, h, F, P, c, raw, Pr, cr, rr, rfl, hct, hT, hln, hsl, hab, _, _, hx3⟩ := hpe
        dsimp only
        have hbX := BoxN.new w3 30 (PlC t h r Pr rr.length cr)
        have hxb := (Ext.refl w3).alloc (.cells (PlC t h r Pr rr.length cr) 30)
        have hx4 := (hx2.trans hx3).trans hxb
        have hTr : FullT hdV hdH h r (absT rr) := by rw [hab]; exact hT
        have H4 := (hct.ctr (by omega) hT.ents_le).ext hxb
        have S4 := hsl.ext hxb
        clear hR hP hct hsl hLn hL hA
        go_wp2_with (fail)
        generalize w3.alloc (.cells (PlC t h r Pr rr.length cr) 30) = W at *
        generalize w3.heap.size = X at *
        have hF1 := fun V (hx : Ext W V) => cfind_any t h r P c raw Pw cw row V (H4.ext hx) hT (ht.ext (hx4.trans hx)) (hrow.ext (hx4.trans hx))
        have hF2 := fun V (hx : Ext W V) => rfind2_any h r Pr cr rr Pw cw row V (S4.ext hx) hTr (hrow.ext (hx4.trans hx))
        have hN1 := fun V (hx : Ext W V) => cnext_any t h r P c raw Pw cw row key V (H4.ext hx) hT (ht.ext (hx4.trans hx)) (hrow.ext (hx4.trans hx))
        have hN2 := fun V (hx : Ext W V) => rnext_any h r Pr cr rr Pw cw row key V (S4.ext hx) hTr (hrow.ext (hx4.trans hx))
        have hU1 := fun V (hx : Ext W V) => crun_any t h r P c raw home V (H4.ext hx) hT
        have hU2 := fun V (hx : Ext W V) => rrun2_any h r Pr cr rr home V (S4.ext hx) hTr
        have hH1 := fun V (hx : Ext W V) => homes_any t h r P c raw V (H4.ext hx)
        have hC1 := fun V (hx : Ext W V) => count_any t h r P c raw V (H4.ext hx) (by have := hT.c5; omega)
        have hC2 := fun V (hx : Ext W V) => rcount_any h r Pr cr rr V (S4.ext hx) (by have := hTr.c5; omega)
        have hG1 := fun V (hx : Ext W V) => longest_any t h r P c raw V (H4.ext hx) hT
        have hG2 := fun V (hx : Ext W V) => rlongest_any h r Pr cr rr V (S4.ext hx) hTr
        unfold Tb at hC2
        rw [hab] at hF2 hN2 hU2 hC2 hG2
        have hfl := findA_le hT row
        have hAw4 := fun V (hx : Ext W V) => hAw V (hx4.trans hx)
        generalize findA (absT raw) h row = ks at *
        generalize findC row = fc at *
        generalize nextV (absT raw) h row key = nv at *
        generalize nextE (absT raw) h row key = ne at *
        generalize runA (absT raw) h home = ru at *
        generalize runC h home = rc at *
        generalize (cntT (absT raw) : Nat) = cc at *
        generalize longF (absT raw) h = lg at *
        clear hT hTr hab H4 S4 hAw ht hrow hx3 hx2 hln
        have b0 := hbX.cell (i := 0) rfl
        have b1 := hbX.cell (i := 1) rfl
        have b2 := hbX.cell (i := 2) rfl
        have b3 := hbX.cell (i := 3) rfl
        have b4 := hbX.cell (i := 4) rfl
        have b5 := hbX.cell (i := 5) rfl
        go_wp2_with (fail)
        refine (hF1 _ (Ext.refl _)).mono ?_
        rintro e w5 ⟨P5, c5, rfl, s5, x5⟩
        dsimp only
        have b0 := x5.cell b0
        have b1 := x5.cell b1
        have b2 := x5.cell b2
        have b3 := x5.cell b3
        go_wp2_with (fail)
        refine (hF2 _ x5).mono ?_
        rintro e w6 ⟨P6, c6, rfl, s6, x6⟩
        dsimp only
        have b0 := x6.cell b0
        have b1 := x6.cell b1
        have b2 := x6.cell b2
        have b3 := x6.cell b3
        have hSI := sameints_yes P5 P6 c5 c6 ks w6 (s5.ext x6) s6 (by omega)
        clear hF1 hF2 s5 s6
        have x56 := x5.trans x6
        go_wp2_with (fail)
        refine hSI.mono ?_
        rintro e w7 ⟨rfl, x7⟩
        dsimp only
        have b0 := x7.cell b0
        have b1 := x7.cell b1
        have b2 := x7.cell b2
        have b3 := x7.cell b3
        have x57 := x56.trans x7
        clear hSI
        go_wp2_with (fail)
        refine (hN1 _ x57).mono ?_
        rintro e w8 ⟨rfl, x8⟩
        dsimp only
        have b0 := x8.cell b0
        have b1 := x8.cell b1
        have b2 := x8.cell b2
        have b3 := x8.cell b3
        have x58 := x57.trans x8
        clear hN1
        go_wp2_with (fail)
        refine (hN2 _ x58).mono ?_
        rintro e w9 ⟨rfl, x9⟩
        dsimp only
        have b0 := x9.cell b0
        have b1 := x9.cell b1
        have b2 := x9.cell b2
        have b3 := x9.cell b3
        have x59 := x58.trans x9
        clear hN2
        go_wp2_with (fail)
        refine (hU1 _ x59).mono ?_
        rintro e wa ⟨Pa, ca, la, rfl, sa, ea, oa, xa⟩
        dsimp only
        have b0 := xa.cell b0
        have b1 := xa.cell b1
        have b2 := xa.cell b2
        have b3 := xa.cell b3
        have x5a := x59.trans xa
        clear hU1
        go_wp2_with (fail)
        refine (hU2 _ x5a).mono ?_
        rintro e wb ⟨Pb, cb, lb, rfl, sb, eb, ob, xb⟩
        dsimp only
        have b0 := xb.cell b0
        have b1 := xb.cell b1
        have b2 := xb.cell b2
        have b3 := xb.cell b3
        have x5b := x5a.trans xb
        have hSH := sameH_any Pa Pb ca cb la lb wb (sa.ext xb) sb oa ob
        rw [decide_eq_true (ea.trans eb.symm)] at hSH
        clear hU2 sa sb ea eb oa ob
        go_wp2_with (fail)
        refine hSH.mono ?_
        rintro e wc ⟨rfl, xc⟩
        dsimp only
        have b0 := xc.cell b0
        have b1 := xc.cell b1
        have b2 := xc.cell b2
        have b3 := xc.cell b3
        have x5c := x5b.trans xc
        clear hSH
        go_wp2_with (fail)
        have xd := (Ext.refl wc).drew
        have b0 := xd.cell b0
        have b1 := xd.cell b1
        have b2 := xd.cell b2
        have b3 := xd.cell b3
        have x5d := x5c.trans xd
        go_region_held3 (fun w' => w'.cell? ⟨X, 0, none⟩ = some (.pointer (some ⟨t, 0, none⟩)) ∧ w'.cell? ⟨X, 1, none⟩ = some (.int .i64 h) ∧ w'.cell? ⟨X, 2, none⟩ = some (.int .i64 r) ∧ w'.cell? ⟨X, 3, none⟩ = some (.slice Pr rr.length cr)) (go_keep)
          (first
            | (go_at_call 19; refine (hH1 _ x5d).mono ?_; rintro e wd ⟨rfl, rfl⟩)
            | (go_at_call 20; refine (hC1 _ x5d).mono ?_; rintro e we ⟨rfl, xe⟩; have d0 := xe.cell b0; have d1 := xe.cell b1; have d2 := xe.cell b2; have d3 := xe.cell b3; have x5e := x5d.trans xe)
            | (go_at_call 21; refine (hC2 _ x5e).mono ?_; rintro e wf ⟨rfl, xf⟩; have f0 := xf.cell d0; have f1 := xf.cell d1; have f2 := xf.cell d2; have f3 := xf.cell d3; have x5f := x5e.trans xf)
            | (go_at_call 22; refine (hG1 _ x5f).mono ?_; rintro e wg ⟨rfl, xg⟩; have g0 := xg.cell f0; have g1 := xg.cell f1; have g2 := xg.cell f2; have g3 := xg.cell f3; have x5g := x5f.trans xg)
            | (go_at_call 23; refine (hG2 _ x5g).mono ?_; rintro e wh ⟨rfl, xh⟩; have h0 := xh.cell g0; have h1 := xh.cell g1; have h2 := xh.cell g2; have h3 := xh.cell g3; have x5h := x5g.trans xh)
            | (go_at_call 8; refine (hAw4 _ x5h).mono ?_; rintro e wi ⟨rfl, xi⟩; have i0 := xi.cell h0; have i1 := xi.cell h1; have i2 := xi.cell h2; have i3 := xi.cell h3)
            | fail)
        have hend := hx4.trans (x5h.trans xi)
        clear hH1 hC1 hC2 hG1 hG2 hAw4
        go_wp2_with (fail)
        go_ret
        exact ⟨rfl, hend⟩
end
end Go.Proofs.YtcbinafokhekmaaGreatDoor
