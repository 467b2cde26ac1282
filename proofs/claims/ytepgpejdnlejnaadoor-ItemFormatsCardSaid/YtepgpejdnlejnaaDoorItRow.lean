/- Opening the arguments of the statements on items: rows of values, items, names. -/
import Derived.Test.YtepgpejdnlejnaaDoorQ00
import Derived.Test.YtepgpejdnlejnaaDoorRowBase
import Derived.Deep.Slices
import Derived.Deep.Strs
namespace Go.Proofs.YtepgpejdnlejnaaDoor
open Go.RowKit Go.WideShapes Go.ChangeShapes Go.ChangeAt Go.Deep
set_option linter.unusedVariables false
set_option linter.unusedSimpArgs false
set_option linter.unusedSectionVars false
set_option maxRecDepth 20000

/-- A slice of elements, read. -/
theorem open_slG {α : Type} {H : Type} {enc : TypeId × Value → H} {W : World} {base b0 : Nat} {r : Reach} {sp : Nat → Bool} {v : Value} {d : DataW H} {ps : List MemPlace} {ts : List TypeId} {ds : List (DataW H)} {j : Nat} {t e : TypeId} [Inhabited α]
    (cs : α → List Value) (ok : α → Prop) (k by_ : Nat) (hk : ∀ x, (cs x).length = k) (hk0 : 1 ≤ k) (ht : Tryd.prog.underlying t = some (.slice e)) (ce : Tryd.prog.cellsOf e = k) (hby : Tryd.prog.bytesOf e = by_) (hb1 : 1 ≤ by_)
    (hel : ∀ cs' n y, DataW.trod enc Tryd.prog W base sp true n e cs' = some y → cs'.length = k → ∃ x, cs' = cs x ∧ ((∀ m ∈ y.1.weights Tryd.prog e, m ≤ reachBytes) → ok x))
    (hval : Value.okWide Tryd.prog W r b0 t v) (h : DataW.Trod enc Tryd.prog W base sp true t v d ps)
    (hsz : (DataW.weightsEach Tryd.prog ts ds).all (· ≤ reachBytes) = true) (hj : ts[j]? = some t) (hd : ds[j]? = some d) :
    ∃ (P : Option Addr) (cap : Nat) (l : List α), v = .slice P l.length cap ∧ SlG cs W P cap l ∧ (∀ x ∈ l, ok x) ∧ l.length ≤ 140737488355328 := by
  obtain ⟨a0, len0, cap0, rfl⟩ := okWide_slice ht hval
  obtain ⟨fuel, hf⟩ := h
  have hw : ∀ n ∈ d.weights Tryd.prog t, n ≤ reachBytes := fun n hn => by
    have := List.all_eq_true.1 hsz _ (DataW.weights_mem_each hj hd n hn)
    simpa using this
  have hrl := reachBytes_lt
  rcases open_slice ht hf with ⟨h0, hx⟩ | ⟨a, len, cap, m, n, D, Pl, h0, hb, hlc, hcap, hm, hx, hi⟩
  · simp [Value.cells] at h0
    obtain ⟨rfl, rfl, rfl⟩ := h0
    exact ⟨none, 0, [], rfl, SlG.nil _ _, fun x hx => (by cases hx), by simp⟩
  · simp [Value.cells] at h0
    obtain ⟨rfl, rfl, rfl⟩ := h0
    simp only [Prod.mk.injEq] at hx
    obtain ⟨rfl, _⟩ := hx
    have hlm : len0 ≤ m := by rw [hm]; split <;> omega
    have each : ∀ i, i < len0 → ∃ y : α, ok y ∧ ∀ (q : Nat) (u : Value), (cs y)[q]? = some u → W.cell? (a.add (i * k + q)) = some u := by
      intro i hil
      obtain ⟨cs', h1, h2⟩ := hi i (by omega)
      obtain ⟨_, h3, h4⟩ := World.cells?_some h1
      rw [ce] at h3 h4
      obtain ⟨x, rfl, hok⟩ := hel cs' n _ h2 h3
      refine ⟨x, hok fun q hq => hw q ?_, fun q u hq => ?_⟩
      · simp only [DataW.weights, ht]
        exact List.mem_cons_of_mem _ (List.mem_append.2 (.inl (weightsAll_in (d := D i) (List.mem_map.2 ⟨i, List.mem_range.2 hil, rfl⟩) _ hq)))
      · have hq' : q < k := by rw [← hk x]; exact (List.getElem?_eq_some_iff.1 hq).1
        have := h4 q hq'
        rw [hq] at this
        rw [← this, add_add]
    obtain ⟨g, hg⟩ := choose_lt each
    refine ⟨some a, cap0, (List.range len0).map g, by simp, ⟨fun i x hix => ?_, by simpa using hlc, by simpa only [maxLen] using hcap⟩, fun x hx => ?_, ?_⟩
    · have hil : i < len0 := by
        have := (List.getElem?_eq_some_iff.1 hix).1
        simpa using this
      have hx : x = g i := by
        simp [hil] at hix
        exact hix.symm
      subst hx
      obtain ⟨_, hc⟩ := hg i hil
      obtain ⟨b, off, spot⟩ := a
      have hspot : spot = none := by
        obtain ⟨u, hu⟩ : ∃ u, (cs (g 0))[0]? = some u := by
          have : 0 < (cs (g 0)).length := by rw [hk]; omega
          exact ⟨_, List.getElem?_eq_getElem this⟩
        simpa [Addr.add] using World.cell?_spot ((hg 0 (by omega)).2 0 u hu)
      subst hspot
      refine ⟨b, off, rfl, fun q u hq => ?_⟩
      have := hc q u hq
      rw [Go.WideShapes.add_plain, ← hk (g i)] at this
      rw [← this]
      congr 2
      omega
    · simp only [List.mem_map, List.mem_range] at hx
      obtain ⟨i, hil, rfl⟩ := hx
      exact (hg i hil).1
    · have h1 := hw _ (by simp only [DataW.weights, ht]; exact List.mem_cons_self ..)
      rw [hby] at h1
      simp at h1
      have : len0 + (m - len0) ≤ (len0 + (m - len0)) * by_ := Nat.le_mul_of_pos_right _ hb1
      simp
      omega

def OkI (x : Int) : Prop := -9223372036854775808 ≤ x ∧ x ≤ 9223372036854775807
theorem okI_of {x : Int} (h : (Lit.int .i64 x).wf = true) : OkI x := by
  simp [Lit.wf, IntKind.min, IntKind.max, IntKind.signed, IntKind.bits] at h
  unfold OkI
  omega
def OkS (s : ByteArray) : Prop := s.size ≤ 140737488355328
def OkV (x : Vl) : Prop := OkI x.1 ∧ OkI x.2.1 ∧ OkS x.2.2
def OkT (x : It) : Prop := OkS x.1 ∧ OkI x.2.1 ∧ OkI x.2.2.1 ∧ OkI x.2.2.2.1 ∧ OkI x.2.2.2.2
section
variable {H : Type} {enc : TypeId × Value → H} {W : World} {base b0 : Nat} {r : Reach} {sp : Nat → Bool} {v : Value} {d : DataW H} {ps : List MemPlace} {ts : List TypeId} {ds : List (DataW H)} {j : Nat}
theorem one_cell {t : TypeId} (h : Tryd.prog.cellsOf t = 1) {cs : List Value} {k : Nat} {u : Value} (hk : cs[k]? = some u) : (cs.drop k).take (Tryd.prog.cellsOf t) = [u] := by
  rw [h]
  obtain ⟨hl, rfl⟩ := List.getElem?_eq_some_iff.1 hk
  rw [List.drop_eq_getElem_cons hl]
  rfl
theorem trod_five {P : Program} {t : TypeId} {f0 f1 f2 f3 f4 : Field} {fuel : Nat} {cs : List Value} {x : DataW H × List MemPlace} {w : World} {hd : Bool} (ht : P.underlying t = some (.struct #[f0, f1, f2, f3, f4])) (h : DataW.trod enc P w base sp hd fuel t cs = some x) :
    ∃ y0 y1 y2 y3 y4 n, x.1 = .agg [y0.1, y1.1, y2.1, y3.1, y4.1] ∧ DataW.trod enc P w base sp hd n f0.type ((cs.drop f0.offset).take (P.cellsOf f0.type)) = some y0 ∧ DataW.trod enc P w base sp hd n f1.type ((cs.drop f1.offset).take (P.cellsOf f1.type)) = some y1 ∧
      DataW.trod enc P w base sp hd n f2.type ((cs.drop f2.offset).take (P.cellsOf f2.type)) = some y2 ∧ DataW.trod enc P w base sp hd n f3.type ((cs.drop f3.offset).take (P.cellsOf f3.type)) = some y3 ∧ DataW.trod enc P w base sp hd n f4.type ((cs.drop f4.offset).take (P.cellsOf f4.type)) = some y4 := by
  obtain ⟨xs, n, _, rfl, hl, hlen, hf⟩ := DataW.trod_struct ht h
  match xs, hlen with
  | [y0, y1, y2, y3, y4], _ => exact ⟨y0, y1, y2, y3, y4, n, by simp, by simpa using hf 0 f0 rfl, by simpa using hf 1 f1 rfl, by simpa using hf 2 f2 rfl, by simpa using hf 3 f3 rfl, by simpa using hf 4 f4 rfl⟩
/-- A row of values, read. -/
theorem open_row (hval : Value.okWide Tryd.prog W r b0 23 v) (h : DataW.Trod enc Tryd.prog W base sp true 23 v d ps)
    (hsz : (DataW.weightsEach Tryd.prog ts ds).all (· ≤ reachBytes) = true) (hj : ts[j]? = some 23) (hd : ds[j]? = some d) :
    ∃ (P : Option Addr) (cap : Nat) (l : List Vl), v = .slice P l.length cap ∧ SlV W P cap l ∧ (∀ x ∈ l, OkV x) ∧ l.length ≤ 140737488355328 := by
  refine open_slG Vl.cells OkV 3 32 (fun x => rfl) (by omega) Tryd.underlying23 (by kernel_rfl) (by kernel_rfl) (by omega) (fun cs' n y h hl => ?_) hval h hsz hj hd
  obtain ⟨y0, y1, y2, n', rfl, _, t0, t1, t2⟩ := trod_struct3 Tryd.underlying29 h
  match cs', hl with
  | [v0, v1, v2], _ =>
    rw [one_cell (by kernel_rfl) (rfl : [v0, v1, v2][0]? = some v0)] at t0
    rw [one_cell (by kernel_rfl) (rfl : [v0, v1, v2][1]? = some v1)] at t1
    rw [one_cell (by kernel_rfl) (rfl : [v0, v1, v2][2]? = some v2)] at t2
    obtain ⟨x0, a0, c0, w0⟩ := DataW.trod_int (k := .i64) Tryd.underlying3 t0
    obtain ⟨x1, a1, c1, w1⟩ := DataW.trod_int (k := .i64) Tryd.underlying3 t1
    obtain ⟨s, a2, c2, _⟩ := DataW.trod_string Tryd.underlying9 t2
    simp only [List.cons.injEq, and_true] at a0 a1 a2
    subst a0 a1 a2 c0 c1 c2
    refine ⟨(x0, x1, s), rfl, fun hq => ⟨okI_of w0, okI_of w1, ?_⟩⟩
    have h1 := hq s.data.toList.length (by simp [DataW.weights, Tryd.underlying29, DataW.weightsEach])
    have : s.size = s.data.toList.length := by simp
    have hr := reachBytes_lt
    show s.size ≤ _
    omega
/-- Items, read. -/
theorem open_items (hval : Value.okWide Tryd.prog W r b0 22 v) (h : DataW.Trod enc Tryd.prog W base sp true 22 v d ps)
    (hsz : (DataW.weightsEach Tryd.prog ts ds).all (· ≤ reachBytes) = true) (hj : ts[j]? = some 22) (hd : ds[j]? = some d) :
    ∃ (P : Option Addr) (cap : Nat) (l : List It), v = .slice P l.length cap ∧ SlT W P cap l ∧ (∀ x ∈ l, OkT x) ∧ l.length ≤ 140737488355328 := by
  refine open_slG It.cells OkT 5 48 (fun x => rfl) (by omega) Tryd.underlying22 (by kernel_rfl) (by kernel_rfl) (by omega) (fun cs' n y h hl => ?_) hval h hsz hj hd
  obtain ⟨y0, y1, y2, y3, y4, n', hy, t0, t1, t2, t3, t4⟩ := trod_five Tryd.underlying32 h
  rw [hy]
  match cs', hl with
  | [v0, v1, v2, v3, v4], _ =>
    rw [one_cell (by kernel_rfl) (rfl : [v0, v1, v2, v3, v4][0]? = some v0)] at t0
    rw [one_cell (by kernel_rfl) (rfl : [v0, v1, v2, v3, v4][1]? = some v1)] at t1
    rw [one_cell (by kernel_rfl) (rfl : [v0, v1, v2, v3, v4][2]? = some v2)] at t2
    rw [one_cell (by kernel_rfl) (rfl : [v0, v1, v2, v3, v4][3]? = some v3)] at t3
    rw [one_cell (by kernel_rfl) (rfl : [v0, v1, v2, v3, v4][4]? = some v4)] at t4
    obtain ⟨s, a0, c0, _⟩ := DataW.trod_string Tryd.underlying9 t0
    obtain ⟨x1, a1, c1, w1⟩ := DataW.trod_int (k := .i64) Tryd.underlying3 t1
    obtain ⟨x2, a2, c2, w2⟩ := DataW.trod_int (k := .i64) Tryd.underlying3 t2
    obtain ⟨x3, a3, c3, w3⟩ := DataW.trod_int (k := .i64) Tryd.underlying3 t3
    obtain ⟨x4, a4, c4, w4⟩ := DataW.trod_int (k := .i64) Tryd.underlying3 t4
    simp only [List.cons.injEq, and_true] at a0 a1 a2 a3 a4
    subst a0 a1 a2 a3 a4 c0 c1 c2 c3 c4
    refine ⟨(s, x1, x2, x3, x4), rfl, fun hq => ⟨?_, okI_of w1, okI_of w2, okI_of w3, okI_of w4⟩⟩
    have h1 := hq s.data.toList.length (by simp [DataW.weights, Tryd.underlying32, DataW.weightsEach])
    have : s.size = s.data.toList.length := by simp
    have hr := reachBytes_lt
    show s.size ≤ _
    omega
/-- Names, read. -/
theorem open_names (hval : Value.okWide Tryd.prog W r b0 41 v) (h : DataW.Trod enc Tryd.prog W base sp true 41 v d ps)
    (hsz : (DataW.weightsEach Tryd.prog ts ds).all (· ≤ reachBytes) = true) (hj : ts[j]? = some 41) (hd : ds[j]? = some d) :
    ∃ (P : Option Addr) (cap : Nat) (l : List ByteArray), v = .slice P l.length cap ∧ SlS W P cap l ∧ (∀ x ∈ l, OkS x) ∧ l.length ≤ 140737488355328 := by
  refine open_slG (fun s => [.string s]) OkS 1 16 (fun x => rfl) (by omega) Tryd.underlying41 (by kernel_rfl) (by kernel_rfl) (by omega) (fun cs' n y h hl => ?_) hval h hsz hj hd
  match cs', hl with
  | [v0], _ =>
    obtain ⟨s, a0, c0, _⟩ := DataW.trod_string Tryd.underlying9 h
    simp only [List.cons.injEq, and_true] at a0
    subst a0 c0
    refine ⟨s, rfl, fun hq => ?_⟩
    have h1 := hq s.data.toList.length (by simp [DataW.weights])
    have : s.size = s.data.toList.length := by simp
    have hr := reachBytes_lt
    show s.size ≤ _
    omega
end
/-- What came in reads behind the call as it did. -/
theorem backV {H : Type} {enc : TypeId × Value → H} {W W' : World} {v : Value} {d : DataW H} {ps : List MemPlace} (h : DataW.Trod enc Tryd.prog W 0 (fun _ => true) true 23 v d ps) (hb : Below W.heap.size W W')
    (hlt : ∀ x ∈ ps, x.block < W.heap.size) (sp : Nat → Bool) (hsp : ∀ x ∈ ps, sp x.block = true) : DataW.Trod enc Tryd.prog W' 0 sp true 23 v d ps :=
  WideElems.Trod_stays laidOut (by kernel_rfl) (of_decide_eq_true (by kernel_rfl)) h (fun x hx => hb.same (hlt x hx)) hsp
theorem backT {H : Type} {enc : TypeId × Value → H} {W W' : World} {v : Value} {d : DataW H} {ps : List MemPlace} (h : DataW.Trod enc Tryd.prog W 0 (fun _ => true) true 22 v d ps) (hb : Below W.heap.size W W')
    (hlt : ∀ x ∈ ps, x.block < W.heap.size) (sp : Nat → Bool) (hsp : ∀ x ∈ ps, sp x.block = true) : DataW.Trod enc Tryd.prog W' 0 sp true 22 v d ps :=
  WideElems.Trod_stays laidOut (by kernel_rfl) (of_decide_eq_true (by kernel_rfl)) h (fun x hx => hb.same (hlt x hx)) hsp
theorem backS {H : Type} {enc : TypeId × Value → H} {W W' : World} {v : Value} {d : DataW H} {ps : List MemPlace} (h : DataW.Trod enc Tryd.prog W 0 (fun _ => true) true 41 v d ps) (hb : Below W.heap.size W W')
    (hlt : ∀ x ∈ ps, x.block < W.heap.size) (sp : Nat → Bool) (hsp : ∀ x ∈ ps, sp x.block = true) : DataW.Trod enc Tryd.prog W' 0 sp true 41 v d ps :=
  WideElems.Trod_stays laidOut (by kernel_rfl) (of_decide_eq_true (by kernel_rfl)) h (fun x hx => hb.same (hlt x hx)) hsp
end Go.Proofs.YtepgpejdnlejnaaDoor
