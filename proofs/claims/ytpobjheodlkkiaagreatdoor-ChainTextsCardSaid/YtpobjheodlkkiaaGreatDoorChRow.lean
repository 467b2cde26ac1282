/- Opening the arguments of the statements on rings: links, numbers. -/
import Derived.Test.YtpobjheodlkkiaaGreatDoorChQ
import Derived.Test.YtpobjheodlkkiaaGreatDoorRowBaseC
import Derived.Deep.Slices
import Derived.Deep.Strs
namespace Go.Proofs.YtpobjheodlkkiaaGreatDoor
open Go.RowKit Go.WideShapes Go.ChangeShapes Go.ChangeAt Go.Deep
set_option linter.unusedVariables false
set_option maxRecDepth 20000
set_option linter.unusedSimpArgs false
set_option linter.unusedSectionVars false
set_option maxRecDepth 20000

/-- A slice of elements, read. -/
theorem open_slG {α : Type} {H : Type} {enc : TypeId × Value → H} {W : World} {base b0 : Nat} {r : Reach} {sp : Nat → Bool} {v : Value} {d : DataW H} {ps : List MemPlace} {ts : List TypeId} {ds : List (DataW H)} {j : Nat} {t e : TypeId} [Inhabited α]
    (cs : α → List Value) (ok : α → Prop) (k by_ : Nat) (hk : ∀ x, (cs x).length = k) (hk0 : 1 ≤ k) (ht : Tryz.prog.underlying t = some (.slice e)) (ce : Tryz.prog.cellsOf e = k) (hby : Tryz.prog.bytesOf e = by_) (hb1 : 1 ≤ by_)
    (hel : ∀ cs' n y, DataW.trod enc Tryz.prog W base sp true n e cs' = some y → cs'.length = k → ∃ x, cs' = cs x ∧ ((∀ m ∈ y.1.weights Tryz.prog e, m ≤ reachBytes) → ok x))
    (hval : Value.okWide Tryz.prog W r b0 t v) (h : DataW.Trod enc Tryz.prog W base sp true t v d ps)
    (hsz : (DataW.weightsEach Tryz.prog ts ds).all (· ≤ reachBytes) = true) (hj : ts[j]? = some t) (hd : ds[j]? = some d) :
    ∃ (P : Option Addr) (cap : Nat) (l : List α), v = .slice P l.length cap ∧ SlG cs W P cap l ∧ (∀ x ∈ l, ok x) ∧ l.length ≤ 140737488355328 ∧ (P = none → cap = 0) := by
  obtain ⟨a0, len0, cap0, rfl⟩ := okWide_slice ht hval
  obtain ⟨fuel, hf⟩ := h
  have hw : ∀ n ∈ d.weights Tryz.prog t, n ≤ reachBytes := fun n hn => by
    have := List.all_eq_true.1 hsz _ (DataW.weights_mem_each hj hd n hn)
    simpa using this
  have hrl := reachBytes_lt
  rcases open_slice ht hf with ⟨h0, hx⟩ | ⟨a, len, cap, m, n, D, Pl, h0, hb, hlc, hcap, hm, hx, hi⟩
  · simp [Value.cells] at h0
    obtain ⟨rfl, rfl, rfl⟩ := h0
    exact ⟨none, 0, [], rfl, SlG.nil _ _, fun x hx => (by cases hx), by simp, fun _ => rfl⟩
  · simp [Value.cells] at h0
    obtain ⟨rfl, rfl, rfl⟩ := h0
    simp only [Prod.mk.injEq] at hx
    obtain ⟨rfl, _⟩ := hx
    have hlm : len0 ≤ m := by rw [hm]; split <;> omega
    have each : ∀ i, i < len0 → ∃ y : α, ok y ∧ ∀ (q : Nat) (u : Value), (cs y)[q]? = some u → W.cell? (a.add (i * k + q)) = some u := by
      intro i hil
      obtain ⟨cs', h1, h2⟩ := hi i (by omega)
      obtain ⟨_, h3, h4⟩ := World.cells?_some h1
      rw [ce] at h3 h4
      obtain ⟨x, rfl, hok⟩ := hel cs' n _ h2 h3
      refine ⟨x, hok fun q hq => hw q ?_, fun q u hq => ?_⟩
      · simp only [DataW.weights, ht]
        exact List.mem_cons_of_mem _ (List.mem_append.2 (.inl (weightsAll_in (d := D i) (List.mem_map.2 ⟨i, List.mem_range.2 hil, rfl⟩) _ hq)))
      · have hq' : q < k := by rw [← hk x]; exact (List.getElem?_eq_some_iff.1 hq).1
        have := h4 q hq'
        rw [hq] at this
        rw [← this, add_add]
    obtain ⟨g, hg⟩ := choose_lt each
    refine ⟨some a, cap0, (List.range len0).map g, by simp, ⟨fun i x hix => ?_, by simpa using hlc, by simpa only [maxLen] using hcap⟩, fun x hx => ?_, ?_, fun e => by cases e⟩
    · have hil : i < len0 := by
        have := (List.getElem?_eq_some_iff.1 hix).1
        simpa using this
      have hx : x = g i := by
        simp [hil] at hix
        exact hix.symm
      subst hx
      obtain ⟨_, hc⟩ := hg i hil
      obtain ⟨b, off, spot⟩ := a
      have hspot : spot = none := by
        obtain ⟨u, hu⟩ : ∃ u, (cs (g 0))[0]? = some u := by
          have : 0 < (cs (g 0)).length := by rw [hk]; omega
          exact ⟨_, List.getElem?_eq_getElem this⟩
        simpa [Addr.add] using World.cell?_spot ((hg 0 (by omega)).2 0 u hu)
      subst hspot
      refine ⟨b, off, rfl, fun q u hq => ?_⟩
      have := hc q u hq
      rw [Go.WideShapes.add_plain, ← hk (g i)] at this
      rw [← this]
      congr 2
      omega
    · simp only [List.mem_map, List.mem_range] at hx
      obtain ⟨i, hil, rfl⟩ := hx
      exact (hg i hil).1
    · have h1 := hw _ (by simp only [DataW.weights, ht]; exact List.mem_cons_self ..)
      rw [hby] at h1
      simp at h1
      have : len0 + (m - len0) ≤ (len0 + (m - len0)) * by_ := Nat.le_mul_of_pos_right _ hb1
      simp
      omega

theorem okI_of {x : Int} (h : (Lit.int .i64 x).wf = true) : OkI x := by
  simp [Lit.wf, IntKind.min, IntKind.max, IntKind.signed, IntKind.bits] at h
  unfold OkI
  omega
section
variable {H : Type} {enc : TypeId × Value → H} {W : World} {base b0 : Nat} {r : Reach} {sp : Nat → Bool} {v : Value} {d : DataW H} {ps : List MemPlace} {ts : List TypeId} {ds : List (DataW H)} {j : Nat}
theorem one_cell {t : TypeId} (h : Tryz.prog.cellsOf t = 1) {cs : List Value} {k : Nat} {u : Value} (hk : cs[k]? = some u) : (cs.drop k).take (Tryz.prog.cellsOf t) = [u] := by
  rw [h]
  obtain ⟨hl, rfl⟩ := List.getElem?_eq_some_iff.1 hk
  rw [List.drop_eq_getElem_cons hl]
  rfl
theorem trod_four {P : Program} {t : TypeId} {f0 f1 f2 f3 : Field} {fuel : Nat} {cs : List Value} {x : DataW H × List MemPlace} {w : World} {hd : Bool} (ht : P.underlying t = some (.struct #[f0, f1, f2, f3])) (h : DataW.trod enc P w base sp hd fuel t cs = some x) :
    ∃ y0 y1 y2 y3 n, x.1 = .agg [y0.1, y1.1, y2.1, y3.1] ∧ DataW.trod enc P w base sp hd n f0.type ((cs.drop f0.offset).take (P.cellsOf f0.type)) = some y0 ∧ DataW.trod enc P w base sp hd n f1.type ((cs.drop f1.offset).take (P.cellsOf f1.type)) = some y1 ∧
      DataW.trod enc P w base sp hd n f2.type ((cs.drop f2.offset).take (P.cellsOf f2.type)) = some y2 ∧ DataW.trod enc P w base sp hd n f3.type ((cs.drop f3.offset).take (P.cellsOf f3.type)) = some y3 := by
  obtain ⟨xs, n, _, rfl, hl, hlen, hf⟩ := DataW.trod_struct ht h
  match xs, hlen with
  | [y0, y1, y2, y3], _ => exact ⟨y0, y1, y2, y3, n, by simp, by simpa using hf 0 f0 rfl, by simpa using hf 1 f1 rfl, by simpa using hf 2 f2 rfl, by simpa using hf 3 f3 rfl⟩
/-- Links, read. -/
theorem open_links (hval : Value.okWide Tryz.prog W r b0 22 v) (h : DataW.Trod enc Tryz.prog W base sp true 22 v d ps)
    (hsz : (DataW.weightsEach Tryz.prog ts ds).all (· ≤ reachBytes) = true) (hj : ts[j]? = some 22) (hd : ds[j]? = some d) :
    ∃ (P : Option Addr) (cap : Nat) (l : List Lk), v = .slice P l.length cap ∧ SlL W P cap l ∧ (∀ x ∈ l, OkK x) ∧ l.length ≤ 140737488355328 ∧ (P = none → cap = 0) := by
  refine open_slG Lk.cells OkK 4 32 (fun x => rfl) (by omega) Tryz.underlying22 (by kernel_rfl) (by kernel_rfl) (by omega) (fun cs' n y h hl => ?_) hval h hsz hj hd
  obtain ⟨y0, y1, y2, y3, n', hy, t0, t1, t2, t3⟩ := trod_four Tryz.underlying33 h
  rw [hy]
  match cs', hl with
  | [v0, v1, v2, v3], _ =>
    rw [one_cell (by kernel_rfl) (rfl : [v0, v1, v2, v3][0]? = some v0)] at t0
    rw [one_cell (by kernel_rfl) (rfl : [v0, v1, v2, v3][1]? = some v1)] at t1
    rw [one_cell (by kernel_rfl) (rfl : [v0, v1, v2, v3][2]? = some v2)] at t2
    rw [one_cell (by kernel_rfl) (rfl : [v0, v1, v2, v3][3]? = some v3)] at t3
    obtain ⟨x0, a0, c0, w0⟩ := DataW.trod_int (k := .i64) Tryz.underlying3 t0
    obtain ⟨x1, a1, c1, w1⟩ := DataW.trod_int (k := .i64) Tryz.underlying3 t1
    obtain ⟨x2, a2, c2, w2⟩ := DataW.trod_int (k := .i64) Tryz.underlying3 t2
    obtain ⟨x3, a3, c3, w3⟩ := DataW.trod_int (k := .i64) Tryz.underlying3 t3
    simp only [List.cons.injEq, and_true] at a0 a1 a2 a3
    subst a0 a1 a2 a3
    exact ⟨(x0, x1, x2, x3), rfl, fun hq => ⟨okI_of w0, okI_of w1, okI_of w2, okI_of w3⟩⟩
/-- Numbers, read. -/
theorem open_list (hval : Value.okWide Tryz.prog W r b0 31 v) (h : DataW.Trod enc Tryz.prog W base sp true 31 v d ps)
    (hsz : (DataW.weightsEach Tryz.prog ts ds).all (· ≤ reachBytes) = true) (hj : ts[j]? = some 31) (hd : ds[j]? = some d) :
    ∃ (P : Option Addr) (cap : Nat) (l : List Int), v = .slice P l.length cap ∧ SlI W P cap l ∧ (∀ x ∈ l, OkI x) ∧ l.length ≤ 140737488355328 ∧ (P = none → cap = 0) := by
  refine open_slG (fun x : Int => [.int .i64 x]) OkI 1 8 (fun x => rfl) (by omega) Tryz.underlying31 (by kernel_rfl) (by kernel_rfl) (by omega) (fun cs' n y h hl => ?_) hval h hsz hj hd
  match cs', hl with
  | [v0], _ =>
    obtain ⟨x0, a0, c0, w0⟩ := DataW.trod_int (k := .i64) Tryz.underlying3 h
    simp only [List.cons.injEq, and_true] at a0
    subst a0
    exact ⟨x0, rfl, fun hq => okI_of w0⟩
end
theorem backK {H : Type} {enc : TypeId × Value → H} {W W' : World} {v : Value} {d : DataW H} {ps : List MemPlace} (h : DataW.Trod enc Tryz.prog W 0 (fun _ => true) true 22 v d ps) (hb : Below W.heap.size W W')
    (hlt : ∀ x ∈ ps, x.block < W.heap.size) (sp : Nat → Bool) (hsp : ∀ x ∈ ps, sp x.block = true) : DataW.Trod enc Tryz.prog W' 0 sp true 22 v d ps :=
  WideElems.Trod_stays laidOut (by kernel_rfl) (of_decide_eq_true (by kernel_rfl)) h (fun x hx => hb.same (hlt x hx)) hsp
theorem backL {H : Type} {enc : TypeId × Value → H} {W W' : World} {v : Value} {d : DataW H} {ps : List MemPlace} (h : DataW.Trod enc Tryz.prog W 0 (fun _ => true) true 31 v d ps) (hb : Below W.heap.size W W')
    (hlt : ∀ x ∈ ps, x.block < W.heap.size) (sp : Nat → Bool) (hsp : ∀ x ∈ ps, sp x.block = true) : DataW.Trod enc Tryz.prog W' 0 sp true 31 v d ps :=
  WideElems.Trod_stays laidOut (by kernel_rfl) (of_decide_eq_true (by kernel_rfl)) h (fun x hx => hb.same (hlt x hx)) hsp
end Go.Proofs.YtpobjheodlkkiaaGreatDoor
