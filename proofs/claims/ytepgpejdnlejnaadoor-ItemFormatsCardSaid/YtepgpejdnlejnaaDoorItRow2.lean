/- Opening a value that comes in by value. -/
import Derived.Test.YtepgpejdnlejnaaDoorItRow
import Derived.Lib.SmallJoins
namespace Go.Proofs.YtepgpejdnlejnaaDoor
open Go.RowKit Go.WideShapes Go.ChangeShapes Go.ChangeAt Go.Deep
set_option linter.unusedVariables false
set_option linter.unusedSimpArgs false
set_option linter.unusedSectionVars false
set_option maxRecDepth 20000

theorem open_val {H : Type} {enc : TypeId × Value → H} {W : World} {base b0 : Nat} {r : Reach} {sp : Nat → Bool} {v : Value} {d : DataW H} {ps : List MemPlace} {ts : List TypeId} {ds : List (DataW H)} {j : Nat}
    (hval : Value.okWide Tryd.prog W r b0 29 v) (h : DataW.Trod enc Tryd.prog W base sp true 29 v d ps)
    (hsz : (DataW.weightsEach Tryd.prog ts ds).all (· ≤ reachBytes) = true) (hj : ts[j]? = some 29) (hd : ds[j]? = some d) :
    ∃ x : Vl, v = x.v ∧ OkV x := by
  obtain ⟨v0, v1, v2, y0, y1, y2, n, rfl, rfl, rfl, t0, t1, t2⟩ := Go.Joins.open_agg3 Tryd.underlying29 (by kernel_rfl) (by kernel_rfl) hval h
  obtain ⟨x0, a0, c0, w0⟩ := DataW.trod_int (k := .i64) Tryd.underlying3 t0
  obtain ⟨x1, a1, c1, w1⟩ := DataW.trod_int (k := .i64) Tryd.underlying3 t1
  obtain ⟨s, a2, c2, _⟩ := DataW.trod_string Tryd.underlying9 t2
  simp only [List.cons.injEq, and_true] at a0 a1 a2
  subst a0 a1 a2
  refine ⟨(x0, x1, s), rfl, okI_of w0, okI_of w1, ?_⟩
  have hw : ∀ n ∈ (DataW.agg [y0.1, y1.1, y2.1]).weights Tryd.prog 29, n ≤ reachBytes := fun n hn => by
    have := List.all_eq_true.1 hsz _ (DataW.weights_mem_each hj hd n hn)
    simpa using this
  subst c0 c1 c2
  have h1 := hw s.data.toList.length (by simp [DataW.weights, Tryd.underlying29, DataW.weightsEach])
  have : s.size = s.data.toList.length := by simp
  have hr := reachBytes_lt
  show s.size ≤ _
  omega
theorem backW {H : Type} {enc : TypeId × Value → H} {W W' : World} {v : Value} {d : DataW H} {ps : List MemPlace} (h : DataW.Trod enc Tryd.prog W 0 (fun _ => true) true 29 v d ps) (hb : Below W.heap.size W W')
    (hlt : ∀ x ∈ ps, x.block < W.heap.size) (sp : Nat → Bool) (hsp : ∀ x ∈ ps, sp x.block = true) : DataW.Trod enc Tryd.prog W' 0 sp true 29 v d ps :=
  WideElems.Trod_stays laidOut (by kernel_rfl) (of_decide_eq_true (by kernel_rfl)) h (fun x hx => hb.same (hlt x hx)) hsp
end Go.Proofs.YtepgpejdnlejnaaDoor
