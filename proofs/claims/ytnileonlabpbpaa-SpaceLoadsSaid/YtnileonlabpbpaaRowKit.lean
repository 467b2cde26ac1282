/- Opening the arguments of the statements' rows: a list of cells; and the last step of a row. -/
import Derived.Test.YtnileonlabpbpaaRefA
import Derived.Test.YtnileonlabpbpaaRows
import Derived.Deep.SlicePairs
import Derived.Below
import Derived.ChangeSame
import Derived.SizedLaws
import Derived.OpenShut
namespace Go.Proofs.Ytnileonlabpbpaa
open Go.RowKit Go.WideShapes Go.ChangeShapes Go.ChangeAt Go.Deep
set_option linter.unusedVariables false
set_option maxRecDepth 20000

section
variable {H : Type} {enc : TypeId × Value → H} {P : Program}
theorem post_of_below {f : Func} {s : ChangeSpec} {apart fresh handsOn again : Bool} {W W' : World} {args : Array Value} {v : Value} {ds gs : List (DataW H)} {before pa pv : List MemPlace}
    (hW : DataW.Whole enc P f.params.toList s.vars apart W args.toList ds gs before)
    (hres : ∀ (b : Nat) (sp : Nat → Bool) (hd : Bool), DataW.TrodAll enc P W' b sp hd f.resultTypes.toList (v.resultList f.resultTypes.size) (s.fn H (ds ++ gs)).results [])
    (hargs : ∀ sp : Nat → Bool, (∀ p ∈ before, sp p.block = true) → DataW.TrodAll enc P W' 0 sp true f.params.toList args.toList (s.fn H (ds ++ gs)).args pa)
    (hvars : ∀ sp : Nat → Bool, (∀ p ∈ before, sp p.block = true) → DataW.TrodVars enc P W' sp s.vars (s.fn H (ds ++ gs)).vars pv)
    (hps : before = pa ++ pv) (hb : Below W.heap.size W W')
    (hok : ∀ (j : Nat) (t : TypeId) (r : Value), f.resultTypes[j]? = some t → (v.resultList f.resultTypes.size)[j]? = some r → Value.okWide P W' .any 0 t r) :
    s.post enc P f apart fresh handsOn again W args v W' := by
  have hlt : ∀ p ∈ before, p.block < W.heap.size := fun p hp => hW.lt p hp
  have hold : ∀ p ∈ before, (fun b => decide (b < W.heap.size)) p.block = true := fun p hp => by simpa using hlt p hp
  refine ⟨ds, gs, before, [], pa, pv, hW, hres _ _ _, hargs _ hold, hvars _ hold, World.keptBut_mono (fun p hp => ⟨hp, ?_⟩) (hb.frame (· ∈ before)), fun _ => ?_⟩
  · rw [hps, List.mem_append] at hp
    exact Or.inr hp
  · obtain ⟨_, _, _, _, _, hz, hn⟩ := hW
    refine ⟨hok, _, _, ([] ++ pa) ++ pv, ⟨[] ++ pa, pv, trodAll_append (hargs _ (fun _ _ => rfl)) (hres _ _ _), hvars _ (fun _ _ => rfl), rfl, ?_, ?_⟩, ?_⟩
    · intro b off hp
      have hin : MemPlace.cell b off ∈ before := by rw [hps]; simpa using hp
      rw [hb.frozen (hlt _ hin)]
      exact hz b off hin
    · intro ha
      have := hn ha
      rw [hps] at this
      simpa using this
    · intro p hp _
      rw [hps]
      simpa using hp
end

theorem own : ownKnob Try.prog.godebug = none := by kernel_rfl
theorem laidOut : laidOutB Try.prog = true := by kernel_rfl

theorem weightsAll_in {H : Type} {P : Program} {e : TypeId} : ∀ {l : List (DataW H)} {d : DataW H}, d ∈ l → ∀ n ∈ d.weights P e, n ∈ DataW.weightsAll P e l
  | c :: l, d, hd, n, hn => by
    simp only [DataW.weightsAll, List.mem_append]
    rcases List.mem_cons.1 hd with h | h
    · subst h; exact .inl hn
    · exact .inr (weightsAll_in h n hn)
  | [], _, hd, _, _ => by cases hd

/-- A list of cells, read. -/
theorem open_cells {H : Type} {enc : TypeId × Value → H} {W : World} {base b0 : Nat} {r : Reach} {sp : Nat → Bool} {v : Value} {d : DataW H} {ps : List MemPlace} {ts : List TypeId} {ds : List (DataW H)} {j : Nat}
    (hval : Value.okWide Try.prog W r b0 81 v) (h : DataW.Trod enc Try.prog W base sp true 81 v d ps)
    (hsz : (DataW.weightsEach Try.prog ts ds).all (· ≤ reachBytes) = true) (hj : ts[j]? = some 81) (hd : ds[j]? = some d) :
    ∃ (A : Option Addr) (n cap : Nat) (f : Nat → Cel), v = .slice A n cap ∧ SlC W A n f ∧ n ≤ 140737488355328 ∧ (∀ i, i < n → (f i).2.size ≤ 140737488355328) ∧ ∀ i, i < n → -9223372036854775808 ≤ (f i).1 ∧ (f i).1 ≤ 9223372036854775807 := by
  obtain ⟨a0, len0, cap0, rfl⟩ := okWide_slice Try.underlying81 hval
  obtain ⟨fuel, hf⟩ := h
  rcases open_slice_pairs Try.underlying81 Try.underlying85 (by kernel_rfl) (by kernel_rfl) (by kernel_rfl) (by kernel_rfl) (by kernel_rfl) hf with ⟨h0, hx⟩ | ⟨a, len, cap, m, k, V0, V1, D0, D1, P0, P1, h0, hb, hlc, hcap, hm, hx, hi⟩
  · simp [Value.cells] at h0
    obtain ⟨rfl, rfl, rfl⟩ := h0
    exact ⟨none, 0, 0, fun _ => (0, ⟨#[]⟩), rfl, ⟨fun i hi => by omega⟩, by omega, fun i hi => by omega, fun i hi => by omega⟩
  · simp [Value.cells] at h0
    obtain ⟨rfl, rfl, rfl⟩ := h0
    simp only [Prod.mk.injEq] at hx
    obtain ⟨hx, _⟩ := hx
    have hlm : len0 ≤ m := by rw [hm]; split <;> omega
    have hel : ∀ i, i < len0 → ∃ (x : Int) (s : ByteArray), V0 i = .int .i64 x ∧ V1 i = .string s ∧ D0 i = .lit (.int .i64 x) ∧ D1 i = .lit (.string s.data.toList) ∧ (Lit.int .i64 x).wf = true := by
      intro i hil
      obtain ⟨_, _, t0, t1⟩ := hi i (by omega)
      obtain ⟨x, h1, h2, h3⟩ := DataW.trod_int (k := .i64) Try.underlying3 t0
      obtain ⟨s, g1, g2, _⟩ := DataW.trod_string Try.underlying9 t1
      simp only [List.cons.injEq, and_true, Prod.mk.injEq] at h1 h2 g1 g2
      exact ⟨x, s, h1, g1, h2.1, g2.1, h3⟩
    have hw : ∀ n ∈ d.weights Try.prog 81, n ≤ reachBytes := fun n hn => by
      have := List.all_eq_true.1 hsz _ (DataW.weights_mem_each hj hd n hn)
      simpa using this
    have hrl := reachBytes_lt
    refine ⟨some a, len0, cap0, fun i => (match V0 i with | .int _ x => x | _ => 0, match V1 i with | .string s => s | _ => ⟨#[]⟩), rfl, ⟨fun i hil => ?_⟩, ?_, fun i hil => ?_, fun i hil => ?_⟩
    · obtain ⟨x, s, e1, e2, _⟩ := hel i hil
      obtain ⟨c0, c1, _⟩ := hi i (by omega)
      obtain ⟨b, off, spot⟩ := a
      have hspot : spot = none := by simpa [Addr.add] using World.cell?_spot (hi 0 (by omega)).1
      subst hspot
      refine ⟨b, off, rfl, ?_, ?_⟩
      · rw [← Go.WideShapes.add_plain, c0, e1]
      · have := c1
        rw [Go.WideShapes.add_plain] at this
        rw [← Nat.add_assoc] at this
        rw [this, e2]
    · have h1 := hw _ (by rw [hx]; simp only [DataW.weights, Try.underlying81]; exact List.mem_cons_self ..)
      have hby : Try.prog.bytesOf 85 = 24 := by kernel_rfl
      rw [hby] at h1
      simp at h1
      omega
    · obtain ⟨x, s, e1, e2, d0, d1, _⟩ := hel i hil
      simp only [e2]
      have h1 := hw s.data.toList.length (by
        rw [hx]
        simp only [DataW.weights, Try.underlying81]
        refine List.mem_cons_of_mem _ (List.mem_append.2 (.inl (weightsAll_in (d := .agg [D0 i, D1 i]) (List.mem_map.2 ⟨i, List.mem_range.2 hil, rfl⟩) _ ?_)))
        simp [DataW.weights, Try.underlying85, DataW.weightsEach, d0, d1])
      have : s.size = s.data.toList.length := by simp
      omega
    · obtain ⟨x, s, e1, e2, d0, d1, hwf⟩ := hel i hil
      simp only [e1]
      simp [Lit.wf, IntKind.min, IntKind.max, IntKind.signed, IntKind.bits] at hwf
      omega

/-- A list of cells reads behind the call as it did. -/
theorem back1 {H : Type} {enc : TypeId × Value → H} {W W' : World} {v : Value} {d : DataW H} {ps : List MemPlace} (h : DataW.Trod enc Try.prog W 0 (fun _ => true) true 81 v d ps) (hb : Below W.heap.size W W')
    (hlt : ∀ x ∈ ps, x.block < W.heap.size) (sp : Nat → Bool) (hsp : ∀ x ∈ ps, sp x.block = true) : DataW.Trod enc Try.prog W' 0 sp true 81 v d ps :=
  WideElems.Trod_stays laidOut (by kernel_rfl) (of_decide_eq_true (by kernel_rfl)) h (fun x hx => hb.same (hlt x hx)) hsp
end Go.Proofs.Ytnileonlabpbpaa
