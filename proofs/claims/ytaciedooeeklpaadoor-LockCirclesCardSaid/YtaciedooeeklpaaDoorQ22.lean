/- LmY; RowBase; LmRow0; LmRowE (merged by group.py) -/
import Derived.Test.YtaciedooeeklpaaDoorQ21
import Derived.Test.YtaciedooeeklpaaDoorQ16
import Derived.Test.YtaciedooeeklpaaDoorProg
import Derived.Test.YtaciedooeeklpaaDoorRows
import Derived.Below
import Derived.Deep.SlicePairs
import Derived.ChangeSame
import Derived.SizedLaws
import Derived.OpenShut
import Derived.ProofKit
import Derived.LaidMore
import Derived.Lay
import Derived.Stop.Joined
import Derived.Stop.LaidErr
import Derived.Test.YtaciedooeeklpaaDoorQ17
import Derived.Deep.Slices
import Derived.Deep.Strs
namespace Go.Proofs.YtaciedooeeklpaaDoor
section
open Go.RowKit Go.Maps
set_option linter.unusedVariables false
set_option linter.unusedSimpArgs false
set_option linter.unusedSectionVars false
set_option maxRecDepth 100000
attribute [local go_sem] Oper.semAt_some

theorem sameI_any (P Q : Option Addr) (c d : Nat) (l : List Int) (w : World) (h1 : SlI w P c l) (h2 : SlI w Q d l) :
    Calls Tryd.prog 14 #[.slice P l.length c, .slice Q l.length d] w fun e w' => e = .returned (.bool true) ∧ Ext w w' := by
  have hl1 : l.length ≤ 9223372036854775807 := Nat.le_trans h1.le h1.cap
  go_enter Tryd.func14, Tryd.ntmps14
  go_wp2_with (fail)
  go_loopw [5] (fun i W => ∃ k : Nat, k ≤ l.length ∧ i = .int .i64 k ∧ Ext w W) (fun i _ => l.length - (intOf i).toNat)
  case atStart => exact ⟨0, by omega, rfl, Ext.refl _⟩
  case round =>
    obtain ⟨k, hk, rfl, hx⟩ := hrel
    by_cases hlt : k < l.length
    · obtain ⟨b1, o1, hP, g1⟩ := (h1.ext hx).intAt k hlt
      obtain ⟨b2, o2, hQ, g2⟩ := (h2.ext hx).intAt k hlt
      subst hP hQ
      have c1 : (k : Int) < l.length := by omega
      have d1 : IntKind.i64.wrap ((k : Int) + 1) = (k : Int) + 1 := IntWalk.i64_in _ ⟨by omega, by omega⟩
      generalize l.getD k 0 = x at *
      have c2 : (x != x) = false := by simp
      go_wp2_with (fail)
      go_quiet (fail)
      go_wp2_with (fail)
      go_roundw
      case rel => exact ⟨k + 1, by omega, by go_num, hx.drewN _⟩
      case measure => simp [intOf, d1]; omega
    · obtain rfl : k = l.length := by omega
      go_wp2_with (fail)
      go_ret
      exact ⟨rfl, hx⟩
theorem any_take_succ {l : List Ed} {k : Nat} {e : Ed} (h : l[k]? = some e) : (l.take (k + 1)).any negE = ((l.take k).any negE || negE e) := by
  rw [List.take_add_one, h, Option.toList_some, List.any_append, List.any_cons, List.any_nil, Bool.or_false]
theorem rCircle_bad (P : Option Addr) (cap : Nat) (l : List Ed) (s : Int) (w : World) (h : SlE w P cap l) (hb : badC l s = true) :
    Calls Tryd.prog 13 #[.slice P l.length cap, .int .i64 s] w fun e w' => e = .returned (.tuple #[.slice none 0 0, .bool false, .int .i64 7]) ∧ Ext w w' := by
  unfold badC at hb
  have hcap := h.cap
  have hlec := h.le
  by_cases hs : s < 0
  · have d : decide (s < 0) = true := decide_eq_true hs
    go_enter Tryd.func13, Tryd.ntmps13
    go_wp2_with (fail)
    go_ret3
    exact ⟨rfl, Ext.refl _⟩
  · have d : decide (s < 0) = false := decide_eq_false hs
    rw [d, Bool.false_or] at hb
    have HB := Lib.hid hb
    clear hb
    go_enter Tryd.func13, Tryd.ntmps13
    go_wp2_with (fail)
    go_loopw [7] (fun i W => ∃ k : Nat, k ≤ l.length ∧ i = .int .i64 k ∧ Hid ((l.take k).any negE = false) ∧ Ext w W) (fun i _ => l.length - (intOf i).toNat)
    case atStart => exact ⟨0, by omega, rfl, Lib.hid (by simp), Ext.refl _⟩
    case round =>
      obtain ⟨k, hk, rfl, hall, hx⟩ := hrel
      by_cases hlt : k < l.length
      · obtain ⟨e, hs2⟩ : ∃ e, l[k]? = some e := ⟨_, List.getElem?_eq_getElem hlt⟩
        obtain ⟨bb, off, hP, g0, g1⟩ := SlE.at2 (h.ext hx) k e hs2
        subst hP
        have ck : (k : Int) < l.length := by omega
        have d1 : IntKind.i64.wrap ((k : Int) + 1) = (k : Int) + 1 := IntWalk.i64_in _ ⟨by omega, by omega⟩
        have HT := Lib.hid (any_take_succ hs2)
        obtain ⟨x, y⟩ := e
        by_cases hx1 : x < 0
        · have c1 : decide (x < 0) = true := decide_eq_true hx1
          clear HT hs2
          go_wp2_with (fail)
          go_ret3
          exact ⟨rfl, hx⟩
        · have c1 : decide (x < 0) = false := decide_eq_false hx1
          by_cases hy1 : y < 0
          · have c2 : decide (y < 0) = true := decide_eq_true hy1
            clear HT hs2
            go_wp2_with (fail)
            go_ret3
            exact ⟨rfl, hx⟩
          · have c2 : decide (y < 0) = false := decide_eq_false hy1
            have HN := Lib.hid (show (l.take (k + 1)).any negE = false from by
              rw [HT.out, hall.out]
              simp only [negE, c1, c2]
              rfl)
            clear HT hs2
            go_wp2_with (fail)
            go_roundw
            case rel => exact ⟨k + 1, by omega, by go_num, HN, hx⟩
            case measure => simp [intOf, d1]; omega
      · obtain rfl : k = l.length := by omega
        have h1 := hall.out
        rw [List.take_length, HB.out] at h1
        cases h1
set_option maxHeartbeats 4000000 in
theorem rCircle_ok (P : Option Addr) (cap : Nat) (l : List Ed) (s : Int) (w : World) (h : SlE w P cap l) (hb : badC l s = false) (hl : l.length ≤ 1000) :
    Calls Tryd.prog 13 #[.slice P l.length cap, .int .i64 s] w fun e w' => (∃ P' c', e = .returned (.tuple #[.slice P' ((circF l s).getD []).length c', .bool (circF l s).isSome, .int .i64 0]) ∧ SlI w' P' c' ((circF l s).getD [])) ∧ Ext w w' := by
  unfold badC at hb
  rw [Bool.or_eq_false_iff] at hb
  obtain ⟨hb1, hb2⟩ := hb
  have hsn : ¬ s < 0 := by simpa using hb1
  have hcap := h.cap
  have hlec := h.le
  have HB := Lib.hid (show ∀ e ∈ l, negE e = false from fun e he => by
    have := List.any_eq_false.1 hb2 e he
    simpa using this)
  have HH := Lib.hid h
  clear hb2 h
  go_enter Tryd.func13, Tryd.ntmps13
  go_wp2_with (fail)
  go_loopw [7] (fun i W => ∃ k : Nat, k ≤ l.length ∧ i = .int .i64 k ∧ Ext w W) (fun i _ => l.length - (intOf i).toNat)
  case atStart => exact ⟨0, by omega, rfl, Ext.refl _⟩
  case round =>
    obtain ⟨k, hk, rfl, hx⟩ := hrel
    by_cases hlt : k < l.length
    · obtain ⟨e, hs2⟩ : ∃ e, l[k]? = some e := ⟨_, List.getElem?_eq_getElem hlt⟩
      obtain ⟨bb, off, hP, g0, g1⟩ := SlE.at2 (HH.out.ext hx) k e hs2
      subst hP
      have ck : (k : Int) < l.length := by omega
      have d1 : IntKind.i64.wrap ((k : Int) + 1) = (k : Int) + 1 := IntWalk.i64_in _ ⟨by omega, by omega⟩
      have hn := HB.out e (List.mem_of_getElem? hs2)
      obtain ⟨x, y⟩ := e
      simp only [negE, Bool.or_eq_false_iff] at hn
      obtain ⟨c1, c2⟩ := hn
      clear hs2
      go_wp2_with (fail)
      go_roundw
      case rel => exact ⟨k + 1, by omega, by go_num, hx⟩
      case measure => simp [intOf, d1]; omega
    · obtain rfl : k = l.length := by omega
      have ck : ¬ (l.length : Int) < l.length := by omega
      have c4 : ¬ (1000 : Int) < l.length := by omega
      have hC := rcircle_any P cap l s wr (HH.out.ext hx) hl
      go_wp2_with (go_at_call 34; refine hC.mono ?_; rintro e w5 ⟨⟨P5, c5, rfl, hs5⟩, hx5⟩)
      go_ret3
      exact ⟨⟨P5, c5, rfl, hs5⟩, hx.trans hx5⟩
set_option maxHeartbeats 4000000 in
theorem lockCircles_any (P : Option Addr) (cap : Nat) (l : List Ed) (s : Int) (w : World) (h : SlE w P cap l) (hr : ∀ e ∈ l, Ok64 e.1 ∧ Ok64 e.2) (hs : Ok64 s) :
    Calls Tryd.prog 4 #[.slice P l.length cap, .int .i64 s] w fun e w' => e = .returned (.bool true) ∧ Ext w w' := by
  have hAw := fun W => awake_any W
  have hcap := h.cap
  have hlec := h.le
  by_cases hbig : 60 < l.length
  · have c1 : (60 : Int) < l.length := by omega
    go_enter Tryd.func4, Tryd.ntmps4
    go_wp2_with (go_at_call 5; refine (hAw _).mono ?_; rintro e w1 ⟨rfl, hx1⟩)
    go_ret
    exact ⟨rfl, hx1⟩
  · have c1 : ¬ (60 : Int) < l.length := by omega
    cases hb : badC l s with
    | true =>
      have hL := lCircle_bad P cap l s w h hb
      have hR := fun (W : World) (hx : Ext w W) => rCircle_bad P cap l s W (h.ext hx) hb
      have hS := fun W => sameI_any none none 0 0 [] W (SlG.nil _ _) (SlG.nil _ _)
      have HH := Lib.hid h
      clear hb h hr
      go_enter Tryd.func4, Tryd.ntmps4
      go_wp2_with (first
        | (go_at_call 12; refine hL.mono ?_; rintro e w1 ⟨rfl, hx1⟩)
        | (go_at_call 13; refine (hR _ hx1).mono ?_; rintro e w2 ⟨rfl, hx2⟩)
        | (go_at_call 14; refine (hS _).mono ?_; rintro e w3 ⟨rfl, hx3⟩)
        | (go_at_call 5; refine (hAw _).mono ?_; rintro e w4 ⟨rfl, hx4⟩)
        | (refine ⟨trivial, ?_⟩) | (with_reducible refine And.intro (fun _ hf => (by cases hf)) ?_))
      go_ret
      exact ⟨rfl, ((hx1.trans hx2).trans hx3).trans hx4⟩
    | false =>
      have hL := lCircle_ok P cap l s w h hb (by omega) hs hr
      have hR := fun (W : World) (hx : Ext w W) => rCircle_ok P cap l s W (h.ext hx) hb (by omega)
      have hS := fun (P Q : Option Addr) (c d : Nat) W h1 h2 => sameI_any P Q c d ((circF l s).getD []) W h1 h2
      generalize circF l s = R at *
      have HH := Lib.hid h
      clear hb h hr
      go_enter Tryd.func4, Tryd.ntmps4
      go_wp2_with (first
        | (go_at_call 12; refine hL.mono ?_; rintro e w1 ⟨⟨P1, k1, rfl, hs1⟩, hx1⟩)
        | (go_at_call 13; refine (hR _ hx1).mono ?_; rintro e w2 ⟨⟨P2, k2, rfl, hs2⟩, hx2⟩)
        | (go_at_call 14; refine (hS _ _ _ _ _ (hs1.ext hx2) hs2).mono ?_; rintro e w3 ⟨rfl, hx3⟩)
        | (go_at_call 5; refine (hAw _).mono ?_; rintro e w4 ⟨rfl, hx4⟩)
        | (refine ⟨trivial, ?_⟩) | (with_reducible refine And.intro (fun _ hf => (by cases hf)) ?_))
      go_ret
      exact ⟨rfl, ((hx1.trans hx2).trans hx3).trans hx4⟩
end
section
open Go.RowKit Go.WideShapes Go.ChangeShapes Go.Deep
set_option linter.unusedVariables false
set_option maxRecDepth 20000

section
variable {H : Type} {enc : TypeId × Value → H} {P : Program}
theorem post_of_below {f : Func} {s : ChangeSpec} {apart fresh handsOn again : Bool} {W W' : World} {args : Array Value} {v : Value} {ds gs : List (DataW H)} {before pa pv : List MemPlace}
    (hW : DataW.Whole enc P f.params.toList s.vars apart W args.toList ds gs before)
    (hres : ∀ (b : Nat) (sp : Nat → Bool) (hd : Bool), DataW.TrodAll enc P W' b sp hd f.resultTypes.toList (v.resultList f.resultTypes.size) (s.fn H (ds ++ gs)).results [])
    (hargs : ∀ sp : Nat → Bool, (∀ p ∈ before, sp p.block = true) → DataW.TrodAll enc P W' 0 sp true f.params.toList args.toList (s.fn H (ds ++ gs)).args pa)
    (hvars : ∀ sp : Nat → Bool, (∀ p ∈ before, sp p.block = true) → DataW.TrodVars enc P W' sp s.vars (s.fn H (ds ++ gs)).vars pv)
    (hps : before = pa ++ pv) (hb : Below W.heap.size W W')
    (hok : ∀ (j : Nat) (t : TypeId) (r : Value), f.resultTypes[j]? = some t → (v.resultList f.resultTypes.size)[j]? = some r → Value.okWide P W' .any 0 t r) :
    s.post enc P f apart fresh handsOn again W args v W' := by
  have hlt : ∀ p ∈ before, p.block < W.heap.size := fun p hp => hW.lt p hp
  have hold : ∀ p ∈ before, (fun b => decide (b < W.heap.size)) p.block = true := fun p hp => by simpa using hlt p hp
  refine ⟨ds, gs, before, [], pa, pv, hW, hres _ _ _, hargs _ hold, hvars _ hold, World.keptBut_mono (fun p hp => ⟨hp, ?_⟩) (hb.frame (· ∈ before)), fun _ => ?_⟩
  · rw [hps, List.mem_append] at hp
    exact Or.inr hp
  · obtain ⟨_, _, _, _, _, hz, hn⟩ := hW
    refine ⟨hok, _, _, ([] ++ pa) ++ pv, ⟨[] ++ pa, pv, trodAll_append (hargs _ (fun _ _ => rfl)) (hres _ _ _), hvars _ (fun _ _ => rfl), rfl, ?_, ?_⟩, ?_⟩
    · intro b off hp
      have hin : MemPlace.cell b off ∈ before := by rw [hps]; simpa using hp
      rw [hb.frozen (hlt _ hin)]
      exact hz b off hin
    · intro ha
      have := hn ha
      rw [hps] at this
      simpa using this
    · intro p hp _
      rw [hps]
      simpa using hp
end

theorem own : ownKnob Tryd.prog.godebug = none := by kernel_rfl
theorem laidOut : laidOutB Tryd.prog = true := by kernel_rfl

theorem weightsAll_in {H : Type} {P : Program} {e : TypeId} : ∀ {l : List (DataW H)} {d : DataW H}, d ∈ l → ∀ n ∈ d.weights P e, n ∈ DataW.weightsAll P e l
  | c :: l, d, hd, n, hn => by
    simp only [DataW.weightsAll, List.mem_append]
    rcases List.mem_cons.1 hd with h | h
    · subst h; exact .inl hn
    · exact .inr (weightsAll_in h n hn)
  | [], _, hd, _, _ => by cases hd
end
section
open Go.RowKit Go.WideShapes Go.ChangeShapes Go.ChangeAt Go.Deep
set_option linter.unusedVariables false
set_option linter.unusedSimpArgs false
set_option linter.unusedSectionVars false
set_option maxRecDepth 100000

section
variable {H : Type} {enc : TypeId × Value → H}
theorem returnsInHanded_and_shaped {a : Assume} {C : Checked} {os : Os} {f : FuncId} {fn : Func} {s : ChangeSpec} {conds : List PathCond} {apart fresh handsOn again : Bool} {X : World → Array Value → Prop}
    (hX : ∀ (w w' : World) (args : Array Value), w.heap = w'.heap → X w args → X w' args)
    (own : ownKnob C.prog.godebug = none) (started : os.Started) (noInit : C.prog.inits.idxOf? f = none) (hfn : C.prog.funcs[f]? = some fn)
    (witness : ∃ (w : World) (tape : Tape) (i : Input), w.os = os ∧ (w.forCall tape i).Shaped C.prog ∧ i.vars = [] ∧ Input.okWide C.prog (w.forCall tape i) .any w.heap.size f i ∧
      ((s.pre enc C.prog fn conds apart (w.forCall tape i).memory i.args ∧ X (w.forCall tape i).memory i.args) ∧ sizedMet enc C.prog fn (OpenSpec.ofChange s) apart (w.forCall tape i).memory i.args) ∧ a.holds C.prog (lone (Frame.enter C.prog f i.args .normal) [] (w.forCall tape i)))
    (contract : ∀ (W : World) (base : Nat) (args : Array Value) (ds gs : List (DataW H)) (before : List MemPlace),
      (∀ (j : Nat) t v, fn.params[j]? = some t → args[j]? = some v → Value.okWide C.prog W .any base t v) →
      DataW.Whole enc C.prog fn.params.toList s.vars apart W args.toList ds gs before →
      conds.all (PathCond.test C.prog ⟨fn.params.toList, ds, s.plain.varTypes C.prog, gs⟩) = true →
      (DataW.weightsEach C.prog (fn.params.toList ++ s.plain.varTypes C.prog) (ds ++ gs)).all (· ≤ reachBytes) = true → X W args → W.ShapedOpen C.prog →
      Calls C.prog f args W fun e W' => ∃ v, e = .returned v ∧ s.post enc C.prog fn apart fresh handsOn again W args v W') :
    ReturnsInHanded a C os f .any (fun w args => (s.pre enc C.prog fn conds apart w args ∧ X w args) ∧ sizedMet enc C.prog fn (OpenSpec.ofChange s) apart w args) (s.post enc C.prog fn apart fresh handsOn again) := by
  refine returnsInHanded_of_calls own started noInit witness ?_
  intro w tape i _ hsh _ hok hpre _
  obtain ⟨_, _, _, fn', hfn', _, _, _, _, hval⟩ := hok
  have e : fn' = fn := Option.some.inj (hfn'.symm.trans hfn)
  subst e
  obtain ⟨⟨⟨ds, gs, before, hw, hc⟩, hx⟩, hz⟩ := hpre
  have hw' := DataW.Whole.of_heap (w' := w.forCall tape i) (by rfl) hw
  refine (contract (w.forCall tape i) w.heap.size i.args ds gs before hval hw' hc (hz.weights hw) (hX _ _ _ (by rfl) hx) hsh).mono fun e W' ⟨v, he, hp⟩ => ?_
  subst he
  exact ChangeSpec.post_blind hp
end
def OkI (x : Int) : Prop := -9223372036854775808 ≤ x ∧ x ≤ 9223372036854775807
theorem okI_of {x : Int} (h : (Lit.int .i64 x).wf = true) : OkI x := by
  simp [Lit.wf, IntKind.min, IntKind.max, IntKind.signed, IntKind.bits] at h
  unfold OkI
  omega
abbrev laid2 : List (String × DataW Unit) := [("unicode/utf8.acceptRanges", Rows.laid_unicode_utf8_acceptRanges), ("unicode/utf8.first", Rows.laid_unicode_utf8_first)]
theorem door_met (os : Os) (args : Array Value) : laidMetH Tryd.prog laid2 ((World.laidAll Tryd.prog os laid2).forCall (fun _ _ => 0) ⟨#[], args, []⟩).memory := by
  rw [MakeChecks.laidMetH_plain _ _ _ (by kernel_rfl)]
  exact laidMet_laidAll _ (by kernel_rfl) (by kernel_rfl)
end
section
open Go.RowKit Go.WideShapes Go.ChangeShapes Go.ChangeAt Go.Deep
set_option linter.unusedVariables false
set_option linter.unusedSimpArgs false
set_option linter.unusedSectionVars false
set_option maxRecDepth 20000

/-- A slice of elements, read. -/
theorem open_slG {α : Type} {H : Type} {enc : TypeId × Value → H} {W : World} {base b0 : Nat} {r : Go.Reach} {sp : Nat → Bool} {v : Value} {d : DataW H} {ps : List MemPlace} {ts : List TypeId} {ds : List (DataW H)} {j : Nat} {t e : TypeId} [Inhabited α]
    (cs : α → List Value) (ok : α → Prop) (k by_ : Nat) (hk : ∀ x, (cs x).length = k) (hk0 : 1 ≤ k) (ht : Tryd.prog.underlying t = some (.slice e)) (ce : Tryd.prog.cellsOf e = k) (hby : Tryd.prog.bytesOf e = by_) (hb1 : 1 ≤ by_)
    (hel : ∀ cs' n y, DataW.trod enc Tryd.prog W base sp true n e cs' = some y → cs'.length = k → ∃ x, cs' = cs x ∧ ((∀ m ∈ y.1.weights Tryd.prog e, m ≤ reachBytes) → ok x))
    (hval : Value.okWide Tryd.prog W r b0 t v) (h : DataW.Trod enc Tryd.prog W base sp true t v d ps)
    (hsz : (DataW.weightsEach Tryd.prog ts ds).all (· ≤ reachBytes) = true) (hj : ts[j]? = some t) (hd : ds[j]? = some d) :
    ∃ (P : Option Addr) (cap : Nat) (l : List α), v = .slice P l.length cap ∧ SlG cs W P cap l ∧ (∀ x ∈ l, ok x) ∧ l.length ≤ 140737488355328 := by
  obtain ⟨a0, len0, cap0, rfl⟩ := okWide_slice ht hval
  obtain ⟨fuel, hf⟩ := h
  have hw : ∀ n ∈ d.weights Tryd.prog t, n ≤ reachBytes := fun n hn => by
    have := List.all_eq_true.1 hsz _ (DataW.weights_mem_each hj hd n hn)
    simpa using this
  have hrl := reachBytes_lt
  rcases open_slice ht hf with ⟨h0, hx⟩ | ⟨a, len, cap, m, n, D, Pl, h0, hb, hlc, hcap, hm, hx, hi⟩
  · simp [Value.cells] at h0
    obtain ⟨rfl, rfl, rfl⟩ := h0
    exact ⟨none, 0, [], rfl, SlG.nil _ _, fun x hx => (by cases hx), by simp⟩
  · simp [Value.cells] at h0
    obtain ⟨rfl, rfl, rfl⟩ := h0
    simp only [Prod.mk.injEq] at hx
    obtain ⟨rfl, _⟩ := hx
    have hlm : len0 ≤ m := by rw [hm]; split <;> omega
    have each : ∀ i, i < len0 → ∃ y : α, ok y ∧ ∀ (q : Nat) (u : Value), (cs y)[q]? = some u → W.cell? (a.add (i * k + q)) = some u := by
      intro i hil
      obtain ⟨cs', h1, h2⟩ := hi i (by omega)
      obtain ⟨_, h3, h4⟩ := World.cells?_some h1
      rw [ce] at h3 h4
      obtain ⟨x, rfl, hok⟩ := hel cs' n _ h2 h3
      refine ⟨x, hok fun q hq => hw q ?_, fun q u hq => ?_⟩
      · simp only [DataW.weights, ht]
        exact List.mem_cons_of_mem _ (List.mem_append.2 (.inl (weightsAll_in (d := D i) (List.mem_map.2 ⟨i, List.mem_range.2 hil, rfl⟩) _ hq)))
      · have hq' : q < k := by rw [← hk x]; exact (List.getElem?_eq_some_iff.1 hq).1
        have := h4 q hq'
        rw [hq] at this
        rw [← this, add_add]
    obtain ⟨g, hg⟩ := choose_lt each
    refine ⟨some a, cap0, (List.range len0).map g, by simp, ⟨fun i x hix => ?_, by simpa using hlc, by simpa only [maxLen] using hcap⟩, fun x hx => ?_, ?_⟩
    · have hil : i < len0 := by
        have := (List.getElem?_eq_some_iff.1 hix).1
        simpa using this
      have hx : x = g i := by
        simp [hil] at hix
        exact hix.symm
      subst hx
      obtain ⟨_, hc⟩ := hg i hil
      obtain ⟨b, off, spot⟩ := a
      have hspot : spot = none := by
        obtain ⟨u, hu⟩ : ∃ u, (cs (g 0))[0]? = some u := by
          have : 0 < (cs (g 0)).length := by rw [hk]; omega
          exact ⟨_, List.getElem?_eq_getElem this⟩
        simpa [Addr.add] using World.cell?_spot ((hg 0 (by omega)).2 0 u hu)
      subst hspot
      refine ⟨b, off, rfl, fun q u hq => ?_⟩
      have := hc q u hq
      rw [Go.WideShapes.add_plain, ← hk (g i)] at this
      rw [← this]
      congr 2
      omega
    · simp only [List.mem_map, List.mem_range] at hx
      obtain ⟨i, hil, rfl⟩ := hx
      exact (hg i hil).1
    · have h1 := hw _ (by simp only [DataW.weights, ht]; exact List.mem_cons_self ..)
      rw [hby] at h1
      simp at h1
      have : len0 + (m - len0) ≤ (len0 + (m - len0)) * by_ := Nat.le_mul_of_pos_right _ hb1
      simp
      omega
section
variable {H : Type} {enc : TypeId × Value → H} {W : World} {base b0 : Nat} {r : Go.Reach} {sp : Nat → Bool} {v : Value} {d : DataW H} {ps : List MemPlace} {ts : List TypeId} {ds : List (DataW H)} {j : Nat}
/-- Edges, read. -/
theorem open_eds (hval : Value.okWide Tryd.prog W r b0 29 v) (h : DataW.Trod enc Tryd.prog W base sp true 29 v d ps)
    (hsz : (DataW.weightsEach Tryd.prog ts ds).all (· ≤ reachBytes) = true) (hj : ts[j]? = some 29) (hd : ds[j]? = some d) :
    ∃ (P : Option Addr) (cap : Nat) (l : List Ed), v = .slice P l.length cap ∧ SlE W P cap l ∧ (∀ x ∈ l, OkI x.1 ∧ OkI x.2) ∧ l.length ≤ 140737488355328 := by
  refine open_slG csE (fun x => OkI x.1 ∧ OkI x.2) 2 16 (fun x => rfl) (by omega) Tryd.underlying29 (by kernel_rfl) (by kernel_rfl) (by omega) (fun cs' n y h hl => ?_) hval h hsz hj hd
  obtain ⟨xs, m, rfl, rfl, hcl, hxl, hel⟩ := DataW.trod_array Tryd.underlying52 h
  match cs', hl, xs, hxl with
  | [v0, v1], _, [y0, y1], _ =>
    have hci : Tryd.prog.cellsOf 3 = 1 := by kernel_rfl
    have t0 := hel 0 (by omega)
    have t1 := hel 1 (by omega)
    rw [hci] at t0 t1
    simp at t0 t1
    obtain ⟨x0, a0, c0, w0⟩ := DataW.trod_int (k := .i64) Tryd.underlying3 t0
    obtain ⟨x1, a1, c1, w1⟩ := DataW.trod_int (k := .i64) Tryd.underlying3 t1
    simp only [List.cons.injEq, and_true] at a0 a1
    subst a0 a1
    exact ⟨(x0, x1), rfl, fun _ => ⟨okI_of w0, okI_of w1⟩⟩
end
theorem backEd {H : Type} {enc : TypeId × Value → H} {W W' : World} {v : Value} {d : DataW H} {ps : List MemPlace} (h : DataW.Trod enc Tryd.prog W 0 (fun _ => true) true 29 v d ps) (hb : Below W.heap.size W W')
    (hlt : ∀ x ∈ ps, x.block < W.heap.size) (sp : Nat → Bool) (hsp : ∀ x ∈ ps, sp x.block = true) : DataW.Trod enc Tryd.prog W' 0 sp true 29 v d ps :=
  WideElems.Trod_stays laidOut (by kernel_rfl) (of_decide_eq_true (by kernel_rfl)) h (fun x hx => hb.same (hlt x hx)) hsp
end
end Go.Proofs.YtaciedooeeklpaaDoor
