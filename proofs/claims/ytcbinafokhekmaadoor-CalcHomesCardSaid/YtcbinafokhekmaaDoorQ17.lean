/- CaHo; RowBase; ItRow; ItTab (merged by group.py) -/
import Derived.Test.YtcbinafokhekmaaDoorQ16
import Derived.Test.YtcbinafokhekmaaDoorProg
import Derived.Test.YtcbinafokhekmaaDoorRows
import Derived.Below
import Derived.Deep.SlicePairs
import Derived.ChangeSame
import Derived.SizedLaws
import Derived.OpenShut
import Derived.Test.YtcbinafokhekmaaDoorQ02
import Derived.Deep.Slices
import Derived.Deep.Strs
import Derived.Test.YtcbinafokhekmaaDoorQ04
import Derived.ProofKit
import Derived.LaidMore
import Derived.Stop.Joined
namespace Go.Proofs.YtcbinafokhekmaaDoor
section
open Go.RowKit Go.Maps
set_option linter.unusedVariables false
set_option maxRecDepth 20000
set_option linter.unusedSimpArgs false
set_option linter.unusedSectionVars false
set_option maxRecDepth 100000
attribute [local go_sem] Oper.semAt_some

def hoE (row : List Vl) (n : Int) : Int := if rowB row = false then 1 else if 1 ≤ n ∧ n ≤ 100 then 0 else 7
def hoV (row : List Vl) (n : Int) : Int := if rowB row = true ∧ 1 ≤ n ∧ n ≤ 100 then ((homeV row % n.toNat : Nat) : Int) else 0
set_option maxHeartbeats 2000000 in
theorem chome2_any (P : Option Addr) (c : Nat) (row : List Vl) (n : Int) (w : World) (hs : SlV w P c row) (ht : Tab w) :
    Calls Tryd.prog 7 #[.slice P row.length c, .int .i64 n] w fun e w' => e = .returned (.tuple #[.int .i64 (hoV row n), .int .i64 (hoE row n)]) ∧ Ext w w' := by
  have hV := row_any P c row w hs
  by_cases hr : rowB row = true
  · by_cases hn : 1 ≤ n ∧ n ≤ 100
    · obtain ⟨h, rfl⟩ : ∃ h : Nat, n = h := ⟨n.toNat, by omega⟩
      have HE := Lib.hid (show hoE row h = 0 from by unfold hoE; rw [if_neg (by rw [hr]; decide), if_pos hn])
      have HV := Lib.hid (show hoV row h = ((homeV row % h : Nat) : Int) from by unfold hoV; rw [if_pos ⟨hr, hn⟩]; rfl)
      have hHo := fun W (hx : Ext w W) => home_any P c row h W (hs.ext hx) (by omega) (by omega) (ht.ext hx)
      rw [hr] at hV
      have c1 : ¬ (h : Int) < 1 := by omega
      have c2 : ¬ (100 : Int) < h := by omega
      clear hr hn
      generalize homeV row % h = k at *
      go_enter Tryd.func7, Tryd.ntmps7
      go_wp2_with (first
        | (go_at_call 20; refine hV.mono ?_; rintro e w1 ⟨rfl, hx1⟩)
        | (go_at_call 21; refine (hHo _ hx1).mono ?_; rintro e w2 ⟨rfl, hx2⟩))
      go_ret2
      exact ⟨by rw [HE.out, HV.out]; rfl, hx1.trans hx2⟩
    · have HE := Lib.hid (show hoE row n = 7 from by unfold hoE; rw [if_neg (by rw [hr]; decide), if_neg hn])
      have HV := Lib.hid (show hoV row n = 0 from by unfold hoV; rw [if_neg (fun h => hn h.2)])
      rw [hr] at hV
      clear hr
      by_cases hlo : n < 1
      · clear hn
        go_enter Tryd.func7, Tryd.ntmps7
        go_wp2_with (go_at_call 20; refine hV.mono ?_; rintro e w1 ⟨rfl, hx1⟩)
        go_ret2
        exact ⟨by rw [HE.out, HV.out]; rfl, hx1⟩
      · have hhi : 100 < n := by omega
        clear hn
        go_enter Tryd.func7, Tryd.ntmps7
        go_wp2_with (go_at_call 20; refine hV.mono ?_; rintro e w1 ⟨rfl, hx1⟩)
        go_ret2
        exact ⟨by rw [HE.out, HV.out]; rfl, hx1⟩
  · have hr : rowB row = false := by simpa using hr
    have HE := Lib.hid (show hoE row n = 1 from by unfold hoE; rw [if_pos hr])
    have HV := Lib.hid (show hoV row n = 0 from by unfold hoV; rw [if_neg (fun h => by rw [hr] at h; cases h.1)])
    rw [hr] at hV
    clear hr
    go_enter Tryd.func7, Tryd.ntmps7
    go_wp2_with (go_at_call 20; refine hV.mono ?_; rintro e w1 ⟨rfl, hx1⟩)
    go_ret2
    exact ⟨by rw [HE.out, HV.out]; rfl, hx1⟩
set_option maxHeartbeats 2000000 in
theorem rhome2_any (P : Option Addr) (c : Nat) (row : List Vl) (n : Int) (w : World) (hs : SlV w P c row) :
    Calls Tryd.prog 8 #[.slice P row.length c, .int .i64 n] w fun e w' => e = .returned (.tuple #[.int .i64 (hoV row n), .int .i64 (hoE row n)]) ∧ Ext w w' := by
  have hV := rrow_any P c row w hs
  by_cases hr : rowB row = true
  · by_cases hn : 1 ≤ n ∧ n ≤ 100
    · obtain ⟨h, rfl⟩ : ∃ h : Nat, n = h := ⟨n.toNat, by omega⟩
      rw [show hoE row h = 0 from by unfold hoE; rw [if_neg (by rw [hr]; decide), if_pos hn], show hoV row h = ((homeV row % h : Nat) : Int) from by unfold hoV; rw [if_pos ⟨hr, hn⟩]; rfl]
      exact rhome_any P c row h w hs hr (by omega) (by omega)
    · have HE := Lib.hid (show hoE row n = 7 from by unfold hoE; rw [if_neg (by rw [hr]; decide), if_neg hn])
      have HV := Lib.hid (show hoV row n = 0 from by unfold hoV; rw [if_neg (fun h => hn h.2)])
      rw [hr] at hV
      clear hr
      by_cases hlo : n < 1
      · clear hn
        go_enter Tryd.func8, Tryd.ntmps8
        go_wp2_with (go_at_call 22; refine hV.mono ?_; rintro e w1 ⟨rfl, hx1⟩)
        go_ret2
        exact ⟨by rw [HE.out, HV.out]; rfl, hx1⟩
      · have hhi : 100 < n := by omega
        clear hn
        go_enter Tryd.func8, Tryd.ntmps8
        go_wp2_with (go_at_call 22; refine hV.mono ?_; rintro e w1 ⟨rfl, hx1⟩)
        go_ret2
        exact ⟨by rw [HE.out, HV.out]; rfl, hx1⟩
  · have hr : rowB row = false := by simpa using hr
    have HE := Lib.hid (show hoE row n = 1 from by unfold hoE; rw [if_pos hr])
    have HV := Lib.hid (show hoV row n = 0 from by unfold hoV; rw [if_neg (fun h => by rw [hr] at h; cases h.1)])
    rw [hr] at hV
    clear hr
    go_enter Tryd.func8, Tryd.ntmps8
    go_wp2_with (go_at_call 22; refine hV.mono ?_; rintro e w1 ⟨rfl, hx1⟩)
    go_ret2
    exact ⟨by rw [HE.out, HV.out]; rfl, hx1⟩
set_option maxHeartbeats 4000000 in
theorem calcHomes_any (s : ByteArray) (Pw : Option Addr) (cw : Nat) (row : List Vl) (n : Int) (w : World) (hsz : s.size ≤ 140737488355328) (hrow : SlV w Pw cw row) (ht : Tab w) :
    Calls Tryd.prog 3 #[.string s, .slice Pw row.length cw, .int .i64 n] w fun e w' => e = .returned (.bool true) ∧ Ext w w' := by
  have hAw := fun W (hx : Ext w W) => awake_any W (ht.ext hx)
  have h1 := fun W (hx : Ext w W) => chome2_any Pw cw row n W (hrow.ext hx) (ht.ext hx)
  have h2 := fun W (hx : Ext w W) => rhome2_any Pw cw row n W (hrow.ext hx)
  have h3 := fun W => chash_any s W hsz
  have h4 := fun W => rhash_any s W hsz
  have hxa := (Ext.refl w).alloc (.cells #[.slice Pw row.length cw] 22)
  have hR := lrows_any (some ⟨w.heap.size, 0, none⟩) 1 [(Pw, cw, row)] _ (SlG.one (w := w) (cs := Rw.cells) (k := 1) (fun _ => rfl) (Pw, cw, row) (t0 := 22) (C := #[.slice Pw row.length cw]) rfl rfl) (fun x hx' => by
    obtain rfl := List.mem_singleton.1 hx'
    exact hrow.ext hxa)
  go_enter Tryd.func3, Tryd.ntmps3
  by_cases hl : 500 < s.size
  · have c1 : (500 : Int) < s.size := by omega
    go_wp2_with (go_at_call 6; refine (hAw _ (Ext.refl _)).mono ?_; rintro e w3 ⟨rfl, hx3⟩)
    go_ret
    exact ⟨rfl, hx3⟩
  · have c1 : ¬ (500 : Int) < s.size := by omega
    go_wp2_with (fail)
    refine hR.mono ?_
    rintro e w2 ⟨⟨z, rfl⟩, rfl⟩
    dsimp only
    generalize w.alloc (.cells #[.slice Pw row.length cw] 22) = w2 at *
    cases z with
    | false =>
      go_wp2_with (go_at_call 6; refine (hAw _ hxa).mono ?_; rintro e w3 ⟨rfl, hx3⟩)
      go_ret
      exact ⟨rfl, hxa.trans hx3⟩
    | true =>
      clear hR
      go_wp2_with (fail)
      refine (h1 _ hxa).mono ?_
      rintro e w3 ⟨rfl, x3⟩
      dsimp only
      have hx3 := hxa.trans x3
      clear h1
      go_wp2_with (fail)
      refine (h2 _ hx3).mono ?_
      rintro e w4 ⟨rfl, x4⟩
      dsimp only
      have hx4 := hx3.trans x4
      clear h2
      generalize hoV row n = v at *
      generalize hoE row n = c at *
      generalize hashF s = hs at *
      go_wp2_with (first
        | (go_at_call 9; refine (h3 _).mono ?_; rintro e w5 ⟨rfl, rfl⟩)
        | (go_at_call 10; refine (h4 _).mono ?_; rintro e w6 ⟨rfl, rfl⟩)
        | (go_at_call 6; refine (hAw _ hx4).mono ?_; rintro e w7 ⟨rfl, x7⟩))
      go_ret
      exact ⟨rfl, hx4.trans x7⟩
end
section
open Go.RowKit Go.WideShapes Go.ChangeShapes Go.Deep
set_option linter.unusedVariables false
set_option maxRecDepth 20000

section
variable {H : Type} {enc : TypeId × Value → H} {P : Program}
theorem post_of_below {f : Func} {s : ChangeSpec} {apart fresh handsOn again : Bool} {W W' : World} {args : Array Value} {v : Value} {ds gs : List (DataW H)} {before pa pv : List MemPlace}
    (hW : DataW.Whole enc P f.params.toList s.vars apart W args.toList ds gs before)
    (hres : ∀ (b : Nat) (sp : Nat → Bool) (hd : Bool), DataW.TrodAll enc P W' b sp hd f.resultTypes.toList (v.resultList f.resultTypes.size) (s.fn H (ds ++ gs)).results [])
    (hargs : ∀ sp : Nat → Bool, (∀ p ∈ before, sp p.block = true) → DataW.TrodAll enc P W' 0 sp true f.params.toList args.toList (s.fn H (ds ++ gs)).args pa)
    (hvars : ∀ sp : Nat → Bool, (∀ p ∈ before, sp p.block = true) → DataW.TrodVars enc P W' sp s.vars (s.fn H (ds ++ gs)).vars pv)
    (hps : before = pa ++ pv) (hb : Below W.heap.size W W')
    (hok : ∀ (j : Nat) (t : TypeId) (r : Value), f.resultTypes[j]? = some t → (v.resultList f.resultTypes.size)[j]? = some r → Value.okWide P W' .any 0 t r) :
    s.post enc P f apart fresh handsOn again W args v W' := by
  have hlt : ∀ p ∈ before, p.block < W.heap.size := fun p hp => hW.lt p hp
  have hold : ∀ p ∈ before, (fun b => decide (b < W.heap.size)) p.block = true := fun p hp => by simpa using hlt p hp
  refine ⟨ds, gs, before, [], pa, pv, hW, hres _ _ _, hargs _ hold, hvars _ hold, World.keptBut_mono (fun p hp => ⟨hp, ?_⟩) (hb.frame (· ∈ before)), fun _ => ?_⟩
  · rw [hps, List.mem_append] at hp
    exact Or.inr hp
  · obtain ⟨_, _, _, _, _, hz, hn⟩ := hW
    refine ⟨hok, _, _, ([] ++ pa) ++ pv, ⟨[] ++ pa, pv, trodAll_append (hargs _ (fun _ _ => rfl)) (hres _ _ _), hvars _ (fun _ _ => rfl), rfl, ?_, ?_⟩, ?_⟩
    · intro b off hp
      have hin : MemPlace.cell b off ∈ before := by rw [hps]; simpa using hp
      rw [hb.frozen (hlt _ hin)]
      exact hz b off hin
    · intro ha
      have := hn ha
      rw [hps] at this
      simpa using this
    · intro p hp _
      rw [hps]
      simpa using hp
end

theorem own : ownKnob Tryd.prog.godebug = none := by kernel_rfl
theorem laidOut : laidOutB Tryd.prog = true := by kernel_rfl

theorem weightsAll_in {H : Type} {P : Program} {e : TypeId} : ∀ {l : List (DataW H)} {d : DataW H}, d ∈ l → ∀ n ∈ d.weights P e, n ∈ DataW.weightsAll P e l
  | c :: l, d, hd, n, hn => by
    simp only [DataW.weightsAll, List.mem_append]
    rcases List.mem_cons.1 hd with h | h
    · subst h; exact .inl hn
    · exact .inr (weightsAll_in h n hn)
  | [], _, hd, _, _ => by cases hd
end
section
open Go.RowKit Go.WideShapes Go.ChangeShapes Go.ChangeAt Go.Deep
set_option linter.unusedVariables false
set_option maxRecDepth 20000
set_option linter.unusedSimpArgs false
set_option linter.unusedSectionVars false
set_option maxRecDepth 20000

/-- A slice of elements, read. -/
theorem open_slG {α : Type} {H : Type} {enc : TypeId × Value → H} {W : World} {base b0 : Nat} {r : Reach} {sp : Nat → Bool} {v : Value} {d : DataW H} {ps : List MemPlace} {ts : List TypeId} {ds : List (DataW H)} {j : Nat} {t e : TypeId} [Inhabited α]
    (cs : α → List Value) (ok : α → Prop) (k by_ : Nat) (hk : ∀ x, (cs x).length = k) (hk0 : 1 ≤ k) (ht : Tryd.prog.underlying t = some (.slice e)) (ce : Tryd.prog.cellsOf e = k) (hby : Tryd.prog.bytesOf e = by_) (hb1 : 1 ≤ by_)
    (hel : ∀ cs' n y, DataW.trod enc Tryd.prog W base sp true n e cs' = some y → cs'.length = k → ∃ x, cs' = cs x ∧ ((∀ m ∈ y.1.weights Tryd.prog e, m ≤ reachBytes) → ok x))
    (hval : Value.okWide Tryd.prog W r b0 t v) (h : DataW.Trod enc Tryd.prog W base sp true t v d ps)
    (hsz : (DataW.weightsEach Tryd.prog ts ds).all (· ≤ reachBytes) = true) (hj : ts[j]? = some t) (hd : ds[j]? = some d) :
    ∃ (P : Option Addr) (cap : Nat) (l : List α), v = .slice P l.length cap ∧ SlG cs W P cap l ∧ (∀ x ∈ l, ok x) ∧ l.length ≤ 140737488355328 := by
  obtain ⟨a0, len0, cap0, rfl⟩ := okWide_slice ht hval
  obtain ⟨fuel, hf⟩ := h
  have hw : ∀ n ∈ d.weights Tryd.prog t, n ≤ reachBytes := fun n hn => by
    have := List.all_eq_true.1 hsz _ (DataW.weights_mem_each hj hd n hn)
    simpa using this
  have hrl := reachBytes_lt
  rcases open_slice ht hf with ⟨h0, hx⟩ | ⟨a, len, cap, m, n, D, Pl, h0, hb, hlc, hcap, hm, hx, hi⟩
  · simp [Value.cells] at h0
    obtain ⟨rfl, rfl, rfl⟩ := h0
    exact ⟨none, 0, [], rfl, SlG.nil _ _, fun x hx => (by cases hx), by simp⟩
  · simp [Value.cells] at h0
    obtain ⟨rfl, rfl, rfl⟩ := h0
    simp only [Prod.mk.injEq] at hx
    obtain ⟨rfl, _⟩ := hx
    have hlm : len0 ≤ m := by rw [hm]; split <;> omega
    have each : ∀ i, i < len0 → ∃ y : α, ok y ∧ ∀ (q : Nat) (u : Value), (cs y)[q]? = some u → W.cell? (a.add (i * k + q)) = some u := by
      intro i hil
      obtain ⟨cs', h1, h2⟩ := hi i (by omega)
      obtain ⟨_, h3, h4⟩ := World.cells?_some h1
      rw [ce] at h3 h4
      obtain ⟨x, rfl, hok⟩ := hel cs' n _ h2 h3
      refine ⟨x, hok fun q hq => hw q ?_, fun q u hq => ?_⟩
      · simp only [DataW.weights, ht]
        exact List.mem_cons_of_mem _ (List.mem_append.2 (.inl (weightsAll_in (d := D i) (List.mem_map.2 ⟨i, List.mem_range.2 hil, rfl⟩) _ hq)))
      · have hq' : q < k := by rw [← hk x]; exact (List.getElem?_eq_some_iff.1 hq).1
        have := h4 q hq'
        rw [hq] at this
        rw [← this, add_add]
    obtain ⟨g, hg⟩ := choose_lt each
    refine ⟨some a, cap0, (List.range len0).map g, by simp, ⟨fun i x hix => ?_, by simpa using hlc, by simpa only [maxLen] using hcap⟩, fun x hx => ?_, ?_⟩
    · have hil : i < len0 := by
        have := (List.getElem?_eq_some_iff.1 hix).1
        simpa using this
      have hx : x = g i := by
        simp [hil] at hix
        exact hix.symm
      subst hx
      obtain ⟨_, hc⟩ := hg i hil
      obtain ⟨b, off, spot⟩ := a
      have hspot : spot = none := by
        obtain ⟨u, hu⟩ : ∃ u, (cs (g 0))[0]? = some u := by
          have : 0 < (cs (g 0)).length := by rw [hk]; omega
          exact ⟨_, List.getElem?_eq_getElem this⟩
        simpa [Addr.add] using World.cell?_spot ((hg 0 (by omega)).2 0 u hu)
      subst hspot
      refine ⟨b, off, rfl, fun q u hq => ?_⟩
      have := hc q u hq
      rw [Go.WideShapes.add_plain, ← hk (g i)] at this
      rw [← this]
      congr 2
      omega
    · simp only [List.mem_map, List.mem_range] at hx
      obtain ⟨i, hil, rfl⟩ := hx
      exact (hg i hil).1
    · have h1 := hw _ (by simp only [DataW.weights, ht]; exact List.mem_cons_self ..)
      rw [hby] at h1
      simp at h1
      have : len0 + (m - len0) ≤ (len0 + (m - len0)) * by_ := Nat.le_mul_of_pos_right _ hb1
      simp
      omega

def OkI (x : Int) : Prop := -9223372036854775808 ≤ x ∧ x ≤ 9223372036854775807
theorem okI_of {x : Int} (h : (Lit.int .i64 x).wf = true) : OkI x := by
  simp [Lit.wf, IntKind.min, IntKind.max, IntKind.signed, IntKind.bits] at h
  unfold OkI
  omega
def OkS (s : ByteArray) : Prop := s.size ≤ 140737488355328
def OkV (x : Vl) : Prop := OkI x.1 ∧ OkI x.2.1 ∧ OkS x.2.2
def OkT (x : It) : Prop := OkS x.1 ∧ OkI x.2.1 ∧ OkI x.2.2.1 ∧ OkI x.2.2.2.1 ∧ OkI x.2.2.2.2
section
variable {H : Type} {enc : TypeId × Value → H} {W : World} {base b0 : Nat} {r : Reach} {sp : Nat → Bool} {v : Value} {d : DataW H} {ps : List MemPlace} {ts : List TypeId} {ds : List (DataW H)} {j : Nat}
theorem one_cell {t : TypeId} (h : Tryd.prog.cellsOf t = 1) {cs : List Value} {k : Nat} {u : Value} (hk : cs[k]? = some u) : (cs.drop k).take (Tryd.prog.cellsOf t) = [u] := by
  rw [h]
  obtain ⟨hl, rfl⟩ := List.getElem?_eq_some_iff.1 hk
  rw [List.drop_eq_getElem_cons hl]
  rfl
theorem trod_five {P : Program} {t : TypeId} {f0 f1 f2 f3 f4 : Field} {fuel : Nat} {cs : List Value} {x : DataW H × List MemPlace} {w : World} {hd : Bool} (ht : P.underlying t = some (.struct #[f0, f1, f2, f3, f4])) (h : DataW.trod enc P w base sp hd fuel t cs = some x) :
    ∃ y0 y1 y2 y3 y4 n, x.1 = .agg [y0.1, y1.1, y2.1, y3.1, y4.1] ∧ DataW.trod enc P w base sp hd n f0.type ((cs.drop f0.offset).take (P.cellsOf f0.type)) = some y0 ∧ DataW.trod enc P w base sp hd n f1.type ((cs.drop f1.offset).take (P.cellsOf f1.type)) = some y1 ∧
      DataW.trod enc P w base sp hd n f2.type ((cs.drop f2.offset).take (P.cellsOf f2.type)) = some y2 ∧ DataW.trod enc P w base sp hd n f3.type ((cs.drop f3.offset).take (P.cellsOf f3.type)) = some y3 ∧ DataW.trod enc P w base sp hd n f4.type ((cs.drop f4.offset).take (P.cellsOf f4.type)) = some y4 := by
  obtain ⟨xs, n, _, rfl, hl, hlen, hf⟩ := DataW.trod_struct ht h
  match xs, hlen with
  | [y0, y1, y2, y3, y4], _ => exact ⟨y0, y1, y2, y3, y4, n, by simp, by simpa using hf 0 f0 rfl, by simpa using hf 1 f1 rfl, by simpa using hf 2 f2 rfl, by simpa using hf 3 f3 rfl, by simpa using hf 4 f4 rfl⟩
/-- A row of values, read. -/
theorem open_row (hval : Value.okWide Tryd.prog W r b0 22 v) (h : DataW.Trod enc Tryd.prog W base sp true 22 v d ps)
    (hsz : (DataW.weightsEach Tryd.prog ts ds).all (· ≤ reachBytes) = true) (hj : ts[j]? = some 22) (hd : ds[j]? = some d) :
    ∃ (P : Option Addr) (cap : Nat) (l : List Vl), v = .slice P l.length cap ∧ SlV W P cap l ∧ (∀ x ∈ l, OkV x) ∧ l.length ≤ 140737488355328 := by
  refine open_slG Vl.cells OkV 3 32 (fun x => rfl) (by omega) Tryd.underlying22 (by kernel_rfl) (by kernel_rfl) (by omega) (fun cs' n y h hl => ?_) hval h hsz hj hd
  obtain ⟨y0, y1, y2, n', rfl, _, t0, t1, t2⟩ := trod_struct3 Tryd.underlying50 h
  match cs', hl with
  | [v0, v1, v2], _ =>
    rw [one_cell (by kernel_rfl) (rfl : [v0, v1, v2][0]? = some v0)] at t0
    rw [one_cell (by kernel_rfl) (rfl : [v0, v1, v2][1]? = some v1)] at t1
    rw [one_cell (by kernel_rfl) (rfl : [v0, v1, v2][2]? = some v2)] at t2
    obtain ⟨x0, a0, c0, w0⟩ := DataW.trod_int (k := .i64) Tryd.underlying3 t0
    obtain ⟨x1, a1, c1, w1⟩ := DataW.trod_int (k := .i64) Tryd.underlying3 t1
    obtain ⟨s, a2, c2, _⟩ := DataW.trod_string Tryd.underlying9 t2
    simp only [List.cons.injEq, and_true] at a0 a1 a2
    subst a0 a1 a2 c0 c1 c2
    refine ⟨(x0, x1, s), rfl, fun hq => ⟨okI_of w0, okI_of w1, ?_⟩⟩
    have h1 := hq s.data.toList.length (by simp [DataW.weights, Tryd.underlying50, DataW.weightsEach])
    have : s.size = s.data.toList.length := by simp
    have hr := reachBytes_lt
    show s.size ≤ _
    omega

/-- Names, read. -/
theorem open_names (hval : Value.okWide Tryd.prog W r b0 84 v) (h : DataW.Trod enc Tryd.prog W base sp true 84 v d ps)
    (hsz : (DataW.weightsEach Tryd.prog ts ds).all (· ≤ reachBytes) = true) (hj : ts[j]? = some 84) (hd : ds[j]? = some d) :
    ∃ (P : Option Addr) (cap : Nat) (l : List ByteArray), v = .slice P l.length cap ∧ SlS W P cap l ∧ (∀ x ∈ l, OkS x) ∧ l.length ≤ 140737488355328 := by
  refine open_slG (fun s => [.string s]) OkS 1 16 (fun x => rfl) (by omega) Tryd.underlying84 (by kernel_rfl) (by kernel_rfl) (by omega) (fun cs' n y h hl => ?_) hval h hsz hj hd
  match cs', hl with
  | [v0], _ =>
    obtain ⟨s, a0, c0, _⟩ := DataW.trod_string Tryd.underlying9 h
    simp only [List.cons.injEq, and_true] at a0
    subst a0 c0
    refine ⟨s, rfl, fun hq => ?_⟩
    have h1 := hq s.data.toList.length (by simp [DataW.weights])
    have : s.size = s.data.toList.length := by simp
    have hr := reachBytes_lt
    show s.size ≤ _
    omega
end
/-- What came in reads behind the call as it did. -/
theorem backV {H : Type} {enc : TypeId × Value → H} {W W' : World} {v : Value} {d : DataW H} {ps : List MemPlace} (h : DataW.Trod enc Tryd.prog W 0 (fun _ => true) true 22 v d ps) (hb : Below W.heap.size W W')
    (hlt : ∀ x ∈ ps, x.block < W.heap.size) (sp : Nat → Bool) (hsp : ∀ x ∈ ps, sp x.block = true) : DataW.Trod enc Tryd.prog W' 0 sp true 22 v d ps :=
  WideElems.Trod_stays laidOut (by kernel_rfl) (of_decide_eq_true (by kernel_rfl)) h (fun x hx => hb.same (hlt x hx)) hsp

theorem backS {H : Type} {enc : TypeId × Value → H} {W W' : World} {v : Value} {d : DataW H} {ps : List MemPlace} (h : DataW.Trod enc Tryd.prog W 0 (fun _ => true) true 84 v d ps) (hb : Below W.heap.size W W')
    (hlt : ∀ x ∈ ps, x.block < W.heap.size) (sp : Nat → Bool) (hsp : ∀ x ∈ ps, sp x.block = true) : DataW.Trod enc Tryd.prog W' 0 sp true 84 v d ps :=
  WideElems.Trod_stays laidOut (by kernel_rfl) (of_decide_eq_true (by kernel_rfl)) h (fun x hx => hb.same (hlt x hx)) hsp
end
section
open Go.RowKit Go.WideShapes Go.ChangeShapes Go.ChangeAt Go.Deep
set_option linter.unusedVariables false
set_option maxRecDepth 20000
set_option linter.unusedSimpArgs false
set_option linter.unusedSectionVars false
set_option maxRecDepth 100000

abbrev laid3 : List (String × DataW Unit) := [("math/bits.deBruijn32tab", Rows.laid_math_bits_deBruijn32tab), ("math/bits.deBruijn64tab", Rows.laid_math_bits_deBruijn64tab), ("internal/strconv.uint64pow10", Rows.laid_internal_strconv_uint64pow10)]
theorem pow10_data : (Rows.laid_internal_strconv_uint64pow10 : DataW Unit) = Lib.tabData .u64 Lib.pow10Tab := by rfl
theorem tab_of_laid {W : World} (h : laidMetH Tryd.prog laid3 W) : Tab W := by
  rw [MakeChecks.laidMetH_plain _ _ _ (by kernel_rfl)] at h
  obtain ⟨ps, ⟨g0, t0, cs0, f0, p0, q0, hg0, ht0, hv0, hd0, ⟨g1, t1, cs1, f1, p1, q1, hg1, ht1, hv1, hd1, ⟨g2, t2, cs2, f2, p2, q2, hg2, ht2, hv2, hd2, _, _⟩, _⟩, _⟩, _, _⟩ := h
  obtain rfl := Option.some.inj ((show Tryd.prog.globalNamed "internal/strconv.uint64pow10" = some 1 by kernel_rfl).symm.trans hg2)
  obtain rfl := Option.some.inj ((show (Tryd.prog.globals[1]?).map (·.type) = some 136 by kernel_rfl).symm.trans ht2)
  rw [pow10_data] at hd2
  unfold Tab Lib.TabIs
  rw [hv2, ← Lib.cells_of_tab Tryd.underlying136 Tryd.underlying28 (by kernel_rfl) (by kernel_rfl) hd2]
theorem door_met (os : Os) (args : Array Value) : laidMetH Tryd.prog laid3 ((World.doorLaid Tryd.prog 400 os).forCall (fun _ _ => 0) ⟨#[], args, []⟩).memory := by
  rw [MakeChecks.laidMetH_plain _ _ _ (by kernel_rfl)]
  exact laidMet_of_run' 8 (by kernel_rfl) (by kernel_rfl)
end
end Go.Proofs.YtcbinafokhekmaaDoor
