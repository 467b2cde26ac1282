/- ItXM; RowBase; ItRow; ItRow2; ItFA (merged by group.py) -/
import Derived.Test.YtepgpejdnlejnaaDoorQ16
import Derived.Test.YtepgpejdnlejnaaDoorQ17
import Derived.Test.YtepgpejdnlejnaaDoorQ08
import Derived.Test.YtepgpejdnlejnaaDoorProg
import Derived.Test.YtepgpejdnlejnaaDoorRows
import Derived.Below
import Derived.Deep.SlicePairs
import Derived.ChangeSame
import Derived.SizedLaws
import Derived.OpenShut
import Derived.Test.YtepgpejdnlejnaaDoorQ00
import Derived.Deep.Slices
import Derived.Deep.Strs
import Derived.Lib.SmallJoins
import Derived.Test.YtepgpejdnlejnaaDoorQ03
namespace Go.Proofs.YtepgpejdnlejnaaDoor
section
open Go.RowKit
set_option linter.unusedVariables false
set_option linter.unusedSimpArgs false
set_option linter.unusedSectionVars false
set_option maxRecDepth 100000
attribute [local go_sem] Oper.semAt_some

theorem rw_two {w w1 : World} {Q0 Q1 : Option Addr} {c0 c1 : Nat} {r0 r1 : List Vl} (h0 : SlV w Q0 c0 r0) (h1 : SlV w Q1 c1 r1) {t : TypeId} (hx : Ext (w.alloc (.cells #[.slice Q0 r0.length c0, .slice Q1 r1.length c1] t)) w1) :
    SlG Rw.cells w1 (some ⟨w.heap.size, 0, none⟩) 2 [(Q0, c0, r0), (Q1, c1, r1)] ∧ ∀ x ∈ [(Q0, c0, r0), (Q1, c1, r1)], SlV w1 x.1 x.2.1 x.2.2 := by
  have key := box1 hx
  have hxx := ((Ext.refl w).alloc _).trans hx
  refine ⟨⟨fun i x hi => ⟨_, _, rfl, fun j v hj => ?_⟩, by simp, by omega⟩, fun x hx2 => ?_⟩
  · match j, hj with
    | 0, hj =>
      simp [Rw.cells] at hj
      subst hj
      match i, hi with
      | 0, hi => simp at hi; subst hi; exact key 0 _ rfl
      | 1, hi => simp at hi; subst hi; exact key 1 _ rfl
      | i + 2, hi => simp at hi
    | j + 1, hj => simp [Rw.cells] at hj
  · simp at hx2
    rcases hx2 with rfl | rfl
    · exact h0.ext hxx
    · exact h1.ext hxx
theorem toP_inj {l m : List Vl} (h : l.map toP = m.map toP) : l = m := by
  have := congrArg (List.map ofP) h
  rw [List.map_map, List.map_map, show ofP ∘ toP = id from rfl, List.map_id, List.map_id] at this
  exact this
theorem textP_short {l : List Vl} (h : rowB l = true) : (textP (l.map toP)).length ≤ 20000 := by
  have e : textP (l.map toP) = textK l l.length := by
    unfold textP textK
    rw [List.take_length, List.map_map]
    congr 1
    exact List.map_congr_left fun x _ => (wrL_P x).symm
  rw [e]
  have hall : ∀ x ∈ l, valB x = true := by unfold rowB at h; simp at h; intro x hx; exact h.1 _ _ _ hx
  have h8 : l.length ≤ 8 := by unfold rowB at h; simp at h; exact h.2
  have := textK_le hall l.length (Nat.le_refl _)
  omega
theorem parse_back {l : List Vl} (h : rowB l = true) : parsePT rowP (textL l) = (l.map toP, 0) := by
  have hv : rowP (l.map toP) = true := by rw [rowP_map]; exact h
  rw [textL_P]
  unfold textV
  rw [if_pos hv]
  exact parsePT_text rowP_nil rowP_ok hv (textP_short h)
theorem texts_same {l m : List Vl} (h : rowB l = true) (h' : rowB m = true) (e : textL l = textL m) : l = m := by
  have h1 := parse_back h
  have h2 := parse_back h'
  rw [e, h2] at h1
  exact toP_inj (congrArg Prod.fst h1).symm
theorem parsed_small {t : List UInt8} {l : List Vl} {y : Int} (h : parseRT rowP t = (l.map toP, y)) : ∀ x ∈ l, x.2.2.size ≤ 140737488355328 := by
  have key : l = [] ∨ rowB l = true := by
    unfold parseRT at h
    split at h
    · injection h with h _; exact .inl (by simpa using h.symm)
    · split at h
      · injection h with h _; exact .inl (by simpa using h.symm)
      · split at h
        · injection h with h _; exact .inl (by simpa using h.symm)
        · split at h
          · injection h with h _; exact .inl (by simpa using h.symm)
          · rename_i z _ hz
            injection h with h _
            subst h
            right
            rw [rowP_map] at hz
            simpa using hz
  rcases key with rfl | h
  · simp
  · intro x hx
    have hall : ∀ x ∈ l, valB x = true := by unfold rowB at h; simp at h; intro x hx; exact h.1 _ _ _ hx
    have := (valB_in (hall x hx)).2
    omega
set_option maxHeartbeats 16000000 in
theorem texts_law (P0 P1 : Option Addr) (c0 c1 : Nat) (la lb : List Vl) (s : ByteArray) (w : World) (aw : ∀ W, Ext w W → Calls Tryd.prog 11 #[] W fun e w' => e = .returned (.bool true) ∧ Ext W w')
    (s0 : SlV w P0 c0 la) (s1 : SlV w P1 c1 lb) (o0 : ∀ x ∈ la, x.2.2.size ≤ 140737488355328) (o1 : ∀ x ∈ lb, x.2.2.size ≤ 140737488355328) (hL : LibT w) :
    Calls Tryd.prog 7 #[.slice P0 la.length c0, .slice P1 lb.length c1, .string s] w fun e w' => e = .returned (.bool true) ∧ Ext w w' := by
  have hlen0 := s0.len
  have hlen1 := s1.len
  have hLx : ∀ W, Ext w W → LibT W := fun W hx => (hL.below.kept hx).1
  have hR := fun (t : TypeId) (W : World) (hx : Ext (w.alloc (.cells #[.slice P0 la.length c0, .slice P1 lb.length c1] t)) W) => lrows_any (some ⟨w.heap.size, 0, none⟩) 2 [(P0, c0, la), (P1, c1, lb)] W (rw_two s0 s1 hx).1 (rw_two s0 s1 hx).2
  have hTa := fun W (hx : Ext w W) => text_any P0 c0 la W (s0.ext hx) (hL.tab.ext hx)
  have hTb := fun W (hx : Ext w W) => text_any P1 c1 lb W (s1.ext hx) (hL.tab.ext hx)
  have hRa := fun W (hx : Ext w W) => rtext_any P0 c0 la W (s0.ext hx)
  have hRb := fun W (hx : Ext w W) => rtext_any P1 c1 lb W (s1.ext hx)
  have hVa := fun W (hx : Ext w W) => rrow_any P0 c0 la W (s0.ext hx)
  have hVb := fun W (hx : Ext w W) => rrow_any P1 c1 lb W (s1.ext hx)
  have hSab := fun W (hx : Ext w W) => rsame_any P0 P1 c0 c1 la lb W (s0.ext hx) (s1.ext hx) o0 o1
  obtain ⟨XA, hXA⟩ : ∃ X : ByteArray, ⟨(textL la).toArray⟩ = X := ⟨_, rfl⟩
  obtain ⟨XB, hXB⟩ : ∃ X : ByteArray, ⟨(textL lb).toArray⟩ = X := ⟨_, rfl⟩
  rw [hXA] at hTa hRa
  rw [hXB] at hTb hRb
  have hXAd : XA.data.toList = textL la := by rw [← hXA]
  have hXBd : XB.data.toList = textL lb := by rw [← hXB]
  have hPa : rowB la = true → ∀ W (hx : Ext w W), Calls Tryd.prog 46 #[.string XA] W fun e w' => (∃ P c, e = .returned (.tuple #[.slice P la.length c, .int .i64 0]) ∧ SlV w' P c la) ∧ Ext W w' := by
    intro hb W hx
    have hz : XA.size ≤ 140737488355328 := by
      have h1 := congrArg List.length hXAd
      have h2 := textP_short hb
      have h3 : textL la = textP (la.map toP) := by
        rw [textL_P]
        unfold textV
        rw [if_pos (by rw [rowP_map]; exact hb)]
      rw [h3] at h1
      have h4 : XA.data.toList.length = XA.size := by simp
      omega
    refine (parse_any XA W hz (hLx W hx)).mono ?_
    rintro e w' ⟨hxx, P, c, l, y, rfl, hsl, hp⟩
    rw [hXAd, parse_back hb] at hp
    injection hp with h1 h2
    obtain rfl := toP_inj h1
    subst h2
    exact ⟨⟨P, c, rfl, hsl⟩, hxx⟩
  have HAB := Lib.hid (show rowB la = true → rowB lb = true → decide (XA = XB) = decide (crF la lb = 0) from fun h1 h2 => by
    by_cases h : la = lb
    · subst h
      rw [decide_eq_true ((ord_rows.eq0 la la).2 rfl), decide_eq_true (by rw [← hXA, ← hXB])]
    · rw [decide_eq_false (fun e => h ((ord_rows.eq0 la lb).1 e)), decide_eq_false]
      intro e
      refine h (texts_same h1 h2 ?_)
      rw [← hXAd, ← hXBd, e])
  have HEQ := Lib.hid (show crF la la = 0 from (ord_rows.eq0 la la).2 rfl)
  have hSaa := fun (P : Option Addr) (c : Nat) W (hx : Ext w W) (hsl : SlV W P c la) => rsame_any P P0 c c0 la la W hsl (s0.ext hx) o0 o0
  rw [decide_eq_true HEQ.out] at hSaa
  clear hXA hXB hXAd hXBd
  have X := (Ext.refl w).alloc (.cells #[.slice P0 la.length c0, .slice P1 lb.length c1] 23)
  by_cases h30 : 3000 < s.size
  · have c30 : (3000 : Int) < s.size := by omega
    go_enter Tryd.func7, Tryd.ntmps7
    go_wp2_with (fail)
    go_at_call 10
    refine (hR _ _ (Ext.refl _)).mono ?_
    rintro e w1 ⟨⟨b2, rfl⟩, rfl⟩
    cases b2
    all_goals (
      dsimp only
      go_wp2_with (fail)
      go_at_call 11
      refine (aw _ X).mono ?_
      rintro e w2 ⟨rfl, hx2⟩
      have X := X.trans hx2
      dsimp only
      go_wp2
      go_ret
      exact ⟨rfl, X⟩)
  · have c30 : ¬ (3000 : Int) < s.size := by omega
    have hPs := fun W (hx : Ext w W) => parse_any s W (by omega) (hLx W hx)
    have hRs := fun W (hx : Ext w W) => rparse_any s W (by omega)
    clear h30
    go_enter Tryd.func7, Tryd.ntmps7
    go_wp2_with (fail)
    go_at_call 10
    refine (hR _ _ (Ext.refl _)).mono ?_
    rintro e w1 ⟨⟨b2, rfl⟩, rfl⟩
    cases b2
    · dsimp only
      go_wp2_with (fail)
      go_at_call 11
      refine (aw _ X).mono ?_
      rintro e w2 ⟨rfl, hx2⟩
      have X := X.trans hx2
      dsimp only
      go_wp2
      go_ret
      exact ⟨rfl, X⟩
    · dsimp only
      go_wp2_with (fail)
      go_at_call 44
      refine (hTa _ X).mono ?_
      rintro e w3 ⟨rfl, hx3⟩
      have X := X.trans hx3
      dsimp only
      go_wp2_with (fail)
      go_at_call 45
      refine (hRa _ X).mono ?_
      rintro e w4 ⟨rfl, hx4⟩
      have X := X.trans hx4
      dsimp only
      go_wp2_with (fail)
      go_at_call 44
      refine (hTb _ X).mono ?_
      rintro e w5 ⟨rfl, hx5⟩
      have X := X.trans hx5
      dsimp only
      go_wp2_with (fail)
      go_at_call 45
      refine (hRb _ X).mono ?_
      rintro e w6 ⟨rfl, hx6⟩
      have X := X.trans hx6
      dsimp only
      cases hra : rowB la with
      | false =>
        rw [hra] at hVa
        clear hPa HAB hra
        go_wp2_with (fail)
        go_at_call 19
        refine (hVa _ X).mono ?_
        rintro e w7 ⟨rfl, hx7⟩
        have X := X.trans hx7
        dsimp only
        go_wp2_with (fail)
        go_at_call 46
        refine (hPs _ X).mono ?_
        rintro e wp1 ⟨hxp1, PR, cR, lR, yR, rfl, hslR, hpR⟩
        have X := X.trans hxp1
        rw [parseT_same rowP_nil rowP_ok] at hpR
        have hsm := parsed_small hpR
        dsimp only
        go_wp2_with (fail)
        go_at_call 47
        refine (hRs _ X).mono ?_
        rintro e wp2 ⟨hxp2, PQ, cQ, lQ, yQ, rfl, hslQ, hpQ⟩
        have X := X.trans hxp2
        rw [hpR] at hpQ
        injection hpQ with z1 z2
        obtain rfl := toP_inj z1
        subst z2
        have hRQ := rsame_any PR PQ cR cQ lR lR wp2 (hslR.ext hxp2) hslQ hsm hsm
        rw [decide_eq_true ((ord_rows.eq0 lR lR).2 rfl)] at hRQ
        clear hsm hpR z1
        dsimp only
        go_wp2_with (fail)
        go_at_call 29
        refine hRQ.mono ?_
        rintro e wp3 ⟨rfl, hxp3⟩
        have X := X.trans hxp3
        dsimp only
        go_wp2_with (fail)
        go_at_call 11
        refine (aw _ X).mono ?_
        rintro e w2 ⟨rfl, hx2⟩
        have X := X.trans hx2
        dsimp only
        go_wp2
        go_ret
        exact ⟨rfl, X⟩
      | true =>
        rw [hra] at hVa
        go_wp2_with (fail)
        go_at_call 19
        refine (hVa _ X).mono ?_
        rintro e w8 ⟨rfl, hx8⟩
        have X := X.trans hx8
        dsimp only
        go_wp2_with (fail)
        go_at_call 46
        refine (hPa hra _ X).mono ?_
        rintro e wq1 ⟨⟨PB, cB, rfl, hslB⟩, hxq1⟩
        have X := X.trans hxq1
        dsimp only
        go_wp2_with (fail)
        go_at_call 29
        refine (hSaa PB cB _ X hslB).mono ?_
        rintro e wq2 ⟨rfl, hxq2⟩
        have X := X.trans hxq2
        dsimp only

        cases hrb : rowB lb with
        | false =>
          rw [hrb] at hVb
          clear hPa HAB hra hrb
          go_wp2_with (fail)
          go_at_call 19
          refine (hVb _ X).mono ?_
          rintro e w9 ⟨rfl, hx9⟩
          have X := X.trans hx9
          dsimp only
          go_wp2_with (fail)
          go_at_call 46
          refine (hPs _ X).mono ?_
          rintro e wp1 ⟨hxp1, PR, cR, lR, yR, rfl, hslR, hpR⟩
          have X := X.trans hxp1
          rw [parseT_same rowP_nil rowP_ok] at hpR
          have hsm := parsed_small hpR
          dsimp only
          go_wp2_with (fail)
          go_at_call 47
          refine (hRs _ X).mono ?_
          rintro e wp2 ⟨hxp2, PQ, cQ, lQ, yQ, rfl, hslQ, hpQ⟩
          have X := X.trans hxp2
          rw [hpR] at hpQ
          injection hpQ with z1 z2
          obtain rfl := toP_inj z1
          subst z2
          have hRQ := rsame_any PR PQ cR cQ lR lR wp2 (hslR.ext hxp2) hslQ hsm hsm
          rw [decide_eq_true ((ord_rows.eq0 lR lR).2 rfl)] at hRQ
          clear hsm hpR z1
          dsimp only
          go_wp2_with (fail)
          go_at_call 29
          refine hRQ.mono ?_
          rintro e wp3 ⟨rfl, hxp3⟩
          have X := X.trans hxp3
          dsimp only
          go_wp2_with (fail)
          go_at_call 11
          refine (aw _ X).mono ?_
          rintro e w2 ⟨rfl, hx2⟩
          have X := X.trans hx2
          dsimp only
          go_wp2
          go_ret
          exact ⟨rfl, X⟩
        | true =>
          rw [hrb] at hVb
          have HC := HAB.out hra hrb
          clear hPa HAB hra hrb
          generalize decide (crF la lb = 0) = b at *
          go_wp2_with (fail)
          go_at_call 19
          refine (hVb _ X).mono ?_
          rintro e w10 ⟨rfl, hx10⟩
          have X := X.trans hx10
          dsimp only
          go_wp2_with (fail)
          go_at_call 44
          refine (hTb _ X).mono ?_
          rintro e w11 ⟨rfl, hx11⟩
          have X := X.trans hx11
          dsimp only
          go_wp2_with (fail)
          go_at_call 29
          refine (hSab _ X).mono ?_
          rintro e w12 ⟨rfl, hx12⟩
          have X := X.trans hx12
          dsimp only
          have hcmp : (XA.toList == XB.toList) = b := by
            rw [← HC]
            by_cases hAB : XA = XB
            · subst hAB; simp
            · rw [decide_eq_false hAB, beq_eq_false_iff_ne]
              intro e
              rw [Lib.toList_data, Lib.toList_data] at e
              exact hAB (ByteArray.ext (Array.ext' e))
          clear HC
          cases b
          all_goals (
            go_wp2_with (fail)
            go_at_call 46
            refine (hPs _ X).mono ?_
            rintro e wp1 ⟨hxp1, PR, cR, lR, yR, rfl, hslR, hpR⟩
            have X := X.trans hxp1
            rw [parseT_same rowP_nil rowP_ok] at hpR
            have hsm := parsed_small hpR
            dsimp only
            go_wp2_with (fail)
            go_at_call 47
            refine (hRs _ X).mono ?_
            rintro e wp2 ⟨hxp2, PQ, cQ, lQ, yQ, rfl, hslQ, hpQ⟩
            have X := X.trans hxp2
            rw [hpR] at hpQ
            injection hpQ with z1 z2
            obtain rfl := toP_inj z1
            subst z2
            have hRQ := rsame_any PR PQ cR cQ lR lR wp2 (hslR.ext hxp2) hslQ hsm hsm
            rw [decide_eq_true ((ord_rows.eq0 lR lR).2 rfl)] at hRQ
            clear hsm hpR z1
            dsimp only
            go_wp2_with (fail)
            go_at_call 29
            refine hRQ.mono ?_
            rintro e wp3 ⟨rfl, hxp3⟩
            have X := X.trans hxp3
            dsimp only
            go_wp2_with (fail)
            go_at_call 11
            refine (aw _ X).mono ?_
            rintro e w2 ⟨rfl, hx2⟩
            have X := X.trans hx2
            dsimp only
            go_wp2
            go_ret
            exact ⟨rfl, X⟩)
end
section
open Go.RowKit Go.WideShapes Go.ChangeShapes Go.Deep
set_option linter.unusedVariables false

section
variable {H : Type} {enc : TypeId × Value → H} {P : Program}
theorem post_of_below {f : Func} {s : ChangeSpec} {apart fresh handsOn again : Bool} {W W' : World} {args : Array Value} {v : Value} {ds gs : List (DataW H)} {before pa pv : List MemPlace}
    (hW : DataW.Whole enc P f.params.toList s.vars apart W args.toList ds gs before)
    (hres : ∀ (b : Nat) (sp : Nat → Bool) (hd : Bool), DataW.TrodAll enc P W' b sp hd f.resultTypes.toList (v.resultList f.resultTypes.size) (s.fn H (ds ++ gs)).results [])
    (hargs : ∀ sp : Nat → Bool, (∀ p ∈ before, sp p.block = true) → DataW.TrodAll enc P W' 0 sp true f.params.toList args.toList (s.fn H (ds ++ gs)).args pa)
    (hvars : ∀ sp : Nat → Bool, (∀ p ∈ before, sp p.block = true) → DataW.TrodVars enc P W' sp s.vars (s.fn H (ds ++ gs)).vars pv)
    (hps : before = pa ++ pv) (hb : Below W.heap.size W W')
    (hok : ∀ (j : Nat) (t : TypeId) (r : Value), f.resultTypes[j]? = some t → (v.resultList f.resultTypes.size)[j]? = some r → Value.okWide P W' .any 0 t r) :
    s.post enc P f apart fresh handsOn again W args v W' := by
  have hlt : ∀ p ∈ before, p.block < W.heap.size := fun p hp => hW.lt p hp
  have hold : ∀ p ∈ before, (fun b => decide (b < W.heap.size)) p.block = true := fun p hp => by simpa using hlt p hp
  refine ⟨ds, gs, before, [], pa, pv, hW, hres _ _ _, hargs _ hold, hvars _ hold, World.keptBut_mono (fun p hp => ⟨hp, ?_⟩) (hb.frame (· ∈ before)), fun _ => ?_⟩
  · rw [hps, List.mem_append] at hp
    exact Or.inr hp
  · obtain ⟨_, _, _, _, _, hz, hn⟩ := hW
    refine ⟨hok, _, _, ([] ++ pa) ++ pv, ⟨[] ++ pa, pv, trodAll_append (hargs _ (fun _ _ => rfl)) (hres _ _ _), hvars _ (fun _ _ => rfl), rfl, ?_, ?_⟩, ?_⟩
    · intro b off hp
      have hin : MemPlace.cell b off ∈ before := by rw [hps]; simpa using hp
      rw [hb.frozen (hlt _ hin)]
      exact hz b off hin
    · intro ha
      have := hn ha
      rw [hps] at this
      simpa using this
    · intro p hp _
      rw [hps]
      simpa using hp
end

theorem own : ownKnob Tryd.prog.godebug = none := by kernel_rfl
theorem laidOut : laidOutB Tryd.prog = true := by kernel_rfl

theorem weightsAll_in {H : Type} {P : Program} {e : TypeId} : ∀ {l : List (DataW H)} {d : DataW H}, d ∈ l → ∀ n ∈ d.weights P e, n ∈ DataW.weightsAll P e l
  | c :: l, d, hd, n, hn => by
    simp only [DataW.weightsAll, List.mem_append]
    rcases List.mem_cons.1 hd with h | h
    · subst h; exact .inl hn
    · exact .inr (weightsAll_in h n hn)
  | [], _, hd, _, _ => by cases hd
end
section
open Go.RowKit Go.WideShapes Go.ChangeShapes Go.ChangeAt Go.Deep
set_option linter.unusedVariables false
set_option linter.unusedSimpArgs false
set_option linter.unusedSectionVars false
set_option maxRecDepth 20000

/-- A slice of elements, read. -/
theorem open_slG {α : Type} {H : Type} {enc : TypeId × Value → H} {W : World} {base b0 : Nat} {r : Reach} {sp : Nat → Bool} {v : Value} {d : DataW H} {ps : List MemPlace} {ts : List TypeId} {ds : List (DataW H)} {j : Nat} {t e : TypeId} [Inhabited α]
    (cs : α → List Value) (ok : α → Prop) (k by_ : Nat) (hk : ∀ x, (cs x).length = k) (hk0 : 1 ≤ k) (ht : Tryd.prog.underlying t = some (.slice e)) (ce : Tryd.prog.cellsOf e = k) (hby : Tryd.prog.bytesOf e = by_) (hb1 : 1 ≤ by_)
    (hel : ∀ cs' n y, DataW.trod enc Tryd.prog W base sp true n e cs' = some y → cs'.length = k → ∃ x, cs' = cs x ∧ ((∀ m ∈ y.1.weights Tryd.prog e, m ≤ reachBytes) → ok x))
    (hval : Value.okWide Tryd.prog W r b0 t v) (h : DataW.Trod enc Tryd.prog W base sp true t v d ps)
    (hsz : (DataW.weightsEach Tryd.prog ts ds).all (· ≤ reachBytes) = true) (hj : ts[j]? = some t) (hd : ds[j]? = some d) :
    ∃ (P : Option Addr) (cap : Nat) (l : List α), v = .slice P l.length cap ∧ SlG cs W P cap l ∧ (∀ x ∈ l, ok x) ∧ l.length ≤ 140737488355328 := by
  obtain ⟨a0, len0, cap0, rfl⟩ := okWide_slice ht hval
  obtain ⟨fuel, hf⟩ := h
  have hw : ∀ n ∈ d.weights Tryd.prog t, n ≤ reachBytes := fun n hn => by
    have := List.all_eq_true.1 hsz _ (DataW.weights_mem_each hj hd n hn)
    simpa using this
  have hrl := reachBytes_lt
  rcases open_slice ht hf with ⟨h0, hx⟩ | ⟨a, len, cap, m, n, D, Pl, h0, hb, hlc, hcap, hm, hx, hi⟩
  · simp [Value.cells] at h0
    obtain ⟨rfl, rfl, rfl⟩ := h0
    exact ⟨none, 0, [], rfl, SlG.nil _ _, fun x hx => (by cases hx), by simp⟩
  · simp [Value.cells] at h0
    obtain ⟨rfl, rfl, rfl⟩ := h0
    simp only [Prod.mk.injEq] at hx
    obtain ⟨rfl, _⟩ := hx
    have hlm : len0 ≤ m := by rw [hm]; split <;> omega
    have each : ∀ i, i < len0 → ∃ y : α, ok y ∧ ∀ (q : Nat) (u : Value), (cs y)[q]? = some u → W.cell? (a.add (i * k + q)) = some u := by
      intro i hil
      obtain ⟨cs', h1, h2⟩ := hi i (by omega)
      obtain ⟨_, h3, h4⟩ := World.cells?_some h1
      rw [ce] at h3 h4
      obtain ⟨x, rfl, hok⟩ := hel cs' n _ h2 h3
      refine ⟨x, hok fun q hq => hw q ?_, fun q u hq => ?_⟩
      · simp only [DataW.weights, ht]
        exact List.mem_cons_of_mem _ (List.mem_append.2 (.inl (weightsAll_in (d := D i) (List.mem_map.2 ⟨i, List.mem_range.2 hil, rfl⟩) _ hq)))
      · have hq' : q < k := by rw [← hk x]; exact (List.getElem?_eq_some_iff.1 hq).1
        have := h4 q hq'
        rw [hq] at this
        rw [← this, add_add]
    obtain ⟨g, hg⟩ := choose_lt each
    refine ⟨some a, cap0, (List.range len0).map g, by simp, ⟨fun i x hix => ?_, by simpa using hlc, by simpa only [maxLen] using hcap⟩, fun x hx => ?_, ?_⟩
    · have hil : i < len0 := by
        have := (List.getElem?_eq_some_iff.1 hix).1
        simpa using this
      have hx : x = g i := by
        simp [hil] at hix
        exact hix.symm
      subst hx
      obtain ⟨_, hc⟩ := hg i hil
      obtain ⟨b, off, spot⟩ := a
      have hspot : spot = none := by
        obtain ⟨u, hu⟩ : ∃ u, (cs (g 0))[0]? = some u := by
          have : 0 < (cs (g 0)).length := by rw [hk]; omega
          exact ⟨_, List.getElem?_eq_getElem this⟩
        simpa [Addr.add] using World.cell?_spot ((hg 0 (by omega)).2 0 u hu)
      subst hspot
      refine ⟨b, off, rfl, fun q u hq => ?_⟩
      have := hc q u hq
      rw [Go.WideShapes.add_plain, ← hk (g i)] at this
      rw [← this]
      congr 2
      omega
    · simp only [List.mem_map, List.mem_range] at hx
      obtain ⟨i, hil, rfl⟩ := hx
      exact (hg i hil).1
    · have h1 := hw _ (by simp only [DataW.weights, ht]; exact List.mem_cons_self ..)
      rw [hby] at h1
      simp at h1
      have : len0 + (m - len0) ≤ (len0 + (m - len0)) * by_ := Nat.le_mul_of_pos_right _ hb1
      simp
      omega

def OkI (x : Int) : Prop := -9223372036854775808 ≤ x ∧ x ≤ 9223372036854775807
theorem okI_of {x : Int} (h : (Lit.int .i64 x).wf = true) : OkI x := by
  simp [Lit.wf, IntKind.min, IntKind.max, IntKind.signed, IntKind.bits] at h
  unfold OkI
  omega
def OkS (s : ByteArray) : Prop := s.size ≤ 140737488355328
def OkV (x : Vl) : Prop := OkI x.1 ∧ OkI x.2.1 ∧ OkS x.2.2
def OkT (x : It) : Prop := OkS x.1 ∧ OkI x.2.1 ∧ OkI x.2.2.1 ∧ OkI x.2.2.2.1 ∧ OkI x.2.2.2.2
section
variable {H : Type} {enc : TypeId × Value → H} {W : World} {base b0 : Nat} {r : Reach} {sp : Nat → Bool} {v : Value} {d : DataW H} {ps : List MemPlace} {ts : List TypeId} {ds : List (DataW H)} {j : Nat}
theorem one_cell {t : TypeId} (h : Tryd.prog.cellsOf t = 1) {cs : List Value} {k : Nat} {u : Value} (hk : cs[k]? = some u) : (cs.drop k).take (Tryd.prog.cellsOf t) = [u] := by
  rw [h]
  obtain ⟨hl, rfl⟩ := List.getElem?_eq_some_iff.1 hk
  rw [List.drop_eq_getElem_cons hl]
  rfl
theorem trod_five {P : Program} {t : TypeId} {f0 f1 f2 f3 f4 : Field} {fuel : Nat} {cs : List Value} {x : DataW H × List MemPlace} {w : World} {hd : Bool} (ht : P.underlying t = some (.struct #[f0, f1, f2, f3, f4])) (h : DataW.trod enc P w base sp hd fuel t cs = some x) :
    ∃ y0 y1 y2 y3 y4 n, x.1 = .agg [y0.1, y1.1, y2.1, y3.1, y4.1] ∧ DataW.trod enc P w base sp hd n f0.type ((cs.drop f0.offset).take (P.cellsOf f0.type)) = some y0 ∧ DataW.trod enc P w base sp hd n f1.type ((cs.drop f1.offset).take (P.cellsOf f1.type)) = some y1 ∧
      DataW.trod enc P w base sp hd n f2.type ((cs.drop f2.offset).take (P.cellsOf f2.type)) = some y2 ∧ DataW.trod enc P w base sp hd n f3.type ((cs.drop f3.offset).take (P.cellsOf f3.type)) = some y3 ∧ DataW.trod enc P w base sp hd n f4.type ((cs.drop f4.offset).take (P.cellsOf f4.type)) = some y4 := by
  obtain ⟨xs, n, _, rfl, hl, hlen, hf⟩ := DataW.trod_struct ht h
  match xs, hlen with
  | [y0, y1, y2, y3, y4], _ => exact ⟨y0, y1, y2, y3, y4, n, by simp, by simpa using hf 0 f0 rfl, by simpa using hf 1 f1 rfl, by simpa using hf 2 f2 rfl, by simpa using hf 3 f3 rfl, by simpa using hf 4 f4 rfl⟩
/-- A row of values, read. -/
theorem open_row (hval : Value.okWide Tryd.prog W r b0 23 v) (h : DataW.Trod enc Tryd.prog W base sp true 23 v d ps)
    (hsz : (DataW.weightsEach Tryd.prog ts ds).all (· ≤ reachBytes) = true) (hj : ts[j]? = some 23) (hd : ds[j]? = some d) :
    ∃ (P : Option Addr) (cap : Nat) (l : List Vl), v = .slice P l.length cap ∧ SlV W P cap l ∧ (∀ x ∈ l, OkV x) ∧ l.length ≤ 140737488355328 := by
  refine open_slG Vl.cells OkV 3 32 (fun x => rfl) (by omega) Tryd.underlying23 (by kernel_rfl) (by kernel_rfl) (by omega) (fun cs' n y h hl => ?_) hval h hsz hj hd
  obtain ⟨y0, y1, y2, n', rfl, _, t0, t1, t2⟩ := trod_struct3 Tryd.underlying29 h
  match cs', hl with
  | [v0, v1, v2], _ =>
    rw [one_cell (by kernel_rfl) (rfl : [v0, v1, v2][0]? = some v0)] at t0
    rw [one_cell (by kernel_rfl) (rfl : [v0, v1, v2][1]? = some v1)] at t1
    rw [one_cell (by kernel_rfl) (rfl : [v0, v1, v2][2]? = some v2)] at t2
    obtain ⟨x0, a0, c0, w0⟩ := DataW.trod_int (k := .i64) Tryd.underlying3 t0
    obtain ⟨x1, a1, c1, w1⟩ := DataW.trod_int (k := .i64) Tryd.underlying3 t1
    obtain ⟨s, a2, c2, _⟩ := DataW.trod_string Tryd.underlying9 t2
    simp only [List.cons.injEq, and_true] at a0 a1 a2
    subst a0 a1 a2 c0 c1 c2
    refine ⟨(x0, x1, s), rfl, fun hq => ⟨okI_of w0, okI_of w1, ?_⟩⟩
    have h1 := hq s.data.toList.length (by simp [DataW.weights, Tryd.underlying29, DataW.weightsEach])
    have : s.size = s.data.toList.length := by simp
    have hr := reachBytes_lt
    show s.size ≤ _
    omega
/-- Items, read. -/
theorem open_items (hval : Value.okWide Tryd.prog W r b0 22 v) (h : DataW.Trod enc Tryd.prog W base sp true 22 v d ps)
    (hsz : (DataW.weightsEach Tryd.prog ts ds).all (· ≤ reachBytes) = true) (hj : ts[j]? = some 22) (hd : ds[j]? = some d) :
    ∃ (P : Option Addr) (cap : Nat) (l : List It), v = .slice P l.length cap ∧ SlT W P cap l ∧ (∀ x ∈ l, OkT x) ∧ l.length ≤ 140737488355328 := by
  refine open_slG It.cells OkT 5 48 (fun x => rfl) (by omega) Tryd.underlying22 (by kernel_rfl) (by kernel_rfl) (by omega) (fun cs' n y h hl => ?_) hval h hsz hj hd
  obtain ⟨y0, y1, y2, y3, y4, n', hy, t0, t1, t2, t3, t4⟩ := trod_five Tryd.underlying32 h
  rw [hy]
  match cs', hl with
  | [v0, v1, v2, v3, v4], _ =>
    rw [one_cell (by kernel_rfl) (rfl : [v0, v1, v2, v3, v4][0]? = some v0)] at t0
    rw [one_cell (by kernel_rfl) (rfl : [v0, v1, v2, v3, v4][1]? = some v1)] at t1
    rw [one_cell (by kernel_rfl) (rfl : [v0, v1, v2, v3, v4][2]? = some v2)] at t2
    rw [one_cell (by kernel_rfl) (rfl : [v0, v1, v2, v3, v4][3]? = some v3)] at t3
    rw [one_cell (by kernel_rfl) (rfl : [v0, v1, v2, v3, v4][4]? = some v4)] at t4
    obtain ⟨s, a0, c0, _⟩ := DataW.trod_string Tryd.underlying9 t0
    obtain ⟨x1, a1, c1, w1⟩ := DataW.trod_int (k := .i64) Tryd.underlying3 t1
    obtain ⟨x2, a2, c2, w2⟩ := DataW.trod_int (k := .i64) Tryd.underlying3 t2
    obtain ⟨x3, a3, c3, w3⟩ := DataW.trod_int (k := .i64) Tryd.underlying3 t3
    obtain ⟨x4, a4, c4, w4⟩ := DataW.trod_int (k := .i64) Tryd.underlying3 t4
    simp only [List.cons.injEq, and_true] at a0 a1 a2 a3 a4
    subst a0 a1 a2 a3 a4 c0 c1 c2 c3 c4
    refine ⟨(s, x1, x2, x3, x4), rfl, fun hq => ⟨?_, okI_of w1, okI_of w2, okI_of w3, okI_of w4⟩⟩
    have h1 := hq s.data.toList.length (by simp [DataW.weights, Tryd.underlying32, DataW.weightsEach])
    have : s.size = s.data.toList.length := by simp
    have hr := reachBytes_lt
    show s.size ≤ _
    omega
/-- Names, read. -/
theorem open_names (hval : Value.okWide Tryd.prog W r b0 41 v) (h : DataW.Trod enc Tryd.prog W base sp true 41 v d ps)
    (hsz : (DataW.weightsEach Tryd.prog ts ds).all (· ≤ reachBytes) = true) (hj : ts[j]? = some 41) (hd : ds[j]? = some d) :
    ∃ (P : Option Addr) (cap : Nat) (l : List ByteArray), v = .slice P l.length cap ∧ SlS W P cap l ∧ (∀ x ∈ l, OkS x) ∧ l.length ≤ 140737488355328 := by
  refine open_slG (fun s => [.string s]) OkS 1 16 (fun x => rfl) (by omega) Tryd.underlying41 (by kernel_rfl) (by kernel_rfl) (by omega) (fun cs' n y h hl => ?_) hval h hsz hj hd
  match cs', hl with
  | [v0], _ =>
    obtain ⟨s, a0, c0, _⟩ := DataW.trod_string Tryd.underlying9 h
    simp only [List.cons.injEq, and_true] at a0
    subst a0 c0
    refine ⟨s, rfl, fun hq => ?_⟩
    have h1 := hq s.data.toList.length (by simp [DataW.weights])
    have : s.size = s.data.toList.length := by simp
    have hr := reachBytes_lt
    show s.size ≤ _
    omega
end
/-- What came in reads behind the call as it did. -/
theorem backV {H : Type} {enc : TypeId × Value → H} {W W' : World} {v : Value} {d : DataW H} {ps : List MemPlace} (h : DataW.Trod enc Tryd.prog W 0 (fun _ => true) true 23 v d ps) (hb : Below W.heap.size W W')
    (hlt : ∀ x ∈ ps, x.block < W.heap.size) (sp : Nat → Bool) (hsp : ∀ x ∈ ps, sp x.block = true) : DataW.Trod enc Tryd.prog W' 0 sp true 23 v d ps :=
  WideElems.Trod_stays laidOut (by kernel_rfl) (of_decide_eq_true (by kernel_rfl)) h (fun x hx => hb.same (hlt x hx)) hsp
theorem backT {H : Type} {enc : TypeId × Value → H} {W W' : World} {v : Value} {d : DataW H} {ps : List MemPlace} (h : DataW.Trod enc Tryd.prog W 0 (fun _ => true) true 22 v d ps) (hb : Below W.heap.size W W')
    (hlt : ∀ x ∈ ps, x.block < W.heap.size) (sp : Nat → Bool) (hsp : ∀ x ∈ ps, sp x.block = true) : DataW.Trod enc Tryd.prog W' 0 sp true 22 v d ps :=
  WideElems.Trod_stays laidOut (by kernel_rfl) (of_decide_eq_true (by kernel_rfl)) h (fun x hx => hb.same (hlt x hx)) hsp
theorem backS {H : Type} {enc : TypeId × Value → H} {W W' : World} {v : Value} {d : DataW H} {ps : List MemPlace} (h : DataW.Trod enc Tryd.prog W 0 (fun _ => true) true 41 v d ps) (hb : Below W.heap.size W W')
    (hlt : ∀ x ∈ ps, x.block < W.heap.size) (sp : Nat → Bool) (hsp : ∀ x ∈ ps, sp x.block = true) : DataW.Trod enc Tryd.prog W' 0 sp true 41 v d ps :=
  WideElems.Trod_stays laidOut (by kernel_rfl) (of_decide_eq_true (by kernel_rfl)) h (fun x hx => hb.same (hlt x hx)) hsp
end
section
open Go.RowKit Go.WideShapes Go.ChangeShapes Go.ChangeAt Go.Deep
set_option linter.unusedVariables false
set_option linter.unusedSimpArgs false
set_option linter.unusedSectionVars false
set_option maxRecDepth 20000

theorem open_val {H : Type} {enc : TypeId × Value → H} {W : World} {base b0 : Nat} {r : Reach} {sp : Nat → Bool} {v : Value} {d : DataW H} {ps : List MemPlace} {ts : List TypeId} {ds : List (DataW H)} {j : Nat}
    (hval : Value.okWide Tryd.prog W r b0 29 v) (h : DataW.Trod enc Tryd.prog W base sp true 29 v d ps)
    (hsz : (DataW.weightsEach Tryd.prog ts ds).all (· ≤ reachBytes) = true) (hj : ts[j]? = some 29) (hd : ds[j]? = some d) :
    ∃ x : Vl, v = x.v ∧ OkV x := by
  obtain ⟨v0, v1, v2, y0, y1, y2, n, rfl, rfl, rfl, t0, t1, t2⟩ := Go.Joins.open_agg3 Tryd.underlying29 (by kernel_rfl) (by kernel_rfl) hval h
  obtain ⟨x0, a0, c0, w0⟩ := DataW.trod_int (k := .i64) Tryd.underlying3 t0
  obtain ⟨x1, a1, c1, w1⟩ := DataW.trod_int (k := .i64) Tryd.underlying3 t1
  obtain ⟨s, a2, c2, _⟩ := DataW.trod_string Tryd.underlying9 t2
  simp only [List.cons.injEq, and_true] at a0 a1 a2
  subst a0 a1 a2
  refine ⟨(x0, x1, s), rfl, okI_of w0, okI_of w1, ?_⟩
  have hw : ∀ n ∈ (DataW.agg [y0.1, y1.1, y2.1]).weights Tryd.prog 29, n ≤ reachBytes := fun n hn => by
    have := List.all_eq_true.1 hsz _ (DataW.weights_mem_each hj hd n hn)
    simpa using this
  subst c0 c1 c2
  have h1 := hw s.data.toList.length (by simp [DataW.weights, Tryd.underlying29, DataW.weightsEach])
  have : s.size = s.data.toList.length := by simp
  have hr := reachBytes_lt
  show s.size ≤ _
  omega
theorem backW {H : Type} {enc : TypeId × Value → H} {W W' : World} {v : Value} {d : DataW H} {ps : List MemPlace} (h : DataW.Trod enc Tryd.prog W 0 (fun _ => true) true 29 v d ps) (hb : Below W.heap.size W W')
    (hlt : ∀ x ∈ ps, x.block < W.heap.size) (sp : Nat → Bool) (hsp : ∀ x ∈ ps, sp x.block = true) : DataW.Trod enc Tryd.prog W' 0 sp true 29 v d ps :=
  WideElems.Trod_stays laidOut (by kernel_rfl) (of_decide_eq_true (by kernel_rfl)) h (fun x hx => hb.same (hlt x hx)) hsp
end
section
open Go
set_option linter.unusedVariables false
set_option linter.unusedSimpArgs false
set_option linter.unusedSectionVars false

/-- an item: name, kind, low, high, len -/
abbrev ItP := List UInt8 × Int × Int × Int × Int
structure ItOkP (x : ItP) : Prop where
  sp : (32 : UInt8) ∉ x.1
  sc : (59 : UInt8) ∉ x.1
  k : (x.2.1 = 1 ∧ x.2.2.2.2 = 0 ∧ -1000000000 ≤ x.2.2.1 ∧ x.2.2.1 ≤ 1000000000 ∧ -1000000000 ≤ x.2.2.2.1 ∧ x.2.2.2.1 ≤ 1000000000) ∨ (x.2.1 = 2 ∧ x.2.2.1 = 0 ∧ x.2.2.2.1 = 0 ∧ 1 ≤ x.2.2.2.2 ∧ x.2.2.2.2 ≤ 40)
def itemT (x : ItP) : List UInt8 :=
  if x.2.1 = 1 then x.1 ++ 32 :: ([105, 110, 116] ++ 32 :: (Lib.itoa x.2.2.1 ++ 32 :: Lib.itoa x.2.2.2.1)) else x.1 ++ 32 :: ([116, 101, 120, 116] ++ 32 :: Lib.itoa x.2.2.2.2)
/-- a part as the program reads it -/
def stepI (p : List UInt8) : Option ItP :=
  match cutC 32 p with
  | n :: k :: r :: rs => some (if k = [105, 110, 116] ∧ rs.length = 1 then (n, 1, atoiV r, atoiV (rs.getD 0 []), 0) else if k = [116, 101, 120, 116] ∧ rs.length = 0 then (n, 2, 0, 0, atoiV r) else (n, 0, 0, 0, 0))
  | _ => none
/-- a part as the reference reads it -/
def lineRI (p : List UInt8) : Option ItP :=
  match cutC 32 p with
  | [n, k, a, b] => if k = [105, 110, 116] ∧ (wholeF a).2 = true ∧ (wholeF b).2 = true then some (n, 1, (wholeF a).1, (wholeF b).1, 0) else none
  | [n, k, a] => if k = [116, 101, 120, 116] ∧ (wholeF a).2 = true then some (n, 2, 0, 0, (wholeF a).1) else none
  | _ => none
def readO (f : List UInt8 → Option ItP) : List (List UInt8) → Option (List ItP)
  | [] => some []
  | p :: r => match f p with
    | none => none
    | some x => match readO f r with
      | none => none
      | some xs => some (x :: xs)
section
variable (V : List ItP → Bool)
def fmtI (l : List ItP) : List UInt8 := if V l = true then Lib.join (l.map itemT) [59, 32] else []
def parsePI (t : List UInt8) : List ItP × Int :=
  if 20000 < t.length then ([], 3) else match readO stepI (cutS t) with
    | none => ([], 2)
    | some l => if fmtI V l ≠ t then ([], 2) else (l, 0)
def parseRI (t : List UInt8) : List ItP × Int :=
  if 20000 < t.length then ([], 3) else match readO lineRI (cutS t) with
    | none => ([], 2)
    | some l => if V l = false then ([], 2) else (l, 0)
end
theorem itemT_no {x : ItP} (h : ItOkP x) : (59 : UInt8) ∉ itemT x := by
  have hi := fun n => itoa_no n 59 (by decide)
  have hs := h.sc
  unfold itemT
  split
  · simp only [List.mem_append, List.mem_cons, not_or]
    exact ⟨hs, by decide, ⟨by decide, by decide, by decide, by simp⟩, by decide, hi _, by decide, hi _⟩
  · simp only [List.mem_append, List.mem_cons, not_or]
    exact ⟨hs, by decide, ⟨by decide, by decide, by decide, by decide, by simp⟩, by decide, hi _⟩
theorem cut_item {x : ItP} (h : ItOkP x) : cutC 32 (itemT x) = if x.2.1 = 1 then [x.1, [105, 110, 116], Lib.itoa x.2.2.1, Lib.itoa x.2.2.2.1] else [x.1, [116, 101, 120, 116], Lib.itoa x.2.2.2.2] := by
  have hi := fun n => itoa_no n 32 (by decide)
  unfold itemT
  split
  · rw [cutC_app 32 _ _ h.sp, cutC_app 32 _ _ (by decide), cutC_app 32 _ _ (hi _), cutC_none 32 _ (hi _)]
  · rw [cutC_app 32 _ _ h.sp, cutC_app 32 _ _ (by decide), cutC_none 32 _ (hi _)]
theorem stepI_item {x : ItP} (h : ItOkP x) : stepI (itemT x) = some x := by
  obtain ⟨n, k, a, b, c⟩ := x
  have hc := cut_item h
  unfold stepI
  rw [hc]
  rcases h.k with ⟨h1, h2, h3, h4, h5, h6⟩ | ⟨h1, h2, h3, h4, h5⟩
  · simp only at h1 h2 h3 h4 h5 h6
    subst h1 h2
    simp [atoiV_itoa a (by omega) (by omega), atoiV_itoa b (by omega) (by omega)]
  · simp only at h1 h2 h3 h4 h5
    subst h1 h2 h3
    simp [atoiV_itoa c (by omega) (by omega)]
theorem lineRI_item {x : ItP} (h : ItOkP x) : lineRI (itemT x) = some x := by
  obtain ⟨n, k, a, b, c⟩ := x
  have hc := cut_item h
  unfold lineRI
  rw [hc]
  rcases h.k with ⟨h1, h2, h3, h4, h5, h6⟩ | ⟨h1, h2, h3, h4, h5⟩
  · simp only at h1 h2 h3 h4 h5 h6
    subst h1 h2
    simp [whole_itoa a (by omega) (by omega), whole_itoa b (by omega) (by omega)]
  · simp only at h1 h2 h3 h4 h5
    subst h1 h2 h3
    simp [whole_itoa c (by omega) (by omega)]
theorem readO_map {f : List UInt8 → Option ItP} : ∀ (l : List ItP), (∀ x ∈ l, f (itemT x) = some x) → readO f (l.map itemT) = some l
  | [], _ => rfl
  | x :: l, h => by
    rw [List.map_cons, readO, h x (by simp), readO_map l (fun y hy => h y (List.mem_cons_of_mem _ hy))]
/-- a part that the reference reads is the item, written -/
theorem lineRI_inv {p : List UInt8} {x : ItP} (h : lineRI p = some x) : itemT x = p := by
  have hj := join_cutC 32 p
  unfold lineRI at h
  split at h
  · rename_i n k a b hc
    rw [hc] at hj
    split at h
    · rename_i hk
      injection h with h
      subst h
      obtain ⟨rfl, ha, hb⟩ := hk
      rw [join2, join2, join2, join1] at hj
      rw [← hj]
      unfold itemT
      simp [whole_inv a ha, whole_inv b hb]
    · cases h
  · rename_i n k a hc
    rw [hc] at hj
    split at h
    · rename_i hk
      injection h with h
      subst h
      obtain ⟨rfl, ha⟩ := hk
      rw [join2, join2, join1] at hj
      rw [← hj]
      unfold itemT
      simp [whole_inv a ha]
    · cases h
  · cases h
theorem readO_inv : ∀ (ps : List (List UInt8)) (l : List ItP), readO lineRI ps = some l → l.map itemT = ps
  | [], l, h => by injection h with h; subst h; rfl
  | p :: ps, l, h => by
    rw [readO] at h
    cases hx : lineRI p with
    | none => rw [hx] at h; cases h
    | some x =>
      rw [hx] at h
      simp only at h
      cases hr : readO lineRI ps with
      | none => rw [hr] at h; cases h
      | some xs =>
        rw [hr] at h
        injection h with h
        subst h
        rw [List.map_cons, lineRI_inv hx, readO_inv ps xs hr]
section
variable {V : List ItP → Bool} (hV : ∀ l, V l = true → l ≠ [] ∧ ∀ x ∈ l, ItOkP x)
include hV
theorem cut_fmtI {l : List ItP} (h : V l = true) : cutS (fmtI V l) = l.map itemT := by
  obtain ⟨h1, h2⟩ := hV l h
  unfold fmtI
  rw [if_pos h]
  refine cutS_join _ (fun e => h1 (List.map_eq_nil_iff.1 e)) (fun y hy => ?_)
  obtain ⟨x, hx, rfl⟩ := List.mem_map.1 hy
  exact itemT_no (h2 x hx)
theorem parsePI_fmt {l : List ItP} (h : V l = true) (hl : (fmtI V l).length ≤ 20000) : parsePI V (fmtI V l) = (l, 0) := by
  unfold parsePI
  rw [if_neg (by omega), cut_fmtI hV h, readO_map l (fun x hx => stepI_item ((hV l h).2 x hx))]
  simp
theorem parseRI_fmt {l : List ItP} (h : V l = true) (hl : (fmtI V l).length ≤ 20000) : parseRI V (fmtI V l) = (l, 0) := by
  unfold parseRI
  rw [if_neg (by omega), cut_fmtI hV h, readO_map l (fun x hx => lineRI_item ((hV l h).2 x hx))]
  simp [h]
/-- both parsers tell the same of every text -/
theorem parseI_same (t : List UInt8) : parsePI V t = parseRI V t := by
  by_cases hl : 20000 < t.length
  · unfold parsePI parseRI
    rw [if_pos hl, if_pos hl]
  · by_cases ht : ∃ l, V l = true ∧ fmtI V l = t
    · obtain ⟨l, h, rfl⟩ := ht
      rw [parsePI_fmt hV h (by omega), parseRI_fmt hV h (by omega)]
    · have hP : parsePI V t = ([], 2) := by
        unfold parsePI
        rw [if_neg hl]
        cases hr : readO stepI (cutS t) with
        | none => rfl
        | some l =>
          simp only
          rw [if_pos]
          intro e
          by_cases hv : V l = true
          · exact ht ⟨l, hv, e⟩
          · have e0 : t = [] := by rw [← e]; unfold fmtI; rw [if_neg hv]
            subst e0
            have e1 : readO stepI (cutS []) = none := by
              rw [cutS_none [] (by simp)]
              rfl
            rw [e1] at hr
            cases hr
      have hR : parseRI V t = ([], 2) := by
        unfold parseRI
        rw [if_neg hl]
        cases hr : readO lineRI (cutS t) with
        | none => rfl
        | some l =>
          simp only
          rw [if_pos]
          cases hv : V l with
          | false => rfl
          | true =>
            refine absurd ⟨l, hv, ?_⟩ ht
            unfold fmtI
            rw [if_pos hv, readO_inv _ _ hr]
            exact join_cutS _ t (Nat.le_refl _)
      rw [hP, hR]
end
end
end Go.Proofs.YtepgpejdnlejnaaDoor
