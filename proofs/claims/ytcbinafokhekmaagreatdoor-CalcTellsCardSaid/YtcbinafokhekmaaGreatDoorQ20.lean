/- CaRi (merged by group.py) -/
import Derived.Test.YtcbinafokhekmaaGreatDoorQ19
namespace Go.Proofs.YtcbinafokhekmaaGreatDoor
section
open Go.RowKit Go.Maps
set_option linter.unusedVariables false
set_option linter.unusedSimpArgs false
set_option linter.unusedSectionVars false
set_option maxRecDepth 100000
attribute [local go_sem] Oper.semAt_some

/-- how a step of the reference's answers: a table that is off FF, and a code -/
def RefP (FF : Nat → Prop) (h r : Nat) (T : List (Bkt Hd)) (code : Int) (w : World) (e : Ending) (w' : World) : Prop := ∃ P' c' l', e = .returned (.tuple #[.agg #[.int .i64 h, .int .i64 r, .slice P' l'.length c'], .int .i64 code]) ∧ absT l' = T ∧ SlB w' P' c' l' ∧ OffB FF P' l' ∧ Ext w w'
/-- a table that was made is one that is off what was there -/
theorem NewB.offB {w W : World} {FF : Nat → Prop} {v : Value} {l' : List BkR} (hn : NewB W w.heap.size v l') (hFF : ∀ i, FF i → i < w.heap.size) (ho : ∀ x ∈ l', OffH FF x.1.1 x.1.2.2) {P : Option Addr} {n c : Nat} (e : v = .slice P n c) : OffB FF P l' :=
  ⟨fun _ b off e2 hb => by
    subst e
    have h1 := (own_lt hn.own (g := b) (by rw [e2]; rfl)).1
    have h2 := hFF b hb
    omega, ho⟩
/-- the table that was given is stored into the result's box -/
theorem refP_box {FF : Nat → Prop} {h r g : Nat} {w W : World} {P : Option Addr} {c : Nat} {l : List BkR} (hb : BoxN W g 28 #[.int .i64 0, .int .i64 0, .slice none 0 0]) (hg : w.heap.size ≤ g) (hx : Ext w W) (hs : SlB w P c l) :
    let Z := ((W.setCell ⟨g, 0, none⟩ (.int .i64 h)).setCell ⟨g, 1, none⟩ (.int .i64 r)).setCell ⟨g, 2, none⟩ (.slice P l.length c)
    SlB Z P c l ∧ Ext w Z ∧ Z.cell? ⟨g, 0, none⟩ = some (.int .i64 h) ∧ Z.cell? ⟨g, 1, none⟩ = some (.int .i64 r) ∧ Z.cell? ⟨g, 2, none⟩ = some (.slice P l.length c) := by
  have hB3 := ((hb.set 0 (.int .i64 h)).set 1 (.int .i64 r)).set 2 (.slice P l.length c)
  have hu := (((UpdF.refl (fun i => i = g) W).setCell (p := ⟨g, 0, none⟩) (.inl rfl) (.int .i64 h)).setCell (p := ⟨g, 1, none⟩) (.inl rfl) (.int .i64 r)).setCell (p := ⟨g, 2, none⟩) (.inl rfl) (.slice P l.length c)
  have hxZ := hu.ext hx (fun i hi => by omega)
  exact ⟨hs.ext hxZ, hxZ, hB3.cell (i := 0) rfl, hB3.cell (i := 1) rfl, hB3.cell (i := 2) rfl⟩
theorem dupB_iff {m : List HdR} {row : List Vl} {k : Int} {single : Bool} : dupB (m.map hdA) row k single = true ↔ ∃ j, j < m.length ∧ (nthH m j).1.2.2 = row ∧ (single = true ∨ (nthH m j).2 = k) := by
  unfold dupB
  rw [Bool.or_eq_true, Bool.and_eq_true, any_key, List.any_eq_true]
  constructor
  · rintro (⟨hs, x, hx, e⟩ | hm)
    · obtain ⟨y, hy, rfl⟩ := List.mem_map.1 hx
      obtain ⟨j, hj, rfl⟩ := nthH_iff.1 hy
      exact ⟨j, hj, of_decide_eq_true e, .inl hs⟩
    · obtain ⟨y, hy, e⟩ := List.mem_map.1 hm
      obtain ⟨j, hj, rfl⟩ := nthH_iff.1 hy
      exact ⟨j, hj, congrArg Prod.fst e, .inr (congrArg Prod.snd e)⟩
  · rintro ⟨j, hj, h1, h2⟩
    rcases h2 with h2 | h2
    · exact .inl ⟨h2, _, List.mem_map.2 ⟨_, nthH_mem hj, rfl⟩, decide_eq_true h1⟩
    · exact .inr (List.mem_map.2 ⟨_, nthH_mem hj, by unfold hdA; rw [h1, h2]⟩)
set_option maxHeartbeats 8000000 in
theorem rinsert_any (FF : Nat → Prop) (h r : Nat) (P : Option Addr) (c : Nat) (l : List BkR) (Pr : Option Addr) (cr : Nat) (row : List Vl) (k : Int) (single : Bool) (w : World) (hs : SlB w P c l) (hT : FullT hdV hdH h r (absT l)) (hl : l.length ≤ 1000) (hFF : ∀ i, FF i → i < w.heap.size) (hoF : OffB FF P l) (hrow : SlV w Pr cr row) (hnil : Pr = none → cr = 0) :
    Calls Tryz.prog 36 #[.agg #[.int .i64 h, .int .i64 r, .slice P l.length c], .slice Pr row.length cr, .int .i64 k, .bool single] w (RefP FF h r (insT h r (absT l) row k single) (insE h (absT l) row k single) w) := by
  obtain ⟨hh1, hh2, hr1, hr2⟩ := hT.hh
  have hk0 : homeV row % h < h := Nat.mod_lt _ (by omega)
  have hx1 := (Ext.refl w).alloc (.cells #[.int .i64 h, .int .i64 r, .slice P l.length c] 28)
  have hx2 := hx1.alloc (.cells #[.int .i64 0, .int .i64 0, .slice none 0 0] 28)
  have hA := (BoxN.new w 28 #[.int .i64 h, .int .i64 r, .slice P l.length c]).ext ((Ext.refl _).alloc (.cells #[.int .i64 0, .int .i64 0, .slice none 0 0] 28))
  have hB := BoxN.new (w.alloc (.cells #[.int .i64 h, .int .i64 r, .slice P l.length c] 28)) 28 #[.int .i64 0, .int .i64 0, .slice none 0 0]
  rw [show (w.alloc (.cells #[.int .i64 h, .int .i64 r, .slice P l.length c] 28)).heap.size = w.heap.size + 1 from by simp] at hB
  have hV := fun W (hx : Ext w W) => rrow_any Pr cr row W (hrow.ext hx)
  have hK := fun W => rkey_any k W
  have HSAME := fun (W : World) (hx : Ext w W) (hb : BoxN W (w.heap.size + 1) 28 #[.int .i64 0, .int .i64 0, .slice none 0 0]) => Lib.hid (refP_box (FF := FF) (h := h) (r := r) hb (Nat.le_succ _) hx hs)
  by_cases hask : askB row k = true
  · obtain ⟨hrB, hkB⟩ := askB_yes hask
    simp only [hrB] at hV
    simp only [hkB] at hK
    have hHo := fun W (hx : Ext w W) => rhome_any Pr cr row h W (hrow.ext hx) hrB hh1 hh2
    have hEn := fun W (hx : Ext w W) => rentries_any h r P c l ((homeV row % h : Nat) : Int) (pathOf (absT l) (homeV row % h)) W (hs.ext hx) (hT.way hk0) (by have := (hT.path hk0).2.2; omega) (by change (runR l (homeV row % h)).length ≤ _; have := runR_len hT hk0; omega)
    unfold Tb at hEn
    change ∀ W, Ext w W → Calls _ _ _ _ fun e w' => (∃ P' c', e = .returned (.slice P' (runR l (homeV row % h)).length c') ∧ SlH w' P' c' (runR l (homeV row % h))) ∧ Ext W w' at hEn
    have hml := runR_len hT hk0
    have habs := runR_abs hT hk0
    have hrb : ∀ x ∈ runR l (homeV row % h), rowB x.1.2.2 = true := fun x hx => (hT.hom hk0 (hdA x) (by rw [← habs]; exact List.mem_map.2 ⟨x, hx, rfl⟩)).1.1
    have HE1 := Lib.hid (show insE h (absT l) row k single = if dupB ((runR l (homeV row % h)).map hdA) row k single = true then 6 else if 500 ≤ cntT (absT l) then 4 else 0 from by unfold insE; rw [if_neg (by rw [hask]; decide), habs])
    have HYY := fun a b => Lib.hid (insT_yes (r := r) (s := single) hT hask a b)
    rw [← habs] at HYY
    have hCo := fun W (hx : Ext w W) => rcount_any h r P c l W (hs.ext hx) (by have := hT.c5; omega)
    unfold Tb at hCo
    have HC5 := Lib.hid hT.c5
    have HWI := fun (W : World) (hx : Ext w W) (Q : Option Addr) (d : Nat) (m : List HdR) (hm : SlH W Q d m) (hm1 : m.length ≤ 1000) (hW : w.heap.size + 1 < W.heap.size) (hmF : ∀ z ∈ m, Off (fun i => FF i ∨ i = w.heap.size + 1) z.1.1 z.1.2.2) => Lib.hid (rwith_any (fun i => FF i ∨ i = w.heap.size + 1) h r (homeV row % h) P c l (pathOf (absT l) (homeV row % h)) Q d m W (hs.ext hx) hm (hT.way hk0) (hT.path hk0).2.1 (hT.path hk0).2.2 hr1 hr2 (by have := hT.ht; rwa [absT_len] at this) hl hT.ents_le hm1 (fun i hi => hi.elim (fun hi => Nat.lt_of_lt_of_le (hFF i hi) hx.size) (fun hi => by omega)) (fun x hx' z hz => (((hoF.ent x hx').row z hz).or (((hs.ent x hx').row z hz).1.lt vl_pos)).mono (fun i hi => hi.imp id (fun e => by omega))) hmF)
    have HMF := Lib.hid (show ∀ y ∈ runR l (homeV row % h), Off (fun i => FF i ∨ w.heap.size ≤ i) y.1.1 y.1.2.2 from fun y hy => by
      have h1 := (runR_rows hT hk0 hs y hy).1.lt vl_pos
      obtain ⟨b, hb, hy⟩ := List.mem_flatMap.1 hy
      have hbl : b < l.length := by
        have := way_lt (hT.way hk0) b hb
        rwa [absT_len] at this
      exact ((hoF.ent _ (nthBk_mem hbl)).row y hy).or h1)
    have HLN := Lib.hid (insT_len hT row k single)
    have HIF := Lib.hid (show ∀ (m : List HdR), m.map hdA = runE (absT l) (homeV row % h) → ∀ (A : Option Addr) (B : Nat), withF h r (absT l) (pathOf (absT l) (homeV row % h)) ((m ++ [((A, B, row), k)]).map hdA) = insF h r (absT l) (homeV row % h) (row, k) from fun m e A B => by
      unfold insF
      rw [List.map_append, e]
      rfl)
    have HAB := Lib.hid habs
    have HNO := fun e => Lib.hid (insT_no (h := h) (r := r) (T := absT l) (row := row) (k := k) (s := single) e)
    generalize homeV row % h = kk at *
    generalize runR l kk = m at *
    clear hask hT
    go_enter Tryz.func36, Tryz.ntmps36
    go_wp2_with (fail)
    generalize ((w.alloc (.cells #[.int .i64 h, .int .i64 r, .slice P l.length c] 28)).alloc (.cells #[.int .i64 0, .int .i64 0, .slice none 0 0] 28)) = W at *
    go_wp2_with (first
      | (go_at_call 47; refine (hV _ hx2).mono ?_; rintro e w1 ⟨rfl, x1⟩)
      | (go_at_call 48; refine (hK _).mono ?_; rintro e w2 ⟨rfl, rfl⟩; have a0 := (hA.ext x1).cell (i := 0) rfl; have a1 := (hA.ext x1).cell (i := 1) rfl; have a2 := (hA.ext x1).cell (i := 2) rfl)
      | (go_at_call 43; refine (hHo _ (hx2.trans x1)).mono ?_; rintro e w3 ⟨rfl, x3⟩; have a0 := x3.cell a0; have a1 := x3.cell a1; have a2 := x3.cell a2)
      | (go_at_call 44; refine (hEn _ ((hx2.trans x1).trans x3)).mono ?_; rintro e w4 ⟨⟨P4, c4, rfl, hs4⟩, x4⟩))
    have x04 := (x1.trans x3).trans x4
    have hx04 := hx2.trans x04
    clear a0 a1 a2 hEn hHo hV hK
    go_loopw [13] (fun i wr => ∃ j : Nat, j ≤ m.length ∧ i = .int .i64 j ∧ Hid (∀ y, y < j → ¬ ((nthH m y).1.2.2 = row ∧ (single = true ∨ (nthH m y).2 = k))) ∧ Ext w4 wr) (fun i _ => m.length - (intOf i).toNat)
    case atStart => exact ⟨0, by omega, rfl, Lib.hid (fun y hy => by omega), Ext.refl _⟩
    case round =>
      obtain ⟨j, hj, rfl, ha, hx⟩ := hrel
      by_cases hlt : j < m.length
      · have cj : (j : Int) < m.length := by omega
        have d1 : IntKind.i64.wrap ((j : Int) + 1) = (j : Int) + 1 := IntWalk.i64_in _ ⟨by omega, by omega⟩
        obtain ⟨b, off, hP, g0, g1⟩ := (hs4.ext hx).at_ j hlt
        subst hP
        have hrw := hs4.row _ (nthH_mem hlt)
        have hrv := hrb _ (nthH_mem hlt)
        have hC := fun W (hx' : Ext w4 W) => rsamev_any (nthH m j).1.1 Pr (nthH m j).1.2.1 cr (nthH m j).1.2.2 row W (hrw.1.ext hx') (hrow.ext (hx04.trans hx')) hrv hrB
        by_cases hr : (nthH m j).1.2.2 = row
        · have HR := Lib.hid hr
          simp only [decide_eq_true hr] at hC
          clear hr
          cases single with
          | true =>
            have HE := Lib.hid (show insE h (absT l) row k true = 6 from by rw [HE1.out, if_pos (dupB_iff.2 ⟨j, hlt, HR.out, .inl rfl⟩)])
            have HTT := Lib.hid (HNO (by rw [HE.out]; decide)).out
            clear HE1 HYY HNO HWI
            go_wp2_with (go_at_call 45; refine (hC _ hx).mono ?_; rintro e w5 ⟨rfl, x5⟩; have g1 := x5.cell g1; have x45 := hx.trans x5; have hA1 := hA.ext (x04.trans x45); have hB1 := hB.ext (x04.trans x45); have a0 := hA1.cell (i := 0) rfl; have a1 := hA1.cell (i := 1) rfl; have a2 := hA1.cell (i := 2) rfl; have b0 := hB1.cell (i := 0) rfl; have b1 := hB1.cell (i := 1) rfl; have b2 := hB1.cell (i := 2) rfl; have q0 := hB1.frozen 0; have q1 := hB1.frozen 1; have q2 := hB1.frozen 2)
            obtain ⟨z1, z2, z3, z4, z5⟩ := (HSAME _ (hx04.trans x45) hB1).out
            refine bodyPost_ret (v := .tuple #[.agg #[.int .i64 h, .int .i64 r, .slice P l.length c], .int .i64 6]) (by simp [results, Tryz.results36, go_sem, z3, z4, z5]) rfl ⟨P, c, l, by rw [HE.out], HTT.out.symm, z1, hoF, z2⟩
          | false =>
            by_cases hk : (nthH m j).2 = k
            · have HKK := Lib.hid hk
              rw [hk] at g1
              clear hk
              have HE := Lib.hid (show insE h (absT l) row k false = 6 from by rw [HE1.out, if_pos (dupB_iff.2 ⟨j, hlt, HR.out, .inr HKK.out⟩)])
              have HTT := Lib.hid (HNO (by rw [HE.out]; decide)).out
              clear HE1 HYY HNO HWI
              go_wp2_with (go_at_call 45; refine (hC _ hx).mono ?_; rintro e w5 ⟨rfl, x5⟩; have g1 := x5.cell g1; have x45 := hx.trans x5; have hA1 := hA.ext (x04.trans x45); have hB1 := hB.ext (x04.trans x45); have a0 := hA1.cell (i := 0) rfl; have a1 := hA1.cell (i := 1) rfl; have a2 := hA1.cell (i := 2) rfl; have b0 := hB1.cell (i := 0) rfl; have b1 := hB1.cell (i := 1) rfl; have b2 := hB1.cell (i := 2) rfl; have q0 := hB1.frozen 0; have q1 := hB1.frozen 1; have q2 := hB1.frozen 2)
              obtain ⟨z1, z2, z3, z4, z5⟩ := (HSAME _ (hx04.trans x45) hB1).out
              refine bodyPost_ret (v := .tuple #[.agg #[.int .i64 h, .int .i64 r, .slice P l.length c], .int .i64 6]) (by simp [results, Tryz.results36, go_sem, z3, z4, z5]) rfl ⟨P, c, l, by rw [HE.out], HTT.out.symm, z1, hoF, z2⟩
            · have hk2 : ((nthH m j).2 == k) = false := by simpa using hk
              have HN := Lib.hid (show ∀ y, y < j + 1 → ¬ ((nthH m y).1.2.2 = row ∧ (false = true ∨ (nthH m y).2 = k)) from fun y hy => by
                by_cases e : y = j
                · subst e; exact fun e => e.2.elim (fun e => by cases e) hk
                · exact ha.out y (by omega))
              clear ha HE1 HYY HNO HWI
              go_wp2_with (go_at_call 45; refine (hC _ hx).mono ?_; rintro e w5 ⟨rfl, x5⟩; have g1 := x5.cell g1)
              go_roundw
              case rel => exact ⟨j + 1, by omega, by go_num, HN, hx.trans x5⟩
              case measure => simp [intOf]; omega
        · simp only [decide_eq_false hr] at hC
          have HN := Lib.hid (show ∀ y, y < j + 1 → ¬ ((nthH m y).1.2.2 = row ∧ (single = true ∨ (nthH m y).2 = k)) from fun y hy => by
            by_cases e : y = j
            · subst e; exact fun e => hr e.1
            · exact ha.out y (by omega))
          clear ha HE1 HYY HNO HWI
          go_wp2_with (go_at_call 45; refine (hC _ hx).mono ?_; rintro e w5 ⟨rfl, x5⟩; have g1 := x5.cell g1)
          go_roundw
          case rel => exact ⟨j + 1, by omega, by go_num, HN, hx.trans x5⟩
          case measure => simp [intOf]; omega
      · obtain rfl : j = m.length := by omega
        have HD := Lib.hid (show dupB (m.map hdA) row k single = false from by
          cases hd : dupB (m.map hdA) row k single with
          | false => rfl
          | true =>
            obtain ⟨y, hy, h1, h2⟩ := dupB_iff.1 hd
            exact absurd ⟨h1, h2⟩ (ha.out y hy))
        by_cases hfull : cntT (absT l) = 500
        · have HE := Lib.hid (show insE h (absT l) row k single = 4 from by rw [HE1.out, if_neg (by rw [HD.out]; decide), if_pos (by omega)])
          have HTT := Lib.hid (HNO (by rw [HE.out]; decide)).out
          rw [hfull] at hCo
          clear HE1 HYY HNO HWI hfull
          have hA1 := hA.ext (x04.trans hx)
          have hB1 := hB.ext (x04.trans hx)
          have a0 := hA1.cell (i := 0) rfl
          have a1 := hA1.cell (i := 1) rfl
          have a2 := hA1.cell (i := 2) rfl
          have b0 := hB1.cell (i := 0) rfl
          have b1 := hB1.cell (i := 1) rfl
          have b2 := hB1.cell (i := 2) rfl
          have q0 := hB1.frozen 0
          have q1 := hB1.frozen 1
          have q2 := hB1.frozen 2
          obtain ⟨z1, z2, z3, z4, z5⟩ := (HSAME _ (hx04.trans hx) hB1).out
          clear z1 z2 z3 z4 z5
          go_wp2_with (go_at_call 21; refine (hCo _ (hx04.trans hx)).mono ?_; rintro e w5 ⟨rfl, x5⟩; have x45 := hx.trans x5; have hA1 := hA.ext (x04.trans x45); have hB1 := hB.ext (x04.trans x45); have a0 := hA1.cell (i := 0) rfl; have a1 := hA1.cell (i := 1) rfl; have a2 := hA1.cell (i := 2) rfl; have b0 := hB1.cell (i := 0) rfl; have b1 := hB1.cell (i := 1) rfl; have b2 := hB1.cell (i := 2) rfl; have q0 := hB1.frozen 0; have q1 := hB1.frozen 1; have q2 := hB1.frozen 2)
          obtain ⟨z1, z2, z3, z4, z5⟩ := (HSAME _ (hx04.trans x45) hB1).out
          refine bodyPost_ret (v := .tuple #[.agg #[.int .i64 h, .int .i64 r, .slice P l.length c], .int .i64 4]) (by simp [results, Tryz.results36, go_sem, z3, z4, z5]) rfl ⟨P, c, l, by rw [HE.out], HTT.out.symm, z1, hoF, z2⟩
        · --R12
          have hcn : ¬ ((cntT (absT l) : Nat) : Int) = 500 := by omega
          have HYZ := Lib.hid (HYY HD.out (by have := HC5.out; omega)).out
          generalize (cntT (absT l) : Nat) = cc at *
          clear HE1 HYY HNO hfull HD
          have hrl8 : row.length ≤ 8 := rowB_len hrB
          have hAr := hA.ext (x04.trans hx)
          have a0 := hAr.cell (i := 0) rfl
          have a1 := hAr.cell (i := 1) rfl
          have a2 := hAr.cell (i := 2) rfl
          go_wp2_with (go_at_call 21; refine (hCo _ (hx04.trans hx)).mono ?_; rintro e w5 ⟨rfl, x5⟩)
          have x45 := hx.trans x5
          have hx5 := hx04.trans x45
          have hA5 := hA.ext (x04.trans x45)
          have hB5 := hB.ext (x04.trans x45)
          have s0 : w5.drew.cell? ⟨w.heap.size, 0, none⟩ = some (.int .i64 h) := hA5.cell (i := 0) rfl
          have s1 : w5.drew.cell? ⟨w.heap.size, 1, none⟩ = some (.int .i64 r) := hA5.cell (i := 1) rfl
          have s2 : w5.drew.cell? ⟨w.heap.size, 2, none⟩ = some (.slice P l.length c) := hA5.cell (i := 2) rfl
          have hlt5 : w.heap.size + 1 < w5.heap.size := hB5.lt
          have x55 : Ext w5 w5.drew := (Ext.refl w5).drew
          refine wp_region_noPanic ?_
          refine wp_region_held (S := fun w' => w'.cell? ⟨w.heap.size, 0, none⟩ = some (.int .i64 h) ∧ w'.cell? ⟨w.heap.size, 1, none⟩ = some (.int .i64 r) ∧ w'.cell? ⟨w.heap.size, 2, none⟩ = some (.slice P l.length c)) (by kernel_rfl) ?_
          refine wpAnyH_take (i := 0) (v := .agg #[.int .i64 h, .int .i64 r, .slice P l.length c]) (fuel := 14) rfl (by kernel_rfl) (by kernel_rfl) (by kernel_rfl) (fun _ _ _ h => h) (.inl ⟨rfl, fun W hS => by obtain ⟨e2, e3, e4⟩ := hS; go_simp⟩) ⟨s0, s1, s2⟩ ?_
          refine wpAnyH_take (i := 1) (v := .int .i64 (kk : Nat)) (fuel := 13) rfl (by kernel_rfl) (by kernel_rfl) (by kernel_rfl) (fun _ _ _ h => h) (.inl ⟨rfl, fun W hS => by obtain ⟨e2, e3, e4⟩ := hS; go_simp⟩) ⟨s0, s1, s2⟩ ?_
          refine wpAnyH_take (i := 3) (v := .slice P4 m.length c4) (fuel := 12) rfl (by kernel_rfl) (by kernel_rfl) (by kernel_rfl) (fun _ _ _ h => h) (.inl ⟨rfl, fun W hS => by obtain ⟨e2, e3, e4⟩ := hS; go_simp⟩) ⟨s0, s1, s2⟩ ?_
          refine wpAnyH_take (i := 6) (v := .slice Pr row.length cr) (fuel := 11) rfl (by kernel_rfl) (by kernel_rfl) (by kernel_rfl) (fun _ _ _ h => h) (.inl ⟨rfl, fun W hS => by obtain ⟨e2, e3, e4⟩ := hS; go_simp⟩) ⟨s0, s1, s2⟩ ?_
          refine wpAnyH_take (i := 8) (v := .int .i64 k) (fuel := 10) rfl (by kernel_rfl) (by kernel_rfl) (by kernel_rfl) (fun _ _ _ h => h) (.inl ⟨rfl, fun W hS => by obtain ⟨e2, e3, e4⟩ := hS; go_simp⟩) ⟨s0, s1, s2⟩ ?_
          refine wpAnyH_two (i := 2) (j := 5) (fuel := 9) rfl rfl (by kernel_rfl) rfl rfl (fun K' hK => ?_) (fun K' hK => ?_)
          · go_simp
            have x6 := x55.alloc (.cells #[] 56)
            have s0 := ((Ext.refl _).alloc (.cells #[] 56)).cell s0
            have s1 := ((Ext.refl _).alloc (.cells #[] 56)).cell s1
            have s2 := ((Ext.refl _).alloc (.cells #[] 56)).cell s2
            refine hK _ _ ⟨s0, s1, s2⟩ ?_
            clear hK K'
            refine wpAnyH_two (i := 4) (j := 5) (fuel := 8) rfl rfl (by kernel_rfl) rfl rfl (fun K' hK => ?_) (fun K' hK => ?_)
            · refine wpAppU_step (ops := #[]) elemHd (.tmp 65) (.tmp 66) rfl (v := .slice (some ⟨w5.heap.size, 0, none⟩) 0 0) (base := w5.heap.size) rfl (OwnG.lit0 (Nat.le_refl _)) (m := m) rfl (hs4.ext (x45.trans x6)).sl hs4.nil (by simp; omega) (by simp; omega) x6.size ?_
              intro vE wE hoE hgE hbE hobE
              have xE := below_ext x6 hbE (Nat.le_refl _)
              obtain ⟨PE, cE, rfl, _⟩ := hoE.read elemHd (by simp; omega)
              have hoE : OwnG csHd 56 2 wE w5.heap.size (.slice PE m.length cE) m := hoE
              have s0 := xE.cell (show w5.cell? ⟨w.heap.size, 0, none⟩ = some (.int .i64 h) from hA5.cell (i := 0) rfl)
              have s1 := xE.cell (show w5.cell? ⟨w.heap.size, 1, none⟩ = some (.int .i64 r) from hA5.cell (i := 1) rfl)
              have s2 := xE.cell (show w5.cell? ⟨w.heap.size, 2, none⟩ = some (.slice P l.length c) from hA5.cell (i := 2) rfl)
              refine hK _ _ ⟨s0, s1, s2⟩ ?_
              clear hK K'
              refine wpAnyH_one (i := 5) (fuel := 7) rfl (by kernel_rfl) rfl fun K' hK => ?_
              go_simp
              have x7 := xE.alloc (.cells #[] 68)
              have s0 := ((Ext.refl _).alloc (.cells #[] 68)).cell s0
              have s1 := ((Ext.refl _).alloc (.cells #[] 68)).cell s1
              have s2 := ((Ext.refl _).alloc (.cells #[] 68)).cell s2
              refine hK _ _ ⟨s0, s1, s2⟩ ?_
              clear hK K'
              refine wpAnyH_one (i := 7) (fuel := 6) rfl (by kernel_rfl) rfl fun K' hK => ?_
              refine wpAppU_step (ops := #[]) elemV (.tmp 68) (.tmp 69) rfl (v := .slice (some ⟨wE.heap.size, 0, none⟩) 0 0) (base := w5.heap.size) rfl (OwnG.lit0 xE.size) (m := row) rfl (hrow.ext (hx5.trans x7)) hnil (by simp; omega) (by simp; omega) x7.size ?_
              intro vR wR hoR hgR hbR hobR
              have xR := below_ext x7 hbR (Nat.le_refl _)
              obtain ⟨PR, cR, rfl, hsR, hnR⟩ := hoR.read elemV (by simp; omega)
              have hoR : OwnG Vl.cells 68 3 wR w5.heap.size (.slice PR row.length cR) row := hoR
              have huR := UpdF.of_grown hgR
              have hElt : ∀ a, PE = some a → a.block < wE.heap.size := fun a ha => (own_lt hoE (own_of ha)).2
              have hoE2 := (hoE.ext ((Ext.refl wE).alloc (.cells #[] 68))).upd huR (fun g hg e => by
                obtain ⟨a, e1, e2⟩ := slice_own hg
                have h1 := hElt a e1
                injection e with e
                dsimp only at e
                omega)
              have hsep : ∀ a b : Addr, PE = some a → PR = some b → a.block = b.block → False := fun a b ha hb e => by
                have h1 := hElt a ha
                rcases hobR with h2 | h2
                · rw [own_of hb] at h2
                  injection h2 with h2
                  dsimp only at h2
                  omega
                · rw [own_of hb] at h2
                  injection h2 with h2
                  simp at h2
                  omega
              have s0 := xR.cell (show w5.cell? ⟨w.heap.size, 0, none⟩ = some (.int .i64 h) from hA5.cell (i := 0) rfl)
              have s1 := xR.cell (show w5.cell? ⟨w.heap.size, 1, none⟩ = some (.int .i64 r) from hA5.cell (i := 1) rfl)
              have s2 := xR.cell (show w5.cell? ⟨w.heap.size, 2, none⟩ = some (.slice P l.length c) from hA5.cell (i := 2) rfl)
              refine hK _ _ ⟨s0, s1, s2⟩ ?_
              clear hK K'
              have hsR : SlV wR PR cR row := hsR
              refine wpAnyH_one (i := 9) (fuel := 5) rfl (by kernel_rfl) rfl fun K' hK => ?_
              go_simp
              refine hK _ _ ⟨s0, s1, s2⟩ ?_
              clear hK K'
              refine wpAnyH_one (i := 10) (fuel := 4) rfl (by kernel_rfl) rfl fun K' hK => ?_
              go_simp
              have xA := xR.alloc (.cells #[.slice PR row.length cR, .int .i64 k] 56)
              have xRA := (Ext.refl wR).alloc (.cells #[.slice PR row.length cR, .int .i64 k] 56)
              have s0 := xRA.cell s0
              have s1 := xRA.cell s1
              have s2 := xRA.cell s2
              refine hK _ _ ⟨s0, s1, s2⟩ ?_
              clear hK K'
              refine wpAnyH_one (i := 11) (fuel := 3) rfl (by kernel_rfl) rfl fun K' hK => ?_
              refine wpAppU_step (ops := #[]) elemHd (.tmp 67) (.tmp 73) rfl (v := .slice PE m.length cE) (base := w5.heap.size) rfl (hoE2.ext xRA) (m := [((PR, cR, row), k)]) rfl (SlG.one elemHd.hk ((PR, cR, row), k) rfl rfl) (fun e => by cases e) (by simp; omega) (by simp; omega) xA.size ?_
              intro v8 w8 ho8 hg8 hb8 hob8
              have x8 := below_ext xA hb8 (Nat.le_refl _)
              have hu8 := UpdF.of_grown hg8
              have hsE : ∀ i, (Value.slice PE m.length cE).ownBlock = some i → w5.heap.size ≤ i := fun i hi => (own_lt hoE2 hi).1
              have hRlo : ∀ b off, PR = some ⟨b, off, none⟩ → w5.heap.size ≤ b := fun b off e => by
                subst e
                exact (own_lt hoR (g := b) rfl).1
              obtain ⟨P8, c8, rfl, hs8⟩ := SlH.of_own ho8 (by simp; omega) (fun y hy => by
                rcases List.mem_append.1 hy with h1 | h1
                · exact ⟨((hs4.row y h1).1.ext (x45.trans x8)), (hs4.row y h1).2⟩
                · obtain rfl := List.mem_singleton.1 h1
                  exact ⟨(hsR.ext xRA).upd hu8 (fun _ b off e hb => by
                    obtain ⟨a, e1, e2⟩ := slice_own hb
                    exact hsep a _ e1 e e2), hnR⟩)
              have s0 := x8.cell (show w5.cell? ⟨w.heap.size, 0, none⟩ = some (.int .i64 h) from hA5.cell (i := 0) rfl)
              have s1 := x8.cell (show w5.cell? ⟨w.heap.size, 1, none⟩ = some (.int .i64 r) from hA5.cell (i := 1) rfl)
              have s2 := x8.cell (show w5.cell? ⟨w.heap.size, 2, none⟩ = some (.slice P l.length c) from hA5.cell (i := 2) rfl)
              refine hK _ _ ⟨s0, s1, s2⟩ ?_
              clear hK K'
              have hWI := (HWI w8 (hx5.trans x8) P8 c8 (m ++ [((PR, cR, row), k)]) hs8 (by simp; omega) (by have := x8.size; omega) (fun z hz => by
                rcases List.mem_append.1 hz with h1 | h1
                · exact (HMF.out z h1).mono (fun i hi => hi.imp id (fun e => by omega))
                · obtain rfl := List.mem_singleton.1 h1
                  exact fun _ b off e hb => by
                    have h1 := hRlo b off e
                    rcases hb with hb | hb
                    · have := hFF b hb; omega
                    · omega)).out
              rw [HIF.out m HAB.out] at hWI
              unfold Tb at hWI
              have h8l : (m ++ [((PR, cR, row), k)]).length = m.length + 1 := by simp
              rw [h8l] at hWI
              refine wpAnyH_one (i := 12) (fuel := 2) rfl (by kernel_rfl) rfl fun K' hK => ?_
              go_simp
              refine hWI.mono ?_
              rintro e w9 ⟨v9, l9, rfl, hn9, hab9, ho9, x9⟩
              have hl9 : l9.length ≤ 2000 := by
                have h1 := congrArg List.length hab9
                have h2 := HLN.out
                rw [HYZ.out.2.1, absT_len] at h2
                rw [absT_len] at h1
                omega
              obtain ⟨P9, c9, rfl, _⟩ := hn9.sl (by omega)
              have s0 := x9.cell s0
              have s1 := x9.cell s1
              have s2 := x9.cell s2
              refine hK _ _ ⟨s0, s1, s2⟩ ?_
              clear hK K' hWI
              have hB9 := hB5.ext (x8.trans x9)
              have b0 := hB9.cell (i := 0) rfl
              have b1 := hB9.cell (i := 1) rfl
              have b2 := hB9.cell (i := 2) rfl
              have q0 := hB9.frozen 0
              have q1 := hB9.frozen 1
              have q2 := hB9.frozen 2
              have h85 := x8.size
              obtain ⟨y1, y2, y3, y4, y5, y6, y7⟩ := tabPost_box (FF := FF) (h := h) (r := r) hB9 (Nat.le_succ _) hn9 (by omega) hab9 (fun x hx' => (ho9 x hx').mono (fun i hi => .inl hi)) (fun x hx' => (ho9 x hx').mono (fun i hi => .inr hi)) (hx5.trans (x8.trans x9))
              have huZ := (((UpdF.refl (fun i => i = w.heap.size + 1) w9).setCell (p := ⟨w.heap.size + 1, 0, none⟩) (.inl rfl) (.int .i64 h)).setCell (p := ⟨w.heap.size + 1, 1, none⟩) (.inl rfl) (.int .i64 r)).setCell (p := ⟨w.heap.size + 1, 2, none⟩) (.inl rfl) (.slice P9 l9.length c9)
              have s0 := huZ.cell s0 (by simp)
              have s1 := huZ.cell s1 (by simp)
              have s2 := huZ.cell s2 (by simp)
              clear hl9 h8l
              refine wpAnyH_one (i := 13) (fuel := 1) rfl (by kernel_rfl) rfl fun K' hK => ?_
              go_simp
              refine hK _ _ ⟨s0, s1, s2⟩ ?_
              clear hK K'
              refine wpAnyH_one (i := 14) (fuel := 0) rfl (by kernel_rfl) rfl fun K' hK => ?_
              go_simp
              refine hK _ _ ⟨s0, s1, s2⟩ ?_
              clear hK K'
              refine wpAnyH_done (by kernel_rfl) ?_ 0
              refine NoPanic.normal ?_
              obtain ⟨P0, c0, e0, hsZ⟩ := y1.sl (by have h1 := congrArg List.length hab9; have h2 := HLN.out; rw [HYZ.out.2.1, absT_len] at h2; rw [absT_len] at h1; omega)
              injection e0 with e0 _ e1
              subst e0 e1
              have hofZ := NewB.offB y1 hFF y3 (P := P9) (n := l9.length) (c := c9) rfl
              go_wp2_with (fail)
              refine bodyPost_ret (v := .tuple #[.agg #[.int .i64 h, .int .i64 r, .slice P9 l9.length c9], .int .i64 0]) (by simp [results, Tryz.results36, go_sem, y5, y6, y7]) rfl ⟨P9, c9, l9, by rw [HYZ.out.1], hab9.trans HYZ.out.2.1.symm, hsZ, hofZ, y4⟩
            · go_simp
              have x7 := x6.alloc (.cells #[] 68)
              have s0 := ((Ext.refl _).alloc (.cells #[] 68)).cell s0
              have s1 := ((Ext.refl _).alloc (.cells #[] 68)).cell s1
              have s2 := ((Ext.refl _).alloc (.cells #[] 68)).cell s2
              refine hK _ _ ⟨s0, s1, s2⟩ ?_
              clear hK K'
              have hL1 : OwnG csHd 56 2 (w5.drew.alloc (.cells #[] 56)) w5.heap.size (.slice (some ⟨w5.heap.size, 0, none⟩) 0 0) [] := OwnG.lit0 (Nat.le_refl _)
              have litE := hL1.ext ((Ext.refl _).alloc (.cells #[] 68))
              have litR0 : OwnG Vl.cells 68 3 ((w5.drew.alloc (.cells #[] 56)).alloc (.cells #[] 68)) w5.heap.size (.slice (some ⟨w5.heap.size + 1, 0, none⟩) 0 0) [] := OwnG.lit0At (by simp) (by simp)
              refine wpAnyH_one (i := 4) (fuel := 7) rfl (by kernel_rfl) rfl fun K' hK => ?_
              refine wpAppU_step (ops := #[]) elemHd (.tmp 65) (.tmp 66) rfl (v := .slice (some ⟨w5.heap.size, 0, none⟩) 0 0) (base := w5.heap.size) rfl litE (m := m) rfl (hs4.ext (x45.trans x7)).sl hs4.nil (by simp; omega) (by simp; omega) x7.size ?_
              intro vE wE hoE hgE hbE hobE
              have xE := below_ext x7 hbE (Nat.le_refl _)
              obtain ⟨PE, cE, rfl, _⟩ := hoE.read elemHd (by simp; omega)
              have hoE : OwnG csHd 56 2 wE w5.heap.size (.slice PE m.length cE) m := hoE
              have s0 := xE.cell (show w5.cell? ⟨w.heap.size, 0, none⟩ = some (.int .i64 h) from hA5.cell (i := 0) rfl)
              have s1 := xE.cell (show w5.cell? ⟨w.heap.size, 1, none⟩ = some (.int .i64 r) from hA5.cell (i := 1) rfl)
              have s2 := xE.cell (show w5.cell? ⟨w.heap.size, 2, none⟩ = some (.slice P l.length c) from hA5.cell (i := 2) rfl)
              refine hK _ _ ⟨s0, s1, s2⟩ ?_
              clear hK K'
              have huE := UpdF.of_grown hgE
              have litR := litR0.upd huE (fun g hg e => by
                injection hg with hg
                injection e with e
                dsimp only at hg e
                omega)
              refine wpAnyH_one (i := 7) (fuel := 6) rfl (by kernel_rfl) rfl fun K' hK => ?_
              refine wpAppU_step (ops := #[]) elemV (.tmp 68) (.tmp 69) rfl (v := .slice (some ⟨w5.heap.size + 1, 0, none⟩) 0 0) (base := w5.heap.size) rfl litR (m := row) rfl (hrow.ext (hx5.trans xE)) hnil (by simp; omega) (by simp; omega) xE.size ?_
              intro vR wR hoR hgR hbR hobR
              have xR := below_ext xE hbR (Nat.le_refl _)
              obtain ⟨PR, cR, rfl, hsR, hnR⟩ := hoR.read elemV (by simp; omega)
              have hoR : OwnG Vl.cells 68 3 wR w5.heap.size (.slice PR row.length cR) row := hoR
              have huR := UpdF.of_grown hgR
              have hEb : ∀ a, PE = some a → a.block = w5.heap.size ∨ a.block = w5.heap.size + 2 := fun a ha => by
                rcases hobE with h2 | h2
                · rw [own_of ha] at h2
                  injection h2 with h2
                  exact .inl h2
                · rw [own_of ha] at h2
                  injection h2 with h2
                  exact .inr (by simp at h2; omega)
              have hEs : w5.heap.size + 2 ≤ wE.heap.size := by have := huE.size; simp at this; omega
              have hoE2 := hoE.upd huR (fun g hg e => by
                obtain ⟨a, e1, e2⟩ := slice_own hg
                have h1 := hEb a e1
                injection e with e
                dsimp only at e
                omega)
              have hsep : ∀ a b : Addr, PE = some a → PR = some b → a.block = b.block → False := fun a b ha hb e => by
                have h1 := hEb a ha
                have h3 := (own_lt hoE (own_of ha)).2
                rcases hobR with h2 | h2
                · rw [own_of hb] at h2
                  injection h2 with h2
                  dsimp only at h2
                  omega
                · rw [own_of hb] at h2
                  injection h2 with h2
                  omega
              have s0 := xR.cell (show w5.cell? ⟨w.heap.size, 0, none⟩ = some (.int .i64 h) from hA5.cell (i := 0) rfl)
              have s1 := xR.cell (show w5.cell? ⟨w.heap.size, 1, none⟩ = some (.int .i64 r) from hA5.cell (i := 1) rfl)
              have s2 := xR.cell (show w5.cell? ⟨w.heap.size, 2, none⟩ = some (.slice P l.length c) from hA5.cell (i := 2) rfl)
              refine hK _ _ ⟨s0, s1, s2⟩ ?_
              clear hK K'
              have hsR : SlV wR PR cR row := hsR
              refine wpAnyH_one (i := 9) (fuel := 5) rfl (by kernel_rfl) rfl fun K' hK => ?_
              go_simp
              refine hK _ _ ⟨s0, s1, s2⟩ ?_
              clear hK K'
              refine wpAnyH_one (i := 10) (fuel := 4) rfl (by kernel_rfl) rfl fun K' hK => ?_
              go_simp
              have xA := xR.alloc (.cells #[.slice PR row.length cR, .int .i64 k] 56)
              have xRA := (Ext.refl wR).alloc (.cells #[.slice PR row.length cR, .int .i64 k] 56)
              have s0 := xRA.cell s0
              have s1 := xRA.cell s1
              have s2 := xRA.cell s2
              refine hK _ _ ⟨s0, s1, s2⟩ ?_
              clear hK K'
              refine wpAnyH_one (i := 11) (fuel := 3) rfl (by kernel_rfl) rfl fun K' hK => ?_
              refine wpAppU_step (ops := #[]) elemHd (.tmp 67) (.tmp 73) rfl (v := .slice PE m.length cE) (base := w5.heap.size) rfl (hoE2.ext xRA) (m := [((PR, cR, row), k)]) rfl (SlG.one elemHd.hk ((PR, cR, row), k) rfl rfl) (fun e => by cases e) (by simp; omega) (by simp; omega) xA.size ?_
              intro v8 w8 ho8 hg8 hb8 hob8
              have x8 := below_ext xA hb8 (Nat.le_refl _)
              have hu8 := UpdF.of_grown hg8
              have hsE : ∀ i, (Value.slice PE m.length cE).ownBlock = some i → w5.heap.size ≤ i := fun i hi => (own_lt hoE2 hi).1
              have hRlo : ∀ b off, PR = some ⟨b, off, none⟩ → w5.heap.size ≤ b := fun b off e => by
                subst e
                exact (own_lt hoR (g := b) rfl).1
              obtain ⟨P8, c8, rfl, hs8⟩ := SlH.of_own ho8 (by simp; omega) (fun y hy => by
                rcases List.mem_append.1 hy with h1 | h1
                · exact ⟨((hs4.row y h1).1.ext (x45.trans x8)), (hs4.row y h1).2⟩
                · obtain rfl := List.mem_singleton.1 h1
                  exact ⟨(hsR.ext xRA).upd hu8 (fun _ b off e hb => by
                    obtain ⟨a, e1, e2⟩ := slice_own hb
                    exact hsep a _ e1 e e2), hnR⟩)
              have s0 := x8.cell (show w5.cell? ⟨w.heap.size, 0, none⟩ = some (.int .i64 h) from hA5.cell (i := 0) rfl)
              have s1 := x8.cell (show w5.cell? ⟨w.heap.size, 1, none⟩ = some (.int .i64 r) from hA5.cell (i := 1) rfl)
              have s2 := x8.cell (show w5.cell? ⟨w.heap.size, 2, none⟩ = some (.slice P l.length c) from hA5.cell (i := 2) rfl)
              refine hK _ _ ⟨s0, s1, s2⟩ ?_
              clear hK K'
              have hWI := (HWI w8 (hx5.trans x8) P8 c8 (m ++ [((PR, cR, row), k)]) hs8 (by simp; omega) (by have := x8.size; omega) (fun z hz => by
                rcases List.mem_append.1 hz with h1 | h1
                · exact (HMF.out z h1).mono (fun i hi => hi.imp id (fun e => by omega))
                · obtain rfl := List.mem_singleton.1 h1
                  exact fun _ b off e hb => by
                    have h1 := hRlo b off e
                    rcases hb with hb | hb
                    · have := hFF b hb; omega
                    · omega)).out
              rw [HIF.out m HAB.out] at hWI
              unfold Tb at hWI
              have h8l : (m ++ [((PR, cR, row), k)]).length = m.length + 1 := by simp
              rw [h8l] at hWI
              refine wpAnyH_one (i := 12) (fuel := 2) rfl (by kernel_rfl) rfl fun K' hK => ?_
              go_simp
              refine hWI.mono ?_
              rintro e w9 ⟨v9, l9, rfl, hn9, hab9, ho9, x9⟩
              have hl9 : l9.length ≤ 2000 := by
                have h1 := congrArg List.length hab9
                have h2 := HLN.out
                rw [HYZ.out.2.1, absT_len] at h2
                rw [absT_len] at h1
                omega
              obtain ⟨P9, c9, rfl, _⟩ := hn9.sl (by omega)
              have s0 := x9.cell s0
              have s1 := x9.cell s1
              have s2 := x9.cell s2
              refine hK _ _ ⟨s0, s1, s2⟩ ?_
              clear hK K' hWI
              have hB9 := hB5.ext (x8.trans x9)
              have b0 := hB9.cell (i := 0) rfl
              have b1 := hB9.cell (i := 1) rfl
              have b2 := hB9.cell (i := 2) rfl
              have q0 := hB9.frozen 0
              have q1 := hB9.frozen 1
              have q2 := hB9.frozen 2
              have h85 := x8.size
              obtain ⟨y1, y2, y3, y4, y5, y6, y7⟩ := tabPost_box (FF := FF) (h := h) (r := r) hB9 (Nat.le_succ _) hn9 (by omega) hab9 (fun x hx' => (ho9 x hx').mono (fun i hi => .inl hi)) (fun x hx' => (ho9 x hx').mono (fun i hi => .inr hi)) (hx5.trans (x8.trans x9))
              have huZ := (((UpdF.refl (fun i => i = w.heap.size + 1) w9).setCell (p := ⟨w.heap.size + 1, 0, none⟩) (.inl rfl) (.int .i64 h)).setCell (p := ⟨w.heap.size + 1, 1, none⟩) (.inl rfl) (.int .i64 r)).setCell (p := ⟨w.heap.size + 1, 2, none⟩) (.inl rfl) (.slice P9 l9.length c9)
              have s0 := huZ.cell s0 (by simp)
              have s1 := huZ.cell s1 (by simp)
              have s2 := huZ.cell s2 (by simp)
              clear hl9 h8l
              refine wpAnyH_one (i := 13) (fuel := 1) rfl (by kernel_rfl) rfl fun K' hK => ?_
              go_simp
              refine hK _ _ ⟨s0, s1, s2⟩ ?_
              clear hK K'
              refine wpAnyH_one (i := 14) (fuel := 0) rfl (by kernel_rfl) rfl fun K' hK => ?_
              go_simp
              refine hK _ _ ⟨s0, s1, s2⟩ ?_
              clear hK K'
              refine wpAnyH_done (by kernel_rfl) ?_ 0
              refine NoPanic.normal ?_
              obtain ⟨P0, c0, e0, hsZ⟩ := y1.sl (by have h1 := congrArg List.length hab9; have h2 := HLN.out; rw [HYZ.out.2.1, absT_len] at h2; rw [absT_len] at h1; omega)
              injection e0 with e0 _ e1
              subst e0 e1
              have hofZ := NewB.offB y1 hFF y3 (P := P9) (n := l9.length) (c := c9) rfl
              go_wp2_with (fail)
              refine bodyPost_ret (v := .tuple #[.agg #[.int .i64 h, .int .i64 r, .slice P9 l9.length c9], .int .i64 0]) (by simp [results, Tryz.results36, go_sem, y5, y6, y7]) rfl ⟨P9, c9, l9, by rw [HYZ.out.1], hab9.trans HYZ.out.2.1.symm, hsZ, hofZ, y4⟩
          · go_simp
            have x6 := x55.alloc (.cells #[] 68)
            have s0 := ((Ext.refl _).alloc (.cells #[] 68)).cell s0
            have s1 := ((Ext.refl _).alloc (.cells #[] 68)).cell s1
            have s2 := ((Ext.refl _).alloc (.cells #[] 68)).cell s2
            refine hK _ _ ⟨s0, s1, s2⟩ ?_
            clear hK K'
            refine wpAnyH_one (i := 2) (fuel := 8) rfl (by kernel_rfl) rfl fun K' hK => ?_
            go_simp
            have x7 := x6.alloc (.cells #[] 56)
            have s0 := ((Ext.refl _).alloc (.cells #[] 56)).cell s0
            have s1 := ((Ext.refl _).alloc (.cells #[] 56)).cell s1
            have s2 := ((Ext.refl _).alloc (.cells #[] 56)).cell s2
            refine hK _ _ ⟨s0, s1, s2⟩ ?_
            clear hK K'
            have hL1 : OwnG Vl.cells 68 3 (w5.drew.alloc (.cells #[] 68)) w5.heap.size (.slice (some ⟨w5.heap.size, 0, none⟩) 0 0) [] := OwnG.lit0 (Nat.le_refl _)
            have litR0 := hL1.ext ((Ext.refl _).alloc (.cells #[] 56))
            have litE : OwnG csHd 56 2 ((w5.drew.alloc (.cells #[] 68)).alloc (.cells #[] 56)) w5.heap.size (.slice (some ⟨w5.heap.size + 1, 0, none⟩) 0 0) [] := OwnG.lit0At (by simp) (by simp)
            refine wpAnyH_one (i := 4) (fuel := 7) rfl (by kernel_rfl) rfl fun K' hK => ?_
            refine wpAppU_step (ops := #[]) elemHd (.tmp 65) (.tmp 66) rfl (v := .slice (some ⟨w5.heap.size + 1, 0, none⟩) 0 0) (base := w5.heap.size) rfl litE (m := m) rfl (hs4.ext (x45.trans x7)).sl hs4.nil (by simp; omega) (by simp; omega) x7.size ?_
            intro vE wE hoE hgE hbE hobE
            have xE := below_ext x7 hbE (Nat.le_refl _)
            obtain ⟨PE, cE, rfl, _⟩ := hoE.read elemHd (by simp; omega)
            have hoE : OwnG csHd 56 2 wE w5.heap.size (.slice PE m.length cE) m := hoE
            have s0 := xE.cell (show w5.cell? ⟨w.heap.size, 0, none⟩ = some (.int .i64 h) from hA5.cell (i := 0) rfl)
            have s1 := xE.cell (show w5.cell? ⟨w.heap.size, 1, none⟩ = some (.int .i64 r) from hA5.cell (i := 1) rfl)
            have s2 := xE.cell (show w5.cell? ⟨w.heap.size, 2, none⟩ = some (.slice P l.length c) from hA5.cell (i := 2) rfl)
            refine hK _ _ ⟨s0, s1, s2⟩ ?_
            clear hK K'
            have huE := UpdF.of_grown hgE
            have litR := litR0.upd huE (fun g hg e => by
              injection hg with hg
              injection e with e
              dsimp only at hg e
              omega)
            refine wpAnyH_one (i := 7) (fuel := 6) rfl (by kernel_rfl) rfl fun K' hK => ?_
            refine wpAppU_step (ops := #[]) elemV (.tmp 68) (.tmp 69) rfl (v := .slice (some ⟨w5.heap.size, 0, none⟩) 0 0) (base := w5.heap.size) rfl litR (m := row) rfl (hrow.ext (hx5.trans xE)) hnil (by simp; omega) (by simp; omega) xE.size ?_
            intro vR wR hoR hgR hbR hobR
            have xR := below_ext xE hbR (Nat.le_refl _)
            obtain ⟨PR, cR, rfl, hsR, hnR⟩ := hoR.read elemV (by simp; omega)
            have hoR : OwnG Vl.cells 68 3 wR w5.heap.size (.slice PR row.length cR) row := hoR
            have huR := UpdF.of_grown hgR
            have hEb : ∀ a, PE = some a → a.block = w5.heap.size + 1 ∨ a.block = w5.heap.size + 2 := fun a ha => by
              rcases hobE with h2 | h2
              · rw [own_of ha] at h2
                injection h2 with h2
                exact .inl h2
              · rw [own_of ha] at h2
                injection h2 with h2
                exact .inr (by simp at h2; omega)
            have hEs : w5.heap.size + 2 ≤ wE.heap.size := by have := huE.size; simp at this; omega
            have hoE2 := hoE.upd huR (fun g hg e => by
              obtain ⟨a, e1, e2⟩ := slice_own hg
              have h1 := hEb a e1
              injection e with e
              dsimp only at e
              omega)
            have hsep : ∀ a b : Addr, PE = some a → PR = some b → a.block = b.block → False := fun a b ha hb e => by
              have h1 := hEb a ha
              have h3 := (own_lt hoE (own_of ha)).2
              rcases hobR with h2 | h2
              · rw [own_of hb] at h2
                injection h2 with h2
                dsimp only at h2
                omega
              · rw [own_of hb] at h2
                injection h2 with h2
                omega
            have s0 := xR.cell (show w5.cell? ⟨w.heap.size, 0, none⟩ = some (.int .i64 h) from hA5.cell (i := 0) rfl)
            have s1 := xR.cell (show w5.cell? ⟨w.heap.size, 1, none⟩ = some (.int .i64 r) from hA5.cell (i := 1) rfl)
            have s2 := xR.cell (show w5.cell? ⟨w.heap.size, 2, none⟩ = some (.slice P l.length c) from hA5.cell (i := 2) rfl)
            refine hK _ _ ⟨s0, s1, s2⟩ ?_
            clear hK K'
            have hsR : SlV wR PR cR row := hsR
            refine wpAnyH_one (i := 9) (fuel := 5) rfl (by kernel_rfl) rfl fun K' hK => ?_
            go_simp
            refine hK _ _ ⟨s0, s1, s2⟩ ?_
            clear hK K'
            refine wpAnyH_one (i := 10) (fuel := 4) rfl (by kernel_rfl) rfl fun K' hK => ?_
            go_simp
            have xA := xR.alloc (.cells #[.slice PR row.length cR, .int .i64 k] 56)
            have xRA := (Ext.refl wR).alloc (.cells #[.slice PR row.length cR, .int .i64 k] 56)
            have s0 := xRA.cell s0
            have s1 := xRA.cell s1
            have s2 := xRA.cell s2
            refine hK _ _ ⟨s0, s1, s2⟩ ?_
            clear hK K'
            refine wpAnyH_one (i := 11) (fuel := 3) rfl (by kernel_rfl) rfl fun K' hK => ?_
            refine wpAppU_step (ops := #[]) elemHd (.tmp 67) (.tmp 73) rfl (v := .slice PE m.length cE) (base := w5.heap.size) rfl (hoE2.ext xRA) (m := [((PR, cR, row), k)]) rfl (SlG.one elemHd.hk ((PR, cR, row), k) rfl rfl) (fun e => by cases e) (by simp; omega) (by simp; omega) xA.size ?_
            intro v8 w8 ho8 hg8 hb8 hob8
            have x8 := below_ext xA hb8 (Nat.le_refl _)
            have hu8 := UpdF.of_grown hg8
            have hsE : ∀ i, (Value.slice PE m.length cE).ownBlock = some i → w5.heap.size ≤ i := fun i hi => (own_lt hoE2 hi).1
            have hRlo : ∀ b off, PR = some ⟨b, off, none⟩ → w5.heap.size ≤ b := fun b off e => by
              subst e
              exact (own_lt hoR (g := b) rfl).1
            obtain ⟨P8, c8, rfl, hs8⟩ := SlH.of_own ho8 (by simp; omega) (fun y hy => by
              rcases List.mem_append.1 hy with h1 | h1
              · exact ⟨((hs4.row y h1).1.ext (x45.trans x8)), (hs4.row y h1).2⟩
              · obtain rfl := List.mem_singleton.1 h1
                exact ⟨(hsR.ext xRA).upd hu8 (fun _ b off e hb => by
                  obtain ⟨a, e1, e2⟩ := slice_own hb
                  exact hsep a _ e1 e e2), hnR⟩)
            have s0 := x8.cell (show w5.cell? ⟨w.heap.size, 0, none⟩ = some (.int .i64 h) from hA5.cell (i := 0) rfl)
            have s1 := x8.cell (show w5.cell? ⟨w.heap.size, 1, none⟩ = some (.int .i64 r) from hA5.cell (i := 1) rfl)
            have s2 := x8.cell (show w5.cell? ⟨w.heap.size, 2, none⟩ = some (.slice P l.length c) from hA5.cell (i := 2) rfl)
            refine hK _ _ ⟨s0, s1, s2⟩ ?_
            clear hK K'
            have hWI := (HWI w8 (hx5.trans x8) P8 c8 (m ++ [((PR, cR, row), k)]) hs8 (by simp; omega) (by have := x8.size; omega) (fun z hz => by
              rcases List.mem_append.1 hz with h1 | h1
              · exact (HMF.out z h1).mono (fun i hi => hi.imp id (fun e => by omega))
              · obtain rfl := List.mem_singleton.1 h1
                exact fun _ b off e hb => by
                  have h1 := hRlo b off e
                  rcases hb with hb | hb
                  · have := hFF b hb; omega
                  · omega)).out
            rw [HIF.out m HAB.out] at hWI
            unfold Tb at hWI
            have h8l : (m ++ [((PR, cR, row), k)]).length = m.length + 1 := by simp
            rw [h8l] at hWI
            refine wpAnyH_one (i := 12) (fuel := 2) rfl (by kernel_rfl) rfl fun K' hK => ?_
            go_simp
            refine hWI.mono ?_
            rintro e w9 ⟨v9, l9, rfl, hn9, hab9, ho9, x9⟩
            have hl9 : l9.length ≤ 2000 := by
              have h1 := congrArg List.length hab9
              have h2 := HLN.out
              rw [HYZ.out.2.1, absT_len] at h2
              rw [absT_len] at h1
              omega
            obtain ⟨P9, c9, rfl, _⟩ := hn9.sl (by omega)
            have s0 := x9.cell s0
            have s1 := x9.cell s1
            have s2 := x9.cell s2
            refine hK _ _ ⟨s0, s1, s2⟩ ?_
            clear hK K' hWI
            have hB9 := hB5.ext (x8.trans x9)
            have b0 := hB9.cell (i := 0) rfl
            have b1 := hB9.cell (i := 1) rfl
            have b2 := hB9.cell (i := 2) rfl
            have q0 := hB9.frozen 0
            have q1 := hB9.frozen 1
            have q2 := hB9.frozen 2
            have h85 := x8.size
            obtain ⟨y1, y2, y3, y4, y5, y6, y7⟩ := tabPost_box (FF := FF) (h := h) (r := r) hB9 (Nat.le_succ _) hn9 (by omega) hab9 (fun x hx' => (ho9 x hx').mono (fun i hi => .inl hi)) (fun x hx' => (ho9 x hx').mono (fun i hi => .inr hi)) (hx5.trans (x8.trans x9))
            have huZ := (((UpdF.refl (fun i => i = w.heap.size + 1) w9).setCell (p := ⟨w.heap.size + 1, 0, none⟩) (.inl rfl) (.int .i64 h)).setCell (p := ⟨w.heap.size + 1, 1, none⟩) (.inl rfl) (.int .i64 r)).setCell (p := ⟨w.heap.size + 1, 2, none⟩) (.inl rfl) (.slice P9 l9.length c9)
            have s0 := huZ.cell s0 (by simp)
            have s1 := huZ.cell s1 (by simp)
            have s2 := huZ.cell s2 (by simp)
            clear hl9 h8l
            refine wpAnyH_one (i := 13) (fuel := 1) rfl (by kernel_rfl) rfl fun K' hK => ?_
            go_simp
            refine hK _ _ ⟨s0, s1, s2⟩ ?_
            clear hK K'
            refine wpAnyH_one (i := 14) (fuel := 0) rfl (by kernel_rfl) rfl fun K' hK => ?_
            go_simp
            refine hK _ _ ⟨s0, s1, s2⟩ ?_
            clear hK K'
            refine wpAnyH_done (by kernel_rfl) ?_ 0
            refine NoPanic.normal ?_
            obtain ⟨P0, c0, e0, hsZ⟩ := y1.sl (by have h1 := congrArg List.length hab9; have h2 := HLN.out; rw [HYZ.out.2.1, absT_len] at h2; rw [absT_len] at h1; omega)
            injection e0 with e0 _ e1
            subst e0 e1
            have hofZ := NewB.offB y1 hFF y3 (P := P9) (n := l9.length) (c := c9) rfl
            go_wp2_with (fail)
            refine bodyPost_ret (v := .tuple #[.agg #[.int .i64 h, .int .i64 r, .slice P9 l9.length c9], .int .i64 0]) (by simp [results, Tryz.results36, go_sem, y5, y6, y7]) rfl ⟨P9, c9, l9, by rw [HYZ.out.1], hab9.trans HYZ.out.2.1.symm, hsZ, hofZ, y4⟩
  · have HE := Lib.hid (show insE h (absT l) row k single = 1 from by unfold insE; rw [if_pos (by simpa using hask)])
    have HTT := Lib.hid (insT_no (h := h) (r := r) (T := absT l) (row := row) (k := k) (s := single) (by rw [HE.out]; decide))
    unfold askB at hask
    cases hrB : rowB row <;> simp only [hrB] at hV hask <;> cases hkB : keyB k <;> simp only [hkB] at hK hask
    all_goals first
      | (exfalso; exact hask rfl)
      | (clear hask
         go_enter Tryz.func36, Tryz.ntmps36
         go_wp2_with (fail)
         generalize ((w.alloc (.cells #[.int .i64 h, .int .i64 r, .slice P l.length c] 28)).alloc (.cells #[.int .i64 0, .int .i64 0, .slice none 0 0] 28)) = W at *
         go_wp2_with (first
           | (go_at_call 47; refine (hV _ hx2).mono ?_; rintro e w1 ⟨rfl, x1⟩; have hA1 := hA.ext x1; have hB1 := hB.ext x1; have a0 := hA1.cell (i := 0) rfl; have a1 := hA1.cell (i := 1) rfl; have a2 := hA1.cell (i := 2) rfl; have b0 := hB1.cell (i := 0) rfl; have b1 := hB1.cell (i := 1) rfl; have b2 := hB1.cell (i := 2) rfl; have q0 := hB1.frozen 0; have q1 := hB1.frozen 1; have q2 := hB1.frozen 2)
           | (go_at_call 48; refine (hK _).mono ?_; rintro e w2 ⟨rfl, rfl⟩))
         obtain ⟨z1, z2, z3, z4, z5⟩ := (HSAME _ (hx2.trans x1) hB1).out
         refine bodyPost_ret (v := .tuple #[.agg #[.int .i64 h, .int .i64 r, .slice P l.length c], .int .i64 1]) (by simp [results, Tryz.results36, go_sem, z3, z4, z5]) rfl ⟨P, c, l, by rw [HE.out], HTT.out.symm, z1, hoF, z2⟩)
end
end Go.Proofs.YtcbinafokhekmaaGreatDoor
