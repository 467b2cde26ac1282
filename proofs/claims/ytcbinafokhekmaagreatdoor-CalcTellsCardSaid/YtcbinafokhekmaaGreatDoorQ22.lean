/- CaNx; CaNy (merged by group.py) -/
import Derived.Test.YtcbinafokhekmaaGreatDoorQ21
namespace Go.Proofs.YtcbinafokhekmaaGreatDoor
section
open Go.RowKit Go.Maps
set_option linter.unusedVariables false
set_option linter.unusedSimpArgs false
set_option linter.unusedSectionVars false
set_option maxRecDepth 100000
attribute [local go_sem] Oper.semAt_some

def keyI (l : List Int) (i : Nat) : Int := l.getD i 0
/-- the keys of a row -/
def keysF (m : List Hd) (row : List Vl) : List Int := (m.filter fun x => decide (x.1 = row)).map (·.2)
theorem list_range {α : Type} (d : α) : ∀ (m : List α), (List.range m.length).map (fun j => m.getD j d) = m
  | [] => rfl
  | x :: l => by
    rw [List.length_cons, List.range_succ_eq_map, List.map_cons, List.map_map]
    conv => rhs; rw [← list_range d l]
    simp
theorem keysN_F (m : List HdR) (row : List Vl) : keysN m (alikeN m row m.length) (alikeN m row m.length).length = keysF (m.map hdA) row := by
  unfold keysN keysF alikeN
  rw [List.take_length, List.map_map, List.filter_map, List.map_map]
  conv => rhs; rw [← list_range ((none, 0, []), 0) m, List.filter_map, List.map_map]
  rw [show (fun x : Hd => decide (x.1 = row)) ∘ hdA = fun x : HdR => decide (x.1.2.2 = row) from rfl]
  rfl
def nxI (l : List Int) (k : Int) : Nat := l.findIdx fun x => decide (x = k)
def nxV (l : List Int) (k : Int) : Int := if nxI l k + 1 < l.length then keyI l (nxI l k + 1) else 0
def nxE (l : List Int) (k : Int) : Int := if nxI l k < l.length then if nxI l k + 1 < l.length then 0 else 9 else 8
def idxI (l : List Int) (k : Int) : Int := if nxI l k < l.length then (nxI l k : Int) else -1
theorem nx_at {l : List Int} {k : Int} {j : Nat} (hj : j < l.length) (h1 : keyI l j = k) (h2 : ∀ y, y < j → ¬ keyI l y = k) : nxI l k = j := by
  unfold nxI
  rw [List.findIdx_eq hj]
  have e : ∀ y (hy : y < l.length), l[y] = keyI l y := fun y hy => by unfold keyI; simp [List.getD_eq_getElem?_getD, hy]
  refine ⟨by rw [e _ hj]; exact decide_eq_true h1, fun y hy => ?_⟩
  rw [e _ (by omega)]
  exact decide_eq_false (h2 y hy)
theorem nx_no {l : List Int} {k : Int} (h2 : ∀ y, y < l.length → ¬ keyI l y = k) : nxI l k = l.length := by
  unfold nxI
  rw [List.findIdx_eq_length]
  intro x hx
  obtain ⟨y, hy, rfl⟩ := List.mem_iff_getElem.1 hx
  have := h2 y hy
  unfold keyI at this
  simp only [List.getD_eq_getElem?_getD, hy, List.getElem?_eq_getElem, Option.getD_some] at this
  exact decide_eq_false this
set_option maxHeartbeats 4000000 in
theorem index_any (P : Option Addr) (c : Nat) (l : List Int) (k : Int) (w : World) (h : SlI w P c l) (hl : l.length ≤ 100000) :
    Calls Tryz.prog 46 #[.slice P l.length c, .int .i64 k] w fun e w' => e = .returned (.int .i64 (idxI l k)) ∧ w = w' := by
  go_enter Tryz.func46, Tryz.ntmps46
  go_wp2_with (fail)
  go_loopw [8] (fun i wr => ∃ j : Nat, j ≤ l.length ∧ i = .int .i64 j ∧ Hid (∀ y, y < j → ¬ keyI l y = k) ∧ w = wr) (fun i _ => l.length - (intOf i).toNat)
  case atStart => exact ⟨0, by omega, rfl, Lib.hid (fun y hy => by omega), rfl⟩
  case round =>
    obtain ⟨j, hj, rfl, hn, rfl⟩ := hrel
    by_cases hlt : j < l.length
    · obtain ⟨b1, o1, hP, g1⟩ := h.intAt j hlt
      subst hP
      have cj : (j : Int) < l.length := by omega
      have d1 : IntKind.i64.wrap ((j : Int) + 1) = (j : Int) + 1 := IntWalk.i64_in _ ⟨by omega, by omega⟩
      have hk : l.getD j 0 = keyI l j := rfl
      rw [hk] at g1
      have HNX := fun e => Lib.hid (nx_at hlt (k := k) e hn.out)
      clear hk
      generalize hx : keyI l j = x at *
      by_cases hxk : x = k
      · subst hxk
        have HI := Lib.hid (show idxI l x = j from by unfold idxI; rw [(HNX rfl).out, if_pos hlt])
        clear hn HNX hx
        go_wp2_with (fail)
        go_ret
        exact ⟨by rw [HI.out]; rfl, rfl⟩
      · have hxk2 : ¬ k = x := fun e => hxk e.symm
        have HN := Lib.hid (show ∀ y, y < j + 1 → ¬ keyI l y = k from fun y hy => by
          by_cases e : y = j
          · subst e; rw [hx]; exact hxk
          · exact hn.out y (by omega))
        clear hn HNX hx
        go_wp2_with (fail)
        go_roundw
        case rel => exact ⟨j + 1, by omega, by go_num, HN, by first | rfl | trivial⟩
        case measure => simp [intOf]; omega
    · obtain rfl : j = l.length := by omega
      have HI := Lib.hid (show idxI l k = -1 from by unfold idxI; rw [nx_no hn.out, if_neg (by omega)])
      go_wp2_with (fail)
      go_ret
      exact ⟨by rw [HI.out]; rfl, rfl⟩
/-- the keys of a row in a table -/
def keysK (T : List (Bkt Hd)) (h : Nat) (row : List Vl) : List Int := keysF (runE T (homeV row % h)) row
theorem keysK_le {h r : Nat} {T : List (Bkt Hd)} (F : FullT hdV hdH h r T) (row : List Vl) : (keysK T h row).length ≤ 500 := by
  have h1 := F.run_le (k := homeV row % h) (Nat.mod_lt _ (by have := F.hh; omega))
  unfold keysK keysF
  rw [List.length_map]
  exact Nat.le_trans (List.length_filter_le _ _) h1
def nextV (T : List (Bkt Hd)) (h : Nat) (row : List Vl) (k : Int) : Int := if askB row k = false then 0 else nxV (keysK T h row) k
def nextE (T : List (Bkt Hd)) (h : Nat) (row : List Vl) (k : Int) : Int := if askB row k = false then 1 else nxE (keysK T h row) k
theorem ask1 {row : List Vl} {k : Int} (h : askB row k = true) : askB row 1 = true := by
  have := (askB_yes h).1
  unfold askB
  rw [this]
  decide
theorem findk_any (t h r : Nat) (P : Option Addr) (c : Nat) (raw : List BkR) (Pr : Option Addr) (cr : Nat) (row : List Vl) (w : World) (H : CtR w t h r P c raw) (hT : FullT hdV hdH h r (absT raw)) (ht : Tab w) (hs : SlV w Pr cr row) (hask : askB row 1 = true) :
    Calls Tryz.prog 11 #[.pointer (some ⟨t, 0, none⟩), .slice Pr row.length cr] w fun e w' => (∃ v, e = .returned (.tuple #[v, .int .i64 0]) ∧ OwnI w' w.heap.size v (keysK (absT raw) h row)) ∧ Ext w w' := by
  have h1 := find_any t h r P c raw Pr cr row w H hT ht hs hask
  rw [keysN_F, runR_abs hT (Nat.mod_lt _ (by have := hT.hh; omega))] at h1
  exact h1
set_option maxHeartbeats 4000000 in
theorem cnext_any (t h r : Nat) (P : Option Addr) (c : Nat) (raw : List BkR) (Pr : Option Addr) (cr : Nat) (row : List Vl) (k : Int) (w : World) (H : CtR w t h r P c raw) (hT : FullT hdV hdH h r (absT raw)) (ht : Tab w) (hs : SlV w Pr cr row) :
    Calls Tryz.prog 14 #[.pointer (some ⟨t, 0, none⟩), .slice Pr row.length cr, .int .i64 k] w fun e w' => e = .returned (.tuple #[.int .i64 (nextV (absT raw) h row k), .int .i64 (nextE (absT raw) h row k)]) ∧ Ext w w' := by
  have hA := asked_any t Pr cr row k w hs
  by_cases hask : askB row k = true
  · have hF := fun W (hx : Ext w W) => findk_any t h r P c raw Pr cr row W (H.ext hx) hT (ht.ext hx) (hs.ext hx) (ask1 hask)
    have HE := Lib.hid (show nextE (absT raw) h row k = nxE (keysK (absT raw) h row) k from by unfold nextE; rw [if_neg (by rw [hask]; decide)])
    have HV := Lib.hid (show nextV (absT raw) h row k = nxV (keysK (absT raw) h row) k from by unfold nextV; rw [if_neg (by rw [hask]; decide)])
    have hl := keysK_le hT row
    rw [hask] at hA
    generalize keysK (absT raw) h row = ks at *
    clear hask hT
    go_enter Tryz.func14, Tryz.ntmps14
    go_wp2_with (go_at_call 41; refine hA.mono ?_; rintro e w1 ⟨rfl, hx1⟩)
    go_at_call 11
    refine (hF _ hx1).mono ?_
    rintro e w2 ⟨⟨v2, rfl, ho2⟩, hx2⟩
    obtain ⟨P2, c2, rfl, hs2⟩ := ho2.slG elemI (by omega)
    dsimp only
    have hI := index_any P2 c2 ks k w2 hs2 (by omega)
    by_cases h1 : nxI ks k < ks.length
    · have e1 : idxI ks k = (nxI ks k : Int) := if_pos h1
      rw [e1] at hI
      have d1 : IntKind.i64.wrap ((nxI ks k : Int) + 1) = (nxI ks k : Int) + 1 := IntWalk.i64_in _ ⟨by omega, by omega⟩
      have c0 : ¬ ((nxI ks k : Int) < 0) := by omega
      by_cases h2 : nxI ks k + 1 < ks.length
      · have HE2 := Lib.hid (HE.out.trans (show nxE ks k = 0 from by unfold nxE; rw [if_pos h1, if_pos h2]))
        have HV2 := Lib.hid (HV.out.trans (show nxV ks k = keyI ks (nxI ks k + 1) from by unfold nxV; rw [if_pos h2]))
        obtain ⟨b1, o1, hP, g1⟩ := hs2.intAt (nxI ks k + 1) h2
        subst hP
        replace g1 : w2.cell? ⟨b1, o1 + (nxI ks k + 1), none⟩ = some (.int .i64 (keyI ks (nxI ks k + 1))) := g1
        have c1 : (nxI ks k : Int) + 1 < ks.length := by omega
        have c2 : ¬ (nxI ks k : Int) + 1 = ks.length := by omega
        have c3 : (0 : Int) ≤ (nxI ks k : Int) + 1 := by omega
        have c4 : ((nxI ks k : Int) + 1).toNat = nxI ks k + 1 := by omega
        clear HE HV e1 h1 h2
        generalize keyI ks (nxI ks k + 1) = x at *
        generalize nxI ks k = n at *
        go_wp2_with (go_at_call 46; refine hI.mono ?_; rintro e w3 ⟨rfl, rfl⟩)
        go_ret2
        exact ⟨by rw [HE2.out, HV2.out]; rfl, hx1.trans hx2⟩
      · have HE2 := Lib.hid (HE.out.trans (show nxE ks k = 9 from by unfold nxE; rw [if_pos h1, if_neg h2]))
        have HV2 := Lib.hid (HV.out.trans (show nxV ks k = 0 from by unfold nxV; rw [if_neg h2]))
        have c2 : (nxI ks k : Int) + 1 = ks.length := by omega
        rw [c2] at d1
        clear HE HV e1 h1 h2
        generalize hn : nxI ks k = n at *
        generalize hl2 : ks.length = z at *
        obtain ⟨n2, hn2⟩ : ∃ n2 : Int, (n : Int) = n2 := ⟨_, rfl⟩
        go_wp2_with (go_at_call 46; refine hI.mono ?_; rintro e w3 ⟨rfl, rfl⟩)
        go_ret2
        exact ⟨by rw [HE2.out, HV2.out]; rfl, hx1.trans hx2⟩
    · have e1 : idxI ks k = -1 := if_neg h1
      rw [e1] at hI
      have HE2 := Lib.hid (HE.out.trans (show nxE ks k = 8 from by unfold nxE; rw [if_neg h1]))
      have HV2 := Lib.hid (HV.out.trans (show nxV ks k = 0 from by unfold nxV; rw [if_neg (by omega)]))
      clear HE HV e1 h1
      go_wp2_with (go_at_call 46; refine hI.mono ?_; rintro e w3 ⟨rfl, rfl⟩)
      go_ret2
      exact ⟨by rw [HE2.out, HV2.out]; rfl, hx1.trans hx2⟩
  · have hask : askB row k = false := by simpa using hask
    have HE := Lib.hid (show nextE (absT raw) h row k = 1 from by unfold nextE; rw [if_pos hask])
    have HV := Lib.hid (show nextV (absT raw) h row k = 0 from by unfold nextV; rw [if_pos hask])
    rw [hask] at hA
    clear hask hT
    go_enter Tryz.func14, Tryz.ntmps14
    go_wp2_with (go_at_call 41; refine hA.mono ?_; rintro e w1 ⟨rfl, hx1⟩)
    go_ret2
    exact ⟨by rw [HE.out, HV.out]; rfl, hx1⟩
/-- how many buckets the longest of the first runs has -/
def longF (T : List (Bkt Hd)) : Nat → Nat
  | 0 => 0
  | i + 1 => max (longF T i) (pathOf T i).length
theorem longF_le {h r : Nat} {T : List (Bkt Hd)} (F : FullT hdV hdH h r T) : ∀ i, i ≤ h → longF T i ≤ 501
  | 0, _ => by simp [longF]
  | i + 1, hi => by
    have h1 := longF_le F i (by omega)
    have h2 := (F.path (k := i) (by omega)).2.2
    unfold longF
    omega
set_option maxHeartbeats 4000000 in
theorem longest_any (t h r : Nat) (P : Option Addr) (c : Nat) (raw : List BkR) (w : World) (H : CtR w t h r P c raw) (hT : FullT hdV hdH h r (absT raw)) :
    Calls Tryz.prog 22 #[.pointer (some ⟨t, 0, none⟩)] w fun e w' => e = .returned (.int .i64 (longF (absT raw) h : Nat)) ∧ Ext w w' := by
  have hh := hT.hh
  have hHo := homes_any t h r P c raw w H
  have HPT := fun (i : Nat) (hi : i < h) => Lib.hid (hT.path hi)
  have HWY := fun (i : Nat) (hi : i < h) => Lib.hid (hT.way hi)
  have HLE := fun (i : Nat) (hi : i ≤ h) => Lib.hid (longF_le hT i hi)
  have HS := fun (i : Nat) => Lib.hid (show longF (absT raw) (i + 1) = max (longF (absT raw) i) (pathOf (absT raw) i).length from rfl)
  clear hT
  go_enter Tryz.func22, Tryz.ntmps22
  go_wp2_with (go_at_call 19; refine hHo.mono ?_; rintro e w1 ⟨rfl, rfl⟩)
  go_loopw [7, 3] (fun i u wr => ∃ (j : Nat), j ≤ h ∧ i = .int .i64 j ∧ u = .int .i64 (longF (absT raw) j : Nat) ∧ Ext w wr) (fun i _ _ => h - (intOf i).toNat)
  case atStart => exact ⟨0, by omega, rfl, rfl, Ext.refl _⟩
  case round =>
    obtain ⟨j, hj, rfl, rfl, hx⟩ := hrel
    by_cases hlt : j < h
    · have cj : (j : Int) < h := by omega
      have d1 : IntKind.i64.wrap ((j : Int) + 1) = (j : Int) + 1 := IntWalk.i64_in _ ⟨by omega, by omega⟩
      have hp := (HPT j hlt).out
      have hL1 := (HLE j hj).out
      have hL2 := (HS j).out
      have hRn := fun W => run_any t (j : Nat) W
      have HCW := HWY j hlt
      have HX := Lib.hid hx
      have hpl := hp.2.2
      generalize hq : pathOf (absT raw) j = p at *
      have hSt := Lib.hid hL2
      have hLS := Lib.hid (HLE (j + 1) (by omega)).out
      clear HPT HWY HLE HS hq hL2
      generalize longF (absT raw) j = n at *
      have cmx : max (n : Int) (p.length : Int) = ((max n p.length : Nat) : Int) := by omega
      go_wp2_with (fail)
      go_at_call 52
      refine (hRn _).mono ?_
      rintro e w3 ⟨rfl, rfl⟩
      dsimp only
      have hxa := ((Ext.refl wr).alloc (.cells #[.pointer (some ⟨t, 0, none⟩)] 25)).alloc (.cells #[.int .i64 (j : Nat)] 3)
      have hK : RunK (wr.heap.size + 1) wr.heap.size t (j : Nat) h r P c raw ((wr.alloc (.cells #[.pointer (some ⟨t, 0, none⟩)] 25)).alloc (.cells #[.int .i64 (j : Nat)] 3)) := by
        have b1 := ((Ext.refl _).alloc (.cells #[.int .i64 (j : Nat)] 3)).cell (Boxed.new wr 25 (.pointer (some ⟨t, 0, none⟩))).cell
        have b2 := (Boxed.new (wr.alloc (.cells #[.pointer (some ⟨t, 0, none⟩)] 25)) 3 (.int .i64 (j : Nat))).cell
        rw [show (wr.alloc (.cells #[.pointer (some ⟨t, 0, none⟩)] 25)).heap.size = wr.heap.size + 1 from by simp] at b2
        exact ⟨b2, b1, H.ext (HX.out.trans hxa)⟩
      have hRl := runlist_any t (j : Nat) h r P c raw p (wr.heap.size + 1) wr.heap.size HCW.out (by omega) _ hK
      have hx3 := HX.out.trans hxa
      clear hK
      go_wp2_with (go_at_call 51; refine hRl.mono ?_; rintro e w4 ⟨⟨v4, rfl, ho4⟩, hx4⟩; obtain ⟨P4, c4, rfl, _⟩ := ho4.slG elemI (by rw [ints_len]; omega); rw [show (ints p).length = p.length from by simp [ints]])
      go_roundw
      case rel => exact ⟨j + 1, by omega, by go_num, by rw [hSt.out]; try go_num, hx3.trans hx4⟩
      case measure => simp [intOf]; omega
    · obtain rfl : j = h := by omega
      go_wp2_with (fail)
      go_ret
      exact ⟨rfl, hx⟩
end
section
open Go.RowKit Go.Maps
set_option linter.unusedVariables false
set_option linter.unusedSimpArgs false
set_option linter.unusedSectionVars false
set_option maxRecDepth 100000
attribute [local go_sem] Oper.semAt_some

/-- the keys among the first entries -/
def keysJ (m : List HdR) (row : List Vl) (i : Nat) : List Int := keysF ((m.take i).map hdA) row
theorem keysJ_yes {m : List HdR} {row : List Vl} {i : Nat} (hi : i < m.length) (h : (nthH m i).1.2.2 = row) : keysJ m row (i + 1) = keysJ m row i ++ [(nthH m i).2] := by
  unfold keysJ keysF
  rw [List.take_add_one, nthH_some hi, List.map_append, List.filter_append, List.map_append]
  congr 1
  simp [hdA, h]
theorem keysJ_no {m : List HdR} {row : List Vl} {i : Nat} (hi : i < m.length) (h : ¬ (nthH m i).1.2.2 = row) : keysJ m row (i + 1) = keysJ m row i := by
  unfold keysJ keysF
  rw [List.take_add_one, nthH_some hi, List.map_append, List.filter_append, List.map_append]
  simp [hdA, h]
theorem keysJ_le (m : List HdR) (row : List Vl) (i : Nat) : (keysJ m row i).length ≤ m.length := by
  unfold keysJ keysF
  rw [List.length_map]
  refine Nat.le_trans (List.length_filter_le _ _) ?_
  rw [List.length_map, List.length_take]
  omega
set_option maxHeartbeats 2000000 in
theorem rhome_bad (P : Option Addr) (c : Nat) (row : List Vl) (h : Int) (w : World) (hs : SlV w P c row) (hr : rowB row = false) :
    Calls Tryz.prog 43 #[.slice P row.length c, .int .i64 h] w fun e w' => e = .returned (.tuple #[.int .i64 0, .int .i64 1]) ∧ Ext w w' := by
  have hV := rrow_any P c row w hs
  rw [hr] at hV
  go_enter Tryz.func43, Tryz.ntmps43
  go_wp2_with (go_at_call 47; refine hV.mono ?_; rintro e w1 ⟨rfl, hx1⟩)
  go_ret2
  exact ⟨rfl, hx1⟩
set_option maxHeartbeats 4000000 in
theorem rfind_any (h r : Nat) (P : Option Addr) (c : Nat) (l : List BkR) (Pr : Option Addr) (cr : Nat) (row : List Vl) (w : World) (hs : SlB w P c l) (hT : FullT hdV hdH h r (absT l)) (hrow : SlV w Pr cr row) (hrB : rowB row = true) :
    Calls Tryz.prog 12 #[.agg #[.int .i64 h, .int .i64 r, .slice P l.length c], .slice Pr row.length cr] w fun e w' => (∃ P' c', e = .returned (.tuple #[.slice P' (keysK (absT l) h row).length c', .int .i64 0]) ∧ SlI w' P' c' (keysK (absT l) h row)) ∧ Ext w w' := by
  obtain ⟨hh1, hh2, hr1, hr2⟩ := hT.hh
  have hk0 : homeV row % h < h := Nat.mod_lt _ (by omega)
  have hx1 := (Ext.refl w).alloc (.cells #[.int .i64 h, .int .i64 r, .slice P l.length c] 28)
  have hA := BoxN.new w 28 #[.int .i64 h, .int .i64 r, .slice P l.length c]
  have a0 := hA.cell (i := 0) rfl
  have a1 := hA.cell (i := 1) rfl
  have a2 := hA.cell (i := 2) rfl
  have hHo := fun W (hx : Ext w W) => rhome_any Pr cr row h W (hrow.ext hx) hrB hh1 hh2
  have hEn := fun W (hx : Ext w W) => rentries_any h r P c l ((homeV row % h : Nat) : Int) (pathOf (absT l) (homeV row % h)) W (hs.ext hx) (hT.way hk0) (by have := (hT.path hk0).2.2; omega) (by change (runR l (homeV row % h)).length ≤ _; have := runR_len hT hk0; omega)
  unfold Tb at hEn
  change ∀ W, Ext w W → Calls _ _ _ _ fun e w' => (∃ P' c', e = .returned (.slice P' (runR l (homeV row % h)).length c') ∧ SlH w' P' c' (runR l (homeV row % h))) ∧ Ext W w' at hEn
  have hml := runR_len hT hk0
  have habs := runR_abs hT hk0
  have hrb : ∀ x ∈ runR l (homeV row % h), rowB x.1.2.2 = true := fun x hx => (hT.hom hk0 (hdA x) (by rw [← habs]; exact List.mem_map.2 ⟨x, hx, rfl⟩)).1.1
  have HKK : keysK (absT l) h row = keysJ (runR l (homeV row % h)) row (runR l (homeV row % h)).length := by
    unfold keysK keysJ
    rw [List.take_length, habs]
  rw [HKK]
  clear HKK habs hT
  generalize homeV row % h = kk at *
  generalize runR l kk = m at *
  have HJL := fun i => Lib.hid (keysJ_le m row i)
  go_enter Tryz.func12, Tryz.ntmps12
  go_wp2_with (fail)
  generalize w.alloc (.cells #[.int .i64 h, .int .i64 r, .slice P l.length c] 28) = W at *
  go_wp2_with (first
    | (go_at_call 43; refine (hHo _ hx1).mono ?_; rintro e w3 ⟨rfl, x3⟩; have a0 := x3.cell a0; have a1 := x3.cell a1; have a2 := x3.cell a2)
    | (go_at_call 44; refine (hEn _ (hx1.trans x3)).mono ?_; rintro e w4 ⟨⟨P4, c4, rfl, hs4⟩, x4⟩))
  have hx04 := (hx1.trans x3).trans x4
  clear a0 a1 a2 hEn hHo
  go_loopw [10, 8] (fun i u wr => ∃ (j : Nat) (v : Value), j ≤ m.length ∧ i = .int .i64 j ∧ v = u ∧ OwnI wr w4.heap.size v (keysJ m row j) ∧ Ext w4 wr) (fun i _ _ => m.length - (intOf i).toNat)
  case atStart => exact ⟨0, _, by omega, rfl, rfl, OwnG.nil _ _ _ _ _, Ext.refl _⟩
  case round =>
    obtain ⟨j, v, hj, rfl, rfl, ho, hx⟩ := hrel
    by_cases hlt : j < m.length
    · have cj : (j : Int) < m.length := by omega
      have d1 : IntKind.i64.wrap ((j : Int) + 1) = (j : Int) + 1 := IntWalk.i64_in _ ⟨by omega, by omega⟩
      obtain ⟨b, off, hP, g0, g1⟩ := (hs4.ext hx).at_ j hlt
      subst hP
      have hrw := hs4.row _ (nthH_mem hlt)
      have hrv := hrb _ (nthH_mem hlt)
      have hC := fun W (hx' : Ext w4 W) => rsamev_any (nthH m j).1.1 Pr (nthH m j).1.2.1 cr (nthH m j).1.2.2 row W (hrw.1.ext hx') (hrow.ext (hx04.trans hx')) hrv hrB
      have HO := Lib.hid ho
      have HJ := HJL j
      by_cases hr : (nthH m j).1.2.2 = row
      · have HR := Lib.hid (keysJ_yes hlt hr)
        simp only [decide_eq_true hr] at hC
        clear hr HJL ho hrw hrv
        generalize (nthH m j).2 = K at *
        go_wp2_with (first
          | (go_at_call 45; refine (hC _ hx).mono ?_; rintro e w5 ⟨rfl, x5⟩; have g1 := x5.cell g1; have hx5 := hx.trans x5; have HX5 := Lib.hid x5)
          | (at_builtin; refine wpList_app_G _ elemI rfl _ _ rfl (base := w4.heap.size) rfl (OwnG.ext (HO.out.ext HX5.out) ((Ext.refl _).alloc _)) (m := [K]) rfl (SlG.one elemI.hk _ ?c1 ?c2) ?c3 ?c4 ?c5 ?c6 ?_))
        all_goals first
          | rfl
          | (intro e; cases e; done)
          | (have := HJ.out; simp; omega; done)
          | (have := hx5.size; simp; omega; done)
          | skip
        intro v7 w7 ho7 hb7
        have hx7 := below_ext (hx5.alloc (.cells #[.int .i64 K] 3)) hb7 (Nat.le_refl _)
        go_wp2_with (fail)
        go_roundw
        case rel => exact ⟨j + 1, _, by omega, by go_num, rfl, by rw [HR.out]; exact ho7, hx7⟩
        case measure => simp [intOf]; omega
      · have HR := Lib.hid (keysJ_no hlt hr)
        simp only [decide_eq_false hr] at hC
        clear hr HJL ho hrw hrv
        go_wp2_with (go_at_call 45; refine (hC _ hx).mono ?_; rintro e w5 ⟨rfl, x5⟩)
        go_roundw
        case rel => exact ⟨j + 1, _, by omega, by go_num, rfl, by rw [HR.out]; exact HO.out.ext x5, hx.trans x5⟩
        case measure => simp [intOf]; omega
    · obtain rfl : j = m.length := by omega
      have hjl := (HJL m.length).out
      obtain ⟨P9, c9, rfl, hs9⟩ := ho.slG elemI (by omega)
      clear HJL
      go_wp2_with (fail)
      go_ret2
      exact ⟨⟨P9, c9, rfl, hs9⟩, hx04.trans hx⟩
set_option maxHeartbeats 2000000 in
theorem rfind_no (h r : Nat) (P : Option Addr) (c n : Nat) (Pr : Option Addr) (cr : Nat) (row : List Vl) (w : World) (hrow : SlV w Pr cr row) (hrB : rowB row = false) :
    Calls Tryz.prog 12 #[.agg #[.int .i64 h, .int .i64 r, .slice P n c], .slice Pr row.length cr] w fun e w' => e = .returned (.tuple #[.slice none 0 0, .int .i64 1]) ∧ Ext w w' := by
  have hx1 := (Ext.refl w).alloc (.cells #[.int .i64 h, .int .i64 r, .slice P n c] 28)
  have hA := BoxN.new w 28 #[.int .i64 h, .int .i64 r, .slice P n c]
  have a0 := hA.cell (i := 0) rfl
  have hHo := fun W (hx : Ext w W) => rhome_bad Pr cr row h W (hrow.ext hx) hrB
  go_enter Tryz.func12, Tryz.ntmps12
  go_wp2_with (fail)
  generalize w.alloc (.cells #[.int .i64 h, .int .i64 r, .slice P n c] 28) = W at *
  go_wp2_with (go_at_call 43; refine (hHo _ hx1).mono ?_; rintro e w3 ⟨rfl, x3⟩)
  go_ret2
  exact ⟨rfl, hx1.trans x3⟩
set_option maxHeartbeats 4000000 in
theorem rnext_any (h r : Nat) (P : Option Addr) (c : Nat) (l : List BkR) (Pr : Option Addr) (cr : Nat) (row : List Vl) (k : Int) (w : World) (hs : SlB w P c l) (hT : FullT hdV hdH h r (absT l)) (hrow : SlV w Pr cr row) :
    Calls Tryz.prog 15 #[.agg #[.int .i64 h, .int .i64 r, .slice P l.length c], .slice Pr row.length cr, .int .i64 k] w fun e w' => e = .returned (.tuple #[.int .i64 (nextV (absT l) h row k), .int .i64 (nextE (absT l) h row k)]) ∧ Ext w w' := by
  have hx1 := (Ext.refl w).alloc (.cells #[.int .i64 h, .int .i64 r, .slice P l.length c] 28)
  have hA := BoxN.new w 28 #[.int .i64 h, .int .i64 r, .slice P l.length c]
  have a0 := hA.cell (i := 0) rfl
  have a1 := hA.cell (i := 1) rfl
  have a2 := hA.cell (i := 2) rfl
  have hV := fun W (hx : Ext w W) => rrow_any Pr cr row W (hrow.ext hx)
  have hK := fun W => rkey_any k W
  by_cases hask : askB row k = true
  · obtain ⟨hrB, hkB⟩ := askB_yes hask
    simp only [hrB] at hV
    simp only [hkB] at hK
    have hF := fun W (hx : Ext w W) => rfind_any h r P c l Pr cr row W (hs.ext hx) hT (hrow.ext hx) hrB
    have HE := Lib.hid (show nextE (absT l) h row k = nxE (keysK (absT l) h row) k from by unfold nextE; rw [if_neg (by rw [hask]; decide)])
    have HV := Lib.hid (show nextV (absT l) h row k = nxV (keysK (absT l) h row) k from by unfold nextV; rw [if_neg (by rw [hask]; decide)])
    have hl := keysK_le hT row
    generalize keysK (absT l) h row = ks at *
    clear hask hT hrB hkB
    go_enter Tryz.func15, Tryz.ntmps15
    go_wp2_with (fail)
    generalize w.alloc (.cells #[.int .i64 h, .int .i64 r, .slice P l.length c] 28) = W at *
    go_wp2_with (first
      | (go_at_call 47; refine (hV _ hx1).mono ?_; rintro e w1 ⟨rfl, x1⟩)
      | (go_at_call 48; refine (hK _).mono ?_; rintro e w2 ⟨rfl, rfl⟩; have a0 := x1.cell a0; have a1 := x1.cell a1; have a2 := x1.cell a2)
      | (go_at_call 12; refine (hF _ (hx1.trans x1)).mono ?_; rintro e w4 ⟨⟨P4, c4, rfl, hs4⟩, x4⟩))
    have hx04 := (hx1.trans x1).trans x4
    clear a0 a1 a2 hF hV hK
    go_loopw [10] (fun i wr => ∃ (j : Nat), j ≤ ks.length ∧ i = .int .i64 j ∧ Hid (∀ y, y < j → ¬ keyI ks y = k) ∧ w4 = wr) (fun i _ => ks.length - (intOf i).toNat)
    case atStart => exact ⟨0, by omega, rfl, Lib.hid (fun y hy => by omega), rfl⟩
    case round =>
      obtain ⟨j, hj, rfl, hn, hwr⟩ := hrel
      obtain rfl := hwr
      by_cases hlt : j < ks.length
      · have cj : (j : Int) < ks.length := by omega
        have d1 : IntKind.i64.wrap ((j : Int) + 1) = (j : Int) + 1 := IntWalk.i64_in _ ⟨by omega, by omega⟩
        obtain ⟨b1, o1, hP, g1⟩ := hs4.intAt j hlt
        subst hP
        replace g1 : w4.cell? ⟨b1, o1 + j, none⟩ = some (.int .i64 (keyI ks j)) := g1
        have HNX := fun e => Lib.hid (nx_at hlt (k := k) e hn.out)
        by_cases hxk : keyI ks j = k
        · have hnx := (HNX hxk).out
          rw [hxk] at g1
          by_cases h2 : j + 1 < ks.length
          · have HE2 := Lib.hid (HE.out.trans (show nxE ks k = 0 from by unfold nxE; rw [hnx, if_pos hlt, if_pos h2]))
            have HV2 := Lib.hid (HV.out.trans (show nxV ks k = keyI ks (j + 1) from by unfold nxV; rw [hnx, if_pos h2]))
            obtain ⟨b2, o2, hP2, g2⟩ := hs4.intAt (j + 1) h2
            injection hP2 with hP2
            injection hP2 with hP21 hP22
            subst hP21 hP22
            replace g2 : w4.cell? ⟨b1, o1 + (j + 1), none⟩ = some (.int .i64 (keyI ks (j + 1))) := g2
            have c1 : (j : Int) + 1 < ks.length := by omega
            have c3 : (0 : Int) ≤ (j : Int) + 1 := by omega
            have c4 : ((j : Int) + 1).toNat = j + 1 := by omega
            clear HE HV HNX hnx hxk hn
            generalize keyI ks (j + 1) = x at *
            go_wp2_with (fail)
            go_ret2
            exact ⟨by rw [HE2.out, HV2.out]; rfl, hx04⟩
          · have HE2 := Lib.hid (HE.out.trans (show nxE ks k = 9 from by unfold nxE; rw [hnx, if_pos hlt, if_neg h2]))
            have HV2 := Lib.hid (HV.out.trans (show nxV ks k = 0 from by unfold nxV; rw [hnx, if_neg h2]))
            have c1 : ¬ (j : Int) + 1 < ks.length := by omega
            clear HE HV HNX hnx hxk hn
            go_wp2_with (fail)
            go_ret2
            exact ⟨by rw [HE2.out, HV2.out]; rfl, hx04⟩
        · have HN := Lib.hid (show ∀ y, y < j + 1 → ¬ keyI ks y = k from fun y hy => by
            by_cases e : y = j
            · subst e; exact hxk
            · exact hn.out y (by omega))
          have hk2 : (keyI ks j == k) = false := by simpa using hxk
          clear HNX hn
          generalize keyI ks j = x at *
          go_wp2_with (fail)
          go_roundw
          case rel => exact ⟨j + 1, by omega, by go_num, HN, by first | rfl | trivial⟩
          case measure => simp [intOf]; omega
      · obtain rfl : j = ks.length := by omega
        have hnx := nx_no hn.out
        have HE2 := Lib.hid (HE.out.trans (show nxE ks k = 8 from by unfold nxE; rw [hnx, if_neg (by omega)]))
        have HV2 := Lib.hid (HV.out.trans (show nxV ks k = 0 from by unfold nxV; rw [hnx, if_neg (by omega)]))
        clear HE HV hnx hn
        go_wp2_with (fail)
        go_ret2
        exact ⟨by rw [HE2.out, HV2.out]; rfl, hx04⟩
  · have hask2 : askB row k = false := by simpa using hask
    have HE := Lib.hid (show nextE (absT l) h row k = 1 from by unfold nextE; rw [if_pos hask2])
    have HV := Lib.hid (show nextV (absT l) h row k = 0 from by unfold nextV; rw [if_pos hask2])
    clear hT
    unfold askB at hask
    cases hrB : rowB row <;> simp only [hrB] at hV hask <;> cases hkB : keyB k <;> simp only [hkB] at hK hask
    all_goals first
      | (exfalso; exact hask rfl)
      | (clear hask hask2
         go_enter Tryz.func15, Tryz.ntmps15
         go_wp2_with (first
           | (go_at_call 47; refine (hV _ hx1).mono ?_; rintro e w1 ⟨rfl, x1⟩)
           | (go_at_call 48; refine (hK _).mono ?_; rintro e w2 ⟨rfl, rfl⟩))
         go_ret2
         exact ⟨by rw [HE.out, HV.out]; rfl, hx1.trans x1⟩)
set_option maxHeartbeats 2000000 in
theorem rrun_yes (h r : Nat) (P : Option Addr) (c : Nat) (l : List BkR) (k : Nat) (w : World) (hs : SlB w P c l) (hT : FullT hdV hdH h r (absT l)) (hk : k < h) :
    Calls Tryz.prog 17 #[.agg #[.int .i64 h, .int .i64 r, .slice P l.length c], .int .i64 (k : Nat)] w fun e w' => (∃ P' c', e = .returned (.tuple #[.slice P' (runR l k).length c', .int .i64 0]) ∧ SlH w' P' c' (runR l k)) ∧ Ext w w' := by
  have hx1 := (Ext.refl w).alloc (.cells #[.int .i64 h, .int .i64 r, .slice P l.length c] 28)
  have hA := BoxN.new w 28 #[.int .i64 h, .int .i64 r, .slice P l.length c]
  have a0 := hA.cell (i := 0) rfl
  have a1 := hA.cell (i := 1) rfl
  have a2 := hA.cell (i := 2) rfl
  have hEn := rentries_any h r P c l (k : Int) (pathOf (absT l) k) _ (hs.ext hx1) (hT.way hk) (by have := (hT.path hk).2.2; omega) (by change (runR l k).length ≤ _; have := runR_len hT hk; omega)
  unfold Tb at hEn
  change Calls _ _ _ _ fun e w' => (∃ P' c', e = .returned (.slice P' (runR l k).length c') ∧ SlH w' P' c' (runR l k)) ∧ Ext _ w' at hEn
  generalize runR l k = m at *
  have c1 : ¬ ((k : Int) < 0) := by omega
  have c2 : ¬ ((h : Int) ≤ k) := by omega
  clear hT
  go_enter Tryz.func17, Tryz.ntmps17
  go_wp2_with (go_at_call 44; refine hEn.mono ?_; rintro e w4 ⟨⟨P4, c4, rfl, hs4⟩, x4⟩)
  go_ret2
  exact ⟨⟨P4, c4, rfl, hs4⟩, hx1.trans x4⟩
set_option maxHeartbeats 2000000 in
theorem rrun_no (h r : Nat) (P : Option Addr) (c n : Nat) (k : Int) (w : World) (hh : h ≤ 100) (hk : k < 0 ∨ (h : Int) ≤ k) :
    Calls Tryz.prog 17 #[.agg #[.int .i64 h, .int .i64 r, .slice P n c], .int .i64 k] w fun e w' => e = .returned (.tuple #[.slice none 0 0, .int .i64 7]) ∧ Ext w w' := by
  have hx1 := (Ext.refl w).alloc (.cells #[.int .i64 h, .int .i64 r, .slice P n c] 28)
  have hA := BoxN.new w 28 #[.int .i64 h, .int .i64 r, .slice P n c]
  have a0 := hA.cell (i := 0) rfl
  go_enter Tryz.func17, Tryz.ntmps17
  by_cases h1 : k < 0
  · go_wp2_with (fail)
    go_ret2
    exact ⟨rfl, hx1⟩
  · have h2 : (h : Int) ≤ k := by omega
    clear hk
    go_wp2_with (fail)
    go_ret2
    exact ⟨rfl, hx1⟩
set_option maxHeartbeats 4000000 in
theorem rlongest_any (h r : Nat) (P : Option Addr) (c : Nat) (l : List BkR) (w : World) (hs : SlB w P c l) (hT : FullT hdV hdH h r (absT l)) :
    Calls Tryz.prog 23 #[.agg #[.int .i64 h, .int .i64 r, .slice P l.length c]] w fun e w' => e = .returned (.int .i64 (longF (absT l) h : Nat)) ∧ Ext w w' := by
  have hh := hT.hh
  have hx1 := (Ext.refl w).alloc (.cells #[.int .i64 h, .int .i64 r, .slice P l.length c] 28)
  have hA := BoxN.new w 28 #[.int .i64 h, .int .i64 r, .slice P l.length c]
  have HPA := fun W (hx : Ext w W) (i : Nat) (hi : i < h) => rpath_any h r P c l (i : Nat) (pathOf (absT l) i) W (hs.ext hx) (hT.way hi) (by have := (hT.path hi).2.2; omega)
  unfold Tb at HPA
  have HPT := fun (i : Nat) (hi : i < h) => Lib.hid (hT.path hi)
  have HLE := fun (i : Nat) (hi : i ≤ h) => Lib.hid (longF_le hT i hi)
  have HS := fun (i : Nat) => Lib.hid (show longF (absT l) (i + 1) = max (longF (absT l) i) (pathOf (absT l) i).length from rfl)
  clear hT
  go_enter Tryz.func23, Tryz.ntmps23
  go_wp2_with (fail)
  generalize w.alloc (.cells #[.int .i64 h, .int .i64 r, .slice P l.length c] 28) = W at *
  go_wp2_with (fail)
  go_loopw [4, 3] (fun i u wr => ∃ (j : Nat), j ≤ h ∧ i = .int .i64 j ∧ u = .int .i64 (longF (absT l) j : Nat) ∧ Ext W wr) (fun i _ _ => h - (intOf i).toNat)
  case atStart => exact ⟨0, by omega, rfl, rfl, Ext.refl _⟩
  case round =>
    obtain ⟨j, hj, rfl, rfl, hx⟩ := hrel
    have hA' := hA.ext hx
    have a0 := hA'.cell (i := 0) rfl
    have a1 := hA'.cell (i := 1) rfl
    have a2 := hA'.cell (i := 2) rfl
    by_cases hlt : j < h
    · have cj : (j : Int) < h := by omega
      have d1 : IntKind.i64.wrap ((j : Int) + 1) = (j : Int) + 1 := IntWalk.i64_in _ ⟨by omega, by omega⟩
      have hpl := (HPT j hlt).out.2.2
      have hL1 := (HLE j hj).out
      have hSt := Lib.hid (HS j).out
      have hLS := Lib.hid (HLE (j + 1) (by omega)).out
      have hPj := HPA _ (hx1.trans hx) j hlt
      generalize pathOf (absT l) j = p at *
      clear HPT HLE HS HPA
      generalize longF (absT l) j = n at *
      have cmx : max (n : Int) (p.length : Int) = ((max n p.length : Nat) : Int) := by omega
      go_wp2_with (go_at_call 53; refine hPj.mono ?_; rintro e w4 ⟨⟨v4, rfl, ho4⟩, hx4⟩; obtain ⟨P4, c4, rfl, _⟩ := ho4.slG elemI (by rw [ints_len]; omega); rw [show (ints p).length = p.length from by simp [ints]])
      go_roundw
      case rel => exact ⟨j + 1, by omega, by go_num, by rw [hSt.out]; try go_num, hx.trans hx4⟩
      case measure => simp [intOf]; omega
    · obtain rfl : j = h := by omega
      go_wp2_with (fail)
      go_ret
      exact ⟨rfl, hx1.trans hx⟩
set_option maxHeartbeats 4000000 in
theorem sameints_yes (P Q : Option Addr) (c d : Nat) (l : List Int) (w : World) (h : SlI w P c l) (h2 : SlI w Q d l) (hl : l.length ≤ 100000) :
    Calls Tryz.prog 13 #[.slice P l.length c, .slice Q l.length d] w fun e w' => e = .returned (.bool true) ∧ Ext w w' := by
  go_enter Tryz.func13, Tryz.ntmps13
  go_wp2_with (fail)
  go_loopw [5] (fun i wr => ∃ j : Nat, j ≤ l.length ∧ i = .int .i64 j ∧ Ext w wr) (fun i _ => l.length - (intOf i).toNat)
  case atStart => exact ⟨0, by omega, rfl, Ext.refl _⟩
  case round =>
    obtain ⟨j, hj, rfl, hx⟩ := hrel
    by_cases hlt : j < l.length
    · obtain ⟨b1, o1, hP, g1⟩ := (h.ext hx).intAt j hlt
      subst hP
      obtain ⟨b2, o2, hP2, g2⟩ := (h2.ext hx).intAt j hlt
      subst hP2
      have cj : (j : Int) < l.length := by omega
      have d1 : IntKind.i64.wrap ((j : Int) + 1) = (j : Int) + 1 := IntWalk.i64_in _ ⟨by omega, by omega⟩
      generalize l.getD j 0 = x at *
      go_wp2_with (fail)
      go_quiet (fail)
      go_wp2_with (fail)
      go_roundw
      case rel => exact ⟨j + 1, by omega, by go_num, hx.drewN _⟩
      case measure => simp [intOf]; omega
    · obtain rfl : j = l.length := by omega
      go_wp2_with (fail)
      go_ret
      exact ⟨rfl, hx⟩
end
end Go.Proofs.YtcbinafokhekmaaGreatDoor
