/- CaZ; CaZA; CaDl (merged by group.py) -/
import Derived.Test.YtcbinafokhekmaaDoorQ13
import Derived.Deep.RegionLaw
namespace Go.Proofs.YtcbinafokhekmaaDoor
section
open Go.RowKit Go.Maps
set_option linter.unusedVariables false
set_option maxRecDepth 20000
set_option linter.unusedSimpArgs false
set_option linter.unusedSectionVars false
set_option maxRecDepth 100000
attribute [local go_sem] Oper.semAt_some

theorem ins1_any (i : Nat) (Q : Option Addr) (d : Nat) (m : List HdR) (k : Int) (cl ck : Nat) (w : World) (hm : SlH w Q d m) (hi : i < m.length) (hl : m.length ≤ 100000) (h1 : w.cell? ⟨cl, 0, none⟩ = some (.slice Q m.length d)) (h2 : w.cell? ⟨ck, 0, none⟩ = some (.int .i64 k)) :
    Calls Tryd.prog 38 #[.int .i64 (i : Nat), .pointer (some ⟨cl, 0, none⟩), .pointer (some ⟨ck, 0, none⟩)] w fun e w' => e = .returned (.bool ((nthH m i).2 == k)) ∧ Ext w w' := by
  obtain ⟨b, off, hP, g0, g1⟩ := hm.at_ i hi
  subst hP
  have c1 : (i : Int) < m.length := by omega
  have c0 : (0 : Int) ≤ (i : Int) := by omega
  clear g0
  generalize (nthH m i).2 = x at *
  go_enter Tryd.func38, Tryd.ntmps38
  go_wp2_with (fail)
  go_quiet (fail)
  go_wp2_with (fail)
  go_ret
  exact ⟨rfl, (Ext.refl _).drewN _⟩
/-- how a search among the places ends -/
def IdxP (A : List Int) (m : List HdR) (k : Int) (w : World) (e : Ending) (w' : World) : Prop := ∃ z : Int, e = .returned (.int .i64 z) ∧ (0 ≤ z ↔ ∃ j : Nat, (j : Int) ∈ A ∧ (nthH m j).2 = k) ∧ Ext w w'
theorem insIdx_any (P : Option Addr) (c : Nat) (A : List Int) (Q : Option Addr) (d : Nat) (m : List HdR) (k : Int) (cl ck : Nat) (w : World) (hA : SlI w P c A) (hAm : ∀ x ∈ A, ∃ j : Nat, x = j ∧ j < m.length) (hm : SlH w Q d m) (hl : m.length ≤ 100000) (h1 : w.cell? ⟨cl, 0, none⟩ = some (.slice Q m.length d)) (h2 : w.cell? ⟨ck, 0, none⟩ = some (.int .i64 k)) :
    Calls Tryd.prog 57 #[.slice P A.length c, .func (.func 38) #[] #[.pointer (some ⟨cl, 0, none⟩), .pointer (some ⟨ck, 0, none⟩)]] w (IdxP A m k w) := by
  have hlen := hA.len
  go_enter Tryd.func57, Tryd.ntmps57
  go_wp2
  go_loopw [8, 5, 4] (fun i _ _ wr => ∃ q : Nat, q ≤ A.length ∧ i = .int .i64 q ∧ Ext w wr ∧ Hid (∀ y : Nat, y < q → ∀ j : Nat, A[y]? = some (j : Int) → (nthH m j).2 ≠ k)) (fun i _ _ _ => A.length - (intOf i).toNat)
  case atStart => exact ⟨0, by omega, rfl, Ext.refl _, Lib.hid (fun y hy => by omega)⟩
  case round =>
    obtain ⟨q, hk, rfl, hx, ha⟩ := hrel
    by_cases hlt : q < A.length
    · obtain ⟨b1, o1, rfl, g1⟩ := (hA.ext hx).intAt q hlt
      have hAq : A[q]? = some (A.getD q 0) := by simp [List.getD_eq_getElem?_getD, hlt]
      obtain ⟨j, hj, hjm⟩ := hAm _ (List.mem_of_getElem? hAq)
      rw [hj] at g1 hAq
      have hC := fun W (hxx : Ext w W) => ins1_any j Q d m k cl ck W (hm.ext hxx) hjm hl (hxx.cell h1) (hxx.cell h2)
      have c1 : (q : Int) < A.length := by omega
      have d1 : IntKind.i64.wrap ((q : Int) + 1) = (q : Int) + 1 := IntWalk.i64_in _ ⟨by omega, by omega⟩
      have HAQ := Lib.hid hAq
      clear hAq hj
      by_cases he : (nthH m j).2 = k
      · simp only [show ((nthH m j).2 == k) = true from by simpa using he] at hC
        have HE := Lib.hid he
        clear he
        go_wp2_with (go_at_call 38; refine (hC _ hx).mono ?_; rintro e w1 ⟨rfl, hx1⟩)
        go_ret
        exact ⟨q, rfl, ⟨fun _ => ⟨j, List.mem_of_getElem? HAQ.out, HE.out⟩, fun _ => by omega⟩, hx.trans hx1⟩
      · simp only [show ((nthH m j).2 == k) = false from by simpa using he] at hC
        have HN := Lib.hid (show ∀ y : Nat, y < q + 1 → ∀ j : Nat, A[y]? = some (j : Int) → (nthH m j).2 ≠ k from fun y hy j' hj' => by
          by_cases hyq : y = q
          · subst hyq
            rw [HAQ.out] at hj'
            injection hj' with hj'
            obtain rfl : j = j' := by omega
            exact he
          · exact ha.out y (by omega) j' hj')
        clear he ha
        go_wp2_with (go_at_call 38; refine (hC _ hx).mono ?_; rintro e w1 ⟨rfl, hx1⟩)
        go_roundw
        case rel => exact ⟨q + 1, by omega, by go_num, hx.trans hx1, HN⟩
        case measure => simp [intOf]; omega
    · obtain rfl : q = A.length := by omega
      go_wp2
      go_ret
      exact ⟨-1, rfl, ⟨fun h => by omega, fun ⟨j, hjA, hjk⟩ => by
        obtain ⟨y, hy⟩ := List.mem_iff_getElem?.1 hjA
        exact absurd hjk (ha.out y (List.getElem?_eq_some_iff.1 hy).1 j hy)⟩, hx⟩
theorem insHas_any (P : Option Addr) (c : Nat) (A : List Int) (Q : Option Addr) (d : Nat) (m : List HdR) (k : Int) (cl ck : Nat) (w : World) (hA : SlI w P c A) (hAm : ∀ x ∈ A, ∃ j : Nat, x = j ∧ j < m.length) (hm : SlH w Q d m) (hl : m.length ≤ 100000) (h1 : w.cell? ⟨cl, 0, none⟩ = some (.slice Q m.length d)) (h2 : w.cell? ⟨ck, 0, none⟩ = some (.int .i64 k)) (z : Bool) (hz : z = true ↔ ∃ j : Nat, (j : Int) ∈ A ∧ (nthH m j).2 = k) :
    Calls Tryd.prog 37 #[.slice P A.length c, .func (.func 38) #[] #[.pointer (some ⟨cl, 0, none⟩), .pointer (some ⟨ck, 0, none⟩)]] w fun e w' => e = .returned (.bool z) ∧ Ext w w' := by
  have hI := insIdx_any P c A Q d m k cl ck w hA hAm hm hl h1 h2
  unfold IdxP at hI
  go_enter Tryd.func37, Tryd.ntmps37
  go_wp2_with (go_at_call 57; refine hI.mono ?_; rintro e w1 ⟨y, rfl, hr, hx⟩; have Hr := Lib.hid hr; clear hr)
  go_ret
  refine ⟨ret_bool ?_, hx⟩
  rw [Bool.eq_iff_iff, hz, ← Hr.out]
  simp
/-- a row and a key among the entries -/
def dupB (m : List Hd) (row : List Vl) (k : Int) (single : Bool) : Bool := (single && m.any fun x => decide (x.1 = row)) || m.any fun x => decide (x.1 = row) && decide (x.2 = k)
def insE (h : Nat) (T : List (Bkt Hd)) (row : List Vl) (k : Int) (single : Bool) : Int :=
  if askB row k = false then 1 else if dupB (runE T (homeV row % h)) row k single = true then 6 else if 500 ≤ cntT T then 4 else 0
def insT (h r : Nat) (T : List (Bkt Hd)) (row : List Vl) (k : Int) (single : Bool) : List (Bkt Hd) := if insE h T row k single = 0 then insF h r T (homeV row % h) (row, k) else T
theorem alikeN_mem {m : List HdR} {row : List Vl} {j : Nat} : (j : Int) ∈ alikeN m row m.length ↔ j < m.length ∧ (nthH m j).1.2.2 = row := by
  unfold alikeN
  rw [List.mem_map]
  constructor
  · rintro ⟨i, hi, e⟩
    obtain rfl : i = j := by omega
    obtain ⟨h1, h2⟩ := List.mem_filter.1 hi
    exact ⟨by simpa using h1, by simpa using h2⟩
  · rintro ⟨h1, h2⟩
    exact ⟨j, List.mem_filter.2 ⟨by simpa using h1, by simpa using h2⟩, rfl⟩
theorem alikeN_in {m : List HdR} {row : List Vl} : ∀ x ∈ alikeN m row m.length, ∃ j : Nat, x = j ∧ j < m.length := by
  intro x hx
  unfold alikeN at hx
  obtain ⟨j, hj, rfl⟩ := List.mem_map.1 hx
  exact ⟨j, rfl, by simpa using (List.mem_filter.1 hj).1⟩
theorem nthH_iff {m : List HdR} {x : HdR} : x ∈ m ↔ ∃ j, j < m.length ∧ nthH m j = x := by
  constructor
  · intro h
    obtain ⟨j, hj⟩ := List.mem_iff_getElem?.1 h
    have hj1 := (List.getElem?_eq_some_iff.1 hj).1
    exact ⟨j, hj1, by rw [nthH_some hj1] at hj; injection hj⟩
  · rintro ⟨j, hj, rfl⟩
    exact nthH_mem hj
theorem any_key {m : List Hd} {row : List Vl} {k : Int} : (m.any fun x => decide (x.1 = row) && decide (x.2 = k)) = true ↔ (row, k) ∈ m := by
  rw [List.any_eq_true]
  constructor
  · rintro ⟨⟨a, b⟩, hx, e⟩
    simp at e
    obtain ⟨rfl, rfl⟩ := e
    exact hx
  · intro h
    exact ⟨_, h, by simp⟩
theorem dup_key {m : List HdR} {row : List Vl} {k : Int} : (row, k) ∈ m.map hdA ↔ ∃ j : Nat, (j : Int) ∈ alikeN m row m.length ∧ (nthH m j).2 = k := by
  rw [List.mem_map]
  constructor
  · rintro ⟨x, hx, e⟩
    obtain ⟨j, hj, rfl⟩ := nthH_iff.1 hx
    exact ⟨j, alikeN_mem.2 ⟨hj, congrArg Prod.fst e⟩, congrArg Prod.snd e⟩
  · rintro ⟨j, hj, hk⟩
    obtain ⟨h1, h2⟩ := alikeN_mem.1 hj
    exact ⟨_, nthH_mem h1, by unfold hdA; rw [h2, hk]⟩
theorem dup_row {m : List HdR} {row : List Vl} : ((m.map hdA).any fun x => decide (x.1 = row)) = decide (0 < (alikeN m row m.length).length) := by
  rw [Bool.eq_iff_iff, List.any_eq_true, decide_eq_true_iff]
  constructor
  · rintro ⟨x, hx, e⟩
    obtain ⟨y, hy, rfl⟩ := List.mem_map.1 hx
    obtain ⟨j, hj, rfl⟩ := nthH_iff.1 hy
    exact List.length_pos_of_mem (alikeN_mem.2 ⟨hj, of_decide_eq_true e⟩)
  · intro h
    obtain ⟨x, hx⟩ := List.exists_mem_of_length_pos h
    obtain ⟨j, rfl, hj⟩ := alikeN_in x hx
    exact ⟨_, List.mem_map.2 ⟨_, nthH_mem hj, rfl⟩, decide_eq_true (alikeN_mem.1 hx).2⟩
end
section
open Go.RowKit Go.Maps
set_option linter.unusedVariables false
set_option maxRecDepth 20000
set_option linter.unusedSimpArgs false
set_option linter.unusedSectionVars false
set_option maxRecDepth 100000
attribute [local go_sem] Oper.semAt_some

theorem rowB_len {l : List Vl} (h : rowB l = true) : l.length ≤ 8 := by
  unfold rowB at h
  rw [Bool.and_eq_true] at h
  exact of_decide_eq_true h.2
theorem FullT.c5 {V : Hd → Prop} {H : Hd → Nat} {h r : Nat} {T : List (Bkt Hd)} (F : FullT V H h r T) : cntT T ≤ 500 := by
  obtain ⟨R, L, F⟩ := F
  exact F.c500
theorem FullT.ht {V : Hd → Prop} {H : Hd → Nat} {h r : Nat} {T : List (Bkt Hd)} (F : FullT V H h r T) : h ≤ T.length := by
  obtain ⟨R, L, F⟩ := F
  exact F.good.hT
theorem FullT.ents_le {h r : Nat} {raw : List BkR} (hT : FullT hdV hdH h r (absT raw)) : ∀ x ∈ raw, x.1.2.2.length ≤ 100000 := fun x hx => by
  obtain ⟨b, hb⟩ := List.mem_iff_getElem?.1 hx
  have hb1 := (List.getElem?_eq_some_iff.1 hb).1
  have h1 := cntK_succ hb1
  have h2 := cntK_le raw (b + 1)
  have h3 := hT.c5
  rw [nthBk_some hb1] at hb
  injection hb with hb
  rw [← hb]
  omega
theorem insT_no {h r : Nat} {T : List (Bkt Hd)} {row : List Vl} {k : Int} {s : Bool} (he : insE h T row k s ≠ 0) : insT h r T row k s = T := by
  unfold insT
  rw [if_neg he]
theorem askB_yes {row : List Vl} {k : Int} (h : askB row k = true) : rowB row = true ∧ keyB k = true := by
  unfold askB at h
  rwa [Bool.and_eq_true] at h
theorem insT_yes {h r : Nat} {T : List (Bkt Hd)} (F : FullT hdV hdH h r T) {row : List Vl} {k : Int} {s : Bool} (h1 : askB row k = true) (h2 : dupB (runE T (homeV row % h)) row k s = false) (h3 : cntT T < 500) :
    insE h T row k s = 0 ∧ insT h r T row k s = insF h r T (homeV row % h) (row, k) ∧ putF h r T ((pathOf T (homeV row % h)).getD ((pathOf T (homeV row % h)).length - 1) 0) (row, k) = insF h r T (homeV row % h) (row, k) ∧ FullT hdV hdH h r (insF h r T (homeV row % h) (row, k)) := by
  have he : insE h T row k s = 0 := by
    unfold insE
    rw [if_neg (by rw [h1]; decide), if_neg (by rw [h2]; decide), if_neg (by omega)]
  have hk : homeV row % h < h := Nat.mod_lt _ (by have := F.hh; omega)
  have hn : (row, k) ∉ runE T (homeV row % h) := fun hm => by
    have := any_key.2 hm
    unfold dupB at h2
    rw [Bool.or_eq_false_iff] at h2
    rw [this] at h2
    cases h2.2
  obtain ⟨e1, e2, _, _⟩ := F.more hk (x := (row, k)) (askB_yes h1) rfl hn h3
  exact ⟨he, by unfold insT; rw [if_pos he], e1, e2⟩
theorem insT_full {h r : Nat} {T : List (Bkt Hd)} (F : FullT hdV hdH h r T) (row : List Vl) (k : Int) (s : Bool) : FullT hdV hdH h r (insT h r T row k s) := by
  by_cases h1 : askB row k = true
  · by_cases h2 : dupB (runE T (homeV row % h)) row k s = false
    · by_cases h3 : cntT T < 500
      · obtain ⟨_, e, _, f⟩ := insT_yes F h1 h2 h3
        rw [e]; exact f
      · rw [insT_no]
        · exact F
        · unfold insE
          rw [if_neg (by rw [h1]; decide), if_neg (by rw [h2]; decide), if_pos (by omega)]; decide
    · rw [insT_no]
      · exact F
      · unfold insE
        rw [if_neg (by rw [h1]; decide), if_pos (by simpa using h2)]; decide
  · rw [insT_no]
    · exact F
    · unfold insE
      rw [if_pos (by simpa using h1)]; decide
theorem putF_len (h r : Nat) (T : List (Bkt Hd)) (e : Nat) (x : Hd) : (putF h r T e x).length ≤ T.length + 1 := by
  unfold putF
  split
  · simp only [List.length_set]
    unfold roomF
    split <;> simp
  · simp
theorem insT_len {h r : Nat} {T : List (Bkt Hd)} (F : FullT hdV hdH h r T) (row : List Vl) (k : Int) (s : Bool) : (insT h r T row k s).length ≤ T.length + 1 := by
  by_cases he : insE h T row k s = 0
  · have h1 : askB row k = true := by
      unfold insE at he
      by_cases h1 : askB row k = true
      · exact h1
      · rw [if_pos (by simpa using h1)] at he; cases he
    have h2 : dupB (runE T (homeV row % h)) row k s = false := by
      unfold insE at he
      rw [if_neg (by rw [h1]; decide)] at he
      by_cases h2 : dupB (runE T (homeV row % h)) row k s = true
      · rw [if_pos h2] at he; cases he
      · simpa using h2
    have h3 : cntT T < 500 := by
      unfold insE at he
      rw [if_neg (by rw [h1]; decide), if_neg (by rw [h2]; decide)] at he
      by_cases h3 : 500 ≤ cntT T
      · rw [if_pos h3] at he; cases he
      · omega
    obtain ⟨_, e, e2, _⟩ := insT_yes F h1 h2 h3
    rw [e, ← e2]
    exact putF_len ..
  · rw [insT_no he]; omega
set_option maxHeartbeats 8000000 in
theorem insert_any (F : Nat → Prop) (t h r : Nat) (P : Option Addr) (c : Nat) (raw : List BkR) (Pr : Option Addr) (cr : Nat) (row : List Vl) (k : Int) (single : Bool) (w : World) (H : CtO w F t h r P c raw) (hT : FullT hdV hdH h r (absT raw)) (hl : raw.length ≤ 4000) (ht : Tab w) (hs : SlV w Pr cr row) (hnil : Pr = none → cr = 0) (hoF : Off F Pr row) :
    Calls Tryd.prog 18 #[.pointer (some ⟨t, 0, none⟩), .slice Pr row.length cr, .int .i64 k, .bool single] w fun e w' => e = .returned (.int .i64 (insE h (absT raw) row k single)) ∧ ∃ raw', absT raw' = insT h r (absT raw) row k single ∧ CtS w F t h r raw' w' := by
  have hR := H.ctr (by omega) hT.ents_le
  have hk0 : homeV row % h < h := Nat.mod_lt _ (by have := hT.hh; omega)
  have hx0 := (Ext.refl w).alloc (.cells #[.int .i64 k] 3)
  have hbk := Boxed.new w 3 (.int .i64 k)
  have k0 := hbk.cell
  have hA := asked_any t Pr cr row k _ (hs.ext hx0)
  by_cases hask : askB row k = true
  · have hrl : row.length ≤ 100000 := by have := rowB_len (askB_yes hask).1; omega
    have hml := runR_len hT hk0
    have hrows := fun W (hx : Ext w W) => runR_rows hT hk0 (hR.ext hx).sl
    have habs := runR_abs hT hk0
    have hWi := fun W (hx : Ext w W) => with_any t h r P c raw Pr cr row W (hR.ext hx) hT (ht.ext hx) (hs.ext hx)
    have hCn := fun W (hx : Ext w W) => count_any t h r P c raw W (hR.ext hx) (by have := hT.c5; omega)
    have hPut := fun W (hx : Ext w W) => put_any F t h r P c raw Pr cr row k W (H.ext hx) hT hl (ht.ext hx) (hs.ext hx) hnil hrl hoF
    have HE1 := Lib.hid (show insE h (absT raw) row k single = if dupB (runE (absT raw) (homeV row % h)) row k single = true then 6 else if 500 ≤ cntT (absT raw) then 4 else 0 from by unfold insE; rw [if_neg (by rw [hask]; decide)])
    have HY := fun a b => Lib.hid (insT_yes (r := r) (s := single) hT hask a b)
    have HC5 := Lib.hid hT.c5
    rw [hask] at hA
    generalize homeV row % h = kk at *
    generalize hm0 : runR raw kk = m at *
    have hAl := alikeN_le m row m.length
    have hDup : dupB (runE (absT raw) kk) row k single = ((single && decide (0 < (alikeN m row m.length).length)) || (m.map hdA).any fun x => decide (x.1 = row) && decide (x.2 = k)) := by
      rw [← habs]
      unfold dupB
      rw [dup_row]
    obtain ⟨z, hz⟩ : ∃ z, ((m.map hdA).any fun x => decide (x.1 = row) && decide (x.2 = k)) = z := ⟨_, rfl⟩
    have HZ := Lib.hid (show z = true ↔ ∃ j : Nat, (j : Int) ∈ alikeN m row m.length ∧ (nthH m j).2 = k from by rw [← hz, any_key, dup_key])
    have HIN := Lib.hid (alikeN_in (m := m) (row := row))
    rw [hz] at hDup
    generalize alikeN m row m.length = A at *
    have HH := Lib.hid H
    have HPT := Lib.hid hPut
    have HHT := Lib.hid hT
    have HHas := fun W P2 c2 P1 c1 cl (hA : SlI W P2 c2 A) (hm : SlH W P1 c1 m) h1 h2 => insHas_any P2 c2 A P1 c1 m k cl w.heap.size W hA HIN.out hm (by omega) h1 h2 z HZ.out
    clear hz hm0 habs hask H hR hs hT HPT
    cases single with
    | true =>
      by_cases hA0 : A = []
      · subst hA0
        go_enter Tryd.func18, Tryd.ntmps18
        go_wp2_with (go_at_call 35; refine hA.mono ?_; rintro e w1 ⟨rfl, hx1⟩)
        have hx01 := hx0.trans hx1
        go_at_call 36
        refine (hWi _ hx01).mono ?_
        rintro e w2 ⟨⟨P1, c1, v2, rfl, ho1, ho2⟩, hx2⟩
        obtain ⟨P2, c2, rfl, hs2⟩ := ho2.slG elemI (by omega)
        dsimp only
        have hx02 := hx01.trans hx2
        have hck := hx2.cell (hx1.cell k0)
        obtain ⟨P1', c1', e1, hsl⟩ := SlH.of_own ho1 (by omega) (fun x hx => ⟨((hrows _ (Ext.refl w) x hx).1).ext hx02, (hrows _ (Ext.refl w) x hx).2⟩)
        injection e1 with e1 _ e2
        subst e1 e2
        have hxa := (Ext.refl w2).alloc (.cells #[.slice P1 m.length c1] 32)
        have hcl := (Boxed.new w2 32 (.slice P1 m.length c1)).cell
        have hH := HHas _ P2 c2 P1 c1 w2.heap.size (hs2.ext hxa) (hsl.ext hxa) hcl (hxa.cell hck)
        have hx03 := hx02.trans hxa
        cases z with
        | true =>
            have HE := Lib.hid (show insE h (absT raw) row k true = 6 from by rw [HE1.out, if_pos (by rw [hDup]; rfl)])
            clear HE1 hDup HY hPut hCn
            go_wp2_with (go_at_call 37; refine hH.mono ?_; rintro e w4 ⟨rfl, hx4⟩)
            go_ret
            exact ⟨by rw [HE.out]; rfl, raw, (insT_no (by rw [HE.out]; decide)).symm, CtS.of_ext HH.out (hx03.trans hx4)⟩
        | false =>
            have hd : dupB (runE (absT raw) kk) row k true = false := by rw [hDup]; rfl
            by_cases hfull : 500 ≤ cntT (absT raw)
            · have HE := Lib.hid (show insE h (absT raw) row k true = 4 from by rw [HE1.out, if_neg (by rw [hd]; decide), if_pos hfull])
              have cf : (500 : Int) ≤ (cntT (absT raw) : Nat) := by omega
              clear HE1 hDup HY hPut hd hfull
              generalize (cntT (absT raw) : Nat) = cc at *
              go_wp2_with (first
                | (go_at_call 37; refine hH.mono ?_; rintro e w4 ⟨rfl, hx4⟩)
                | (go_at_call 39; refine (hCn _ (hx03.trans hx4)).mono ?_; rintro e w5 ⟨rfl, hx5⟩))
              go_ret
              exact ⟨by rw [HE.out]; rfl, raw, (insT_no (by rw [HE.out]; decide)).symm, CtS.of_ext HH.out ((hx03.trans hx4).trans hx5)⟩
            · have HYY := Lib.hid (HY hd (by omega)).out
              have cf : ¬ (500 : Int) ≤ (cntT (absT raw) : Nat) := by omega
              clear HE1 hDup HY hd hfull
              generalize (cntT (absT raw) : Nat) = cc at *
              go_wp2_with (first
                | (go_at_call 37; refine hH.mono ?_; rintro e w4 ⟨rfl, hx4⟩)
                | (go_at_call 39; refine (hCn _ (hx03.trans hx4)).mono ?_; rintro e w5 ⟨rfl, hx5⟩; have hck5 := hx5.cell (hx4.cell (hxa.cell hck)))
                | (go_at_call 40; refine (hPut _ ((hx03.trans hx4).trans hx5)).mono ?_; rintro e w6 ⟨rfl, hres⟩; have HRES := Lib.hid hres; clear hres))
              go_ret
              obtain ⟨raw', e1, e2⟩ := HRES.out
              exact ⟨by rw [HYY.out.1]; rfl, raw', by rw [e1, HYY.out.2.1, HYY.out.2.2.1], CtS.pre ((hx03.trans hx4).trans hx5) e2⟩

      · have hAp := List.length_pos_iff.2 hA0
        have HE := Lib.hid (show insE h (absT raw) row k true = 6 from by rw [HE1.out, if_pos (by rw [hDup, decide_eq_true hAp]; rfl)])
        have cA : (0 : Int) < A.length := by omega
        have cA2 : decide (0 < A.length) = true := decide_eq_true hAp
        clear hA0 HE1 hDup HY hPut hCn HHas
        go_enter Tryd.func18, Tryd.ntmps18
        go_wp2_with (go_at_call 35; refine hA.mono ?_; rintro e w1 ⟨rfl, hx1⟩)
        have hx01 := hx0.trans hx1
        go_at_call 36
        refine (hWi _ hx01).mono ?_
        rintro e w2 ⟨⟨P1, c1, v2, rfl, ho1, ho2⟩, hx2⟩
        obtain ⟨P2, c2, rfl, hs2⟩ := ho2.slG elemI (by omega)
        dsimp only
        have hx02 := hx01.trans hx2
        have hck := hx2.cell (hx1.cell k0)
        obtain ⟨P1', c1', e1, hsl⟩ := SlH.of_own ho1 (by omega) (fun x hx => ⟨((hrows _ (Ext.refl w) x hx).1).ext hx02, (hrows _ (Ext.refl w) x hx).2⟩)
        injection e1 with e1 _ e2
        subst e1 e2
        go_wp2_with (fail)
        go_ret
        exact ⟨by rw [HE.out]; rfl, raw, (insT_no (by rw [HE.out]; decide)).symm, CtS.of_ext HH.out (hx02.alloc _)⟩
    | false =>
      go_enter Tryd.func18, Tryd.ntmps18
      go_wp2_with (go_at_call 35; refine hA.mono ?_; rintro e w1 ⟨rfl, hx1⟩)
      have hx01 := hx0.trans hx1
      go_at_call 36
      refine (hWi _ hx01).mono ?_
      rintro e w2 ⟨⟨P1, c1, v2, rfl, ho1, ho2⟩, hx2⟩
      obtain ⟨P2, c2, rfl, hs2⟩ := ho2.slG elemI (by omega)
      dsimp only
      have hx02 := hx01.trans hx2
      have hck := hx2.cell (hx1.cell k0)
      obtain ⟨P1', c1', e1, hsl⟩ := SlH.of_own ho1 (by omega) (fun x hx => ⟨((hrows _ (Ext.refl w) x hx).1).ext hx02, (hrows _ (Ext.refl w) x hx).2⟩)
      injection e1 with e1 _ e2
      subst e1 e2
      have hxa := (Ext.refl w2).alloc (.cells #[.slice P1 m.length c1] 32)
      have hcl := (Boxed.new w2 32 (.slice P1 m.length c1)).cell
      have hH := HHas _ P2 c2 P1 c1 w2.heap.size (hs2.ext hxa) (hsl.ext hxa) hcl (hxa.cell hck)
      have hx03 := hx02.trans hxa
      cases z with
      | true =>
          have HE := Lib.hid (show insE h (absT raw) row k false = 6 from by rw [HE1.out, if_pos (by rw [hDup]; rfl)])
          clear HE1 hDup HY hPut hCn
          go_wp2_with (go_at_call 37; refine hH.mono ?_; rintro e w4 ⟨rfl, hx4⟩)
          go_ret
          exact ⟨by rw [HE.out]; rfl, raw, (insT_no (by rw [HE.out]; decide)).symm, CtS.of_ext HH.out (hx03.trans hx4)⟩
      | false =>
          have hd : dupB (runE (absT raw) kk) row k false = false := by rw [hDup]; rfl
          by_cases hfull : 500 ≤ cntT (absT raw)
          · have HE := Lib.hid (show insE h (absT raw) row k false = 4 from by rw [HE1.out, if_neg (by rw [hd]; decide), if_pos hfull])
            have cf : (500 : Int) ≤ (cntT (absT raw) : Nat) := by omega
            clear HE1 hDup HY hPut hd hfull
            generalize (cntT (absT raw) : Nat) = cc at *
            go_wp2_with (first
              | (go_at_call 37; refine hH.mono ?_; rintro e w4 ⟨rfl, hx4⟩)
              | (go_at_call 39; refine (hCn _ (hx03.trans hx4)).mono ?_; rintro e w5 ⟨rfl, hx5⟩))
            go_ret
            exact ⟨by rw [HE.out]; rfl, raw, (insT_no (by rw [HE.out]; decide)).symm, CtS.of_ext HH.out ((hx03.trans hx4).trans hx5)⟩
          · have HYY := Lib.hid (HY hd (by omega)).out
            have cf : ¬ (500 : Int) ≤ (cntT (absT raw) : Nat) := by omega
            clear HE1 hDup HY hd hfull
            generalize (cntT (absT raw) : Nat) = cc at *
            go_wp2_with (first
              | (go_at_call 37; refine hH.mono ?_; rintro e w4 ⟨rfl, hx4⟩)
              | (go_at_call 39; refine (hCn _ (hx03.trans hx4)).mono ?_; rintro e w5 ⟨rfl, hx5⟩; have hck5 := hx5.cell (hx4.cell (hxa.cell hck)))
              | (go_at_call 40; refine (hPut _ ((hx03.trans hx4).trans hx5)).mono ?_; rintro e w6 ⟨rfl, hres⟩; have HRES := Lib.hid hres; clear hres))
            go_ret
            obtain ⟨raw', e1, e2⟩ := HRES.out
            exact ⟨by rw [HYY.out.1]; rfl, raw', by rw [e1, HYY.out.2.1, HYY.out.2.2.1], CtS.pre ((hx03.trans hx4).trans hx5) e2⟩
  · have hask' : askB row k = false := by simpa using hask
    rw [hask'] at hA
    have HE := Lib.hid (show insE h (absT raw) row k single = 1 from by unfold insE; rw [if_pos hask'])
    clear hask hask'
    go_enter Tryd.func18, Tryd.ntmps18
    go_wp2_with (go_at_call 35; refine hA.mono ?_; rintro e w1 ⟨rfl, hx1⟩)
    go_ret
    exact ⟨by rw [HE.out]; rfl, raw, (insT_no (by rw [HE.out]; decide)).symm, CtS.of_ext H (hx0.trans hx1)⟩
end
section
open Go.RowKit
set_option linter.unusedVariables false
set_option maxRecDepth 20000
set_option linter.unusedSimpArgs false
set_option linter.unusedSectionVars false
set_option maxRecDepth 100000
attribute [local go_sem] Oper.semAt_some

theorem ownsRow_headH {w : World} {base : Nat} {g n cap : Nat} {xs : List Value} (h : w.ownsRow base 36 2 (.slice (some ⟨g, 0, none⟩) n cap) n xs) (i : Nat) (hi : i ≤ n) :
    w.ownsRow base 36 2 (.slice (some ⟨g, 0, none⟩) i cap) i (xs.take (i * 2)) := by
  refine ⟨by rw [List.length_take, h.1]; omega, ?_⟩
  rcases h.2 with ⟨h', _⟩ | ⟨g', cap', cur, h', hb, hg, hnc, hcm, hcs, htake⟩
  · simp at h'
  · simp only [Value.slice.injEq, Option.some.injEq, Addr.mk.injEq, and_true, true_and] at h'
    obtain ⟨rfl, rfl⟩ := h'
    refine .inr ⟨g, cap, cur, rfl, hb, hg, by omega, hcm, hcs, ?_⟩
    rw [← htake, List.take_take]
    congr 1
    omega
def flatH (l : List HdR) : List Value := l.flatMap csHd
theorem flatH_length (l : List HdR) : (flatH l).length = l.length * 2 := flat_len elemHd.hk l
theorem flatH_take (l : List HdR) (i : Nat) : (flatH l).take (i * 2) = flatH (l.take i) := by
  induction l generalizing i with
  | nil => simp [flatH]
  | cons c l ih =>
    cases i with
    | zero => simp [flatH]
    | succ i =>
      have e : (i + 1) * 2 = i * 2 + 1 + 1 := by omega
      have h := ih i
      simp only [flatH, csHd, List.flatMap_cons, List.cons_append, List.nil_append, List.take_succ_cons, e] at h ⊢
      rw [h]
theorem flatH_drop (l : List HdR) (i : Nat) : (flatH l).drop (i * 2) = flatH (l.drop i) := by
  induction l generalizing i with
  | nil => simp [flatH]
  | cons c l ih =>
    cases i with
    | zero => simp
    | succ i =>
      have e : (i + 1) * 2 = i * 2 + 1 + 1 := by omega
      have h := ih i
      simp only [flatH, csHd, List.flatMap_cons, List.cons_append, List.nil_append, List.drop_succ_cons, e] at h ⊢
      rw [h]
/-- a cell of an owned row's block, filled or spare -/
theorem spare_some {w : World} {base : Nat} {e : TypeId} {size g n cap : Nat} {xs : List Value} (h : w.ownsRow base e size (.slice (some ⟨g, 0, none⟩) n cap) n xs) (j : Nat) (hj : j < cap * size) : (w.cell? ⟨g, j, none⟩).isSome = true := by
  rcases h.2 with ⟨h', _⟩ | ⟨g', cap', cur, h', hb, hg, hnc, hcm, hcs, htake⟩
  · simp at h'
  · simp only [Value.slice.injEq, Option.some.injEq, Addr.mk.injEq, and_true, true_and] at h'
    obtain ⟨rfl, rfl⟩ := h'
    simp [World.cell?, hg, hcs, hj]
theorem clear_one (g o c : Nat) (w : World) (x y : Value) (h1 : w.cell? ⟨g, o, none⟩ = some x) (h2 : w.cell? ⟨g, o + 1, none⟩ = some y) (f1 : w.frozen? ⟨g, o, none⟩ = false) (f2 : w.frozen? ⟨g, o + 1, none⟩ = false) :
    (Builtin.clear_ #[32] 0 #[.slice (some ⟨g, o, none⟩) 1 c]).run Tryd.prog w = .ok (.tuple #[]) ((w.setCell ⟨g, o, none⟩ (.slice none 0 0)).setCell ⟨g, o + 1, none⟩ (.int .i64 0)) := by
  unfold Builtin.clear_
  go_simp
  have e : (Builtin.zeroCells #[Value.slice none 0 0, Value.int IntKind.i64 0] 1).toList = [.slice none 0 0, .int .i64 0] := by simp [Builtin.zeroCells, Array.range]
  rw [e]
  have n1 : (⟨g, o, none⟩ : Addr) ≠ ⟨g, o + 1, none⟩ := fun h => by have := congrArg Addr.off h; simp at this
  have g2 : (w.setCell ⟨g, o, none⟩ (.slice none 0 0)).cell? ⟨g, o + 1, none⟩ = some y := by rw [World.cell?_setCell_other _ _ _ _ n1]; exact h2
  have g3 : (w.setCell ⟨g, o, none⟩ (.slice none 0 0)).frozen? ⟨g, o + 1, none⟩ = false := by rw [World.frozen?_setCell]; exact f2
  go_simp

set_option maxHeartbeats 1000000 in
theorem delete_any (L : List HdR) (g cap base : Nat) (i : Nat) (w : World) (hL : L.length ≤ 10000) (hi : i < L.length) (hown : w.ownsRow base 36 2 (.slice (some ⟨g, 0, none⟩) L.length cap) L.length (flatH L)) :
    Calls Tryd.prog 42 #[.slice (some ⟨g, 0, none⟩) L.length cap, .int .i64 i, .int .i64 (i + 1)] w fun e w' =>
      e = .returned (.slice (some ⟨g, 0, none⟩) (L.length - 1) cap) ∧ w'.ownsRow base 36 2 (.slice (some ⟨g, 0, none⟩) (L.length - 1) cap) (L.length - 1) (flatH (L.eraseIdx i)) ∧ Upd w g w' := by
  have hnc : L.length ≤ cap := by
    rcases hown.2 with ⟨h', _⟩ | ⟨g', cap', cur, h', hb, hg, hnc, _⟩
    · simp at h'
    · simp only [Value.slice.injEq, Option.some.injEq, Addr.mk.injEq, and_true, true_and] at h'
      omega
  have hcap : cap ≤ 9223372036854775807 := by
    rcases hown.2 with ⟨h', _⟩ | ⟨g', cap', cur, h', hb, hg, _, hm, _⟩
    · simp at h'
    · simp only [Value.slice.injEq, Option.some.injEq, Addr.mk.injEq, and_true, true_and] at h'
      simp only [maxLen] at hm
      omega
  have q1 : (i : Int) + 1 ≤ L.length := by omega
  have q2 : (i : Int) ≤ cap := by omega
  have q3 : (L.length : Int) ≤ cap := by omega
  have q4 : ((i : Int) + 1).toNat = i + 1 := by omega
  have q5 : (0 : Int) ≤ (i : Int) + 1 := by omega
  have q6 : (i : Int) ≤ (i : Int) + 1 := by omega
  have q7 : ¬ (i : Int) = (i : Int) + 1 := by omega
  have hh := ownsRow_headH (w := w.drew) (n := L.length) (OwnG.ext (cs := csHd) (l := L) hown ((Ext.refl w).drew)) i (by omega)
  have hdrop : ((flatH L).drop ((i + 1) * 2)).length = (L.length - (i + 1)) * 2 := by rw [flatH_drop, flatH_length, List.length_drop]
  have hrun : ∃ w1, (Builtin.append_ #[32, 32] 32 #[.slice (some ⟨g, 0, none⟩) i cap, .slice (if cap = i + 1 then some ⟨g, 0, none⟩ else some ⟨g, (i + 1) * 2, none⟩) (L.length - (i + 1)) (cap - (i + 1))]).run Tryd.prog w.drew = .ok (.slice (some ⟨g, 0, none⟩) (i + (L.length - (i + 1))) cap) w1 ∧
      w1.ownsRow base 36 2 (.slice (some ⟨g, 0, none⟩) (i + (L.length - (i + 1))) cap) (i + (L.length - (i + 1))) ((flatH L).take (i * 2) ++ (flatH L).drop ((i + 1) * 2)) ∧ w.drew.grownBy w1 (some g) := by
    obtain ⟨i0, z0, hi0, hz0, hz1, hz2, _⟩ := elemHd.info
    have hone : ∀ u ∈ (flatH L).drop ((i + 1) * 2), u.oneCell' = true := fun u hu => by
      have := List.mem_of_mem_drop hu
      obtain ⟨c, _, hc⟩ := List.mem_flatMap.1 this
      exact elemHd.one c u hc
    by_cases hc : cap = i + 1
    · rw [if_pos hc]
      have e0 : L.length - (i + 1) = 0 := by omega
      have e1 : (flatH L).drop ((i + 1) * 2) = [] := by rw [← List.length_eq_zero_iff, hdrop, e0]
      refine run_append_fits (P := Tryd.prog) _ base _ _ 36 i0 2 Tryd.underlying32 hi0 hz1 g i cap _ hh ⟨g, 0, none⟩ _ _ _ hdrop (fun j u hj => ?_) hone (by omega)
      rw [e1] at hj
      simp at hj
    · rw [if_neg hc]
      refine run_append_fits (P := Tryd.prog) _ base _ _ 36 i0 2 Tryd.underlying32 hi0 hz1 g i cap _ hh ⟨g, (i + 1) * 2, none⟩ _ _ _ hdrop (fun j u hj => ?_) hone (by omega)
      rw [List.getElem?_drop] at hj
      have hjl : (i + 1) * 2 + j < (flatH L).length := (List.getElem?_eq_some_iff.1 hj).1
      rw [flatH_length] at hjl
      have := hown.cellAt ((i + 1) * 2 + j) hjl
      rw [Go.WideShapes.add_plain]
      exact this.trans hj
  obtain ⟨w1, hrun, hown1, hgr⟩ := hrun
  have hk : ∃ k, k + 1 = L.length := ⟨L.length - 1, by omega⟩
  obtain ⟨k, hk⟩ := hk
  have ek : i + (L.length - (i + 1)) = k := by omega
  rw [ek] at hrun hown1
  have hown2 : w1.ownsRow base 36 2 (.slice (some ⟨g, 0, none⟩) k cap) k (flatH (L.eraseIdx i)) := by
    rw [flatH_take, flatH_drop] at hown1
    rw [List.eraseIdx_eq_take_drop_succ]
    have : flatH (L.take i) ++ flatH (L.drop (i + 1)) = flatH (L.take i ++ L.drop (i + 1)) := by simp [flatH]
    rw [← this]
    exact hown1
  clear hown1
  have hu1 : Upd w g w1 := (Upd.refl w g).drew.trans hgr
  have hsp : (w1.cell? ⟨g, k * 2, none⟩).isSome = true ∧ (w1.cell? ⟨g, k * 2 + 1, none⟩).isSome = true ∧ w1.frozen? ⟨g, k * 2, none⟩ = false ∧ w1.frozen? ⟨g, k * 2 + 1, none⟩ = false := by
    refine ⟨?_, ?_, hown2.frozenAt _, hown2.frozenAt _⟩ <;> exact spare_some hown2 _ (by omega)
  obtain ⟨s1, s2, f1, f2⟩ := hsp
  obtain ⟨x, s1⟩ := Option.isSome_iff_exists.1 s1
  obtain ⟨y, s2⟩ := Option.isSome_iff_exists.1 s2
  have hclr := clear_one g (k * 2) (cap - k) w1 x y s1 s2 f1 f2
  have hout : ((w1.setCell ⟨g, k * 2, none⟩ (.slice none 0 0)).setCell ⟨g, k * 2 + 1, none⟩ (.int .i64 0)).ownsRow base 36 2 (.slice (some ⟨g, 0, none⟩) k cap) k (flatH (L.eraseIdx i)) := by
    have e1 := (hown2.stored (k * 2) (.slice none 0 0)).1
    have hl := hown2.1
    rw [List.set_eq_of_length_le (by omega)] at e1
    have e2 := (e1.stored (k * 2 + 1) (.int .i64 0)).1
    rwa [List.set_eq_of_length_le (by omega)] at e2
  have q8 : (k : Int) ≤ L.length := by omega
  have q9 : ((L.length : Int)).toNat = L.length := rfl
  have q10 : L.length - k = 1 := by omega
  have q11 : ¬ cap = k := by omega
  have q12 : L.length - 1 = k := by omega
  rw [q12]
  generalize hn : L.length = n at *
  go_enter Tryd.func42, Tryd.ntmps42
  go_wp2
  go_region_law (refine wp_append_at (.tmp 22) (.tmp 25) 32 rfl (.slice (some ⟨g, 0, none⟩) i cap) (.slice (if cap = i + 1 then some ⟨g, 0, none⟩ else some ⟨g, (i + 1) * 2, none⟩) (n - (i + 1)) (cap - (i + 1))) rfl rfl hrun ?_)
  go_wp2
  all_goals (
    go_ret
    refine ⟨rfl, ?_, ?_⟩
    · first
        | exact hout
        | (rw [show i + 1 = cap from by omega]; exact hout)
    · exact (hu1.trans (Upd.setCell _ _ _ _)).trans (Upd.setCell _ _ _ _))
set_option maxHeartbeats 4000000 in
theorem cloneH_any (P : Option Addr) (cap : Nat) (l : List HdR) (w : World) (h : SlG csHd w P cap l) (h2 : l.length ≤ 100000) (h3 : P = none → cap = 0) :
    Calls Tryd.prog 61 #[.slice P l.length cap] w fun e w' => (∃ v, e = .returned v ∧ OwnG csHd 36 2 w' w.heap.size v l) ∧ Ext w w' := by
  have hlen := h.len
  have qT : ∀ (w : World) (a : Option Addr) (n c n' c' : Nat), (binOp .eql 32 (.slice a n c) (.slice none n' c')).run Tryd.prog w = .ok (.bool a.isNone) w := fun w a n c n' c' => Lib.run_eql_slice_nil w _ _ a n c n' c' Tryd.underlying32
  cases P with
  | none =>
    obtain rfl := h3 rfl
    obtain rfl : l = [] := List.length_eq_zero_iff.1 (by have := h.le; omega)
    go_enter Tryd.func61, Tryd.ntmps61
    go_wp2
    go_ret
    exact ⟨⟨_, rfl, OwnG.nil _ _ _ _ _⟩, Ext.refl _⟩
  | some ad =>
    go_enter Tryd.func61, Tryd.ntmps61
    go_wp2_with (at_builtin; refine wpList_app_G _ elemHd rfl _ _ rfl (base := w.heap.size) (l := []) rfl (OwnG.lit0 (Nat.le_refl _)) rfl (h.ext ((Ext.refl _).alloc _)) (fun h => by cases h) (by simp; omega) (by simp; omega) (by simp) ?_)
    intro v' w' ho hb
    go_wp2
    go_ret
    exact ⟨⟨_, rfl, ho⟩, below_ext ((Ext.refl _).alloc _) hb (Nat.le_refl _)⟩
end
end Go.Proofs.YtcbinafokhekmaaDoor
