/- Rings: a member put in, taken out, by the reference. -/
import Derived.Test.YthmcdlieglollaaChC3
import Derived.Test.YthmcdlieglollaaChX4
namespace Go.Proofs.Ythmcdlieglollaa
open Go.RowKit Go.Sort Go.Maps
set_option linter.unusedVariables false
set_option linter.unusedSimpArgs false
set_option linter.unusedSectionVars false
set_option maxRecDepth 20000
attribute [local go_sem] Oper.semAt_some

theorem remF_snoc (l : List Int) (k x : Int) : remF (l ++ [x]) k = if x = k then remF l k else remF l k ++ [x] := by
  unfold remF
  rw [List.filter_append]
  by_cases h : x = k
  · simp [h]
  · simp [h]
set_option maxHeartbeats 4000000 in
theorem rwithout_any (P : Option Addr) (cap : Nat) (l : List Int) (k : Int) {w : World} (h : SlI w P cap l) (hn : l.length ≤ 1000) :
    Calls Try.prog 69 #[.slice P l.length cap, .int .i64 k] w fun e w' => (∃ v, e = .returned v ∧ OwnI w' w.heap.size v (remF l k)) ∧ Ext w w' := by
  go_enter Try.func69, Try.ntmps69
  go_wp2
  go_loopw [6, 5] (fun i v wr => ∃ q : Nat, q ≤ l.length ∧ i = .int .i64 q ∧ OwnI wr w.heap.size v (remF (l.take q) k) ∧ Ext w wr) (fun i _ _ => l.length - (intOf i).toNat)
  case atStart => exact ⟨0, by omega, rfl, OwnG.nil _ _ _ _ _, Ext.refl _⟩
  case round =>
    obtain ⟨q, hk, rfl, hown, hx⟩ := hrel
    by_cases hlt : q < l.length
    · obtain ⟨b, off, hP, g0⟩ := (h.ext hx).intAt q hlt
      rw [show l.getD q 0 = nthI l q from rfl] at g0
      subst hP
      have c1 : (q : Int) < l.length := by omega
      have d1 : IntKind.i64.wrap ((q : Int) + 1) = (q : Int) + 1 := IntWalk.i64_in _ ⟨by omega, by omega⟩
      have hsn := remF_snoc (l.take q) k (nthI l q)
      rw [← ins_take hlt] at hsn
      have HTL := Lib.hid (show (remF (l.take q) k).length ≤ 1000 from by
        have := List.length_filter_le (fun x => decide (x ≠ k)) (l.take q)
        rw [List.length_take] at this
        unfold remF
        omega)
      have HO := Lib.hid hown
      clear hown
      by_cases he : nthI l q = k
      · rw [if_pos he] at hsn
        have HS := Lib.hid hsn
        have he' : (nthI l q != k) = false := by simpa using he
        clear hsn he
        generalize nthI l q = x at *
        go_wp2
        go_roundw
        case rel => exact ⟨q + 1, by omega, by go_num, by rw [HS.out]; exact HO.out, hx⟩
        case measure => simp [intOf]; omega
      · rw [if_neg he] at hsn
        have HS := Lib.hid hsn
        have he' : (nthI l q != k) = true := by simpa using he
        clear hsn he
        generalize nthI l q = x at *
        go_wp2_with (at_builtin; refine wpList_app_G _ elemI rfl _ _ rfl (base := w.heap.size) rfl (HO.out.ext ((Ext.refl _).alloc _)) (m := [x]) rfl (SlG.one elemI.hk _ ?c1 ?c2) ?c3 ?c4 ?c5 ?c6 ?_)
        case c1 => rfl
        all_goals first
          | (intro e; cases e; done)
          | (have := HTL.out; have := hx.size; omega; done)
          | (have := HTL.out; have := hx.size; simp; omega; done)
          | skip
        intro v' w3 hown' hbl
        have hx3 : Ext w w3 := below_ext (hx.alloc _) hbl (Nat.le_refl _)
        go_wp2
        go_roundw
        case rel => exact ⟨q + 1, by omega, by go_num, by rw [HS.out]; exact hown', hx3⟩
        case measure => simp [intOf]; omega
    · obtain rfl : q = l.length := by omega
      rw [List.take_length] at hown
      go_wp2
      go_ret
      exact ⟨⟨_, rfl, hown⟩, hx⟩
def FormG (P : Option Addr) (cap : Nat) (l : List Int) : Prop := (P = none ∧ cap = 0 ∧ l = []) ∨ ∃ g, P = some ⟨g, 0, none⟩
theorem FormG.nil_cap {P : Option Addr} {cap : Nat} {l : List Int} (h : FormG P cap l) : P = none → cap = 0 := fun e => by
  rcases h with ⟨_, h, _⟩ | ⟨g, h⟩
  · exact h
  · rw [e] at h; cases h
theorem own_form {w : World} {base : Nat} {v : Value} {l : List Int} (h : OwnI w base v l) (hl : l.length ≤ 100000) : ∃ P cap, v = .slice P l.length cap ∧ SlI w P cap l ∧ FormG P cap l := by
  have h2 : w.ownsRow base 3 1 v l.length (l.flatMap fun x => [Value.int .i64 x]) := h
  rcases h2.2 with ⟨rfl, h0⟩ | ⟨g, cap, cur, rfl, _⟩
  · have : l = [] := List.length_eq_zero_iff.1 h0
    subst this
    exact ⟨none, 0, rfl, SlG.nil _ _, .inl ⟨rfl, rfl, rfl⟩⟩
  · obtain ⟨P, c, e, hs⟩ := h.slG elemI (by omega)
    injection e with e1 _ e3
    subst e1 e3
    exact ⟨_, _, rfl, hs, .inr ⟨g, rfl⟩⟩
theorem rmembers_form (P : Option Addr) (cap : Nat) (l : List Lk) (o : Int) (ms : List Int) (hlb : l = builtF o ms) (hr : Right (o :: ms)) {w : World} (h : SlL w P cap l) :
    Calls Try.prog 58 #[.slice P l.length cap] w fun e w' => (∃ Q c, e = .returned (.slice Q ms.length c) ∧ SlI w' Q c ms ∧ FormG Q c ms) ∧ Ext w w' :=
  (rmembers_any P cap l o ms hlb hr w h).mono fun e w' ⟨⟨v, he, ho⟩, hx⟩ => by
    obtain ⟨Q, c, e2, h2, q2⟩ := own_form ho (by have := hr.le; simp at this; omega)
    exact ⟨⟨Q, c, by rw [he, e2], h2, q2⟩, hx⟩
theorem rwithout_form (P : Option Addr) (cap : Nat) (l : List Int) (k : Int) {w : World} (h : SlI w P cap l) (hn : l.length ≤ 1000) :
    Calls Try.prog 69 #[.slice P l.length cap, .int .i64 k] w fun e w' => (∃ Q c, e = .returned (.slice Q (remF l k).length c) ∧ SlI w' Q c (remF l k) ∧ FormG Q c (remF l k)) ∧ Ext w w' :=
  (rwithout_any P cap l k h hn).mono fun e w' ⟨⟨v, he, ho⟩, hx⟩ => by
    obtain ⟨Q, c, e2, h2, q2⟩ := own_form ho (by have := List.length_filter_le (fun x => decide (x ≠ k)) l; unfold remF; omega)
    exact ⟨⟨Q, c, by rw [he, e2], h2, q2⟩, hx⟩
set_option maxHeartbeats 4000000 in
theorem rput_any (P : Option Addr) (cap : Nat) (o : Int) (ms : List Int) (a k : Int) {w1 : World} (h : SlI w1 P cap ms) (hP : FormG P cap ms) (hn : ms.length ≤ 1000) (hao : a = o → idxI ms a = -1) :
    Calls Try.prog 66 #[.int .i64 o, .slice P ms.length cap, .int .i64 a, .int .i64 k] w1 fun e w' => (∃ v, e = .returned v ∧ OwnI w' w1.heap.size v (insF ms a k)) ∧ Ext w1 w' := by
  have hIx := rindex_any P cap ms a w1 h
  obtain ⟨i, hi, hz, hins⟩ := insF_at ms a k
  have hz1 : idxI ms a = (i : Int) - 1 := by omega
  rw [hz1] at hIx
  have hq : (i : Int) - 1 + 1 = i := by omega
  have hcase : (a = o ∧ i = 0) ∨ a ≠ o := by
    by_cases e : a = o
    · exact .inl ⟨e, by have := hao e; omega⟩
    · exact .inr e
  have HINS := Lib.hid (show insF ms a k = ms.take i ++ [k] ++ ms.drop i from by rw [hins]; simp)
  rw [HINS.out]
  clear hz1 hz hins hao
  have e1 : (ms.take i).length = i := by rw [List.length_take]; omega
  have e2 : (ms.drop i).length = ms.length - i := List.length_drop
  have E1 := Lib.hid e1
  have E2 := Lib.hid e2
  clear e1 e2
  have hle := h.le
  have hcp := h.cap
  have t1 := h.takes i
  have w0 : IntKind.i64.wrap (i : Int) = (i : Int) := IntWalk.i64_in _ ⟨by omega, by omega⟩
  rcases hP with ⟨rfl, rfl, rfl⟩ | ⟨g, rfl⟩
  · obtain rfl : i = 0 := by simpa using hi
    have t2 : SlI w1 none 0 (([] : List Int).drop 0) := SlG.nil _ _
    have HIX := Lib.hid hIx
    clear hIx hq w0
    rcases hcase with ⟨rfl, _⟩ | hne
    · go_enter Try.func66, Try.ntmps66
      go_wp2
      go_region_held3 (fun _ => True) (exact trivial)
        (first
          | (refine step_app_freshG w1 elemI ?_ (.tmp 17) (.tmp 20) ?_ ?_ (([] : List Int).take 0) 0 none 0 ?_ ?_ E1.out ?_ ?_ (t1.ext ?_) (fun _ => rfl) ?_ ?_ ?_ ?_
             · rfl
             · rfl
             rotate_left 1
             · rfl
             · rfl
             · (first | (refine alloc_at _ _ _ ?_; (simp; done)) | (refine ((Ext.refl _).alloc _).heap (alloc_at _ _ _ ?_); (simp; done)))
             · (simp; done)
             · (repeat (first | exact Ext.refl _ | assumption | refine Ext.drew ?_ | refine Ext.alloc ?_ _ | refine Ext.drewN ?_ _))
             · omega
             · omega
             · (repeat (first | exact Ext.refl _ | assumption | refine Ext.drew ?_ | refine Ext.alloc ?_ _ | refine Ext.drewN ?_ _))
             intro v2 W2 ho2 hx2 hk2)
          | (refine step_app_G w1 elemI ?_ (.tmp 21) (.tmp 23) ?_ ?_ (([] : List Int).take 0) [k] 1 (some ⟨?_, 0, none⟩) 1 ?_ ?_ rfl ?_ ?_ (fun e => by cases e) ?_ ?_ ?_ ?_
             · rfl
             · rfl
             rotate_left 2
             · rfl
             · rfl
             · first | exact ho2 | exact ho2.ext ((Ext.refl _).alloc _)
             · refine SlG.block1 (e := 3) elemI.hk k rfl ?_; first | (first | (refine alloc_at _ _ _ ?_; (simp; done)) | (refine ((Ext.refl _).alloc _).heap (alloc_at _ _ _ ?_); (simp; done))) | (refine grown_heap hk2 ?_ ?_ <;> first | (first | (refine alloc_at _ _ _ ?_; (simp; done)) | (refine ((Ext.refl _).alloc _).heap (alloc_at _ _ _ ?_); (simp; done))) | (intro e; injection e; omega))
             · rw [E1.out]; omega
             · rw [E1.out]; omega
             · (repeat (first | exact Ext.refl _ | assumption | refine Ext.drew ?_ | refine Ext.alloc ?_ _ | refine Ext.drewN ?_ _))
             intro v3 W3 ho3 hx3 hk3
             clear hk2 hk3)
          | (refine step_app_G w1 elemI ?_ (.tmp 24) (.tmp 27) ?_ ?_ (([] : List Int).take 0 ++ [k]) (([] : List Int).drop 0) (([] : List Int).length - 0) none 0 ?_ ?_ E2.out ?_ (t2.ext ?_) (fun _ => rfl) ?_ ?_ ?_ ?_
             · rfl
             · rfl
             rotate_left 1
             · rfl
             · rfl
             · exact ho3
             · (repeat (first | exact Ext.refl _ | assumption | refine Ext.drew ?_ | refine Ext.alloc ?_ _ | refine Ext.drewN ?_ _))
             · rw [List.length_append, E1.out]; simp only [List.length_cons, List.length_nil]; omega
             · rw [List.length_append, E1.out]; simp only [List.length_cons, List.length_nil]; omega
             · (repeat (first | exact Ext.refl _ | assumption | refine Ext.drew ?_ | refine Ext.alloc ?_ _ | refine Ext.drewN ?_ _))
             intro v4 W4 ho4 hx4 hk4
             clear hk4)
          | fail)
      all_goals
        try clear ho3 hx3 ho2 hx2
        go_wp2
        go_ret
        exact ⟨⟨_, rfl, ho4⟩, hx4⟩
    · have hne' : (a != o) = true := by simpa using hne
      clear hne
      have hIx2 : Calls Try.prog 64 #[.slice none 0 0, .int .i64 a] w1 fun e w' => e = .returned (.int .i64 (-1)) ∧ w' = w1 := HIX.out
      go_enter Try.func66, Try.ntmps66
      go_wp2_with (go_at_call 64; refine hIx2.mono ?_; rintro e w2 ⟨rfl, rfl⟩)
      go_region_held3 (fun _ => True) (exact trivial)
        (first
          | (refine step_app_freshG w2 elemI ?_ (.tmp 17) (.tmp 20) ?_ ?_ (([] : List Int).take 0) 0 none 0 ?_ ?_ E1.out ?_ ?_ (t1.ext ?_) (fun _ => rfl) ?_ ?_ ?_ ?_
             · rfl
             · rfl
             rotate_left 1
             · rfl
             · rfl
             · (first | (refine alloc_at _ _ _ ?_; (simp; done)) | (refine ((Ext.refl _).alloc _).heap (alloc_at _ _ _ ?_); (simp; done)))
             · (simp; done)
             · (repeat (first | exact Ext.refl _ | assumption | refine Ext.drew ?_ | refine Ext.alloc ?_ _ | refine Ext.drewN ?_ _))
             · omega
             · omega
             · (repeat (first | exact Ext.refl _ | assumption | refine Ext.drew ?_ | refine Ext.alloc ?_ _ | refine Ext.drewN ?_ _))
             intro v2 W2 ho2 hx2 hk2)
          | (refine step_app_G w2 elemI ?_ (.tmp 21) (.tmp 23) ?_ ?_ (([] : List Int).take 0) [k] 1 (some ⟨?_, 0, none⟩) 1 ?_ ?_ rfl ?_ ?_ (fun e => by cases e) ?_ ?_ ?_ ?_
             · rfl
             · rfl
             rotate_left 2
             · rfl
             · rfl
             · first | exact ho2 | exact ho2.ext ((Ext.refl _).alloc _)
             · refine SlG.block1 (e := 3) elemI.hk k rfl ?_; first | (first | (refine alloc_at _ _ _ ?_; (simp; done)) | (refine ((Ext.refl _).alloc _).heap (alloc_at _ _ _ ?_); (simp; done))) | (refine grown_heap hk2 ?_ ?_ <;> first | (first | (refine alloc_at _ _ _ ?_; (simp; done)) | (refine ((Ext.refl _).alloc _).heap (alloc_at _ _ _ ?_); (simp; done))) | (intro e; injection e; omega))
             · rw [E1.out]; omega
             · rw [E1.out]; omega
             · (repeat (first | exact Ext.refl _ | assumption | refine Ext.drew ?_ | refine Ext.alloc ?_ _ | refine Ext.drewN ?_ _))
             intro v3 W3 ho3 hx3 hk3
             clear hk2 hk3)
          | (refine step_app_G w2 elemI ?_ (.tmp 24) (.tmp 27) ?_ ?_ (([] : List Int).take 0 ++ [k]) (([] : List Int).drop 0) (([] : List Int).length - 0) none 0 ?_ ?_ E2.out ?_ (t2.ext ?_) (fun _ => rfl) ?_ ?_ ?_ ?_
             · rfl
             · rfl
             rotate_left 1
             · rfl
             · rfl
             · exact ho3
             · (repeat (first | exact Ext.refl _ | assumption | refine Ext.drew ?_ | refine Ext.alloc ?_ _ | refine Ext.drewN ?_ _))
             · rw [List.length_append, E1.out]; simp only [List.length_cons, List.length_nil]; omega
             · rw [List.length_append, E1.out]; simp only [List.length_cons, List.length_nil]; omega
             · (repeat (first | exact Ext.refl _ | assumption | refine Ext.drew ?_ | refine Ext.alloc ?_ _ | refine Ext.drewN ?_ _))
             intro v4 W4 ho4 hx4 hk4
             clear hk4)
          | fail)
      all_goals
        try clear ho3 hx3 ho2 hx2
        go_wp2
        go_ret
        exact ⟨⟨_, rfl, ho4⟩, hx4⟩
  · have hca : (i : Int) ≤ cap := by omega
    have hcb : (i : Int) ≤ ms.length := by omega
    have s1 := slice_fromG g 0 ms.length cap i 1 hi hle 22 (by kernel_rfl) (by kernel_rfl)
    have t2 := h.from elemI.hk i hi
    generalize hoff : (if cap = i then 0 else 0 + i * 1) = off3 at *
    clear hoff
    rcases hcase with ⟨rfl, rfl⟩ | hne
    · clear hIx hq w0
      simp only [Int.natCast_zero] at s1 hca hcb
      go_enter Try.func66, Try.ntmps66
      go_wp2
      go_region_held3 (fun _ => True) (exact trivial)
        (first
          | (refine step_app_freshG w1 elemI ?_ (.tmp 17) (.tmp 20) ?_ ?_ (ms.take 0) 0 (some ⟨g, 0, none⟩) cap ?_ ?_ E1.out ?_ ?_ (t1.ext ?_) (fun e => by cases e) ?_ ?_ ?_ ?_
             · rfl
             · rfl
             rotate_left 1
             · rfl
             · rfl
             · (first | (refine alloc_at _ _ _ ?_; (simp; done)) | (refine ((Ext.refl _).alloc _).heap (alloc_at _ _ _ ?_); (simp; done)))
             · (simp; done)
             · (repeat (first | exact Ext.refl _ | assumption | refine Ext.drew ?_ | refine Ext.alloc ?_ _ | refine Ext.drewN ?_ _))
             · omega
             · omega
             · (repeat (first | exact Ext.refl _ | assumption | refine Ext.drew ?_ | refine Ext.alloc ?_ _ | refine Ext.drewN ?_ _))
             intro v2 W2 ho2 hx2 hk2)
          | (refine step_app_G w1 elemI ?_ (.tmp 21) (.tmp 23) ?_ ?_ (ms.take 0) [k] 1 (some ⟨?_, 0, none⟩) 1 ?_ ?_ rfl ?_ ?_ (fun e => by cases e) ?_ ?_ ?_ ?_
             · rfl
             · rfl
             rotate_left 2
             · rfl
             · rfl
             · first | exact ho2 | exact ho2.ext ((Ext.refl _).alloc _)
             · refine SlG.block1 (e := 3) elemI.hk k rfl ?_; first | (first | (refine alloc_at _ _ _ ?_; (simp; done)) | (refine ((Ext.refl _).alloc _).heap (alloc_at _ _ _ ?_); (simp; done))) | (refine grown_heap hk2 ?_ ?_ <;> first | (first | (refine alloc_at _ _ _ ?_; (simp; done)) | (refine ((Ext.refl _).alloc _).heap (alloc_at _ _ _ ?_); (simp; done))) | (intro e; injection e; omega))
             · rw [E1.out]; omega
             · rw [E1.out]; omega
             · (repeat (first | exact Ext.refl _ | assumption | refine Ext.drew ?_ | refine Ext.alloc ?_ _ | refine Ext.drewN ?_ _))
             intro v3 W3 ho3 hx3 hk3
             clear hk2 hk3)
          | (refine step_app_G w1 elemI ?_ (.tmp 24) (.tmp 27) ?_ ?_ (ms.take 0 ++ [k]) (ms.drop 0) (ms.length - 0) (some ⟨g, off3, none⟩) (cap - 0) ?_ ?_ E2.out ?_ (t2.ext ?_) (fun e => by cases e) ?_ ?_ ?_ ?_
             · rfl
             · rfl
             rotate_left 1
             · rfl
             · rfl
             · exact ho3
             · (repeat (first | exact Ext.refl _ | assumption | refine Ext.drew ?_ | refine Ext.alloc ?_ _ | refine Ext.drewN ?_ _))
             · rw [List.length_append, E1.out]; simp only [List.length_cons, List.length_nil]; omega
             · rw [List.length_append, E1.out]; simp only [List.length_cons, List.length_nil]; omega
             · (repeat (first | exact Ext.refl _ | assumption | refine Ext.drew ?_ | refine Ext.alloc ?_ _ | refine Ext.drewN ?_ _))
             intro v4 W4 ho4 hx4 hk4
             clear hk4)
          | fail)
      all_goals
        try clear ho3 hx3 ho2 hx2
        go_wp2
        go_ret
        exact ⟨⟨_, rfl, ho4⟩, hx4⟩
    · have hne' : (a != o) = true := by simpa using hne
      clear hne
      go_enter Try.func66, Try.ntmps66
      go_wp2_with (go_at_call 64; refine hIx.mono ?_; rintro e w2 ⟨rfl, rfl⟩)
      go_region_held3 (fun _ => True) (exact trivial)
        (first
          | (refine step_app_freshG w2 elemI ?_ (.tmp 17) (.tmp 20) ?_ ?_ (ms.take i) i (some ⟨g, 0, none⟩) cap ?_ ?_ E1.out ?_ ?_ (t1.ext ?_) (fun e => by cases e) ?_ ?_ ?_ ?_
             · rfl
             · rfl
             rotate_left 1
             · rfl
             · rfl
             · (first | (refine alloc_at _ _ _ ?_; (simp; done)) | (refine ((Ext.refl _).alloc _).heap (alloc_at _ _ _ ?_); (simp; done)))
             · (simp; done)
             · (repeat (first | exact Ext.refl _ | assumption | refine Ext.drew ?_ | refine Ext.alloc ?_ _ | refine Ext.drewN ?_ _))
             · omega
             · omega
             · (repeat (first | exact Ext.refl _ | assumption | refine Ext.drew ?_ | refine Ext.alloc ?_ _ | refine Ext.drewN ?_ _))
             intro v2 W2 ho2 hx2 hk2)
          | (refine step_app_G w2 elemI ?_ (.tmp 21) (.tmp 23) ?_ ?_ (ms.take i) [k] 1 (some ⟨?_, 0, none⟩) 1 ?_ ?_ rfl ?_ ?_ (fun e => by cases e) ?_ ?_ ?_ ?_
             · rfl
             · rfl
             rotate_left 2
             · rfl
             · rfl
             · first | exact ho2 | exact ho2.ext ((Ext.refl _).alloc _)
             · refine SlG.block1 (e := 3) elemI.hk k rfl ?_; first | (first | (refine alloc_at _ _ _ ?_; (simp; done)) | (refine ((Ext.refl _).alloc _).heap (alloc_at _ _ _ ?_); (simp; done))) | (refine grown_heap hk2 ?_ ?_ <;> first | (first | (refine alloc_at _ _ _ ?_; (simp; done)) | (refine ((Ext.refl _).alloc _).heap (alloc_at _ _ _ ?_); (simp; done))) | (intro e; injection e; omega))
             · rw [E1.out]; omega
             · rw [E1.out]; omega
             · (repeat (first | exact Ext.refl _ | assumption | refine Ext.drew ?_ | refine Ext.alloc ?_ _ | refine Ext.drewN ?_ _))
             intro v3 W3 ho3 hx3 hk3
             clear hk2 hk3)
          | (refine step_app_G w2 elemI ?_ (.tmp 24) (.tmp 27) ?_ ?_ (ms.take i ++ [k]) (ms.drop i) (ms.length - i) (some ⟨g, off3, none⟩) (cap - i) ?_ ?_ E2.out ?_ (t2.ext ?_) (fun e => by cases e) ?_ ?_ ?_ ?_
             · rfl
             · rfl
             rotate_left 1
             · rfl
             · rfl
             · exact ho3
             · (repeat (first | exact Ext.refl _ | assumption | refine Ext.drew ?_ | refine Ext.alloc ?_ _ | refine Ext.drewN ?_ _))
             · rw [List.length_append, E1.out]; simp only [List.length_cons, List.length_nil]; omega
             · rw [List.length_append, E1.out]; simp only [List.length_cons, List.length_nil]; omega
             · (repeat (first | exact Ext.refl _ | assumption | refine Ext.drew ?_ | refine Ext.alloc ?_ _ | refine Ext.drewN ?_ _))
             intro v4 W4 ho4 hx4 hk4
             clear hk4)
          | fail)
      all_goals
        try clear ho3 hx3 ho2 hx2
        go_wp2
        go_ret
        exact ⟨⟨_, rfl, ho4⟩, hx4⟩
end Go.Proofs.Ythmcdlieglollaa
