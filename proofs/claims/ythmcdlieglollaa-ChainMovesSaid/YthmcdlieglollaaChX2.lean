/- Rings: the key behind or before one, of the reference. -/
import Derived.Test.YthmcdlieglollaaChX
namespace Go.Proofs.Ythmcdlieglollaa
open Go.RowKit Go.Sort Go.Maps
set_option linter.unusedVariables false
set_option linter.unusedSimpArgs false
set_option linter.unusedSectionVars false
set_option maxRecDepth 20000
attribute [local go_sem] Oper.semAt_some

/-- a block of one element is a list of the call's own -/
theorem own1G {α : Type} {cs : α → List Value} {e : TypeId} {k : Nat} (hk : ∀ x, (cs x).length = k) {W : World} {base E : Nat} (x : α) {C : Array Value} (hC : C = (cs x).toArray) (hE : W.heap[E]? = some (.cells C e (0, 0))) (hb : base ≤ E) : OwnG cs e k W base (.slice (some ⟨E, 0, none⟩) 1 1) [x] := by
  subst hC
  exact ⟨by simp [hk], .inr ⟨E, 1, (cs x).toArray, rfl, hb, hE, by simp, by simp [maxLen], by simp [hk], by simp [← hk x]⟩⟩
/-- the members of a ring, as a slice -/
theorem rmembers_res (P : Option Addr) (cap : Nat) (l : List Lk) (o : Int) (ms : List Int) (hlb : l = builtF o ms) (hr : Right (o :: ms)) {w : World} (h : SlL w P cap l) :
    Calls Try.prog 58 #[.slice P l.length cap] w fun e w' => (∃ Q c, e = .returned (.slice Q ms.length c) ∧ SlI w' Q c ms ∧ (Q = none → c = 0)) ∧ Ext w w' :=
  (rmembers_any P cap l o ms hlb hr w h).mono fun e w' ⟨⟨v, he, ho⟩, hx⟩ => by
    obtain ⟨Q, c, e2, h2, q2⟩ := ho.res elemI (by have := hr.le; simp at this; omega)
    exact ⟨⟨Q, c, by rw [he, e2], h2, q2⟩, hx⟩
set_option maxHeartbeats 4000000 in
theorem rstep_next (P : Option Addr) (cap : Nat) (l : List Lk) (o : Int) (ms : List Int) (k : Int) (hlb : l = builtF o ms) (hr : Right (o :: ms)) (w : World) (h : SlL w P cap l) (hk : OkI k) :
    Calls Try.prog 61 #[.slice P l.length cap, .int .i64 k, .int .i64 (1)] w fun e w' => e = .returned (.tuple #[.int .i64 (stepF o ms k (onF ms.length)).1, .int .i64 (stepF o ms k (onF ms.length)).2]) ∧ Ext w w' := by
  have hV := rvalid_any P cap l w h (by rw [hlb]; exact built_okK hr)
  rw [show validB l = true from by rw [hlb]; exact validB_built hr] at hV
  have hK := fun W => rkey_any k W
  rcases step_cases hr k (onF ms.length) with ⟨h1, h2⟩ | ⟨h1, h2, h3⟩ | ⟨i, h1, h2, h3, h6, h4⟩
  · have H2 := Lib.hid h2
    rw [H2.out]
    rw [h1] at hK
    clear h1 h2 hlb
    go_enter Try.func61, Try.ntmps61
    go_wp2_with (first
      | (go_at_call 22; refine hV.mono ?_; rintro e w1 ⟨rfl, hx1⟩)
      | (go_at_call 51; refine (hK _).mono ?_; rintro e w2 ⟨rfl, rfl⟩))
    go_ret2
    exact ⟨rfl, hx1⟩
  · have H2 := Lib.hid h3
    rw [H2.out]
    rw [h1] at hK
    have hle := hr.le
    simp only [List.length_cons] at hle
    have hlen : l.length = ms.length + 1 := by rw [hlb]; exact built_len o ms
    obtain ⟨b, off, hP, g3⟩ := own_cell h (by omega)
    rw [show own l = o from by rw [hlb]; exact built_own o ms] at g3
    subst hP
    have c0 : (0 : Int) < l.length := by omega
    have c0n : 0 < l.length := by omega
    have HM5 := Lib.hid (show ms.length ≤ 500 from by omega)
    have hRM := fun {W} hs => rmembers_res (some ⟨b, off, none⟩) cap l o ms hlb hr (w := W) hs
    have HI := Lib.hid h2
    have hneg : idxI (o :: ms) k < 0 := h2
    have hix := fun P c W hs => rindex_any P c (o :: ms) k W hs
    generalize idxI (o :: ms) k = z at *
    clear h1 h3 hlb hr hlen hle
    go_enter Try.func61, Try.ntmps61
    go_wp2_with (first
      | (go_at_call 22; refine hV.mono ?_; rintro e w1 ⟨rfl, hx1⟩; have s1 := h.ext hx1; have g3 := hx1.cell g3)
      | (go_at_call 51; refine (hK _).mono ?_; rintro e w2 ⟨rfl, rfl⟩))
    go_region_held3 (fun w' => w'.cell? ⟨b, off + 3, none⟩ = some (.int .i64 o)) (first | go_keep | (refine Ext.cell ?_ g3; (repeat (first | exact Ext.refl _ | assumption | refine Ext.trans ?_ hx5 | refine Ext.drew ?_ | refine Ext.alloc ?_ _ | refine Ext.drewN ?_ _))))
      (first
        | (go_at_call 58; refine (hRM (s1.ext ?_)).mono ?_
           · (repeat (first | exact Ext.refl _ | assumption | refine Ext.drew ?_ | refine Ext.alloc ?_ _ | refine Ext.drewN ?_ _))
           rintro e w5 ⟨⟨P5, c5, rfl, t5, q5⟩, hx5⟩)
        | (refine step_app_G w2 elemI ?_ (.tmp 22) (.tmp 24) ?_ ?_ [o] ms ms.length P5 c5 ?_ ?_ rfl ?_ ?_ q5 ?_ ?_ ?_ ?_
           · rfl
           · rfl
           rotate_left 1
           · rfl
           · rfl
           · refine own1G (e := 3) elemI.hk o rfl ?_ ?_
             · first | (refine alloc_at _ _ _ ?_; (simp; done)) | (refine ((Ext.refl _).alloc _).heap (alloc_at _ _ _ ?_); (simp; done)) | (refine hx5.heap (alloc_at _ _ _ ?_); (simp; done))
             · first | (simp; done) | (have := hx5.size; simp at this ⊢; omega)
           · refine t5.ext ?_; (repeat (first | exact Ext.refl _ | assumption | refine Ext.drew ?_ | refine Ext.alloc ?_ _ | refine Ext.drewN ?_ _))
           · simp only [List.length_singleton]; have := HM5.out; omega
           · simp only [List.length_singleton]; have := HM5.out; omega
           · (repeat (first | exact Ext.refl _ | assumption | refine Ext.trans ?_ hx5 | refine Ext.drew ?_ | refine Ext.alloc ?_ _ | refine Ext.drewN ?_ _))
           intro v6 W6 ho6 hx6 hk6
           clear hk6)
        | fail)
    all_goals
      obtain ⟨P6, c6, rfl, t6, q6⟩ := ho6.res elemI (by have := HM5.out; simp; omega)
      have hix6 := hix _ _ _ t6
      simp only [List.cons_append, List.nil_append] at hix6 ⊢
      go_wp2_with (go_at_call 64; refine hix6.mono ?_; rintro e w7 ⟨rfl, rfl⟩)
      go_ret2
      exact ⟨rfl, hx1.trans hx6⟩
  · rw [h1] at hK
    have hle := hr.le
    simp only [List.length_cons] at hle
    have hlen : l.length = ms.length + 1 := by rw [hlb]; exact built_len o ms
    obtain ⟨b, off, hP, g3⟩ := own_cell h (by omega)
    rw [show own l = o from by rw [hlb]; exact built_own o ms] at g3
    subst hP
    have c0 : (0 : Int) < l.length := by omega
    have c0n : 0 < l.length := by omega
    have HM5 := Lib.hid (show ms.length ≤ 500 from by omega)
    have hRM := fun {W} hs => rmembers_res (some ⟨b, off, none⟩) cap l o ms hlb hr (w := W) hs
    have d1 : IntKind.i64.wrap ((i : Int) + 1) = (i : Int) + 1 := IntWalk.i64_in _ ⟨by omega, by omega⟩
    have hm1 : (((i : Int) + 1 + (ms.length + 1))).tmod ((ms.length : Int) + 1) = ((onF ms.length i : Nat) : Int) := by
      rw [Int.tmod_eq_emod_of_nonneg (by omega)]
      unfold onF
      rw [show ((i : Int) + 1 + (ms.length + 1)) = ((i + 1 + (ms.length + 1) : Nat) : Int) from by omega, show (ms.length : Int) + 1 = ((ms.length + 1 : Nat) : Int) from by omega, ← Int.natCast_emod, Nat.add_mod_right]
    have hfl : onF ms.length i < ms.length + 1 := Nat.mod_lt _ (by omega)
    have hix := fun P c W hs => rindex_any P c (o :: ms) k W hs
    rw [h6] at hix
    have HI := Lib.hid h4
    have HIL := Lib.hid h2
    have HFL := Lib.hid hfl
    have HM1 := Lib.hid hm1
    clear h1 h3 hlb hr hlen hle h6 h4 hm1 hfl
    go_enter Try.func61, Try.ntmps61
    go_wp2_with (first
      | (go_at_call 22; refine hV.mono ?_; rintro e w1 ⟨rfl, hx1⟩; have s1 := h.ext hx1; have g3 := hx1.cell g3)
      | (go_at_call 51; refine (hK _).mono ?_; rintro e w2 ⟨rfl, rfl⟩))
    go_region_held3 (fun w' => w'.cell? ⟨b, off + 3, none⟩ = some (.int .i64 o)) (first | go_keep | (refine Ext.cell ?_ g3; (repeat (first | exact Ext.refl _ | assumption | refine Ext.trans ?_ hx5 | refine Ext.drew ?_ | refine Ext.alloc ?_ _ | refine Ext.drewN ?_ _))))
      (first
        | (go_at_call 58; refine (hRM (s1.ext ?_)).mono ?_
           · (repeat (first | exact Ext.refl _ | assumption | refine Ext.drew ?_ | refine Ext.alloc ?_ _ | refine Ext.drewN ?_ _))
           rintro e w5 ⟨⟨P5, c5, rfl, t5, q5⟩, hx5⟩)
        | (refine step_app_G w2 elemI ?_ (.tmp 22) (.tmp 24) ?_ ?_ [o] ms ms.length P5 c5 ?_ ?_ rfl ?_ ?_ q5 ?_ ?_ ?_ ?_
           · rfl
           · rfl
           rotate_left 1
           · rfl
           · rfl
           · refine own1G (e := 3) elemI.hk o rfl ?_ ?_
             · first | (refine alloc_at _ _ _ ?_; (simp; done)) | (refine ((Ext.refl _).alloc _).heap (alloc_at _ _ _ ?_); (simp; done)) | (refine hx5.heap (alloc_at _ _ _ ?_); (simp; done))
             · first | (simp; done) | (have := hx5.size; simp at this ⊢; omega)
           · refine t5.ext ?_; (repeat (first | exact Ext.refl _ | assumption | refine Ext.drew ?_ | refine Ext.alloc ?_ _ | refine Ext.drewN ?_ _))
           · simp only [List.length_singleton]; have := HM5.out; omega
           · simp only [List.length_singleton]; have := HM5.out; omega
           · (repeat (first | exact Ext.refl _ | assumption | refine Ext.trans ?_ hx5 | refine Ext.drew ?_ | refine Ext.alloc ?_ _ | refine Ext.drewN ?_ _))
           intro v6 W6 ho6 hx6 hk6
           clear hk6)
        | fail)
    all_goals
      obtain ⟨P6, c6, rfl, t6, q6⟩ := ho6.res elemI (by have := HM5.out; simp; omega)
      have hix6 := hix _ _ _ t6
      simp only [List.cons_append, List.nil_append] at hix6 ⊢ t6
      have hM5 := HM5.out
      have hIL := HIL.out
      have hm1 := HM1.out
      obtain ⟨b6, of6, hP6, k6⟩ := t6.intAt (onF ms.length i) (by simpa using HFL.out)
      subst hP6
      rw [show (o :: ms).getD (onF ms.length i) 0 = nthI (o :: ms) (onF ms.length i) from rfl] at k6
      have cf : ((onF ms.length i : Nat) : Int) < (ms.length : Int) + 1 := by have := HFL.out; omega
      have h4 := HI.out
      clear HI HFL HM1
      generalize onF ms.length i = q at *
      rcases h4 with ⟨rfl, hs⟩ | ⟨hq, hs⟩
      · have HS := Lib.hid hs
        clear hs
        simp only [Int.natCast_zero, Nat.add_zero] at hm1 cf k6
        go_wp2_with (go_at_call 64; refine hix6.mono ?_; rintro e w7 ⟨rfl, rfl⟩)
        go_ret2
        exact ⟨by rw [HS.out]; rfl, hx1.trans hx6⟩
      · have HS := Lib.hid hs
        have hq' : ((q : Int) == 0) = false := by simpa using hq
        clear hs hq
        go_wp2_with (go_at_call 64; refine hix6.mono ?_; rintro e w7 ⟨rfl, rfl⟩)
        go_ret2
        exact ⟨by rw [HS.out]; rfl, hx1.trans hx6⟩
set_option maxHeartbeats 4000000 in
theorem rstep_prior (P : Option Addr) (cap : Nat) (l : List Lk) (o : Int) (ms : List Int) (k : Int) (hlb : l = builtF o ms) (hr : Right (o :: ms)) (w : World) (h : SlL w P cap l) (hk : OkI k) :
    Calls Try.prog 61 #[.slice P l.length cap, .int .i64 k, .int .i64 (-1)] w fun e w' => e = .returned (.tuple #[.int .i64 (stepF o ms k (backF ms.length)).1, .int .i64 (stepF o ms k (backF ms.length)).2]) ∧ Ext w w' := by
  have hV := rvalid_any P cap l w h (by rw [hlb]; exact built_okK hr)
  rw [show validB l = true from by rw [hlb]; exact validB_built hr] at hV
  have hK := fun W => rkey_any k W
  rcases step_cases hr k (backF ms.length) with ⟨h1, h2⟩ | ⟨h1, h2, h3⟩ | ⟨i, h1, h2, h3, h6, h4⟩
  · have H2 := Lib.hid h2
    rw [H2.out]
    rw [h1] at hK
    clear h1 h2 hlb
    go_enter Try.func61, Try.ntmps61
    go_wp2_with (first
      | (go_at_call 22; refine hV.mono ?_; rintro e w1 ⟨rfl, hx1⟩)
      | (go_at_call 51; refine (hK _).mono ?_; rintro e w2 ⟨rfl, rfl⟩))
    go_ret2
    exact ⟨rfl, hx1⟩
  · have H2 := Lib.hid h3
    rw [H2.out]
    rw [h1] at hK
    have hle := hr.le
    simp only [List.length_cons] at hle
    have hlen : l.length = ms.length + 1 := by rw [hlb]; exact built_len o ms
    obtain ⟨b, off, hP, g3⟩ := own_cell h (by omega)
    rw [show own l = o from by rw [hlb]; exact built_own o ms] at g3
    subst hP
    have c0 : (0 : Int) < l.length := by omega
    have c0n : 0 < l.length := by omega
    have HM5 := Lib.hid (show ms.length ≤ 500 from by omega)
    have hRM := fun {W} hs => rmembers_res (some ⟨b, off, none⟩) cap l o ms hlb hr (w := W) hs
    have HI := Lib.hid h2
    have hneg : idxI (o :: ms) k < 0 := h2
    have hix := fun P c W hs => rindex_any P c (o :: ms) k W hs
    generalize idxI (o :: ms) k = z at *
    clear h1 h3 hlb hr hlen hle
    go_enter Try.func61, Try.ntmps61
    go_wp2_with (first
      | (go_at_call 22; refine hV.mono ?_; rintro e w1 ⟨rfl, hx1⟩; have s1 := h.ext hx1; have g3 := hx1.cell g3)
      | (go_at_call 51; refine (hK _).mono ?_; rintro e w2 ⟨rfl, rfl⟩))
    go_region_held3 (fun w' => w'.cell? ⟨b, off + 3, none⟩ = some (.int .i64 o)) (first | go_keep | (refine Ext.cell ?_ g3; (repeat (first | exact Ext.refl _ | assumption | refine Ext.trans ?_ hx5 | refine Ext.drew ?_ | refine Ext.alloc ?_ _ | refine Ext.drewN ?_ _))))
      (first
        | (go_at_call 58; refine (hRM (s1.ext ?_)).mono ?_
           · (repeat (first | exact Ext.refl _ | assumption | refine Ext.drew ?_ | refine Ext.alloc ?_ _ | refine Ext.drewN ?_ _))
           rintro e w5 ⟨⟨P5, c5, rfl, t5, q5⟩, hx5⟩)
        | (refine step_app_G w2 elemI ?_ (.tmp 22) (.tmp 24) ?_ ?_ [o] ms ms.length P5 c5 ?_ ?_ rfl ?_ ?_ q5 ?_ ?_ ?_ ?_
           · rfl
           · rfl
           rotate_left 1
           · rfl
           · rfl
           · refine own1G (e := 3) elemI.hk o rfl ?_ ?_
             · first | (refine alloc_at _ _ _ ?_; (simp; done)) | (refine ((Ext.refl _).alloc _).heap (alloc_at _ _ _ ?_); (simp; done)) | (refine hx5.heap (alloc_at _ _ _ ?_); (simp; done))
             · first | (simp; done) | (have := hx5.size; simp at this ⊢; omega)
           · refine t5.ext ?_; (repeat (first | exact Ext.refl _ | assumption | refine Ext.drew ?_ | refine Ext.alloc ?_ _ | refine Ext.drewN ?_ _))
           · simp only [List.length_singleton]; have := HM5.out; omega
           · simp only [List.length_singleton]; have := HM5.out; omega
           · (repeat (first | exact Ext.refl _ | assumption | refine Ext.trans ?_ hx5 | refine Ext.drew ?_ | refine Ext.alloc ?_ _ | refine Ext.drewN ?_ _))
           intro v6 W6 ho6 hx6 hk6
           clear hk6)
        | fail)
    all_goals
      obtain ⟨P6, c6, rfl, t6, q6⟩ := ho6.res elemI (by have := HM5.out; simp; omega)
      have hix6 := hix _ _ _ t6
      simp only [List.cons_append, List.nil_append] at hix6 ⊢
      go_wp2_with (go_at_call 64; refine hix6.mono ?_; rintro e w7 ⟨rfl, rfl⟩)
      go_ret2
      exact ⟨rfl, hx1.trans hx6⟩
  · rw [h1] at hK
    have hle := hr.le
    simp only [List.length_cons] at hle
    have hlen : l.length = ms.length + 1 := by rw [hlb]; exact built_len o ms
    obtain ⟨b, off, hP, g3⟩ := own_cell h (by omega)
    rw [show own l = o from by rw [hlb]; exact built_own o ms] at g3
    subst hP
    have c0 : (0 : Int) < l.length := by omega
    have c0n : 0 < l.length := by omega
    have HM5 := Lib.hid (show ms.length ≤ 500 from by omega)
    have hRM := fun {W} hs => rmembers_res (some ⟨b, off, none⟩) cap l o ms hlb hr (w := W) hs
    have hm1 : (((i : Int) + -1 + (ms.length + 1))).tmod ((ms.length : Int) + 1) = ((backF ms.length i : Nat) : Int) := by
      rw [Int.tmod_eq_emod_of_nonneg (by omega)]
      unfold backF
      rw [show ((i : Int) + -1 + (ms.length + 1)) = ((i + ms.length : Nat) : Int) from by omega, show (ms.length : Int) + 1 = ((ms.length + 1 : Nat) : Int) from by omega, ← Int.natCast_emod]
    have hfl : backF ms.length i < ms.length + 1 := Nat.mod_lt _ (by omega)
    have hix := fun P c W hs => rindex_any P c (o :: ms) k W hs
    rw [h6] at hix
    have HI := Lib.hid h4
    have HIL := Lib.hid h2
    have HFL := Lib.hid hfl
    have HM1 := Lib.hid hm1
    clear h1 h3 hlb hr hlen hle h6 h4 hm1 hfl
    go_enter Try.func61, Try.ntmps61
    go_wp2_with (first
      | (go_at_call 22; refine hV.mono ?_; rintro e w1 ⟨rfl, hx1⟩; have s1 := h.ext hx1; have g3 := hx1.cell g3)
      | (go_at_call 51; refine (hK _).mono ?_; rintro e w2 ⟨rfl, rfl⟩))
    go_region_held3 (fun w' => w'.cell? ⟨b, off + 3, none⟩ = some (.int .i64 o)) (first | go_keep | (refine Ext.cell ?_ g3; (repeat (first | exact Ext.refl _ | assumption | refine Ext.trans ?_ hx5 | refine Ext.drew ?_ | refine Ext.alloc ?_ _ | refine Ext.drewN ?_ _))))
      (first
        | (go_at_call 58; refine (hRM (s1.ext ?_)).mono ?_
           · (repeat (first | exact Ext.refl _ | assumption | refine Ext.drew ?_ | refine Ext.alloc ?_ _ | refine Ext.drewN ?_ _))
           rintro e w5 ⟨⟨P5, c5, rfl, t5, q5⟩, hx5⟩)
        | (refine step_app_G w2 elemI ?_ (.tmp 22) (.tmp 24) ?_ ?_ [o] ms ms.length P5 c5 ?_ ?_ rfl ?_ ?_ q5 ?_ ?_ ?_ ?_
           · rfl
           · rfl
           rotate_left 1
           · rfl
           · rfl
           · refine own1G (e := 3) elemI.hk o rfl ?_ ?_
             · first | (refine alloc_at _ _ _ ?_; (simp; done)) | (refine ((Ext.refl _).alloc _).heap (alloc_at _ _ _ ?_); (simp; done)) | (refine hx5.heap (alloc_at _ _ _ ?_); (simp; done))
             · first | (simp; done) | (have := hx5.size; simp at this ⊢; omega)
           · refine t5.ext ?_; (repeat (first | exact Ext.refl _ | assumption | refine Ext.drew ?_ | refine Ext.alloc ?_ _ | refine Ext.drewN ?_ _))
           · simp only [List.length_singleton]; have := HM5.out; omega
           · simp only [List.length_singleton]; have := HM5.out; omega
           · (repeat (first | exact Ext.refl _ | assumption | refine Ext.trans ?_ hx5 | refine Ext.drew ?_ | refine Ext.alloc ?_ _ | refine Ext.drewN ?_ _))
           intro v6 W6 ho6 hx6 hk6
           clear hk6)
        | fail)
    all_goals
      obtain ⟨P6, c6, rfl, t6, q6⟩ := ho6.res elemI (by have := HM5.out; simp; omega)
      have hix6 := hix _ _ _ t6
      simp only [List.cons_append, List.nil_append] at hix6 ⊢ t6
      have hM5 := HM5.out
      have hIL := HIL.out
      have hm1 := HM1.out
      obtain ⟨b6, of6, hP6, k6⟩ := t6.intAt (backF ms.length i) (by simpa using HFL.out)
      subst hP6
      rw [show (o :: ms).getD (backF ms.length i) 0 = nthI (o :: ms) (backF ms.length i) from rfl] at k6
      have cf : ((backF ms.length i : Nat) : Int) < (ms.length : Int) + 1 := by have := HFL.out; omega
      have h4 := HI.out
      clear HI HFL HM1
      generalize backF ms.length i = q at *
      rcases h4 with ⟨rfl, hs⟩ | ⟨hq, hs⟩
      · have HS := Lib.hid hs
        clear hs
        simp only [Int.natCast_zero, Nat.add_zero] at hm1 cf k6
        go_wp2_with (go_at_call 64; refine hix6.mono ?_; rintro e w7 ⟨rfl, rfl⟩)
        go_ret2
        exact ⟨by rw [HS.out]; rfl, hx1.trans hx6⟩
      · have HS := Lib.hid hs
        have hq' : ((q : Int) == 0) = false := by simpa using hq
        clear hs hq
        go_wp2_with (go_at_call 64; refine hix6.mono ?_; rintro e w7 ⟨rfl, rfl⟩)
        go_ret2
        exact ⟨by rw [HS.out]; rfl, hx1.trans hx6⟩
theorem rnext_any (P : Option Addr) (cap : Nat) (l : List Lk) (o : Int) (ms : List Int) (k : Int) (hlb : l = builtF o ms) (hr : Right (o :: ms)) (w : World) (h : SlL w P cap l) (hk : OkI k) :
    Calls Try.prog 28 #[.slice P l.length cap, .int .i64 k] w fun e w' => e = .returned (.tuple #[.int .i64 (stepF o ms k (onF ms.length)).1, .int .i64 (stepF o ms k (onF ms.length)).2]) ∧ Ext w w' := by
  have hS := rstep_next P cap l o ms k hlb hr w h hk
  generalize stepF o ms k (onF ms.length) = r at *
  clear hlb
  go_enter Try.func28, Try.ntmps28
  go_wp2_with (go_at_call 61; refine hS.mono ?_; rintro e w1 ⟨rfl, hx1⟩)
  go_ret2
  exact ⟨rfl, hx1⟩
theorem rprior_any (P : Option Addr) (cap : Nat) (l : List Lk) (o : Int) (ms : List Int) (k : Int) (hlb : l = builtF o ms) (hr : Right (o :: ms)) (w : World) (h : SlL w P cap l) (hk : OkI k) :
    Calls Try.prog 30 #[.slice P l.length cap, .int .i64 k] w fun e w' => e = .returned (.tuple #[.int .i64 (stepF o ms k (backF ms.length)).1, .int .i64 (stepF o ms k (backF ms.length)).2]) ∧ Ext w w' := by
  have hS := rstep_prior P cap l o ms k hlb hr w h hk
  generalize stepF o ms k (backF ms.length) = r at *
  clear hlb
  go_enter Try.func30, Try.ntmps30
  go_wp2_with (go_at_call 61; refine hS.mono ?_; rintro e w1 ⟨rfl, hx1⟩)
  go_ret2
  exact ⟨rfl, hx1⟩
end Go.Proofs.Ythmcdlieglollaa
