/- Rings: the nth member and a member's number of the reference; a member's number of the program. -/
import Derived.Test.YthmcdlieglollaaChX3
namespace Go.Proofs.Ythmcdlieglollaa
open Go.RowKit Go.Sort Go.Maps
set_option linter.unusedVariables false
set_option linter.unusedSimpArgs false
set_option linter.unusedSectionVars false
set_option maxRecDepth 20000
attribute [local go_sem] Oper.semAt_some

set_option maxHeartbeats 4000000 in
theorem rnth_any (P : Option Addr) (cap : Nat) (l : List Lk) (o : Int) (ms : List Int) (n : Int) (hlb : l = builtF o ms) (hr : Right (o :: ms)) (w : World) (h : SlL w P cap l) (hn : OkI n) :
    Calls Try.prog 32 #[.slice P l.length cap, .int .i64 n] w fun e w' => e = .returned (.tuple #[.int .i64 (nthF ms n).1, .int .i64 (nthF ms n).2]) ∧ Ext w w' := by
  have hM := rmembersM_any P cap l w h (by rw [hlb]; exact built_okK hr)
  have hvb : validB l = true := by rw [hlb]; exact validB_built hr
  rw [show errF l = 0 from by simp [errF, hvb], show memF l = ms from by rw [hlb]; exact memF_built hr] at hM
  have hle := hr.le
  simp only [List.length_cons] at hle
  obtain ⟨hn1, hn2⟩ := hn
  clear hlb hr hvb
  have hcs : n = 0 ∨ (∃ i : Nat, i < ms.length ∧ n = i + 1) ∨ (∃ i : Nat, i < ms.length ∧ n = i - ms.length) ∨ n < -(ms.length : Int) ∨ (ms.length : Int) < n := by
    rcases nth_cases ms n with h | h | h | h | h | h
    · exact .inl h
    · exact .inr (.inl h)
    · exact .inr (.inr (.inl h))
    · omega
    · omega
    · omega
  rcases hcs with rfl | ⟨i, hi, hni⟩ | ⟨i, hi, hni⟩ | hi | hi
  · rw [nthF_0]
    go_enter Try.func32, Try.ntmps32
    go_wp2_with (go_at_call 23; refine hM.mono ?_; rintro e w1 ⟨⟨v, rfl, P2, c2, rfl, t2, q2⟩, hx1⟩)
    go_ret2
    exact ⟨rfl, hx1⟩
  · rw [nthF_pos ms _ i hi hni]
    have HI := Lib.hid hi
    have ci : (i : Int) < ms.length := by omega
    have hq1 : (n == 0) = false := by
      have : n ≠ 0 := by omega
      simpa using this
    have hq2 : 0 < n := by omega
    have hq5 : ¬ n < 0 := by omega
    have hq3 : n - 1 = (i : Int) := by omega
    have hq4 : n ≤ (ms.length : Int) := by omega
    clear hni
    go_enter Try.func32, Try.ntmps32
    go_wp2_with (go_at_call 23; refine hM.mono ?_; rintro e w1 ⟨⟨v, rfl, P2, c2, rfl, t2, q2⟩, hx1⟩; obtain ⟨b2, of2, hP2, k2⟩ := t2.intAt i HI.out; subst hP2; rw [show ms.getD i 0 = nthI ms i from rfl] at k2)
    go_ret2
    exact ⟨rfl, hx1⟩
  · rw [nthF_neg ms _ i hi hni]
    have HI := Lib.hid hi
    have ci : (i : Int) < ms.length := by omega
    have hq1 : (n == 0) = false := by
      have : n ≠ 0 := by omega
      simpa using this
    have hq2 : ¬ 0 < n := by omega
    have hq5 : n < 0 := by omega
    have hq3 : (ms.length : Int) + n = (i : Int) := by omega
    have hq4 : -(ms.length : Int) ≤ n := by omega
    clear hni
    go_enter Try.func32, Try.ntmps32
    go_wp2_with (go_at_call 23; refine hM.mono ?_; rintro e w1 ⟨⟨v, rfl, P2, c2, rfl, t2, q2⟩, hx1⟩; obtain ⟨b2, of2, hP2, k2⟩ := t2.intAt i HI.out; subst hP2; rw [show ms.getD i 0 = nthI ms i from rfl] at k2)
    go_ret2
    exact ⟨rfl, hx1⟩
  · rw [nthF_no ms n (by omega)]
    have hq1 : (n == 0) = false := by
      have : n ≠ 0 := by omega
      simpa using this
    have hq2 : ¬ 0 < n := by omega
    have hq5 : n < 0 := by omega
    have hq4 : ¬ -(ms.length : Int) ≤ n := by omega
    go_enter Try.func32, Try.ntmps32
    go_wp2_with (go_at_call 23; refine hM.mono ?_; rintro e w1 ⟨⟨v, rfl, P2, c2, rfl, t2, q2⟩, hx1⟩)
    go_ret2
    exact ⟨rfl, hx1⟩
  · rw [nthF_no ms n (by omega)]
    have hq1 : (n == 0) = false := by
      have : n ≠ 0 := by omega
      simpa using this
    have hq2 : 0 < n := by omega
    have hq5 : ¬ n < 0 := by omega
    have hq4 : ¬ n ≤ (ms.length : Int) := by omega
    go_enter Try.func32, Try.ntmps32
    go_wp2_with (go_at_call 23; refine hM.mono ?_; rintro e w1 ⟨⟨v, rfl, P2, c2, rfl, t2, q2⟩, hx1⟩)
    go_ret2
    exact ⟨rfl, hx1⟩
def plF (o : Int) (ms : List Int) (k : Int) : Int × Int := if keyB k = false then (0, 1) else if idxI (o :: ms) k < 0 then (0, 5) else (idxI (o :: ms) k, 0)
theorem pl_cases {o : Int} {ms : List Int} (hr : Right (o :: ms)) (k : Int) :
    (keyB k = false ∧ plF o ms k = (0, 1)) ∨ (keyB k = true ∧ idxI (o :: ms) k < 0 ∧ plF o ms k = (0, 5)) ∨
    ∃ i : Nat, keyB k = true ∧ i < ms.length + 1 ∧ nthI (o :: ms) i = k ∧ idxI (o :: ms) k = i ∧ idxI ms k + 1 = i ∧ plF o ms k = ((i : Int), 0) := by
  unfold plF
  cases hk : keyB k with
  | false => exact .inl ⟨rfl, by simp⟩
  | true =>
    by_cases h0 : idxI (o :: ms) k < 0
    · exact .inr (.inl ⟨rfl, h0, by simp [h0]⟩)
    · have h1 := (idxI_ge (o :: ms) k).2
      simp only [List.length_cons] at h1
      refine .inr (.inr ⟨(idxI (o :: ms) k).toNat, rfl, by omega, idxI_val _ _ (by omega), by omega, ?_, ?_⟩)
      · have hnd := hr.nodup
        rw [List.nodup_cons] at hnd
        have hg := (idxI_ge ms k).1
        have : idxI (o :: ms) k = if o = k then 0 else if idxI ms k < 0 then -1 else idxI ms k + 1 := rfl
        rw [this] at h0 ⊢
        by_cases he : o = k
        · rw [if_pos he]
          have : ¬ 0 ≤ idxI ms k := fun h => hnd.1 (by rw [he]; exact idxI_mem.1 h)
          show idxI ms k + 1 = ((0 : Int).toNat : Int)
          simp
          omega
        · rw [if_neg he] at h0 ⊢
          by_cases h2 : idxI ms k < 0
          · rw [if_pos h2] at h0; omega
          · rw [if_neg h2]; omega
      · simp only [if_neg h0]
        rw [if_neg (by simp)]
        congr 1
        omega
set_option maxHeartbeats 4000000 in
theorem place_any (P : Option Addr) (cap : Nat) (l : List Lk) (o : Int) (ms : List Int) (k : Int) (hlb : l = builtF o ms) (hr : Right (o :: ms)) (w : World) (h : SlL w P cap l) (hk : OkI k) :
    Calls Try.prog 33 #[.slice P l.length cap, .int .i64 k] w fun e w' => e = .returned (.tuple #[.int .i64 (plF o ms k).1, .int .i64 (plF o ms k).2]) ∧ Ext w w' := by
  have hV := valid_any P cap l w h (by rw [hlb]; exact built_okK hr)
  rw [show validB l = true from by rw [hlb]; exact validB_built hr] at hV
  have hK := fun W => key_any k W
  rcases pl_cases hr k with ⟨h1, h2⟩ | ⟨h1, h2, h3⟩ | ⟨i, h1, h2, h3, h4, h5, h6⟩
  · have H2 := Lib.hid h2
    rw [H2.out]
    rw [h1] at hK
    clear h1 h2 hlb
    go_enter Try.func33, Try.ntmps33
    go_wp2_with (first
      | (go_at_call 14; refine hV.mono ?_; rintro e w1 ⟨rfl, hx1⟩)
      | (go_at_call 48; refine (hK _).mono ?_; rintro e w2 ⟨rfl, rfl⟩))
    go_ret2
    exact ⟨rfl, hx1⟩
  · have hF := fun W hs => find_built P cap l o ms k hlb hr W hs hk h2
    have H2 := Lib.hid h3
    rw [H2.out]
    rw [h1] at hK
    clear h1 h2 h3 hlb
    go_enter Try.func33, Try.ntmps33
    go_wp2_with (first
      | (go_at_call 14; refine hV.mono ?_; rintro e w1 ⟨rfl, hx1⟩; have s1 := h.ext hx1)
      | (go_at_call 48; refine (hK _).mono ?_; rintro e w2 ⟨rfl, rfl⟩)
      | (go_at_call 49; refine (hF _ s1).mono ?_; rintro e w3 ⟨⟨i, rfl⟩, hx3⟩))
    go_ret2
    exact ⟨rfl, hx1.trans hx3⟩
  · have hF := fun W hs => find_place P cap l o ms k i hlb hr W hs hk h2 h3
    have hLL := fun {W} hs => listed_res P cap l o ms hlb hr (w := W) hs
    have H2 := Lib.hid h6
    rw [H2.out]
    rw [h1] at hK
    have hle := hr.le
    simp only [List.length_cons] at hle
    have hI := fun Q c W hs => index_any Q c ms k W hs
    have hz : idxI ms k = (i : Int) - 1 := by omega
    rw [hz] at hI
    have d1 : (i : Int) - 1 + 1 = i := by omega
    clear h1 h3 h6 hlb hr h4 h5 hz
    go_enter Try.func33, Try.ntmps33
    go_wp2_with (first
      | (go_at_call 14; refine hV.mono ?_; rintro e w1 ⟨rfl, hx1⟩; have s1 := h.ext hx1)
      | (go_at_call 48; refine (hK _).mono ?_; rintro e w2 ⟨rfl, rfl⟩)
      | (go_at_call 49; refine (hF _ s1).mono ?_; rintro e w3 ⟨rfl, hx3⟩; have s3 := s1.ext hx3)
      | (go_at_call 54; refine (hLL s3).mono ?_; rintro e w4 ⟨⟨P4, c4, rfl, t4, q4⟩, hx4⟩)
      | (go_at_call 63; refine (hI _ _ _ t4).mono ?_; rintro e w5 ⟨rfl, rfl⟩))
    go_ret2
    exact ⟨rfl, hx1.trans (hx3.trans hx4)⟩
set_option maxHeartbeats 4000000 in
theorem rplace_any (P : Option Addr) (cap : Nat) (l : List Lk) (o : Int) (ms : List Int) (k : Int) (hlb : l = builtF o ms) (hr : Right (o :: ms)) (w : World) (h : SlL w P cap l) (hk : OkI k) :
    Calls Try.prog 34 #[.slice P l.length cap, .int .i64 k] w fun e w' => e = .returned (.tuple #[.int .i64 (plF o ms k).1, .int .i64 (plF o ms k).2]) ∧ Ext w w' := by
  have hV := rvalid_any P cap l w h (by rw [hlb]; exact built_okK hr)
  rw [show validB l = true from by rw [hlb]; exact validB_built hr] at hV
  have hK := fun W => rkey_any k W
  rcases pl_cases hr k with ⟨h1, h2⟩ | ⟨h1, h2, h3⟩ | ⟨i, h1, h2, h3, h4, h5, h6⟩
  · have H2 := Lib.hid h2
    rw [H2.out]
    rw [h1] at hK
    clear h1 h2 hlb
    go_enter Try.func34, Try.ntmps34
    go_wp2_with (first
      | (go_at_call 22; refine hV.mono ?_; rintro e w1 ⟨rfl, hx1⟩)
      | (go_at_call 51; refine (hK _).mono ?_; rintro e w2 ⟨rfl, rfl⟩))
    go_ret2
    exact ⟨rfl, hx1⟩
  · have H2 := Lib.hid h3
    rw [H2.out]
    rw [h1] at hK
    have hle := hr.le
    simp only [List.length_cons] at hle
    have hlen : l.length = ms.length + 1 := by rw [hlb]; exact built_len o ms
    obtain ⟨b, off, hP, g3⟩ := own_cell h (by omega)
    rw [show own l = o from by rw [hlb]; exact built_own o ms] at g3
    subst hP
    have c0 : (0 : Int) < l.length := by omega
    have c0n : 0 < l.length := by omega
    have HM5 := Lib.hid (show ms.length ≤ 500 from by omega)
    have HL6 := Lib.hid (show ([o] ++ ms).length ≤ 9223372036854775807 from by simp; omega)
    have hRM := fun {W} hs => rmembers_res (some ⟨b, off, none⟩) cap l o ms hlb hr (w := W) hs
    have hix := fun {P c W} (hs : SlI W P c ([o] ++ ms)) => rindex_any P c ([o] ++ ms) k W hs
    simp only [List.cons_append, List.nil_append, List.length_cons] at hix
    have hneg : idxI (o :: ms) k < 0 := h2
    generalize idxI (o :: ms) k = z at *
    clear h1 h2 h3 hlb hr hlen hle
    go_enter Try.func34, Try.ntmps34
    go_wp2_with (first
      | (go_at_call 22; refine hV.mono ?_; rintro e w1 ⟨rfl, hx1⟩; have s1 := h.ext hx1; have g3 := hx1.cell g3)
      | (go_at_call 51; refine (hK _).mono ?_; rintro e w2 ⟨rfl, rfl⟩))
    go_region_held3 (fun w' => w'.cell? ⟨b, off + 3, none⟩ = some (.int .i64 o)) (first | go_keep | (refine Ext.cell ?_ g3; (repeat (first | exact Ext.refl _ | assumption | refine Ext.trans ?_ hx5 | refine Ext.drew ?_ | refine Ext.alloc ?_ _ | refine Ext.drewN ?_ _))))
      (first
        | (go_at_call 58; refine (hRM (s1.ext ?_)).mono ?_
           · (repeat (first | exact Ext.refl _ | assumption | refine Ext.drew ?_ | refine Ext.alloc ?_ _ | refine Ext.drewN ?_ _))
           rintro e w5 ⟨⟨P5, c5, rfl, t5, q5⟩, hx5⟩)
        | (refine step_app_G w2 elemI ?_ (.tmp 19) (.tmp 21) ?_ ?_ [o] ms ms.length P5 c5 ?_ ?_ rfl ?_ ?_ q5 ?_ ?_ ?_ ?_
           · rfl
           · rfl
           rotate_left 1
           · rfl
           · rfl
           · refine own1G (e := 3) elemI.hk o rfl ?_ ?_
             · first | (refine alloc_at _ _ _ ?_; (simp; done)) | (refine ((Ext.refl _).alloc _).heap (alloc_at _ _ _ ?_); (simp; done)) | (refine hx5.heap (alloc_at _ _ _ ?_); (simp; done))
             · first | (simp; done) | (have := hx5.size; simp at this ⊢; omega)
           · refine t5.ext ?_; (repeat (first | exact Ext.refl _ | assumption | refine Ext.drew ?_ | refine Ext.alloc ?_ _ | refine Ext.drewN ?_ _))
           · simp only [List.length_singleton]; have := HM5.out; omega
           · simp only [List.length_singleton]; have := HM5.out; omega
           · (repeat (first | exact Ext.refl _ | assumption | refine Ext.trans ?_ hx5 | refine Ext.drew ?_ | refine Ext.alloc ?_ _ | refine Ext.drewN ?_ _))
           intro v6 W6 ho6 hx6 hk6
           clear hk6
           obtain ⟨P6, c6, rfl, t6, q6⟩ := ho6.res elemI HL6.out
           clear ho6)
        | (go_at_call 64; refine (hix (t6.ext ?_)).mono ?_
           · (repeat (first | exact Ext.refl _ | assumption | refine Ext.drew ?_ | refine Ext.alloc ?_ _ | refine Ext.drewN ?_ _))
           rintro e w7 ⟨rfl, rfl⟩)
        | fail)
    all_goals
      go_wp2
      go_ret2
      exact ⟨rfl, hx1.trans hx6⟩
  · have H2 := Lib.hid h6
    rw [H2.out]
    rw [h1] at hK
    have hle := hr.le
    simp only [List.length_cons] at hle
    have hlen : l.length = ms.length + 1 := by rw [hlb]; exact built_len o ms
    obtain ⟨b, off, hP, g3⟩ := own_cell h (by omega)
    rw [show own l = o from by rw [hlb]; exact built_own o ms] at g3
    subst hP
    have c0 : (0 : Int) < l.length := by omega
    have c0n : 0 < l.length := by omega
    have HM5 := Lib.hid (show ms.length ≤ 500 from by omega)
    have HL6 := Lib.hid (show ([o] ++ ms).length ≤ 9223372036854775807 from by simp; omega)
    have hRM := fun {W} hs => rmembers_res (some ⟨b, off, none⟩) cap l o ms hlb hr (w := W) hs
    have hix := fun {P c W} (hs : SlI W P c ([o] ++ ms)) => rindex_any P c ([o] ++ ms) k W hs
    simp only [List.cons_append, List.nil_append, List.length_cons] at hix
    rw [h4] at hix
    have hneg : ¬ (i : Int) < 0 := by omega
    clear h1 h2 h3 hlb hr hlen hle h4 h5 h6
    go_enter Try.func34, Try.ntmps34
    go_wp2_with (first
      | (go_at_call 22; refine hV.mono ?_; rintro e w1 ⟨rfl, hx1⟩; have s1 := h.ext hx1; have g3 := hx1.cell g3)
      | (go_at_call 51; refine (hK _).mono ?_; rintro e w2 ⟨rfl, rfl⟩))
    go_region_held3 (fun w' => w'.cell? ⟨b, off + 3, none⟩ = some (.int .i64 o)) (first | go_keep | (refine Ext.cell ?_ g3; (repeat (first | exact Ext.refl _ | assumption | refine Ext.trans ?_ hx5 | refine Ext.drew ?_ | refine Ext.alloc ?_ _ | refine Ext.drewN ?_ _))))
      (first
        | (go_at_call 58; refine (hRM (s1.ext ?_)).mono ?_
           · (repeat (first | exact Ext.refl _ | assumption | refine Ext.drew ?_ | refine Ext.alloc ?_ _ | refine Ext.drewN ?_ _))
           rintro e w5 ⟨⟨P5, c5, rfl, t5, q5⟩, hx5⟩)
        | (refine step_app_G w2 elemI ?_ (.tmp 19) (.tmp 21) ?_ ?_ [o] ms ms.length P5 c5 ?_ ?_ rfl ?_ ?_ q5 ?_ ?_ ?_ ?_
           · rfl
           · rfl
           rotate_left 1
           · rfl
           · rfl
           · refine own1G (e := 3) elemI.hk o rfl ?_ ?_
             · first | (refine alloc_at _ _ _ ?_; (simp; done)) | (refine ((Ext.refl _).alloc _).heap (alloc_at _ _ _ ?_); (simp; done)) | (refine hx5.heap (alloc_at _ _ _ ?_); (simp; done))
             · first | (simp; done) | (have := hx5.size; simp at this ⊢; omega)
           · refine t5.ext ?_; (repeat (first | exact Ext.refl _ | assumption | refine Ext.drew ?_ | refine Ext.alloc ?_ _ | refine Ext.drewN ?_ _))
           · simp only [List.length_singleton]; have := HM5.out; omega
           · simp only [List.length_singleton]; have := HM5.out; omega
           · (repeat (first | exact Ext.refl _ | assumption | refine Ext.trans ?_ hx5 | refine Ext.drew ?_ | refine Ext.alloc ?_ _ | refine Ext.drewN ?_ _))
           intro v6 W6 ho6 hx6 hk6
           clear hk6
           obtain ⟨P6, c6, rfl, t6, q6⟩ := ho6.res elemI HL6.out
           clear ho6)
        | (go_at_call 64; refine (hix (t6.ext ?_)).mono ?_
           · (repeat (first | exact Ext.refl _ | assumption | refine Ext.drew ?_ | refine Ext.alloc ?_ _ | refine Ext.drewN ?_ _))
           rintro e w7 ⟨rfl, rfl⟩)
        | fail)
    all_goals
      go_wp2
      go_ret2
      exact ⟨rfl, hx1.trans hx6⟩
end Go.Proofs.Ythmcdlieglollaa
