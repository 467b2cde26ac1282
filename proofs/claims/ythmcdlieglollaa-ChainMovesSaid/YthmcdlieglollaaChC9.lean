/- Rings: the law of ChainChanges. -/
import Derived.Test.YthmcdlieglollaaChC8
namespace Go.Proofs.Ythmcdlieglollaa
open Go.RowKit Go.Sort Go.Maps
set_option linter.unusedVariables false
set_option linter.unusedSimpArgs false
set_option linter.unusedSectionVars false
set_option maxRecDepth 20000
attribute [local go_sem] Oper.semAt_some

theorem ins_ok {o : Int} {ms : List Int} {a k : Int} (hr : Right (o :: ms)) (hn : ms.length ≤ 120) (h : insE o ms a k = 0) :
    Right (o :: insF ms a k) ∧ insL o ms a k = builtF o (insF ms a k) ∧ remE o (insF ms a k) k = 0 ∧ remL o (insF ms a k) k = builtF o ms ∧ chgF (builtF o ms) (builtF o (insF ms a k)) ≤ 3 := by
  rcases ins_cases o ms a k with ⟨_, he, _⟩ | ⟨_, _, he, _⟩ | ⟨_, _, _, he, _⟩ | ⟨i, j, _, _, _, _, _, _, he, _⟩ | ⟨i, h1, h2, h3, h4, h5, he, hl⟩
  · omega
  · omega
  · omega
  · omega
  · have hk := not_round h5
    have hr2 := right_ins (a := a) hr h2 hk (by omega)
    have hkm : k ∉ ms := fun hm => hk (List.mem_cons_of_mem _ hm)
    have hko : k ≠ o := fun e => hk (by rw [e]; exact List.mem_cons_self ..)
    have hin : k ∈ o :: insF ms a k := List.mem_cons_of_mem _ ((insF_perm ms a k).mem_iff.2 (List.mem_cons_self ..))
    have hix := idxI_mem.2 hin
    have he2 : remE o (insF ms a k) k = 0 := by
      unfold remE
      rw [h2, if_neg (by simp), if_neg (by omega), if_neg hko]
    exact ⟨hr2, hl, he2, by unfold remL; rw [if_pos he2, remF_ins hkm], chg_ins hr h2 hk (by omega)⟩
theorem rem_ok {o : Int} {ms : List Int} {k : Int} (hr : Right (o :: ms)) (h : remE o ms k = 0) : remL o ms k = builtF o (remF ms k) ∧ chgF (builtF o ms) (builtF o (remF ms k)) ≤ 3 := by
  rcases rem_cases o ms k with ⟨_, he, _⟩ | ⟨_, _, he, _⟩ | ⟨_, _, he, _⟩ | ⟨i, h1, h2, h3, h4, he, hl⟩
  · omega
  · omega
  · omega
  · refine ⟨hl, chg_rem hr ?_⟩
    have : k ∈ o :: ms := by rw [← h3]; exact nthI_mem (by simpa using h2)
    simp only [List.mem_cons] at this
    rcases this with h | h
    · exact absurd h h4
    · exact h
theorem remF_le (ms : List Int) (k : Int) : (remF ms k).length ≤ ms.length := List.length_filter_le _ _
set_option maxHeartbeats 8000000 in
theorem chainChanges_any (o : Int) (P : Option Addr) (cap : Nat) (ms : List Int) (a k : Int) (w : World) (h : SlI w P cap ms) (hP : P = none → cap = 0) (ho : OkI o) (ha : OkI a) (hk : OkI k) :
    Calls Try.prog 7 #[.int .i64 o, .slice P ms.length cap, .int .i64 a, .int .i64 k] w fun e w' => e = .returned (.bool true) ∧ Ext w w' := by
  have hlen := h.len
  have hxl : Ext w (w.alloc (.cells #[.slice P ms.length cap] 22)) := (Ext.refl w).alloc _
  have hL := light_one w.heap.size P ms.length cap (w.alloc (.cells #[.slice P ms.length cap] 22)) hlen ((World.cell?_alloc_mark _ _ _ _ 0).trans rfl)
  by_cases hl : ms.length ≤ 120
  · rw [decide_eq_true hl] at hL
    have hm2 := fun W hW => rmake_any P cap o ms W hW hP (by omega)
    rcases make_cases o ms with ⟨_, he, hr⟩ | ⟨_, h5, _⟩ | ⟨_, _, he, hr, hrr⟩
    · rw [he, hr] at hm2
      clear he hr
      go_enter Try.func7, Try.ntmps7
      go_wp2_with (first
        | (go_at_call 9; refine hL.mono ?_; rintro e w1 ⟨rfl, rfl⟩; have h1 := h.ext hxl)
        | (go_at_call 11; refine (hm2 _ h1).mono ?_; rintro e w3 ⟨⟨v3, rfl, P3, c3, rfl, s3, _⟩, hx3⟩)
        | (go_at_call 10; refine (awake_any _).mono ?_; rintro e w5 ⟨rfl, hx5⟩))
      go_ret
      exact ⟨rfl, hxl.trans (hx3.trans hx5)⟩
    · omega
    · rw [he, hr] at hm2
      have hLen := built_len o ms
      have i1 := fun {W Q c} hs => insert_any Q c (builtF o ms) o ms a k rfl hrr (w := W) hs ha hk (by omega)
      have i2 := fun {W Q c} hs => rinsert_any Q c (builtF o ms) o ms a k rfl hrr (w := W) hs ha hk (by omega)
      have r1 := fun {W Q c} hs => remove_any Q c (builtF o ms) o ms k rfl hrr (w := W) hs hk (by omega)
      have r2 := fun {W Q c} hs => rremove_any Q c (builtF o ms) o ms k rfl hrr (w := W) hs hk (by omega)
      have s1 := fun {W Q c} hs => shift_any Q c (builtF o ms) o ms k a rfl hrr (w := W) hs hk ha (by omega)
      have s2 := fun {W Q c} hs => rshift_any Q c (builtF o ms) o ms k a rfl hrr (w := W) hs hk ha (by omega)
      generalize shE o ms k a = e3 at *
      generalize shL o ms k a = L3 at *
      clear he hr
      by_cases hI : insE o ms a k = 0
      · obtain ⟨hrI, hLI, hE2, hL2, hch⟩ := ins_ok hrr hl hI
        have rb := fun {W Q c} hs => remove_any Q c (builtF o (insF ms a k)) o (insF ms a k) k rfl hrI (w := W) hs hk (by rw [insF_len]; omega)
        have cb := fun {W Q d R c} hs ht => changes_any Q R c d (builtF o ms) (builtF o (insF ms a k)) (w := W) hs ht (by omega) (by rw [built_len, insF_len]; omega)
        have hc3 : ¬ (3 : Int) < (chgF (builtF o ms) (builtF o (insF ms a k)) : Nat) := by omega
        rw [hE2, hL2] at rb
        rw [hI, hLI] at i1 i2
        clear hI hrI hLI hE2 hL2 hch
        generalize chgF (builtF o ms) (builtF o (insF ms a k)) = n1 at *
        generalize builtF o (insF ms a k) = LI at *
        by_cases hR : remE o ms k = 0
        · obtain ⟨hLR, hcr⟩ := rem_ok hrr hR
          have cr := fun {W Q d R c} hs ht => changes_any Q R c d (builtF o ms) (builtF o (remF ms k)) (w := W) hs ht (by omega) (by rw [built_len]; have := remF_le ms k; omega)
          have hc4 : ¬ (3 : Int) < (chgF (builtF o ms) (builtF o (remF ms k)) : Nat) := by omega
          rw [hR, hLR] at r1 r2
          clear hR hLR hcr hrr hLen
          generalize chgF (builtF o ms) (builtF o (remF ms k)) = n2 at *
          generalize builtF o (remF ms k) = LR at *
          generalize builtF o ms = L at *
          go_enter Try.func7, Try.ntmps7
          go_wp2_with (first
            | (go_at_call 9; refine hL.mono ?_; rintro e w1 ⟨rfl, rfl⟩; have h1 := h.ext hxl)
            | (go_at_call 11; refine (hm2 _ h1).mono ?_; rintro e w3 ⟨⟨v3, rfl, P3, c3, rfl, sL3, _⟩, hx3⟩)
            | (go_at_call 35; have hsm := i1 sL3; (with_reducible refine hsm.mono ?_); clear hsm; rintro e v1 ⟨⟨z1, rfl, Q1, d1, rfl, sX, _⟩, hy1⟩; have L_hy1 := sL3.ext hy1)
            | (go_at_call 36; have hsm := i2 L_hy1; (with_reducible refine hsm.mono ?_); clear hsm; rintro e v2 ⟨⟨z2, rfl, Q2, d2, rfl, sY, _⟩, hy2⟩; have L_hy2 := L_hy1.ext hy2; have sX_hy2 := sX.ext hy2)
            | (go_at_call 16; have hsm := samelinks_yes _ _ _ _ _ _ sX_hy2 sY; (with_reducible refine hsm.mono ?_); clear hsm; rintro e v3 ⟨rfl, hy3⟩; have L_hy3 := L_hy2.ext hy3; have sX_hy3 := sX_hy2.ext hy3)
            | (go_at_call 37; have hsm := rb sX_hy3; (with_reducible refine hsm.mono ?_); clear hsm; rintro e v4 ⟨⟨z4, rfl, Q4, d4, rfl, sB, _⟩, hy4⟩; have L_hy4 := L_hy3.ext hy4; have sX_hy4 := sX_hy3.ext hy4)
            | (go_at_call 16; have hsm := samelinks_yes _ _ _ _ _ _ sB L_hy4; (with_reducible refine hsm.mono ?_); clear hsm; rintro e v5 ⟨rfl, hy5⟩; have L_hy5 := L_hy4.ext hy5; have sX_hy5 := sX_hy4.ext hy5)
            | (go_at_call 38; have hsm := cb L_hy5 sX_hy5; (with_reducible refine hsm.mono ?_); clear hsm; rintro e v6 ⟨rfl, hy6⟩; have L_hy6 := L_hy5.ext hy6)
            | (go_at_call 37; have hsm := r1 L_hy6; (with_reducible refine hsm.mono ?_); clear hsm; rintro e v7 ⟨⟨z7, rfl, Q7, d7, rfl, sR, _⟩, hy7⟩; have L_hy7 := L_hy6.ext hy7)
            | (go_at_call 39; have hsm := r2 L_hy7; (with_reducible refine hsm.mono ?_); clear hsm; rintro e v8 ⟨⟨z8, rfl, Q8, d8, rfl, sS, _⟩, hy8⟩; have L_hy8 := L_hy7.ext hy8; have sR_hy8 := sR.ext hy8)
            | (go_at_call 16; have hsm := samelinks_yes _ _ _ _ _ _ sR_hy8 sS; (with_reducible refine hsm.mono ?_); clear hsm; rintro e v9 ⟨rfl, hy9⟩; have L_hy9 := L_hy8.ext hy9; have sR_hy9 := sR_hy8.ext hy9)
            | (go_at_call 38; have hsm := cr L_hy9 sR_hy9; (with_reducible refine hsm.mono ?_); clear hsm; rintro e v10 ⟨rfl, hy10⟩; have L_hy10 := L_hy9.ext hy10)
            | (go_at_call 40; have hsm := s1 L_hy10; (with_reducible refine hsm.mono ?_); clear hsm; rintro e v11 ⟨⟨z11, rfl, Q11, d11, rfl, sT, _⟩, hy11⟩; have L_hy11 := L_hy10.ext hy11)
            | (go_at_call 41; have hsm := s2 L_hy11; (with_reducible refine hsm.mono ?_); clear hsm; rintro e v12 ⟨⟨z12, rfl, Q12, d12, rfl, sU, _⟩, hy12⟩; have sT_hy12 := sT.ext hy12)
            | (go_at_call 16; have hsm := samelinks_yes _ _ _ _ _ _ sT_hy12 sU; (with_reducible refine hsm.mono ?_); clear hsm; rintro e v13 ⟨rfl, hy13⟩)
            | (go_at_call 10; refine (awake_any _).mono ?_; rintro e vz ⟨rfl, hyz⟩))
          go_ret
          exact ⟨rfl, hxl.trans (hx3.trans (hy1.trans (hy2.trans (hy3.trans (hy4.trans (hy5.trans (hy6.trans (hy7.trans (hy8.trans (hy9.trans (hy10.trans (hy11.trans (hy12.trans (hy13.trans (hyz)))))))))))))))⟩
        · have hR' : (remE o ms k == 0) = false := by simpa using hR
          clear hR hrr hLen
          generalize remE o ms k = e2 at *
          generalize remL o ms k = LR at *
          generalize builtF o ms = L at *
          go_enter Try.func7, Try.ntmps7
          go_wp2_with (first
            | (go_at_call 9; refine hL.mono ?_; rintro e w1 ⟨rfl, rfl⟩; have h1 := h.ext hxl)
            | (go_at_call 11; refine (hm2 _ h1).mono ?_; rintro e w3 ⟨⟨v3, rfl, P3, c3, rfl, sL3, _⟩, hx3⟩)
            | (go_at_call 35; have hsm := i1 sL3; (with_reducible refine hsm.mono ?_); clear hsm; rintro e v1 ⟨⟨z1, rfl, Q1, d1, rfl, sX, _⟩, hy1⟩; have L_hy1 := sL3.ext hy1)
            | (go_at_call 36; have hsm := i2 L_hy1; (with_reducible refine hsm.mono ?_); clear hsm; rintro e v2 ⟨⟨z2, rfl, Q2, d2, rfl, sY, _⟩, hy2⟩; have L_hy2 := L_hy1.ext hy2; have sX_hy2 := sX.ext hy2)
            | (go_at_call 16; have hsm := samelinks_yes _ _ _ _ _ _ sX_hy2 sY; (with_reducible refine hsm.mono ?_); clear hsm; rintro e v3 ⟨rfl, hy3⟩; have L_hy3 := L_hy2.ext hy3; have sX_hy3 := sX_hy2.ext hy3)
            | (go_at_call 37; have hsm := rb sX_hy3; (with_reducible refine hsm.mono ?_); clear hsm; rintro e v4 ⟨⟨z4, rfl, Q4, d4, rfl, sB, _⟩, hy4⟩; have L_hy4 := L_hy3.ext hy4; have sX_hy4 := sX_hy3.ext hy4)
            | (go_at_call 16; have hsm := samelinks_yes _ _ _ _ _ _ sB L_hy4; (with_reducible refine hsm.mono ?_); clear hsm; rintro e v5 ⟨rfl, hy5⟩; have L_hy5 := L_hy4.ext hy5; have sX_hy5 := sX_hy4.ext hy5)
            | (go_at_call 38; have hsm := cb L_hy5 sX_hy5; (with_reducible refine hsm.mono ?_); clear hsm; rintro e v6 ⟨rfl, hy6⟩; have L_hy6 := L_hy5.ext hy6)
            | (go_at_call 37; have hsm := r1 L_hy6; (with_reducible refine hsm.mono ?_); clear hsm; rintro e v7 ⟨⟨z7, rfl, Q7, d7, rfl, sR, _⟩, hy7⟩; have L_hy7 := L_hy6.ext hy7)
            | (go_at_call 39; have hsm := r2 L_hy7; (with_reducible refine hsm.mono ?_); clear hsm; rintro e v8 ⟨⟨z8, rfl, Q8, d8, rfl, sS, _⟩, hy8⟩; have L_hy8 := L_hy7.ext hy8; have sR_hy8 := sR.ext hy8)
            | (go_at_call 16; have hsm := samelinks_yes _ _ _ _ _ _ sR_hy8 sS; (with_reducible refine hsm.mono ?_); clear hsm; rintro e v9 ⟨rfl, hy9⟩; have L_hy9 := L_hy8.ext hy9; have sR_hy9 := sR_hy8.ext hy9)
            | (go_at_call 40; have hsm := s1 L_hy9; (with_reducible refine hsm.mono ?_); clear hsm; rintro e v10 ⟨⟨z10, rfl, Q10, d10, rfl, sT, _⟩, hy10⟩; have L_hy10 := L_hy9.ext hy10)
            | (go_at_call 41; have hsm := s2 L_hy10; (with_reducible refine hsm.mono ?_); clear hsm; rintro e v11 ⟨⟨z11, rfl, Q11, d11, rfl, sU, _⟩, hy11⟩; have sT_hy11 := sT.ext hy11)
            | (go_at_call 16; have hsm := samelinks_yes _ _ _ _ _ _ sT_hy11 sU; (with_reducible refine hsm.mono ?_); clear hsm; rintro e v12 ⟨rfl, hy12⟩)
            | (go_at_call 10; refine (awake_any _).mono ?_; rintro e vz ⟨rfl, hyz⟩))
          go_ret
          exact ⟨rfl, hxl.trans (hx3.trans (hy1.trans (hy2.trans (hy3.trans (hy4.trans (hy5.trans (hy6.trans (hy7.trans (hy8.trans (hy9.trans (hy10.trans (hy11.trans (hy12.trans (hyz))))))))))))))⟩
      · have hI' : (insE o ms a k == 0) = false := by simpa using hI
        clear hI
        generalize insE o ms a k = e1 at *
        generalize insL o ms a k = LI at *
        by_cases hR : remE o ms k = 0
        · obtain ⟨hLR, hcr⟩ := rem_ok hrr hR
          have cr := fun {W Q d R c} hs ht => changes_any Q R c d (builtF o ms) (builtF o (remF ms k)) (w := W) hs ht (by omega) (by rw [built_len]; have := remF_le ms k; omega)
          have hc4 : ¬ (3 : Int) < (chgF (builtF o ms) (builtF o (remF ms k)) : Nat) := by omega
          rw [hR, hLR] at r1 r2
          clear hR hLR hcr hrr hLen
          generalize chgF (builtF o ms) (builtF o (remF ms k)) = n2 at *
          generalize builtF o (remF ms k) = LR at *
          generalize builtF o ms = L at *
          go_enter Try.func7, Try.ntmps7
          go_wp2_with (first
            | (go_at_call 9; refine hL.mono ?_; rintro e w1 ⟨rfl, rfl⟩; have h1 := h.ext hxl)
            | (go_at_call 11; refine (hm2 _ h1).mono ?_; rintro e w3 ⟨⟨v3, rfl, P3, c3, rfl, sL3, _⟩, hx3⟩)
            | (go_at_call 35; have hsm := i1 sL3; (with_reducible refine hsm.mono ?_); clear hsm; rintro e v1 ⟨⟨z1, rfl, Q1, d1, rfl, sX, _⟩, hy1⟩; have L_hy1 := sL3.ext hy1)
            | (go_at_call 36; have hsm := i2 L_hy1; (with_reducible refine hsm.mono ?_); clear hsm; rintro e v2 ⟨⟨z2, rfl, Q2, d2, rfl, sY, _⟩, hy2⟩; have L_hy2 := L_hy1.ext hy2; have sX_hy2 := sX.ext hy2)
            | (go_at_call 16; have hsm := samelinks_yes _ _ _ _ _ _ sX_hy2 sY; (with_reducible refine hsm.mono ?_); clear hsm; rintro e v3 ⟨rfl, hy3⟩; have L_hy3 := L_hy2.ext hy3; have sX_hy3 := sX_hy2.ext hy3)
            | (go_at_call 37; have hsm := r1 L_hy3; (with_reducible refine hsm.mono ?_); clear hsm; rintro e v4 ⟨⟨z4, rfl, Q4, d4, rfl, sR, _⟩, hy4⟩; have L_hy4 := L_hy3.ext hy4)
            | (go_at_call 39; have hsm := r2 L_hy4; (with_reducible refine hsm.mono ?_); clear hsm; rintro e v5 ⟨⟨z5, rfl, Q5, d5, rfl, sS, _⟩, hy5⟩; have L_hy5 := L_hy4.ext hy5; have sR_hy5 := sR.ext hy5)
            | (go_at_call 16; have hsm := samelinks_yes _ _ _ _ _ _ sR_hy5 sS; (with_reducible refine hsm.mono ?_); clear hsm; rintro e v6 ⟨rfl, hy6⟩; have L_hy6 := L_hy5.ext hy6; have sR_hy6 := sR_hy5.ext hy6)
            | (go_at_call 38; have hsm := cr L_hy6 sR_hy6; (with_reducible refine hsm.mono ?_); clear hsm; rintro e v7 ⟨rfl, hy7⟩; have L_hy7 := L_hy6.ext hy7)
            | (go_at_call 40; have hsm := s1 L_hy7; (with_reducible refine hsm.mono ?_); clear hsm; rintro e v8 ⟨⟨z8, rfl, Q8, d8, rfl, sT, _⟩, hy8⟩; have L_hy8 := L_hy7.ext hy8)
            | (go_at_call 41; have hsm := s2 L_hy8; (with_reducible refine hsm.mono ?_); clear hsm; rintro e v9 ⟨⟨z9, rfl, Q9, d9, rfl, sU, _⟩, hy9⟩; have sT_hy9 := sT.ext hy9)
            | (go_at_call 16; have hsm := samelinks_yes _ _ _ _ _ _ sT_hy9 sU; (with_reducible refine hsm.mono ?_); clear hsm; rintro e v10 ⟨rfl, hy10⟩)
            | (go_at_call 10; refine (awake_any _).mono ?_; rintro e vz ⟨rfl, hyz⟩))
          go_ret
          exact ⟨rfl, hxl.trans (hx3.trans (hy1.trans (hy2.trans (hy3.trans (hy4.trans (hy5.trans (hy6.trans (hy7.trans (hy8.trans (hy9.trans (hy10.trans (hyz))))))))))))⟩
        · have hR' : (remE o ms k == 0) = false := by simpa using hR
          clear hR hrr hLen
          generalize remE o ms k = e2 at *
          generalize remL o ms k = LR at *
          generalize builtF o ms = L at *
          go_enter Try.func7, Try.ntmps7
          go_wp2_with (first
            | (go_at_call 9; refine hL.mono ?_; rintro e w1 ⟨rfl, rfl⟩; have h1 := h.ext hxl)
            | (go_at_call 11; refine (hm2 _ h1).mono ?_; rintro e w3 ⟨⟨v3, rfl, P3, c3, rfl, sL3, _⟩, hx3⟩)
            | (go_at_call 35; have hsm := i1 sL3; (with_reducible refine hsm.mono ?_); clear hsm; rintro e v1 ⟨⟨z1, rfl, Q1, d1, rfl, sX, _⟩, hy1⟩; have L_hy1 := sL3.ext hy1)
            | (go_at_call 36; have hsm := i2 L_hy1; (with_reducible refine hsm.mono ?_); clear hsm; rintro e v2 ⟨⟨z2, rfl, Q2, d2, rfl, sY, _⟩, hy2⟩; have L_hy2 := L_hy1.ext hy2; have sX_hy2 := sX.ext hy2)
            | (go_at_call 16; have hsm := samelinks_yes _ _ _ _ _ _ sX_hy2 sY; (with_reducible refine hsm.mono ?_); clear hsm; rintro e v3 ⟨rfl, hy3⟩; have L_hy3 := L_hy2.ext hy3; have sX_hy3 := sX_hy2.ext hy3)
            | (go_at_call 37; have hsm := r1 L_hy3; (with_reducible refine hsm.mono ?_); clear hsm; rintro e v4 ⟨⟨z4, rfl, Q4, d4, rfl, sR, _⟩, hy4⟩; have L_hy4 := L_hy3.ext hy4)
            | (go_at_call 39; have hsm := r2 L_hy4; (with_reducible refine hsm.mono ?_); clear hsm; rintro e v5 ⟨⟨z5, rfl, Q5, d5, rfl, sS, _⟩, hy5⟩; have L_hy5 := L_hy4.ext hy5; have sR_hy5 := sR.ext hy5)
            | (go_at_call 16; have hsm := samelinks_yes _ _ _ _ _ _ sR_hy5 sS; (with_reducible refine hsm.mono ?_); clear hsm; rintro e v6 ⟨rfl, hy6⟩; have L_hy6 := L_hy5.ext hy6; have sR_hy6 := sR_hy5.ext hy6)
            | (go_at_call 40; have hsm := s1 L_hy6; (with_reducible refine hsm.mono ?_); clear hsm; rintro e v7 ⟨⟨z7, rfl, Q7, d7, rfl, sT, _⟩, hy7⟩; have L_hy7 := L_hy6.ext hy7)
            | (go_at_call 41; have hsm := s2 L_hy7; (with_reducible refine hsm.mono ?_); clear hsm; rintro e v8 ⟨⟨z8, rfl, Q8, d8, rfl, sU, _⟩, hy8⟩; have sT_hy8 := sT.ext hy8)
            | (go_at_call 16; have hsm := samelinks_yes _ _ _ _ _ _ sT_hy8 sU; (with_reducible refine hsm.mono ?_); clear hsm; rintro e v9 ⟨rfl, hy9⟩)
            | (go_at_call 10; refine (awake_any _).mono ?_; rintro e vz ⟨rfl, hyz⟩))
          go_ret
          exact ⟨rfl, hxl.trans (hx3.trans (hy1.trans (hy2.trans (hy3.trans (hy4.trans (hy5.trans (hy6.trans (hy7.trans (hy8.trans (hy9.trans (hyz)))))))))))⟩
  · rw [decide_eq_false hl] at hL
    go_enter Try.func7, Try.ntmps7
    go_wp2_with (first
      | (go_at_call 9; refine hL.mono ?_; rintro e w1 ⟨rfl, rfl⟩)
      | (go_at_call 10; refine (awake_any _).mono ?_; rintro e w2 ⟨rfl, hx2⟩))
    go_ret
    exact ⟨rfl, hxl.trans hx2⟩
end Go.Proofs.Ythmcdlieglollaa
