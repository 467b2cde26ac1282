/- Rings: the law of ChainSteps. -/
import Derived.Test.YthmcdlieglollaaChX4
namespace Go.Proofs.Ythmcdlieglollaa
open Go.RowKit Go.Sort Go.Maps
set_option linter.unusedVariables false
set_option linter.unusedSimpArgs false
set_option linter.unusedSectionVars false
set_option maxRecDepth 20000
attribute [local go_sem] Oper.semAt_some

theorem nthF_place {o : Int} {ms : List Int} (hr : Right (o :: ms)) {n : Int} (h : (nthF ms n).2 = 0) : plF o ms (nthF ms n).1 = (if 0 < n then n else ms.length + 1 + n, 0) ∧ n ≠ 0 ∧ -(ms.length : Int) ≤ n ∧ n ≤ ms.length := by
  have key : ∀ i : Nat, i < ms.length → plF o ms (nthI ms i) = ((i : Int) + 1, 0) := fun i hi => by
    have h1 : nthI (o :: ms) (i + 1) = nthI ms i := rfl
    have h2 := idxI_nodup hr.nodup (k := i + 1) (by simpa using hi)
    rw [h1] at h2
    have h3 : keyB (nthI ms i) = true := hr.keys _ (by rw [← h1]; exact nthI_mem (by simpa using hi))
    unfold plF
    rw [h2, h3, if_neg (by simp), if_neg (by omega)]
    congr 1
  rcases nth_cases ms n with rfl | ⟨i, hi, hn⟩ | ⟨i, hi, hn⟩ | hn | hn | hn
  · rw [nthF_0] at h; simp at h
  · rw [nthF_pos ms n i hi hn, key i hi, if_pos (by omega)]
    exact ⟨by congr 1; omega, by omega, by omega, by omega⟩
  · rw [nthF_neg ms n i hi hn, key i hi, if_neg (by omega)]
    exact ⟨by congr 1; omega, by omega, by omega, by omega⟩
  · rw [nthF_no ms n (by omega)] at h; simp at h
  · rw [nthF_no ms n (by omega)] at h; simp at h
  · rw [nthF_no ms n (by omega)] at h; simp at h
theorem nthF_ok {o : Int} {ms : List Int} (hr : Right (o :: ms)) (n : Int) : OkI (nthF ms n).1 := by
  have h0 : OkI 0 := ⟨by omega, by omega⟩
  have hk : ∀ i : Nat, OkI (nthI ms i) := fun i => okI_nth (fun x hx => hr.keys x (by simp [hx])) i
  unfold nthF
  split
  · exact h0
  · split
    · exact hk _
    · split
      · exact hk _
      · exact h0
set_option maxHeartbeats 4000000 in
theorem chainSteps_any (o : Int) (P : Option Addr) (cap : Nat) (ms : List Int) (k n : Int) (w : World) (h : SlI w P cap ms) (hP : P = none → cap = 0) (ho : OkI o) (hk : OkI k) (hn : OkI n) :
    Calls Try.prog 6 #[.int .i64 o, .slice P ms.length cap, .int .i64 k, .int .i64 n] w fun e w' => e = .returned (.bool true) ∧ Ext w w' := by
  have hlen := h.len
  have hxl : Ext w (w.alloc (.cells #[.slice P ms.length cap] 22)) := (Ext.refl w).alloc _
  have hL := light_one w.heap.size P ms.length cap (w.alloc (.cells #[.slice P ms.length cap] 22)) hlen ((World.cell?_alloc_mark _ _ _ _ 0).trans rfl)
  by_cases hl : ms.length ≤ 120
  · rw [decide_eq_true hl] at hL
    have hm2 := fun W hW => rmake_any P cap o ms W hW hP (by omega)
    rcases make_cases o ms with ⟨_, he, hr⟩ | ⟨_, h5, _⟩ | ⟨_, _, he, hr, hrr⟩
    · rw [he, hr] at hm2
      clear he hr
      go_enter Try.func6, Try.ntmps6
      go_wp2_with (first
        | (go_at_call 9; refine hL.mono ?_; rintro e w1 ⟨rfl, rfl⟩; have h1 := h.ext hxl)
        | (go_at_call 11; refine (hm2 _ h1).mono ?_; rintro e w3 ⟨⟨v3, rfl, P3, c3, rfl, s3, _⟩, hx3⟩)
        | (go_at_call 10; refine (awake_any _).mono ?_; rintro e w5 ⟨rfl, hx5⟩))
      go_ret
      exact ⟨rfl, hxl.trans (hx3.trans hx5)⟩
    · omega
    · rw [he, hr] at hm2
      have n1 := fun P c W hs => next_any P c (builtF o ms) o ms k rfl hrr W hs hk
      have n2 := fun P c W hs => rnext_any P c (builtF o ms) o ms k rfl hrr W hs hk
      have p1 := fun P c W hs => prior_any P c (builtF o ms) o ms k rfl hrr W hs hk
      have p2 := fun P c W hs => rprior_any P c (builtF o ms) o ms k rfl hrr W hs hk
      have m1 := fun P c W hs => nth_any P c (builtF o ms) o ms n rfl hrr W hs hn
      have m2 := fun P c W hs => rnth_any P c (builtF o ms) o ms n rfl hrr W hs hn
      have q0 := fun P c W hs => place_any P c (builtF o ms) o ms (nthF ms n).1 rfl hrr W hs (nthF_ok hrr n)
      have q1 := fun P c W hs => place_any P c (builtF o ms) o ms k rfl hrr W hs hk
      have q2 := fun P c W hs => rplace_any P c (builtF o ms) o ms k rfl hrr W hs hk
      have hfit := fun h => @nthF_place o ms hrr n h
      generalize stepF o ms k (onF ms.length) = r1 at *
      generalize stepF o ms k (backF ms.length) = r2 at *
      generalize hr3 : nthF ms n = r3 at *
      generalize plF o ms k = r4 at *
      generalize hr5 : plF o ms r3.1 = r5 at *
      obtain ⟨a1, b1⟩ := r1
      obtain ⟨a2, b2⟩ := r2
      obtain ⟨a3, b3⟩ := r3
      obtain ⟨a4, b4⟩ := r4
      obtain ⟨a5, b5⟩ := r5
      simp only at hfit n1 n2 p1 p2 m1 m2 q0 q1 q2
      clear he hr hrr hr3 hr5
      generalize builtF o ms = L at *
      by_cases hb3 : b3 = 0
      · obtain ⟨hf1, hf2, hf3, hf4⟩ := hfit hb3
        simp only [Prod.mk.injEq] at hf1
        obtain ⟨hf1, rfl⟩ := hf1
        subst hb3
        have hn0 : (n == 0) = false := by simpa using hf2
        clear hfit
        by_cases hpos : 0 < n
        · rw [if_pos hpos] at hf1
          subst hf1
          have hq : ¬ a5 < 0 := by omega
          go_enter Try.func6, Try.ntmps6
          go_wp2_with (first
            | (go_at_call 9; refine hL.mono ?_; rintro e w1 ⟨rfl, rfl⟩; have h1 := h.ext hxl)
            | (go_at_call 11; refine (hm2 _ h1).mono ?_; rintro e w3 ⟨⟨v3, rfl, P3, c3, rfl, s3, _⟩, hx3⟩)
            | (go_at_call 27; refine (n1 _ _ _ s3).mono ?_; rintro e wa ⟨rfl, hxa⟩; have sa := s3.ext hxa)
            | (go_at_call 28; refine (n2 _ _ _ sa).mono ?_; rintro e wb ⟨rfl, hxb⟩; have sb := sa.ext hxb)
            | (go_at_call 29; refine (p1 _ _ _ sb).mono ?_; rintro e wc ⟨rfl, hxc⟩; have sc := sb.ext hxc)
            | (go_at_call 30; refine (p2 _ _ _ sc).mono ?_; rintro e wd ⟨rfl, hxd⟩; have sd := sc.ext hxd)
            | (go_at_call 31; refine (m1 _ _ _ sd).mono ?_; rintro e we ⟨rfl, hxe⟩; have se := sd.ext hxe)
            | (go_at_call 32; refine (m2 _ _ _ se).mono ?_; rintro e wf ⟨rfl, hxf⟩; have sf := se.ext hxf))
          refine (q0 _ _ _ sf).mono ?_
          rintro e wg ⟨rfl, hxg⟩
          have sg := sf.ext hxg
          go_wp2_with (first
            | (go_at_call 33; refine (q1 _ _ _ sg).mono ?_; rintro e wh ⟨rfl, hxh⟩; have sh := sg.ext hxh)
            | (go_at_call 34; refine (q2 _ _ _ sh).mono ?_; rintro e wi ⟨rfl, hxi⟩)
            | (go_at_call 10; refine (awake_any _).mono ?_; rintro e wj ⟨rfl, hxj⟩))
          go_ret
          exact ⟨rfl, hxl.trans (hx3.trans (hxa.trans (hxb.trans (hxc.trans (hxd.trans (hxe.trans (hxf.trans (hxg.trans (hxh.trans (hxi.trans hxj))))))))))⟩
        · rw [if_neg hpos] at hf1
          subst hf1
          have hq : n < 0 := by omega
          obtain ⟨hn1, hn2⟩ := hn
          go_enter Try.func6, Try.ntmps6
          go_wp2_with (first
            | (go_at_call 9; refine hL.mono ?_; rintro e w1 ⟨rfl, rfl⟩; have h1 := h.ext hxl)
            | (go_at_call 11; refine (hm2 _ h1).mono ?_; rintro e w3 ⟨⟨v3, rfl, P3, c3, rfl, s3, _⟩, hx3⟩)
            | (go_at_call 27; refine (n1 _ _ _ s3).mono ?_; rintro e wa ⟨rfl, hxa⟩; have sa := s3.ext hxa)
            | (go_at_call 28; refine (n2 _ _ _ sa).mono ?_; rintro e wb ⟨rfl, hxb⟩; have sb := sa.ext hxb)
            | (go_at_call 29; refine (p1 _ _ _ sb).mono ?_; rintro e wc ⟨rfl, hxc⟩; have sc := sb.ext hxc)
            | (go_at_call 30; refine (p2 _ _ _ sc).mono ?_; rintro e wd ⟨rfl, hxd⟩; have sd := sc.ext hxd)
            | (go_at_call 31; refine (m1 _ _ _ sd).mono ?_; rintro e we ⟨rfl, hxe⟩; have se := sd.ext hxe)
            | (go_at_call 32; refine (m2 _ _ _ se).mono ?_; rintro e wf ⟨rfl, hxf⟩; have sf := se.ext hxf))
          refine (q0 _ _ _ sf).mono ?_
          rintro e wg ⟨rfl, hxg⟩
          have sg := sf.ext hxg
          go_wp2_with (first
            | (go_at_call 33; refine (q1 _ _ _ sg).mono ?_; rintro e wh ⟨rfl, hxh⟩; have sh := sg.ext hxh)
            | (go_at_call 34; refine (q2 _ _ _ sh).mono ?_; rintro e wi ⟨rfl, hxi⟩)
            | (go_at_call 10; refine (awake_any _).mono ?_; rintro e wj ⟨rfl, hxj⟩))
          go_ret
          exact ⟨rfl, hxl.trans (hx3.trans (hxa.trans (hxb.trans (hxc.trans (hxd.trans (hxe.trans (hxf.trans (hxg.trans (hxh.trans (hxi.trans hxj))))))))))⟩
      · have hb3' : (b3 == 0) = false := by simpa using hb3
        clear hb3 hfit
        go_enter Try.func6, Try.ntmps6
        go_wp2_with (first
          | (go_at_call 9; refine hL.mono ?_; rintro e w1 ⟨rfl, rfl⟩; have h1 := h.ext hxl)
          | (go_at_call 11; refine (hm2 _ h1).mono ?_; rintro e w3 ⟨⟨v3, rfl, P3, c3, rfl, s3, _⟩, hx3⟩)
          | (go_at_call 27; refine (n1 _ _ _ s3).mono ?_; rintro e wa ⟨rfl, hxa⟩; have sa := s3.ext hxa)
          | (go_at_call 28; refine (n2 _ _ _ sa).mono ?_; rintro e wb ⟨rfl, hxb⟩; have sb := sa.ext hxb)
          | (go_at_call 29; refine (p1 _ _ _ sb).mono ?_; rintro e wc ⟨rfl, hxc⟩; have sc := sb.ext hxc)
          | (go_at_call 30; refine (p2 _ _ _ sc).mono ?_; rintro e wd ⟨rfl, hxd⟩; have sd := sc.ext hxd)
          | (go_at_call 31; refine (m1 _ _ _ sd).mono ?_; rintro e we ⟨rfl, hxe⟩; have se := sd.ext hxe)
          | (go_at_call 32; refine (m2 _ _ _ se).mono ?_; rintro e wf ⟨rfl, hxf⟩; have sf := se.ext hxf)
          | (go_at_call 33; refine (q1 _ _ _ sf).mono ?_; rintro e wh ⟨rfl, hxh⟩; have sh := sf.ext hxh)
          | (go_at_call 34; refine (q2 _ _ _ sh).mono ?_; rintro e wi ⟨rfl, hxi⟩)
          | (go_at_call 10; refine (awake_any _).mono ?_; rintro e wj ⟨rfl, hxj⟩))
        go_ret
        exact ⟨rfl, hxl.trans (hx3.trans (hxa.trans (hxb.trans (hxc.trans (hxd.trans (hxe.trans (hxf.trans (hxh.trans (hxi.trans hxj)))))))))⟩
  · rw [decide_eq_false hl] at hL
    go_enter Try.func6, Try.ntmps6
    go_wp2_with (first
      | (go_at_call 9; refine hL.mono ?_; rintro e w1 ⟨rfl, rfl⟩)
      | (go_at_call 10; refine (awake_any _).mono ?_; rintro e w2 ⟨rfl, hx2⟩))
    go_ret
    exact ⟨rfl, hxl.trans hx2⟩
end Go.Proofs.Ythmcdlieglollaa
