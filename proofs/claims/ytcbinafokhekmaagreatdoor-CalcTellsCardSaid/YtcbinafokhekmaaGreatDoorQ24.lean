/- CaPy; CaPz (merged by group.py) -/
import Derived.Test.YtcbinafokhekmaaGreatDoorQ23
import Derived.Test.YtcbinafokhekmaaGreatDoorQ19
namespace Go.Proofs.YtcbinafokhekmaaGreatDoor
section
open Go.RowKit Go.Maps
set_option linter.unusedVariables false
set_option linter.unusedSimpArgs false
set_option linter.unusedSectionVars false
set_option maxRecDepth 100000
attribute [local go_sem] Oper.semAt_some

theorem rightB_in12 {h r : Int} (h1 : rightB h r = true) : (1 ≤ h ∧ h ≤ 100) ∧ 1 ≤ r ∧ r ≤ 20 := by
  have := of_decide_eq_true h1
  omega
set_option maxHeartbeats 40000000 in
theorem play_yes (h0 r : Nat) (PL : Option Addr) (cL : Nat) (L : List AcR) (w : World) (hB : rightB h0 r = true) (hL : SlAc w PL cL L) (hLn : L.length ≤ 80) (ht : Tab w) :
    Calls Tryz.prog 9 #[.int .i64 h0, .int .i64 r, .slice PL L.length cL] w (PlayP r w) := by
  obtain ⟨⟨hh1, hh2⟩, hr1, hr2⟩ := rightB_in12 hB
  have hN := fun W => new_yes h0 r W hB
  have hR := fun W => rnew_yes (fun _ => False) h0 r W hB
  have hB0 := BoxN.new w 30 PlZ
  have hx0 := (Ext.refl w).alloc (.cells PlZ 30)
  go_enter Tryz.func9, Tryz.ntmps9
  go_wp2_with (fail)
  generalize w.alloc (.cells PlZ 30) = W0 at *
  go_at_call 32
  refine (hN _).mono ?_
  rintro e w1 ⟨⟨t, P, c, F, rfl, H, hF⟩, hx1⟩
  dsimp only
  go_wp2_with (fail)
  go_at_call 35
  refine (hR _).mono ?_
  rintro e w2 ⟨v2, l2, rfl, hn2, hab2, _, hx2⟩
  dsimp only
  have hl2 : l2.length = h0 := by
    have := congrArg List.length hab2
    rw [absT_len] at this
    simpa [emptyT] using this
  obtain ⟨P2, c2, rfl, hs2⟩ := hn2.sl (by omega)
  have hx3 := ((Ext.refl w2).alloc (.cells #[.int .i64 h0, .int .i64 r, .slice P2 l2.length c2] 28)).alloc (.cells (PlC t h0 r P2 l2.length c2) 30)
  have hbX := BoxN.new (w2.alloc (.cells #[.int .i64 h0, .int .i64 r, .slice P2 l2.length c2] 28)) 30 (PlC t h0 r P2 l2.length c2)
  rw [show (w2.alloc (.cells #[.int .i64 h0, .int .i64 r, .slice P2 l2.length c2] 28)).heap.size = w2.heap.size + 1 from by simp] at hbX
  have g0 := hB0.lt
  have g1 := hx1.size
  have g2 := hx2.size
  have g3 : w.heap.size ≤ W0.heap.size := hx0.size
  have HP0 : Pl w _ (w2.heap.size + 1) w.heap.size F t h0 h0 r P c (repB h0) P2 c2 l2 := ⟨H.ext (hx2.trans hx3), hs2.ext hx3, offB_empty hn2 hab2 (fun i hi => by
      rcases hi with hi | hi | hi
      · exact .inl (H.Flt i hi)
      · exact .inr (by omega)
      · exact .inl (by omega)), fun k hk => by
      have h1 := H.Flt k hk
      have h2 := hF k hk
      exact ⟨by omega, by omega, by omega⟩, hbX, hB0.ext ((hx1.trans hx2).trans hx3), ((hx0.trans hx1).trans hx2).trans hx3, by omega, Nat.le_refl _, by omega⟩
  have hT0 : FullT hdV hdH h0 r (absT (repB h0)) := by rw [repB_abs]; exact FullT.empty hdV hdH (by omega) (by omega) (by omega) (by omega)
  have hab0 : absT l2 = absT (repB h0) := by rw [hab2, repB_abs]
  have hlen0 : (repB h0).length ≤ 600 := by rw [repB_len]; omega
  clear hN hR H hn2 hs2 hbX hB0 hab2 hF hl2
  go_wp2_with (fail)
  generalize (w2.alloc (.cells #[.int .i64 h0, .int .i64 r, .slice P2 l2.length c2] 28)).alloc (.cells (PlC t h0 r P2 l2.length c2) 30) = W3 at *
  clear hx3
  generalize w2.heap.size + 1 = X at *
  clear g0 g1 g2 g3 hx0 hx1 hx2
  go_loopw [12] (fun i wr => ∃ (k h t : Nat) (F : Nat → Prop) (P : Option Addr) (c : Nat) (raw : List BkR) (Pr : Option Addr) (cr : Nat) (rr : List BkR), k ≤ L.length ∧ i = .int .i64 k ∧ Pl w wr X w.heap.size F t h h r P c raw Pr cr rr ∧ FullT hdV hdH h r (absT raw) ∧ raw.length ≤ 600 + k ∧ absT rr = absT raw) (fun i _ => L.length - (intOf i).toNat)
  case atStart => exact ⟨0, h0, t, F, P, c, repB h0, P2, c2, l2, by omega, rfl, HP0, hT0, by omega, hab0⟩
  case round =>
    obtain ⟨k, h, t, F, P, c, raw, Pr, cr, rr, hk, rfl, H, hT, hlen, hab⟩ := hrel
    have x0 := H.bx.cell (i := 0) rfl
    have x1 := H.bx.cell (i := 1) rfl
    have x2 := H.bx.cell (i := 2) rfl
    have x3 := H.bx.cell (i := 3) rfl
    have x4 := H.bx.cell (i := 4) rfl
    have x5 := H.bx.cell (i := 5) rfl
    by_cases hlt : k < L.length
    · have ck : (k : Int) < L.length := by omega
      have d1 : IntKind.i64.wrap ((k : Int) + 1) = (k : Int) + 1 := IntWalk.i64_in _ ⟨by omega, by omega⟩
      obtain ⟨bL, oL, hPL, q0, q1, q2⟩ := (hL.ext H.ext).at_ k hlt
      subst hPL
      have hrow := hL.row _ (nthA_mem hlt)
      generalize nthA L k = a at *
      obtain ⟨kind, key, A, B, R⟩ := a
      dsimp only at q0 q1 q2 hrow
      have hxa := (Ext.refl wr).alloc (.cells #[.int .i64 kind, .int .i64 key, .slice A R.length B] 64)
      have HP1 := H.to hxa
      have hbA := BoxN.new wr 64 #[.int .i64 kind, .int .i64 key, .slice A R.length B]
      have hFA : ∀ i, F i → i ≠ wr.heap.size := fun i hi e => by have := H.ct.Flt i hi; omega
      have hXA : X ≠ wr.heap.size := fun e => by have := H.ltX; omega
      have hsz : (wr.alloc (.cells #[.int .i64 kind, .int .i64 key, .slice A R.length B] 64)).heap.size = wr.heap.size + 1 := by simp
      have hoR : Off F A R := (hrow.1.lt vl_pos).mono (fun i hi => (H.new i hi).1)
      clear H hL
      generalize hS : wr.heap.size = S at *
      --SPLIT
      by_cases hk0 : kind = 0
      · subst hk0
        have hI := fun W (hx' : Ext _ W) => insert_any F t h r P c raw A B R key false W (HP1.to hx').ct hT (by omega) (ht.ext (HP1.to hx').ext) (hrow.1.ext (HP1.to hx').ext) hrow.2 hoR
        have hE := Lib.hid (insT_full hT R key false)
        have hEl := Lib.hid (insT_len hT R key false)
        have HT := Lib.hid hT
        generalize hcode : insE h (absT raw) R key false = code at *
        have HP1h := Lib.hid HP1
        have a0 := hbA.cell (i := 0) rfl
        have a1 := hbA.cell (i := 1) rfl
        have a2 := hbA.cell (i := 2) rfl
        have p0 := HP1.bx.cell (i := 0) rfl
        clear HP1 hT
        go_wp2_with (fail)
        generalize wr.alloc (.cells #[.int .i64 0, .int .i64 key, .slice A R.length B] 64) = W1 at *
        go_wp2_with (fail)
        go_at_call 33
        refine (hI _ (Ext.refl _)).mono ?_
        rintro e w4 ⟨rfl, raw', habi, hct⟩
        dsimp only
        obtain ⟨P4, c4, F4, HP4⟩ := HP1h.out.prog hct.g
        have hu4 : UpdF F W1 w4 := by obtain ⟨_, _, _, _, _, _, u⟩ := hct; exact u
        have hbA4 := hbA.upd hu4 (fun e => hFA _ e rfl)
        have hTr : FullT hdV hdH h r (absT rr) := by rw [hab]; exact HT.out
        have hRI := rinsert_any (fun i => F4 i ∨ i = X ∨ i = w.heap.size) h r Pr cr rr A B R key false w4 HP4.sl hTr (by have := congrArg List.length hab; rw [absT_len, absT_len] at this; omega) (fun i hi => by
          rcases hi with hi | hi | hi
          · exact HP4.ct.Flt i hi
          · exact hi ▸ HP4.ltX
          · exact hi ▸ HP4.ltR) HP4.off (hrow.1.ext HP4.ext) hrow.2
        rw [hab, hcode] at hRI
        have hTv : FullT hdV hdH h r (absT raw') := by rw [habi]; exact hE.out
        have hlv : raw'.length ≤ 600 + (k + 1) := by
          have h1 := congrArg List.length habi
          have h2 := hEl.out
          rw [absT_len] at h1 h2
          omega
        have a0 := hbA4.cell (i := 0) rfl
        have a1 := hbA4.cell (i := 1) rfl
        have a2 := hbA4.cell (i := 2) rfl
        have p1 := HP4.bx.cell (i := 1) rfl
        have p2 := HP4.bx.cell (i := 2) rfl
        have p3 := HP4.bx.cell (i := 3) rfl
        have HABI := Lib.hid habi
        have HP4h := Lib.hid HP4
        clear hct hTr habi hcode hI HP4
        go_wp2_with (fail)
        go_at_call 36
        refine hRI.mono ?_
        rintro e w5 ⟨P5, c5, l5, rfl, hab5, hs5, hof5, hx5⟩
        dsimp only
        have HPw := HP4h.out.to hx5
        have p1 := HPw.bx.cell (i := 1) rfl
        have p2 := HPw.bx.cell (i := 2) rfl
        have p3 := HPw.bx.cell (i := 3) rfl
        have f1 := HPw.bx.frozen 1
        have f2 := HPw.bx.frozen 2
        have f3 := HPw.bx.frozen 3
        have HPv := HPw.ref (h' := h) hs5 hof5
        have habv : absT l5 = absT raw' := hab5.trans HABI.out.symm
        clear HPw hs5 hof5 hRI
        go_wp2_with (fail)

        generalize ((w5.setCell ⟨X, 1, none⟩ (.int .i64 h)).setCell ⟨X, 2, none⟩ (.int .i64 r)).setCell ⟨X, 3, none⟩ (.slice P5 l5.length c5) = Wv at *
        have HP5 := Lib.hid HPv
        have HF5 := Lib.hid hTv
        have HL5 := Lib.hid hlv
        have HAB5 := Lib.hid habv
        have hRr := (show FullT hdV hdH h r (absT l5) from by rw [habv]; exact hTv).rows_ok
        have hle5 := hTv.ents_le
        have HBu := fun W (hx' : Ext Wv W) => buckets_any t h r P4 c4 raw' W ((HP5.out.to hx').ct.ctr (by have := HL5.out; omega) hle5) (by have := HL5.out; omega) hle5 (rows_le HF5.out)
        have HSm := fun W (hx' : Ext Wv W) P9 c9 l9 (h9 : SlB W P9 c9 l9) (e9 : absT l9 = absT raw') => sameBk_any P9 P5 c9 c5 l9 l5 W h9 (HP5.out.to hx').sl (FullT.rows_ok (by rw [e9]; exact HF5.out)) hRr
        have HNX := Lib.hid HPv.bx
        clear HPv hTv hlv habv hle5
        go_wp2_with (fail)
        have hxv := (Ext.refl Wv).drew
        have v0 := (HNX.out.ext hxv).cell (i := 0) rfl
        have v3 := (HNX.out.ext hxv).cell (i := 3) rfl
        have v4 := (HNX.out.ext hxv).cell (i := 4) rfl
        have f4 := (HNX.out.ext hxv).frozen 4
        go_region_held3 (fun w' => w'.cell? ⟨X, 0, none⟩ = some (.pointer (some ⟨t, 0, none⟩)) ∧ w'.cell? ⟨X, 3, none⟩ = some (.slice P5 l5.length c5)) (go_keep)
          (first
            | (go_at_call 24; refine (HBu _ hxv).mono ?_; rintro e w8 ⟨P9, c9, F9, l9, rfl, hO9, hF9, hab9, hx9, hnr9⟩; have y0 := hx9.cell v0; have y3 := hx9.cell v3; have y4 := hx9.cell v4)
            | (go_at_call 26; refine (HSm _ (hxv.trans hx9) P9 c9 l9 (hO9.sl (by have := congrArg List.length hab9; have h2 := HL5.out; rw [absT_len, absT_len] at this; omega) (FullT.ents_le (by rw [hab9]; exact HF5.out))) hab9).mono ?_; rintro e w9 ⟨rfl, hx10⟩; rw [decide_eq_true (hab9.trans HAB5.out.symm)]; have y0 := hx10.cell y0; have y3 := hx10.cell y3; have y4 := hx10.cell y4; have z4 := (HNX.out.ext ((hxv.trans hx9).trans hx10)).frozen 4; have bz := (HNX.out.ext ((hxv.trans hx9).trans hx10)).set 4 (.bool true); have z0 := bz.cell (i := 0) rfl; have z3 := bz.cell (i := 3) rfl)
            | fail)
        have HP9 := (HP5.out.to ((hxv.trans hx9).trans hx10)).same
        go_wp2_with (fail)
        go_roundw
        case rel => exact ⟨k + 1, h, t, F4, P4, c4, raw', P5, c5, l5, by omega, by go_num, HP9, HF5.out, by have := HL5.out; omega, HAB5.out⟩
        case measure => simp [intOf]; omega
      by_cases hk1 : kind = 1
      · subst hk1
        have hI := fun W (hx' : Ext _ W) => insert_any F t h r P c raw A B R key true W (HP1.to hx').ct hT (by omega) (ht.ext (HP1.to hx').ext) (hrow.1.ext (HP1.to hx').ext) hrow.2 hoR
        have hE := Lib.hid (insT_full hT R key true)
        have hEl := Lib.hid (insT_len hT R key true)
        have HT := Lib.hid hT
        generalize hcode : insE h (absT raw) R key true = code at *
        have HP1h := Lib.hid HP1
        have a0 := hbA.cell (i := 0) rfl
        have a1 := hbA.cell (i := 1) rfl
        have a2 := hbA.cell (i := 2) rfl
        have p0 := HP1.bx.cell (i := 0) rfl
        clear HP1 hT
        go_wp2_with (fail)
        generalize wr.alloc (.cells #[.int .i64 1, .int .i64 key, .slice A R.length B] 64) = W1 at *
        go_wp2_with (fail)
        go_at_call 33
        refine (hI _ (Ext.refl _)).mono ?_
        rintro e w4 ⟨rfl, raw', habi, hct⟩
        dsimp only
        obtain ⟨P4, c4, F4, HP4⟩ := HP1h.out.prog hct.g
        have hu4 : UpdF F W1 w4 := by obtain ⟨_, _, _, _, _, _, u⟩ := hct; exact u
        have hbA4 := hbA.upd hu4 (fun e => hFA _ e rfl)
        have hTr : FullT hdV hdH h r (absT rr) := by rw [hab]; exact HT.out
        have hRI := rinsert_any (fun i => F4 i ∨ i = X ∨ i = w.heap.size) h r Pr cr rr A B R key true w4 HP4.sl hTr (by have := congrArg List.length hab; rw [absT_len, absT_len] at this; omega) (fun i hi => by
          rcases hi with hi | hi | hi
          · exact HP4.ct.Flt i hi
          · exact hi ▸ HP4.ltX
          · exact hi ▸ HP4.ltR) HP4.off (hrow.1.ext HP4.ext) hrow.2
        rw [hab, hcode] at hRI
        have hTv : FullT hdV hdH h r (absT raw') := by rw [habi]; exact hE.out
        have hlv : raw'.length ≤ 600 + (k + 1) := by
          have h1 := congrArg List.length habi
          have h2 := hEl.out
          rw [absT_len] at h1 h2
          omega
        have a0 := hbA4.cell (i := 0) rfl
        have a1 := hbA4.cell (i := 1) rfl
        have a2 := hbA4.cell (i := 2) rfl
        have p1 := HP4.bx.cell (i := 1) rfl
        have p2 := HP4.bx.cell (i := 2) rfl
        have p3 := HP4.bx.cell (i := 3) rfl
        have HABI := Lib.hid habi
        have HP4h := Lib.hid HP4
        clear hct hTr habi hcode hI HP4
        go_wp2_with (fail)
        go_at_call 36
        refine hRI.mono ?_
        rintro e w5 ⟨P5, c5, l5, rfl, hab5, hs5, hof5, hx5⟩
        dsimp only
        have HPw := HP4h.out.to hx5
        have p1 := HPw.bx.cell (i := 1) rfl
        have p2 := HPw.bx.cell (i := 2) rfl
        have p3 := HPw.bx.cell (i := 3) rfl
        have f1 := HPw.bx.frozen 1
        have f2 := HPw.bx.frozen 2
        have f3 := HPw.bx.frozen 3
        have HPv := HPw.ref (h' := h) hs5 hof5
        have habv : absT l5 = absT raw' := hab5.trans HABI.out.symm
        clear HPw hs5 hof5 hRI
        go_wp2_with (fail)

        generalize ((w5.setCell ⟨X, 1, none⟩ (.int .i64 h)).setCell ⟨X, 2, none⟩ (.int .i64 r)).setCell ⟨X, 3, none⟩ (.slice P5 l5.length c5) = Wv at *
        have HP5 := Lib.hid HPv
        have HF5 := Lib.hid hTv
        have HL5 := Lib.hid hlv
        have HAB5 := Lib.hid habv
        have hRr := (show FullT hdV hdH h r (absT l5) from by rw [habv]; exact hTv).rows_ok
        have hle5 := hTv.ents_le
        have HBu := fun W (hx' : Ext Wv W) => buckets_any t h r P4 c4 raw' W ((HP5.out.to hx').ct.ctr (by have := HL5.out; omega) hle5) (by have := HL5.out; omega) hle5 (rows_le HF5.out)
        have HSm := fun W (hx' : Ext Wv W) P9 c9 l9 (h9 : SlB W P9 c9 l9) (e9 : absT l9 = absT raw') => sameBk_any P9 P5 c9 c5 l9 l5 W h9 (HP5.out.to hx').sl (FullT.rows_ok (by rw [e9]; exact HF5.out)) hRr
        have HNX := Lib.hid HPv.bx
        clear HPv hTv hlv habv hle5
        go_wp2_with (fail)
        have hxv := (Ext.refl Wv).drew
        have v0 := (HNX.out.ext hxv).cell (i := 0) rfl
        have v3 := (HNX.out.ext hxv).cell (i := 3) rfl
        have v4 := (HNX.out.ext hxv).cell (i := 4) rfl
        have f4 := (HNX.out.ext hxv).frozen 4
        go_region_held3 (fun w' => w'.cell? ⟨X, 0, none⟩ = some (.pointer (some ⟨t, 0, none⟩)) ∧ w'.cell? ⟨X, 3, none⟩ = some (.slice P5 l5.length c5)) (go_keep)
          (first
            | (go_at_call 24; refine (HBu _ hxv).mono ?_; rintro e w8 ⟨P9, c9, F9, l9, rfl, hO9, hF9, hab9, hx9, hnr9⟩; have y0 := hx9.cell v0; have y3 := hx9.cell v3; have y4 := hx9.cell v4)
            | (go_at_call 26; refine (HSm _ (hxv.trans hx9) P9 c9 l9 (hO9.sl (by have := congrArg List.length hab9; have h2 := HL5.out; rw [absT_len, absT_len] at this; omega) (FullT.ents_le (by rw [hab9]; exact HF5.out))) hab9).mono ?_; rintro e w9 ⟨rfl, hx10⟩; rw [decide_eq_true (hab9.trans HAB5.out.symm)]; have y0 := hx10.cell y0; have y3 := hx10.cell y3; have y4 := hx10.cell y4; have z4 := (HNX.out.ext ((hxv.trans hx9).trans hx10)).frozen 4; have bz := (HNX.out.ext ((hxv.trans hx9).trans hx10)).set 4 (.bool true); have z0 := bz.cell (i := 0) rfl; have z3 := bz.cell (i := 3) rfl)
            | fail)
        have HP9 := (HP5.out.to ((hxv.trans hx9).trans hx10)).same
        go_wp2_with (fail)
        go_roundw
        case rel => exact ⟨k + 1, h, t, F4, P4, c4, raw', P5, c5, l5, by omega, by go_num, HP9, HF5.out, by have := HL5.out; omega, HAB5.out⟩
        case measure => simp [intOf]; omega
      by_cases hk2 : kind = 2
      · subst hk2
        have hI := fun W (hx' : Ext _ W) => remove_any F t h r P c raw A B R key W (HP1.to hx').ct hT (by omega) (ht.ext (HP1.to hx').ext) (hrow.1.ext (HP1.to hx').ext)
        have hE := Lib.hid (remT_full hT R key)
        have hEl := Lib.hid (remT_len hT R key)
        have HT := Lib.hid hT
        generalize hcode : remE h (absT raw) R key = code at *
        have HP1h := Lib.hid HP1
        have a0 := hbA.cell (i := 0) rfl
        have a1 := hbA.cell (i := 1) rfl
        have a2 := hbA.cell (i := 2) rfl
        have p0 := HP1.bx.cell (i := 0) rfl
        clear HP1 hT
        go_wp2_with (fail)
        generalize wr.alloc (.cells #[.int .i64 2, .int .i64 key, .slice A R.length B] 64) = W1 at *
        go_wp2_with (fail)
        go_at_call 34
        refine (hI _ (Ext.refl _)).mono ?_
        rintro e w4 ⟨rfl, raw', habi, hct⟩
        dsimp only
        obtain ⟨P4, c4, F4, HP4⟩ := HP1h.out.prog hct.g
        have hu4 : UpdF F W1 w4 := by obtain ⟨_, _, _, _, _, _, u⟩ := hct; exact u
        have hbA4 := hbA.upd hu4 (fun e => hFA _ e rfl)
        have hTr : FullT hdV hdH h r (absT rr) := by rw [hab]; exact HT.out
        have hRI := rremove_any (fun i => F4 i ∨ i = X ∨ i = w.heap.size) h r Pr cr rr A B R key w4 HP4.sl hTr (by have := congrArg List.length hab; rw [absT_len, absT_len] at this; omega) (fun i hi => by
          rcases hi with hi | hi | hi
          · exact HP4.ct.Flt i hi
          · exact hi ▸ HP4.ltX
          · exact hi ▸ HP4.ltR) HP4.off (hrow.1.ext HP4.ext) hrow.2
        rw [hab, hcode] at hRI
        have hTv : FullT hdV hdH h r (absT raw') := by rw [habi]; exact hE.out
        have hlv : raw'.length ≤ 600 + (k + 1) := by
          have h1 := congrArg List.length habi
          have h2 := hEl.out
          rw [absT_len] at h1 h2
          omega
        have a0 := hbA4.cell (i := 0) rfl
        have a1 := hbA4.cell (i := 1) rfl
        have a2 := hbA4.cell (i := 2) rfl
        have p1 := HP4.bx.cell (i := 1) rfl
        have p2 := HP4.bx.cell (i := 2) rfl
        have p3 := HP4.bx.cell (i := 3) rfl
        have HABI := Lib.hid habi
        have HP4h := Lib.hid HP4
        clear hct hTr habi hcode hI HP4
        go_wp2_with (fail)
        go_at_call 37
        refine hRI.mono ?_
        rintro e w5 ⟨P5, c5, l5, rfl, hab5, hs5, hof5, hx5⟩
        dsimp only
        have HPw := HP4h.out.to hx5
        have p1 := HPw.bx.cell (i := 1) rfl
        have p2 := HPw.bx.cell (i := 2) rfl
        have p3 := HPw.bx.cell (i := 3) rfl
        have f1 := HPw.bx.frozen 1
        have f2 := HPw.bx.frozen 2
        have f3 := HPw.bx.frozen 3
        have HPv := HPw.ref (h' := h) hs5 hof5
        have habv : absT l5 = absT raw' := hab5.trans HABI.out.symm
        clear HPw hs5 hof5 hRI
        go_wp2_with (fail)

        generalize ((w5.setCell ⟨X, 1, none⟩ (.int .i64 h)).setCell ⟨X, 2, none⟩ (.int .i64 r)).setCell ⟨X, 3, none⟩ (.slice P5 l5.length c5) = Wv at *
        have HP5 := Lib.hid HPv
        have HF5 := Lib.hid hTv
        have HL5 := Lib.hid hlv
        have HAB5 := Lib.hid habv
        have hRr := (show FullT hdV hdH h r (absT l5) from by rw [habv]; exact hTv).rows_ok
        have hle5 := hTv.ents_le
        have HBu := fun W (hx' : Ext Wv W) => buckets_any t h r P4 c4 raw' W ((HP5.out.to hx').ct.ctr (by have := HL5.out; omega) hle5) (by have := HL5.out; omega) hle5 (rows_le HF5.out)
        have HSm := fun W (hx' : Ext Wv W) P9 c9 l9 (h9 : SlB W P9 c9 l9) (e9 : absT l9 = absT raw') => sameBk_any P9 P5 c9 c5 l9 l5 W h9 (HP5.out.to hx').sl (FullT.rows_ok (by rw [e9]; exact HF5.out)) hRr
        have HNX := Lib.hid HPv.bx
        clear HPv hTv hlv habv hle5
        go_wp2_with (fail)
        have hxv := (Ext.refl Wv).drew
        have v0 := (HNX.out.ext hxv).cell (i := 0) rfl
        have v3 := (HNX.out.ext hxv).cell (i := 3) rfl
        have v4 := (HNX.out.ext hxv).cell (i := 4) rfl
        have f4 := (HNX.out.ext hxv).frozen 4
        go_region_held3 (fun w' => w'.cell? ⟨X, 0, none⟩ = some (.pointer (some ⟨t, 0, none⟩)) ∧ w'.cell? ⟨X, 3, none⟩ = some (.slice P5 l5.length c5)) (go_keep)
          (first
            | (go_at_call 24; refine (HBu _ hxv).mono ?_; rintro e w8 ⟨P9, c9, F9, l9, rfl, hO9, hF9, hab9, hx9, hnr9⟩; have y0 := hx9.cell v0; have y3 := hx9.cell v3; have y4 := hx9.cell v4)
            | (go_at_call 26; refine (HSm _ (hxv.trans hx9) P9 c9 l9 (hO9.sl (by have := congrArg List.length hab9; have h2 := HL5.out; rw [absT_len, absT_len] at this; omega) (FullT.ents_le (by rw [hab9]; exact HF5.out))) hab9).mono ?_; rintro e w9 ⟨rfl, hx10⟩; rw [decide_eq_true (hab9.trans HAB5.out.symm)]; have y0 := hx10.cell y0; have y3 := hx10.cell y3; have y4 := hx10.cell y4; have z4 := (HNX.out.ext ((hxv.trans hx9).trans hx10)).frozen 4; have bz := (HNX.out.ext ((hxv.trans hx9).trans hx10)).set 4 (.bool true); have z0 := bz.cell (i := 0) rfl; have z3 := bz.cell (i := 3) rfl)
            | fail)
        have HP9 := (HP5.out.to ((hxv.trans hx9).trans hx10)).same
        go_wp2_with (fail)
        go_roundw
        case rel => exact ⟨k + 1, h, t, F4, P4, c4, raw', P5, c5, l5, by omega, by go_num, HP9, HF5.out, by have := HL5.out; omega, HAB5.out⟩
        case measure => simp [intOf]; omega
      by_cases hk3 : kind = 3
      · subst hk3
        by_cases hkey : 1 ≤ key ∧ key ≤ 100
        · obtain ⟨hb1, hb2⟩ := hkey
          obtain ⟨h2, rfl⟩ : ∃ n : Nat, key = n := ⟨key.toNat, by omega⟩
          have hb1 : 1 ≤ h2 := by omega
          have hb2 : h2 ≤ 100 := by omega
          have hRB : rightB h2 r = true := by unfold rightB; exact decide_eq_true (by omega)
          have hI := fun W (hx' : Ext _ W) => regrow_yes F t h h2 r P c raw W (HP1.to hx').ct hT (by omega) (ht.ext (HP1.to hx').ext) hRB
          have hE := Lib.hid (regT_full (h2 := h2) hT hb1 hb2)
          have hEl := Lib.hid (regT_len (h2 := h2) hT hb1 hb2)
          have HT := Lib.hid hT
          have HP1h := Lib.hid HP1
          have a0 := hbA.cell (i := 0) rfl
          have a1 := hbA.cell (i := 1) rfl
          have a2 := hbA.cell (i := 2) rfl
          have p0 := HP1.bx.cell (i := 0) rfl
          clear HP1 hT
          go_wp2_with (fail)
          generalize wr.alloc (.cells #[.int .i64 3, .int .i64 (h2 : Nat), .slice A R.length B] 64) = W1 at *
          go_wp2_with (fail)
          go_at_call 38
          refine (hI _ (Ext.refl _)).mono ?_
          rintro e w4 ⟨rfl, raw', habi, hct⟩
          dsimp only
          obtain ⟨P4, c4, F4, HP4⟩ := HP1h.out.prog hct
          have hu4 : UpdF F W1 w4 := by obtain ⟨_, _, _, _, _, u⟩ := hct; exact u
          have hbA4 := hbA.upd hu4 (fun e => hFA _ e rfl)
          have hTr : FullT hdV hdH h r (absT rr) := by rw [hab]; exact HT.out
          have hRI := rregrow_yes (fun i => F4 i ∨ i = X ∨ i = w.heap.size) h h2 r Pr cr rr w4 HP4.sl hTr (fun i hi => by
            rcases hi with hi | hi | hi
            · exact HP4.ct.Flt i hi
            · exact hi ▸ HP4.ltX
            · exact hi ▸ HP4.ltR) hb1 hb2
          rw [hab] at hRI
          have hTv : FullT hdV hdH h2 r (absT raw') := by rw [habi]; exact hE.out
          have hlv : raw'.length ≤ 600 + (k + 1) := by
            have h1 := congrArg List.length habi
            have h2 := hEl.out
            rw [absT_len] at h1
            rw [← h1] at h2
            omega
          have a0 := hbA4.cell (i := 0) rfl
          have a1 := hbA4.cell (i := 1) rfl
          have a2 := hbA4.cell (i := 2) rfl
          have p1 := HP4.bx.cell (i := 1) rfl
          have p2 := HP4.bx.cell (i := 2) rfl
          have p3 := HP4.bx.cell (i := 3) rfl
          have HABI := Lib.hid habi
          have HP4h := Lib.hid HP4
          clear hct hTr habi hI HP4
          go_wp2_with (fail)
          go_at_call 39
          refine hRI.mono ?_
          rintro e w5 ⟨P5, c5, l5, rfl, hab5, hs5, hof5, hx5⟩
          dsimp only
          have HPw := HP4h.out.to hx5
          have p1 := HPw.bx.cell (i := 1) rfl
          have p2 := HPw.bx.cell (i := 2) rfl
          have p3 := HPw.bx.cell (i := 3) rfl
          have f1 := HPw.bx.frozen 1
          have f2 := HPw.bx.frozen 2
          have f3 := HPw.bx.frozen 3
          have HPv := HPw.ref (h' := h2) hs5 hof5
          have habv : absT l5 = absT raw' := hab5.trans HABI.out.symm
          clear HPw hs5 hof5 hRI
          go_wp2_with (fail)

          generalize ((w5.setCell ⟨X, 1, none⟩ (.int .i64 h2)).setCell ⟨X, 2, none⟩ (.int .i64 r)).setCell ⟨X, 3, none⟩ (.slice P5 l5.length c5) = Wv at *
          have HP5 := Lib.hid HPv
          have HF5 := Lib.hid hTv
          have HL5 := Lib.hid hlv
          have HAB5 := Lib.hid habv
          have hRr := (show FullT hdV hdH h2 r (absT l5) from by rw [habv]; exact hTv).rows_ok
          have hle5 := hTv.ents_le
          have HBu := fun W (hx' : Ext Wv W) => buckets_any t h2 r P4 c4 raw' W ((HP5.out.to hx').ct.ctr (by have := HL5.out; omega) hle5) (by have := HL5.out; omega) hle5 (rows_le HF5.out)
          have HSm := fun W (hx' : Ext Wv W) P9 c9 l9 (h9 : SlB W P9 c9 l9) (e9 : absT l9 = absT raw') => sameBk_any P9 P5 c9 c5 l9 l5 W h9 (HP5.out.to hx').sl (FullT.rows_ok (by rw [e9]; exact HF5.out)) hRr
          have HNX := Lib.hid HPv.bx
          clear HPv hTv hlv habv hle5
          go_wp2_with (fail)
          have hxv := (Ext.refl Wv).drew
          have v0 := (HNX.out.ext hxv).cell (i := 0) rfl
          have v3 := (HNX.out.ext hxv).cell (i := 3) rfl
          have v4 := (HNX.out.ext hxv).cell (i := 4) rfl
          have f4 := (HNX.out.ext hxv).frozen 4
          go_region_held3 (fun w' => w'.cell? ⟨X, 0, none⟩ = some (.pointer (some ⟨t, 0, none⟩)) ∧ w'.cell? ⟨X, 3, none⟩ = some (.slice P5 l5.length c5)) (go_keep)
            (first
              | (go_at_call 24; refine (HBu _ hxv).mono ?_; rintro e w8 ⟨P9, c9, F9, l9, rfl, hO9, hF9, hab9, hx9, hnr9⟩; have y0 := hx9.cell v0; have y3 := hx9.cell v3; have y4 := hx9.cell v4)
              | (go_at_call 26; refine (HSm _ (hxv.trans hx9) P9 c9 l9 (hO9.sl (by have := congrArg List.length hab9; have h2 := HL5.out; rw [absT_len, absT_len] at this; omega) (FullT.ents_le (by rw [hab9]; exact HF5.out))) hab9).mono ?_; rintro e w9 ⟨rfl, hx10⟩; rw [decide_eq_true (hab9.trans HAB5.out.symm)]; have y0 := hx10.cell y0; have y3 := hx10.cell y3; have y4 := hx10.cell y4; have z4 := (HNX.out.ext ((hxv.trans hx9).trans hx10)).frozen 4; have bz := (HNX.out.ext ((hxv.trans hx9).trans hx10)).set 4 (.bool true); have z0 := bz.cell (i := 0) rfl; have z3 := bz.cell (i := 3) rfl)
              | fail)
          have HP9 := (HP5.out.to ((hxv.trans hx9).trans hx10)).same
          go_wp2_with (fail)
          go_roundw
          case rel => exact ⟨k + 1, h2, t, F4, P4, c4, raw', P5, c5, l5, by omega, by go_num, HP9, HF5.out, by have := HL5.out; omega, HAB5.out⟩
          case measure => simp [intOf]; omega
        · have hRB : rightB key r = false := by unfold rightB; exact decide_eq_false (by omega)
          have hHB : homesB key = false := by unfold homesB; exact decide_eq_false hkey
          have hI := fun W (hx' : Ext _ W) => regrow_no F t h r key P c raw W (HP1.to hx').ct hRB
          have HP1h := Lib.hid HP1
          have a0 := hbA.cell (i := 0) rfl
          have a1 := hbA.cell (i := 1) rfl
          have a2 := hbA.cell (i := 2) rfl
          have p0 := HP1.bx.cell (i := 0) rfl
          have p1 := HP1.bx.cell (i := 1) rfl
          have p2 := HP1.bx.cell (i := 2) rfl
          have p3 := HP1.bx.cell (i := 3) rfl
          have hRI := rregrow_no (fun i => F i ∨ i = X ∨ i = w.heap.size) h r key Pr cr rr _ HP1.sl HP1.off hHB
          rw [hab] at hRI
          have hTv := hT
          have hlv : raw.length ≤ 600 + (k + 1) := by omega
          clear HP1 hkey hRB hHB
          go_wp2_with (fail)
          generalize wr.alloc (.cells #[.int .i64 3, .int .i64 key, .slice A R.length B] 64) = W1 at *
          go_wp2_with (fail)
          go_at_call 38
          refine (hI _ (Ext.refl _)).mono ?_
          rintro e w4 ⟨rfl, rfl⟩
          dsimp only
          go_wp2_with (fail)
          go_at_call 39
          refine hRI.mono ?_
          rintro e w5 ⟨P5, c5, l5, rfl, hab5, hs5, hof5, hx5⟩
          dsimp only
          have HPw := HP1h.out.to hx5
          have p1 := HPw.bx.cell (i := 1) rfl
          have p2 := HPw.bx.cell (i := 2) rfl
          have p3 := HPw.bx.cell (i := 3) rfl
          have f1 := HPw.bx.frozen 1
          have f2 := HPw.bx.frozen 2
          have f3 := HPw.bx.frozen 3
          have HPv := HPw.ref (h' := h) hs5 hof5
          have habv : absT l5 = absT raw := hab5
          clear HPw hs5 hof5 hRI hI
          go_wp2_with (fail)

          generalize ((w5.setCell ⟨X, 1, none⟩ (.int .i64 h)).setCell ⟨X, 2, none⟩ (.int .i64 r)).setCell ⟨X, 3, none⟩ (.slice P5 l5.length c5) = Wv at *
          have HP5 := Lib.hid HPv
          have HF5 := Lib.hid hTv
          have HL5 := Lib.hid hlv
          have HAB5 := Lib.hid habv
          have hRr := (show FullT hdV hdH h r (absT l5) from by rw [habv]; exact hTv).rows_ok
          have hle5 := hTv.ents_le
          have HBu := fun W (hx' : Ext Wv W) => buckets_any t h r P c raw W ((HP5.out.to hx').ct.ctr (by have := HL5.out; omega) hle5) (by have := HL5.out; omega) hle5 (rows_le HF5.out)
          have HSm := fun W (hx' : Ext Wv W) P9 c9 l9 (h9 : SlB W P9 c9 l9) (e9 : absT l9 = absT raw) => sameBk_any P9 P5 c9 c5 l9 l5 W h9 (HP5.out.to hx').sl (FullT.rows_ok (by rw [e9]; exact HF5.out)) hRr
          have HNX := Lib.hid HPv.bx
          clear HPv hTv hlv habv hle5
          go_wp2_with (fail)
          have hxv := (Ext.refl Wv).drew
          have v0 := (HNX.out.ext hxv).cell (i := 0) rfl
          have v3 := (HNX.out.ext hxv).cell (i := 3) rfl
          have v4 := (HNX.out.ext hxv).cell (i := 4) rfl
          have f4 := (HNX.out.ext hxv).frozen 4
          go_region_held3 (fun w' => w'.cell? ⟨X, 0, none⟩ = some (.pointer (some ⟨t, 0, none⟩)) ∧ w'.cell? ⟨X, 3, none⟩ = some (.slice P5 l5.length c5)) (go_keep)
            (first
              | (go_at_call 24; refine (HBu _ hxv).mono ?_; rintro e w8 ⟨P9, c9, F9, l9, rfl, hO9, hF9, hab9, hx9, hnr9⟩; have y0 := hx9.cell v0; have y3 := hx9.cell v3; have y4 := hx9.cell v4)
              | (go_at_call 26; refine (HSm _ (hxv.trans hx9) P9 c9 l9 (hO9.sl (by have := congrArg List.length hab9; have h2 := HL5.out; rw [absT_len, absT_len] at this; omega) (FullT.ents_le (by rw [hab9]; exact HF5.out))) hab9).mono ?_; rintro e w9 ⟨rfl, hx10⟩; rw [decide_eq_true (hab9.trans HAB5.out.symm)]; have y0 := hx10.cell y0; have y3 := hx10.cell y3; have y4 := hx10.cell y4; have z4 := (HNX.out.ext ((hxv.trans hx9).trans hx10)).frozen 4; have bz := (HNX.out.ext ((hxv.trans hx9).trans hx10)).set 4 (.bool true); have z0 := bz.cell (i := 0) rfl; have z3 := bz.cell (i := 3) rfl)
              | fail)
          have HP9 := (HP5.out.to ((hxv.trans hx9).trans hx10)).same
          go_wp2_with (fail)
          go_roundw
          case rel => exact ⟨k + 1, h, t, F, P, c, raw, P5, c5, l5, by omega, by go_num, HP9, HF5.out, by have := HL5.out; omega, HAB5.out⟩
          case measure => simp [intOf]; omega
      · have HP1h := Lib.hid HP1
        have n0 : (kind == 0) = false := by simpa using hk0
        have n1 : (kind == 1) = false := by simpa using hk1
        have n2 : (kind == 2) = false := by simpa using hk2
        have n3 : (kind == 3) = false := by simpa using hk3
        have a0 := hbA.cell (i := 0) rfl
        have a1 := hbA.cell (i := 1) rfl
        have a2 := hbA.cell (i := 2) rfl
        have p0 := HP1.bx.cell (i := 0) rfl
        have hle0 := hT.ents_le
        have hC := fun W (hx' : Ext _ W) => copy_any t h r P c raw W ((HP1.to hx').ct.ctr (by omega) hle0) (by omega) hle0 (rows_le hT)
        have HT := Lib.hid hT
        have HTE := Lib.hid (insT_full hT R 1 false)
        clear HP1 hk0 hk1 hk2 hk3 hle0
        go_wp2_with (fail)
        generalize wr.alloc (.cells #[.int .i64 kind, .int .i64 key, .slice A R.length B] 64) = W1 at *
        go_wp2_with (fail)
        go_at_call 40
        refine (hC _ (Ext.refl _)).mono ?_
        rintro e w4 ⟨tn, P4, c4, F4, l4, rfl, hC4, hF4, hab4, hx4, hnr4⟩
        dsimp only
        have HPw := HP1h.out.to hx4
        have p0 := HPw.bx.cell (i := 0) rfl
        have f0 := HPw.bx.frozen 0
        obtain ⟨hO, hxO, hNx⟩ := HP1h.out.copy hC4 hF4 hx4 hnr4
        have hbA4 := (hbA.ext hx4).upd ((UpdF.refl (fun i => i = X) w4).setCell (p := ⟨X, 0, none⟩) (.inl rfl) (.pointer (some ⟨tn, 0, none⟩))) (fun e => hXA e.symm)
        have a2 := hbA4.cell (i := 2) rfl
        have hI := insert_any F t h r P c raw A B R 1 false _ hO hT (by omega) (ht.ext hxO) (hrow.1.ext hxO) hrow.2 hoR
        have hTv : FullT hdV hdH h r (absT l4) := by rw [hab4]; exact hT
        have hlv : l4.length ≤ 600 + (k + 1) := by
          have h1 := congrArg List.length hab4
          rw [absT_len, absT_len] at h1
          omega
        have habv : absT rr = absT l4 := hab.trans hab4.symm
        have HNXT := Lib.hid hNx
        clear hC hO hC4 hF4 hnr4 hNx HPw
        go_wp2_with (fail)
        generalize w4.setCell ⟨X, 0, none⟩ (.pointer (some ⟨tn, 0, none⟩)) = W5 at *
        go_wp2_with (fail)
        go_at_call 33
        refine hI.mono ?_
        rintro e w6 ⟨rfl, _, _, _, _, _, _, _, _, hu6⟩
        dsimp only
        have HPv := HNXT.out w6 hu6
        clear hI a0 a1 a2 p0 f0

        generalize w6 = Wv at *
        have HP5 := Lib.hid HPv
        have HF5 := Lib.hid hTv
        have HL5 := Lib.hid hlv
        have HAB5 := Lib.hid habv
        have hRr := (show FullT hdV hdH h r (absT rr) from by rw [habv]; exact hTv).rows_ok
        have hle5 := hTv.ents_le
        have HBu := fun W (hx' : Ext Wv W) => buckets_any tn h r P4 c4 l4 W ((HP5.out.to hx').ct.ctr (by have := HL5.out; omega) hle5) (by have := HL5.out; omega) hle5 (rows_le HF5.out)
        have HSm := fun W (hx' : Ext Wv W) P9 c9 l9 (h9 : SlB W P9 c9 l9) (e9 : absT l9 = absT l4) => sameBk_any P9 Pr c9 cr l9 rr W h9 (HP5.out.to hx').sl (FullT.rows_ok (by rw [e9]; exact HF5.out)) hRr
        have HNX := Lib.hid HPv.bx
        clear HPv hTv hlv habv hle5
        go_wp2_with (fail)
        have hxv := (Ext.refl Wv).drew
        have v0 := (HNX.out.ext hxv).cell (i := 0) rfl
        have v3 := (HNX.out.ext hxv).cell (i := 3) rfl
        have v4 := (HNX.out.ext hxv).cell (i := 4) rfl
        have f4 := (HNX.out.ext hxv).frozen 4
        go_region_held3 (fun w' => w'.cell? ⟨X, 0, none⟩ = some (.pointer (some ⟨tn, 0, none⟩)) ∧ w'.cell? ⟨X, 3, none⟩ = some (.slice Pr rr.length cr)) (go_keep)
          (first
            | (go_at_call 24; refine (HBu _ hxv).mono ?_; rintro e w8 ⟨P9, c9, F9, l9, rfl, hO9, hF9, hab9, hx9, hnr9⟩; have y0 := hx9.cell v0; have y3 := hx9.cell v3; have y4 := hx9.cell v4)
            | (go_at_call 26; refine (HSm _ (hxv.trans hx9) P9 c9 l9 (hO9.sl (by have := congrArg List.length hab9; have h2 := HL5.out; rw [absT_len, absT_len] at this; omega) (FullT.ents_le (by rw [hab9]; exact HF5.out))) hab9).mono ?_; rintro e w9 ⟨rfl, hx10⟩; rw [decide_eq_true (hab9.trans HAB5.out.symm)]; have y0 := hx10.cell y0; have y3 := hx10.cell y3; have y4 := hx10.cell y4; have z4 := (HNX.out.ext ((hxv.trans hx9).trans hx10)).frozen 4; have bz := (HNX.out.ext ((hxv.trans hx9).trans hx10)).set 4 (.bool true); have z0 := bz.cell (i := 0) rfl; have z3 := bz.cell (i := 3) rfl)
            | fail)
        have HP9 := (HP5.out.to ((hxv.trans hx9).trans hx10)).same
        go_wp2_with (fail)
        go_roundw
        case rel => exact ⟨k + 1, h, tn, F4, P4, c4, l4, Pr, cr, rr, by omega, by go_num, HP9, HF5.out, by have := HL5.out; omega, HAB5.out⟩
        case measure => simp [intOf]; omega
    · obtain rfl : k = L.length := by omega
      have ck : ¬ (L.length : Int) < L.length := by omega
      have r0 := H.bR.cell (i := 0) rfl
      have r1 := H.bR.cell (i := 1) rfl
      have r2 := H.bR.cell (i := 2) rfl
      have r3 := H.bR.cell (i := 3) rfl
      have r4 := H.bR.cell (i := 4) rfl
      have r5 := H.bR.cell (i := 5) rfl
      have f0 := H.bR.frozen 0
      have f1 := H.bR.frozen 1
      have f2 := H.bR.frozen 2
      have f3 := H.bR.frozen 3
      have f4 := H.bR.frozen 4
      have f5 := H.bR.frozen 5
      obtain ⟨z1, z2, z3, z4⟩ := H.done
      have y0 := z4.cell (i := 0) rfl
      have y1 := z4.cell (i := 1) rfl
      have y2 := z4.cell (i := 2) rfl
      have y3 := z4.cell (i := 3) rfl
      have y4 := z4.cell (i := 4) rfl
      have y5 := z4.cell (i := 5) rfl
      have hnew := fun k hk => (H.new k hk).1
      have hoff := H.off.mono (G := F) (fun i hi => .inl hi)
      clear H
      go_wp2_with (fail)
      refine bodyPost_ret (v := .agg (PlC t h r Pr rr.length cr)) (by simp [results, Tryz.results9, go_sem, y0, y1, y2, y3, y4, y5]) rfl ⟨t, h, F, P, c, raw, Pr, cr, rr, rfl, z1, hT, by omega, z2, hab, hoff, hnew, z3⟩
end
section
open Go.RowKit Go.Maps
set_option linter.unusedVariables false
set_option linter.unusedSimpArgs false
set_option linter.unusedSectionVars false
set_option maxRecDepth 100000
attribute [local go_sem] Oper.semAt_some

abbrev PlN : Array Value := #[.pointer none, .int .i64 0, .int .i64 0, .slice none 0 0, .bool true, .bool false]
set_option maxHeartbeats 8000000 in
theorem play_no (h0 r : Int) (PL : Option Addr) (cL : Nat) (L : List AcR) (w : World) (hB : rightB h0 r = false) :
    Calls Tryz.prog 9 #[.int .i64 h0, .int .i64 r, .slice PL L.length cL] w fun e w' => e = .returned (.agg PlN) ∧ Ext w w' := by
  have hN := fun W => new_no h0 r W hB
  have hR := fun W => rnew_no h0 r W hB
  have hB0 := BoxN.new w 30 PlZ
  have hx0 := (Ext.refl w).alloc (.cells PlZ 30)
  go_enter Tryz.func9, Tryz.ntmps9
  go_wp2_with (fail)
  generalize w.alloc (.cells PlZ 30) = W0 at *
  go_at_call 32
  refine (hN _).mono ?_
  rintro e w1 ⟨rfl, rfl⟩
  dsimp only
  go_wp2_with (fail)
  go_at_call 35
  refine (hR _).mono ?_
  rintro e w2 ⟨rfl, hx2⟩
  dsimp only
  have hx3 := ((Ext.refl w2).alloc (.cells #[.int .i64 0, .int .i64 0, .slice none 0 0] 28)).alloc (.cells PlN 30)
  have hbX := BoxN.new (w2.alloc (.cells #[.int .i64 0, .int .i64 0, .slice none 0 0] 28)) 30 PlN
  rw [show (w2.alloc (.cells #[.int .i64 0, .int .i64 0, .slice none 0 0] 28)).heap.size = w2.heap.size + 1 from by simp] at hbX
  have hbR := hB0.ext (hx2.trans hx3)
  have hxW := hx0.trans (hx2.trans hx3)
  clear hN hR hB0
  go_wp2_with (fail)
  generalize (w2.alloc (.cells #[.int .i64 0, .int .i64 0, .slice none 0 0] 28)).alloc (.cells PlN 30) = W3 at *
  clear hx3
  generalize w2.heap.size + 1 = X at *
  clear hx0 hx2
  have x0 := hbX.cell (i := 0) rfl
  have x1 := hbX.cell (i := 1) rfl
  have x2 := hbX.cell (i := 2) rfl
  have x3 := hbX.cell (i := 3) rfl
  have x4 := hbX.cell (i := 4) rfl
  have x5 := hbX.cell (i := 5) rfl
  have r0 := hbR.cell (i := 0) rfl
  have r1 := hbR.cell (i := 1) rfl
  have r2 := hbR.cell (i := 2) rfl
  have r3 := hbR.cell (i := 3) rfl
  have r4 := hbR.cell (i := 4) rfl
  have r5 := hbR.cell (i := 5) rfl
  have f0 := hbR.frozen 0
  have f1 := hbR.frozen 1
  have f2 := hbR.frozen 2
  have f3 := hbR.frozen 3
  have f4 := hbR.frozen 4
  have f5 := hbR.frozen 5
  have hZ := (((((hbR.set 0 (.pointer none)).set 1 (.int .i64 0)).set 2 (.int .i64 0)).set 3 (.slice none 0 0)).set 4 (.bool true)).set 5 (.bool false)
  have u := ((((((UpdF.refl (fun i => i = w.heap.size) W3).setCell (p := ⟨w.heap.size, 0, none⟩) (.inl rfl) (.pointer none)).setCell (p := ⟨w.heap.size, 1, none⟩) (.inl rfl) (.int .i64 0)).setCell (p := ⟨w.heap.size, 2, none⟩) (.inl rfl) (.int .i64 0)).setCell (p := ⟨w.heap.size, 3, none⟩) (.inl rfl) (.slice none 0 0)).setCell (p := ⟨w.heap.size, 4, none⟩) (.inl rfl) (.bool true)).setCell (p := ⟨w.heap.size, 5, none⟩) (.inl rfl) (.bool false)
  have xZ := u.ext hxW (fun i hi => Nat.le_of_eq hi.symm)
  have y0 := hZ.cell (i := 0) rfl
  have y1 := hZ.cell (i := 1) rfl
  have y2 := hZ.cell (i := 2) rfl
  have y3 := hZ.cell (i := 3) rfl
  have y4 := hZ.cell (i := 4) rfl
  have y5 := hZ.cell (i := 5) rfl
  clear u hZ hbX hbR
  go_loopw [12] (fun i wr => i = .int .i64 0 ∧ W3 = wr) (fun i _ => 0)
  case atStart => exact ⟨rfl, rfl⟩
  case round =>
    obtain ⟨rfl, hwr⟩ := hrel
    obtain rfl := hwr
    by_cases hlt : 0 < L.length
    · have c1 : (0 : Int) < L.length := by omega
      go_wp2_with (fail)
      refine bodyPost_ret (v := .agg PlN) (by simp [results, Tryz.results9, go_sem, y0, y1, y2, y3, y4, y5]) rfl ⟨rfl, ?_⟩
      first | exact xZ | skip
    · have hl0 : L.length = 0 := by omega
      rw [hl0]
      clear hlt hl0
      go_wp2_with (fail)
      refine bodyPost_ret (v := .agg PlN) (by simp [results, Tryz.results9, go_sem, y0, y1, y2, y3, y4, y5]) rfl ⟨rfl, ?_⟩
      first | exact xZ | skip
theorem played_field (p : Option Addr) (a b : Int) (v : Value) (x y : Bool) (w : World) : (Instr.field 30 (.agg #[.pointer p, .int .i64 a, .int .i64 b, v, .bool x, .bool y]) 2).run Tryz.prog w = .ok (.bool x) w := by
  have hagg : (isAgg 4).run Tryz.prog w = .ok false w := by
    unfold isAgg
    rw [Sem.run_bind, run_underlying Tryz.underlying4 w]
    rfl
  simp [Instr.field, Sem.run_bind, run_underlying Tryz.underlying30, asAgg, part, hagg]
/-- how play ends: a table and its reference, or none -/
def PlayE (right : Bool) (w : World) (e : Ending) (w' : World) : Prop := if right = true then ∃ r, PlayP r w e w' else e = .returned (.agg PlN) ∧ Ext w w'
theorem play_any (h0 r0 : Int) (PL : Option Addr) (cL : Nat) (L : List AcR) (w : World) (hL : SlAc w PL cL L) (hLn : L.length ≤ 80) (ht : Tab w) :
    Calls Tryz.prog 9 #[.int .i64 h0, .int .i64 r0, .slice PL L.length cL] w (PlayE (rightB h0 r0) w) := by
  cases hB : rightB h0 r0 with
  | true =>
    obtain ⟨h1, h2⟩ := rightB_in12 hB
    obtain ⟨a, rfl⟩ : ∃ n : Nat, h0 = n := ⟨h0.toNat, by omega⟩
    obtain ⟨b, rfl⟩ : ∃ n : Nat, r0 = n := ⟨r0.toNat, by omega⟩
    exact (play_yes a b PL cL L w hB hL hLn ht).mono fun e w' h => by unfold PlayE; rw [if_pos rfl]; exact ⟨b, h⟩
  | false => exact (play_no h0 r0 PL cL L w hB).mono fun e w' h => by unfold PlayE; rw [if_neg (by decide)]; exact h
set_option maxHeartbeats 4000000 in
theorem calcPlays_any (x0 x1 : Int) (PL : Option Addr) (cL : Nat) (L : List AcR) (w : World) (hL : SlAc w PL cL L) (ht : Tab w) :
    Calls Tryz.prog 3 #[.int .i64 x0, .int .i64 x1, .slice PL L.length cL] w fun e w' => e = .returned (.bool true) ∧ Ext w w' := by
  have hA := acts_any PL cL L w hL
  have hAw := fun W (hx : Ext w W) => awake_any W (ht.ext hx)
  go_enter Tryz.func3, Tryz.ntmps3
  go_wp2_with (fail)
  refine hA.mono ?_
  rintro e w1 ⟨b, rfl, hb, hx1⟩
  cases b with
  | false =>
    go_wp2_with (go_at_call 8; refine (hAw _ hx1).mono ?_; rintro e w2 ⟨rfl, hx2⟩)
    go_ret
    exact ⟨rfl, hx1.trans hx2⟩
  | true =>
    have hP := play_any x0 x1 PL cL L w1 (hL.ext hx1) (hb rfl) (ht.ext hx1)
    clear hb
    go_wp2_with (fail)
    refine hP.mono ?_
    intro e w2 hpe
    unfold PlayE at hpe
    cases hR : rightB x0 x1 with
    | true =>
      rw [hR, if_pos rfl] at hpe
      obtain ⟨r, t, h, F, P, c, raw, Pr, cr, rr, rfl, _, _, _, _, _, _, _, hx2⟩ := hpe
      dsimp only
      have hfl := fun w => played_field (some ⟨t, 0, none⟩) h r (.slice Pr rr.length cr) true true w
      go_wp2_with (go_at_call 8; refine (hAw _ (hx1.trans hx2)).mono ?_; rintro e w3 ⟨rfl, hx3⟩)
      go_ret
      exact ⟨rfl, (hx1.trans hx2).trans hx3⟩
    | false =>
      rw [hR, if_neg (by decide)] at hpe
      obtain ⟨rfl, hx2⟩ := hpe
      dsimp only
      have hfl := fun w => played_field none 0 0 (.slice none 0 0) true false w
      go_wp2_with (go_at_call 8; refine (hAw _ (hx1.trans hx2)).mono ?_; rintro e w3 ⟨rfl, hx3⟩)
      go_ret
      exact ⟨rfl, (hx1.trans hx2).trans hx3⟩
end
end Go.Proofs.YtcbinafokhekmaaGreatDoor
