/- CaRg; CaOw; CaBu (merged by group.py) -/
import Derived.Test.YtcbinafokhekmaaGreatDoorQ17
namespace Go.Proofs.YtcbinafokhekmaaGreatDoor
section
open Go.RowKit Go.Maps
set_option linter.unusedVariables false
set_option linter.unusedSimpArgs false
set_option linter.unusedSectionVars false
set_option maxRecDepth 100000
attribute [local go_sem] Oper.semAt_some

/-- how many entries the first runs hold -/
def lenE (T : List (Bkt Hd)) (i : Nat) : Nat := (allE i T).length
theorem allE_succ (T : List (Bkt Hd)) (i : Nat) : allE (i + 1) T = allE i T ++ runE T i := by
  unfold allE
  rw [List.range_succ, List.flatMap_append]
  simp
theorem lenE_succ (T : List (Bkt Hd)) (i : Nat) : lenE T (i + 1) = lenE T i + (runE T i).length := by
  unfold lenE
  rw [allE_succ, List.length_append]
theorem allE_at (T : List (Bkt Hd)) : ∀ (h i : Nat), i < h → ∀ q, q < (runE T i).length → (allE h T)[lenE T i + q]? = (runE T i)[q]?
  | 0, i, hi, q, hq => by omega
  | h + 1, i, hi, q, hq => by
    rw [allE_succ]
    by_cases e : i = h
    · subst e
      rw [List.getElem?_append_right (by unfold lenE; omega)]
      congr 1
      unfold lenE
      omega
    · have h1 := allE_at T h i (by omega) q hq
      have h2 : lenE T i + q < (allE h T).length := by
        rw [List.getElem?_eq_getElem hq] at h1
        exact (List.getElem?_eq_some_iff.1 h1).1
      rw [List.getElem?_append_left h2]
      exact h1
/-- as CtS, with other homes -/
def CtG (w : World) (F : Nat → Prop) (t h r : Nat) (raw : List BkR) (w' : World) : Prop := ∃ P' c' F', CtO w' F' t h r P' c' raw ∧ (∀ k, F' k → F k ∨ w.heap.size ≤ k) ∧ UpdF F w w'
theorem CtS.g {w w' : World} {F : Nat → Prop} {t h r : Nat} {raw : List BkR} (k : CtS w F t h r raw w') : CtG w F t h r raw w' := by
  obtain ⟨P', c', F', H, _, g2, g3⟩ := k
  exact ⟨P', c', F', H, g2, g3⟩
theorem CtG.ext {w w1 w2 : World} {F : Nat → Prop} {t h r : Nat} {raw : List BkR} (k : CtG w F t h r raw w1) (hx : Ext w1 w2) : CtG w F t h r raw w2 := by
  obtain ⟨P', c', F', H, g2, g3⟩ := k
  exact ⟨P', c', F', H.ext hx, g2, g3.trans (UpdF.of_ext hx F)⟩
theorem CtG.pre {w w1 w2 : World} {F : Nat → Prop} {t h r : Nat} {raw : List BkR} (hx : Ext w w1) (k : CtG w1 F t h r raw w2) : CtG w F t h r raw w2 := by
  obtain ⟨P', c', F', H, g2, g3⟩ := k
  exact ⟨P', c', F', H, fun k hk => (g2 k hk).imp id (fun e => Nat.le_trans hx.size e), (UpdF.of_ext hx F).trans g3⟩
/-- a row does not lie in a table's box -/
theorem SlV.off_box {w : World} {P : Option Addr} {c : Nat} {l : List Vl} (h : SlV w P c l) {t : Nat} {T : TypeId} {a b : Int} {Q : Option Addr} {n d : Nat} (hb : BoxN w t T #[.int .i64 a, .int .i64 b, .slice Q n d]) : Off (fun i => i = t) P l := by
  intro hne g off e hg
  subst hg
  cases l with
  | nil => exact hne rfl
  | cons x l =>
    obtain ⟨g', o, e2, h1⟩ := h.at_ 0 x rfl
    rw [e] at e2
    injection e2 with e2
    injection e2 with e3 e4
    subst e3
    have h2 := h1 2 (.string x.2.2) rfl
    have hob : w.heap[g]? = _ := hb
    rcases o with _ | o <;> simp [World.cell?, hob] at h2
/-- *t = *n -/
theorem CtO.moved {w W : World} {F Fn : Nat → Prop} {t tn h r h2 : Nat} {P Pn : Option Addr} {c cn : Nat} {raw rawn : List BkR} (H : CtO w F t h r P c raw) (N : CtO W Fn tn h2 r Pn cn rawn) (hx : Ext w W) (hn : ∀ k, Fn k → w.heap.size ≤ k) :
    CtG w F t h2 r rawn (((W.setCell ⟨t, 0, none⟩ (.int .i64 h2)).setCell ⟨t, 1, none⟩ (.int .i64 r)).setCell ⟨t, 2, none⟩ (.slice Pn rawn.length cn)) := by
  have ht := H.Flt t H.Ft
  have hbox := H.box.ext hx
  have hu := (((UpdF.refl (fun i => i = t) W).setCell (p := ⟨t, 0, none⟩) (.inl rfl) (.int .i64 h2)).setCell (p := ⟨t, 1, none⟩) (.inl rfl) (.int .i64 r)).setCell (p := ⟨t, 2, none⟩) (.inl rfl) (.slice Pn rawn.length cn)
  have hnt : ¬ Fn t := fun e => by have := hn t e; omega
  refine ⟨Pn, cn, fun k => k = t ∨ Fn k, ⟨((hbox.set 0 (.int .i64 h2)).set 1 (.int .i64 r)).set 2 (.slice Pn rawn.length cn), N.own.upd hu (fun g hg e => ?_), fun i x hi => (N.ents i x hi).upd hu (fun g hg e => ?_), fun x hx' y hy => ?_, .inl rfl, fun a ha => ⟨.inr (N.FP a ha).1, fun e => hnt (e ▸ (N.FP a ha).1)⟩, fun i x a hi ha => ?_, N.Fd, fun k hk => ?_⟩, fun k hk => ?_, (UpdF.of_ext hx F).trans_new hu (fun i hi => .inl (hi ▸ H.Ft))⟩
  · obtain ⟨a, e1, e2⟩ := slice_own hg
    exact hnt (by rw [← e, ← e2]; exact (N.FP a e1).1)
  · obtain ⟨a, e1, e2⟩ := slice_own hg
    exact hnt (by rw [← e, ← e2]; exact (N.Fe i x a hi e1).1)
  · have h1 := N.rows x hx' y hy
    have h3 := SlV.off_box h1.1 hbox
    exact ⟨h1.1.upd hu h3, h1.2.1, h3.or h1.2.2⟩
  · obtain ⟨f1, f2, f3⟩ := N.Fe i x a hi ha
    exact ⟨.inr f1, fun e => hnt (e ▸ f1), f3⟩
  · rcases hk with rfl | hk
    · exact Nat.lt_of_lt_of_le ht (Nat.le_trans hx.size hu.size)
    · exact Nat.lt_of_lt_of_le (N.Flt k hk) hu.size
  · rcases hk with rfl | hk
    · exact .inl H.Ft
    · exact .inr (hn k hk)
theorem regF_len (h r : Nat) (h1 : 1 ≤ h) (h2 : h ≤ 100) (r1 : 1 ≤ r) (r2 : r ≤ 20) {E : List Hd} (hE : E.Nodup) (hlen : E.length ≤ 500) (hV : ∀ x ∈ E, hdV x) : ∀ j, j ≤ E.length → (regF hdH h r (E.take j)).length ≤ h + j
  | 0, _ => by simp [regF, emptyT]
  | j + 1, hj => by
    have hx : E[j]? = some E[j] := List.getElem?_eq_getElem (by omega)
    obtain ⟨_, _, _, _, e, _⟩ := regF_step hdV hdH h1 h2 r1 r2 hE hlen hV hx
    rw [← e]
    have := regF_len h r h1 h2 r1 r2 hE hlen hV j (by omega)
    have h3 := putF_len h r (regF hdH h r (E.take j)) ((pathOf (regF hdH h r (E.take j)) (hdH E[j] % h)).getD ((pathOf (regF hdH h r (E.take j)) (hdH E[j] % h)).length - 1) 0) E[j]
    omega
/-- how Regrow answers, what it makes -/
def regE (h2 r : Nat) : Int := if rightB h2 r = true then 0 else 7
def regT (h h2 r : Nat) (T : List (Bkt Hd)) : List (Bkt Hd) := regF hdH h2 r (allE h T)
set_option maxHeartbeats 8000000 in
theorem regrow_no (F : Nat → Prop) (t h r : Nat) (h2 : Int) (P : Option Addr) (c : Nat) (raw : List BkR) (w : World) (H : CtO w F t h r P c raw) (hB : rightB h2 r = false) :
    Calls Tryz.prog 38 #[.pointer (some ⟨t, 0, none⟩), .int .i64 h2] w fun e w' => e = .returned (.int .i64 7) ∧ w = w' := by
  have hN := fun W => new_no h2 r W hB
  have a1 := H.box.cell (i := 1) rfl
  go_enter Tryz.func38, Tryz.ntmps38
  go_wp2_with (go_at_call 32; refine (hN _).mono ?_; rintro e w1 ⟨rfl, rfl⟩)
  go_ret
  exact ⟨rfl, rfl⟩
set_option maxHeartbeats 8000000 in
theorem regrow_yes (F : Nat → Prop) (t h h2 r : Nat) (P : Option Addr) (c : Nat) (raw : List BkR) (w : World) (H : CtO w F t h r P c raw) (hT : FullT hdV hdH h r (absT raw)) (hl : raw.length ≤ 4000) (ht : Tab w) (hB : rightB h2 r = true) :
    Calls Tryz.prog 38 #[.pointer (some ⟨t, 0, none⟩), .int .i64 (h2 : Nat)] w fun e w' => e = .returned (.int .i64 0) ∧ ∃ raw', absT raw' = regT h h2 r (absT raw) ∧ CtG w F t h2 r raw' w' := by
  obtain ⟨hh1, hh2, hr1, hr2⟩ := hT.hh
  have hb2 : 1 ≤ h2 ∧ h2 ≤ 100 := by have := of_decide_eq_true hB; omega
  have hR := H.ctr (by omega) hT.ents_le
  have hN := fun W => new_yes h2 r W hB
  have a1 := H.box.cell (i := 1) rfl
  have hEn := hT.all_nodup
  have hEl := hT.all_len
  have hEV := hT.all_valid
  have HST := fun (j : Nat) (x : Hd) (hx : (allE h (absT raw))[j]? = some x) => Lib.hid (regF_step hdV hdH hb2.1 hb2.2 hr1 hr2 hEn hEl hEV hx)
  have HFL := fun (j : Nat) (hj : j ≤ (allE h (absT raw)).length) => Lib.hid (regF_len h2 r hb2.1 hb2.2 hr1 hr2 hEn hEl hEV j hj)
  have HAT := fun (i q : Nat) (hi : i < h) (hq : q < (runE (absT raw) i).length) => Lib.hid (allE_at (absT raw) h i hi q hq)
  have HLS := fun i => Lib.hid (lenE_succ (absT raw) i)
  have HLE := Lib.hid (show lenE (absT raw) h = (allE h (absT raw)).length from rfl)
  have HEN := fun W (hx : Ext w W) (i : Nat) (hi : i < h) => entries_any t (i : Nat) h r P c raw (pathOf (absT raw) i) W (hR.ext hx) (hT.way hi) (by have := (hT.path hi).2.2; omega) (by change (runR raw i).length ≤ _; have := runR_len hT hi; omega)
  have HRL := fun (i : Nat) (hi : i < h) => Lib.hid (runR_len hT hi)
  have HRR := fun (i : Nat) (hi : i < h) => Lib.hid (runR_rows hT hi hR.sl)
  have HRA := fun (i : Nat) (hi : i < h) => Lib.hid (runR_abs hT hi)
  have HHM := fun (i : Nat) (hi : i < h) => Lib.hid (hT.hom hi)
  change ∀ W, Ext w W → ∀ i : Nat, i < h → Calls _ _ _ _ fun e w' => (∃ v, e = .returned v ∧ OwnG csHd 56 2 w' W.heap.size v (runR raw i)) ∧ Ext W w' at HEN
  have HH := Lib.hid H
  unfold regT
  generalize hT0 : absT raw = T0 at *
  clear hT hT0 hEn hEV
  go_enter Tryz.func38, Tryz.ntmps38
  go_wp2_with (go_at_call 32; refine (hN _).mono ?_; rintro e w1 ⟨⟨tn, Pn, cn, Fn, rfl, Hn, hFn⟩, hx1⟩; have a0 := (HH.out.box.ext hx1).cell (i := 0) rfl)
  have Hn0 : absT (repB h2) = regF hdH h2 r ((allE h T0).take 0) := by rw [repB_abs]; rfl
  clear hN
  go_loopw [28, 7] (fun a _ wr => ∃ (i : Nat) (rn : List BkR) (Pn : Option Addr) (cn : Nat) (Fn : Nat → Prop), i ≤ h ∧ a = .int .i64 i ∧ CtO wr Fn tn h2 r Pn cn rn ∧ absT rn = regF hdH h2 r ((allE h T0).take (lenE T0 i)) ∧ (∀ k, Fn k → w.heap.size ≤ k) ∧ Ext w wr ∧ lenE T0 i ≤ (allE h T0).length) (fun a _ _ => h - (intOf a).toNat)
  case atStart => exact ⟨0, repB h2, Pn, cn, Fn, by omega, rfl, Hn, Hn0, hFn, hx1, Nat.zero_le _⟩
  case round =>
    obtain ⟨i, rn, Pn, cn, Fn, hi, rfl, Hn, hab, hFn, hx, hle⟩ := hrel
    by_cases hlt : i < h
    · have ci : (i : Int) < h := by omega
      have d1 : IntKind.i64.wrap ((i : Int) + 1) = (i : Int) + 1 := IntWalk.i64_in _ ⟨by omega, by omega⟩
      go_wp2_with (go_at_call 50; refine (HEN _ hx i hlt).mono ?_; rintro e w5 ⟨⟨v5, rfl, ho5⟩, hx5⟩; obtain ⟨P5, c5, rfl, hs5⟩ := SlH.of_own ho5 (by have := (HRL i hlt).out; omega) (fun x hx' => ⟨(((HRR i hlt).out x hx').1).ext (hx.trans hx5), ((HRR i hlt).out x hx').2⟩))
      have hrl := (HRL i hlt).out
      have hra := (HRA i hlt).out
      have HRRi := HRR i hlt
      have HHMi := HHM i hlt
      have HATi := fun q hq => HAT i q hlt hq
      have HLSi := Lib.hid ((HLS i).out)
      have hlen5 : (runE T0 i).length = (runR raw i).length := by rw [← hra, List.length_map]
      have hok : ∀ k, Fn k → k < wr.heap.size := Hn.Flt
      have hP5 : Off Fn P5 (runR raw i) := fun _ b off e hb => by
        have h1 := (own_lt ho5 (g := b) (by rw [e]; rfl)).1
        have h3 := hok b hb
        omega
      have hoRow : ∀ x ∈ runR raw i, Off Fn x.1.1 x.1.2.2 := fun x hx' => ((HRRi.out x hx').1.lt vl_pos).mono (fun k hk => hFn k hk)
      have Hn5 := Hn.ext hx5
      have hx05 := hx.trans hx5
      generalize runR raw i = m at *
      have HRAi := Lib.hid hra
      clear HRL HRR HRA HHM HAT HLS HEN hra Hn ho5 hok
      go_loopw [35, 9] (fun a _ wr2 => ∃ (q : Nat) (rq : List BkR) (Pq : Option Addr) (cq : Nat) (Fq : Nat → Prop), q ≤ m.length ∧ a = .int .i64 q ∧ CtO wr2 Fq tn h2 r Pq cq rq ∧ absT rq = regF hdH h2 r ((allE h T0).take (lenE T0 i + q)) ∧ (∀ k, Fq k → Fn k ∨ w5.heap.size ≤ k) ∧ UpdF Fn w5 wr2 ∧ lenE T0 i + q ≤ (allE h T0).length) (fun a _ _ => m.length - (intOf a).toNat)
      case atStart => exact ⟨0, rn, Pn, cn, Fn, by omega, rfl, Hn5, hab, fun k hk => .inl hk, UpdF.refl _ _, hle⟩
      case round =>
        obtain ⟨q, rq, Pq, cq, Fq, hq, rfl, Hq, habq, hFq, hu, hle2⟩ := hrel
        by_cases hlt2 : q < m.length
        · have cq2 : (q : Int) < m.length := by omega
          have d2 : IntKind.i64.wrap ((q : Int) + 1) = (q : Int) + 1 := IntWalk.i64_in _ ⟨by omega, by omega⟩
          have hsq := hs5.upd hu ⟨hP5, hoRow⟩
          obtain ⟨b, off, hPP, g0, g1⟩ := hsq.at_ q hlt2
          subst hPP
          have hxE : (allE h T0)[lenE T0 i + q]? = some (hdA (nthH m q)) := by
            rw [(HATi q (by omega)).out, ← HRAi.out, List.getElem?_map, nthH_some hlt2]
            rfl
          have hjE := (List.getElem?_eq_some_iff.1 hxE).1
          have hst := (HST _ _ hxE).out
          have hln := (HFL (lenE T0 i + q) (by omega)).out
          rw [← habq] at hln hst
          rw [absT_len] at hln
          obtain ⟨s1, _, _, s4, s5, _⟩ := hst
          have hrw := hsq.row _ (nthH_mem hlt2)
          have hro := (hoRow _ (nthH_mem hlt2)).or ((hs5.row _ (nthH_mem hlt2)).1.lt vl_pos)
          have hxw := hu.ext hx05 hFn
          have hszw := hu.size
          generalize nthH m q = x at *
          obtain ⟨⟨A, B, L⟩, K⟩ := x
          dsimp only at g0 g1 hrw hro
          have hLl : L.length ≤ 8 := rowB_len s4.1
          have xa := (Ext.refl wr).alloc (.cells #[.slice A L.length B, .int .i64 K] 56)
          have hPut := put_any Fq tn h2 r Pq cq rq A B L K _ (Hq.ext xa) s1 (by omega) (ht.ext (hxw.trans xa)) (hrw.1.ext xa) hrw.2 (by omega) (hro.mono (fun k hk => hFq k hk))
          have HS5 := Lib.hid s5
          have HFQ := Lib.hid (And.intro hFq hu)
          have hbx := BoxN.new wr 56 #[.slice A L.length B, .int .i64 K]
          have b0 := hbx.cell (i := 0) rfl
          have b1 := hbx.cell (i := 1) rfl
          clear s5 hsq hro s1 hxE hrw hFq
          go_wp2_with (go_at_call 73; refine hPut.mono ?_; rintro e w6 ⟨rfl, hres⟩; have HRES := Lib.hid hres; clear hres)
          obtain ⟨raw', e1, P', c', F', H6, _, g2, g3⟩ := HRES.out
          have hszx := xa.size
          have HN := Lib.hid (show absT raw' = regF hdH h2 r ((allE h T0).take (lenE T0 i + (q + 1))) from e1.trans HS5.out)
          clear e1 HRES
          go_roundw
          case rel => exact ⟨q + 1, raw', P', c', F', by omega, by go_num, H6, HN.out, fun k hk => (g2 k hk).elim (HFQ.out.1 k) (fun e => .inr (by omega)), (HFQ.out.2.trans (UpdF.of_ext xa Fn)).trans_new g3 HFQ.out.1, by omega⟩
          case measure => simp [intOf]; omega
        · obtain rfl : q = m.length := by omega
          go_wp2_with (fail)
          go_roundw
          case rel => exact ⟨i + 1, rq, Pq, cq, Fq, by omega, by go_num, Hq, by rw [habq, HLSi.out, hlen5], fun k hk => (hFq k hk).elim (hFn k) (fun e => Nat.le_trans hx05.size e), hu.ext hx05 hFn, by rw [HLSi.out, hlen5]; exact hle2⟩
          case measure => simp [intOf]; omega
    · obtain rfl : i = h := by omega
      have ht2 := H.ext hx
      have t0' := ht2.box.cell (i := 0) rfl
      have t1' := ht2.box.cell (i := 1) rfl
      have t2' := ht2.box.cell (i := 2) rfl
      have f0 := ht2.box.frozen 0
      have f1 := ht2.box.frozen 1
      have f2 := ht2.box.frozen 2
      have n0 := Hn.box.cell (i := 0) rfl
      have n1 := Hn.box.cell (i := 1) rfl
      have n2 := Hn.box.cell (i := 2) rfl
      have HM := Lib.hid (CtO.moved H Hn hx hFn)
      have HAB := Lib.hid hab
      clear ht2 HEN
      go_wp2_with (fail)
      go_ret
      refine ⟨rfl, rn, ?_, HM.out⟩
      rw [HAB.out, HLE.out, List.take_length]
end
section
open Go.RowKit Go.Maps
set_option linter.unusedVariables false
set_option linter.unusedSimpArgs false
set_option linter.unusedSectionVars false
set_option maxRecDepth 100000
attribute [local go_sem] Oper.semAt_some

/-- entries in new blocks, with rows in new blocks, in w' -/
structure OwnH (w w' : World) (v : Value) (l : List HdR) : Prop where
  own : OwnG csHd 56 2 w' w.heap.size v l
  row : ∀ x ∈ l, SlV w' x.1.1 x.1.2.1 x.1.2.2 ∧ (x.1.1 = none → x.1.2.1 = 0) ∧ Off (fun i => i < w.heap.size) x.1.1 x.1.2.2
  sep : ∀ g, v.ownBlock = some g → ∀ x ∈ l, Off (fun i => i = g) x.1.1 x.1.2.2
theorem OwnH.ext {w w1 w2 : World} {v : Value} {l : List HdR} (h : OwnH w w1 v l) (hx : Ext w1 w2) : OwnH w w2 v l :=
  ⟨h.own.ext hx, fun x hm => ⟨(h.row x hm).1.ext hx, (h.row x hm).2⟩, h.sep⟩
theorem OwnH.nil (w w1 : World) : OwnH w w1 (.slice none 0 0) [] := ⟨OwnG.nil _ _ _ _ _, fun x hm => by simp at hm, fun g hg => by cases hg⟩
/-- one more was appended -/
theorem OwnH.app {w w1 w7 : World} {v v7 : Value} {l : List HdR} (h : OwnH w w1 v l) {x : HdR} (hx : SlV w1 x.1.1 x.1.2.1 x.1.2.2 ∧ (x.1.1 = none → x.1.2.1 = 0) ∧ Off (fun i => i < w.heap.size) x.1.1 x.1.2.2) (hs : ∀ g, v.ownBlock = some g → Off (fun i => i = g) x.1.1 x.1.2.2)
    (ho : OwnG csHd 56 2 w7 w.heap.size v7 (l ++ [x])) (hg : w1.grownBy w7 v.ownBlock) (hob : v7.ownBlock = v.ownBlock ∨ v7.ownBlock = some w1.heap.size) : OwnH w w7 v7 (l ++ [x]) := by
  have hu := UpdF.of_grown hg
  have hall : ∀ y ∈ l ++ [x], (SlV w1 y.1.1 y.1.2.1 y.1.2.2 ∧ (y.1.1 = none → y.1.2.1 = 0) ∧ Off (fun i => i < w.heap.size) y.1.1 y.1.2.2) ∧ ∀ g, v.ownBlock = some g → Off (fun i => i = g) y.1.1 y.1.2.2 := fun y hy => by
    rcases List.mem_append.1 hy with h1 | h1
    · exact ⟨h.row y h1, fun g hg => h.sep g hg y h1⟩
    · obtain rfl := List.mem_singleton.1 h1
      exact ⟨hx, hs⟩
  have hoff : ∀ y ∈ l ++ [x], Off (fun i => v.ownBlock = some i) y.1.1 y.1.2.2 := fun y hy => by
    cases hv : v.ownBlock with
    | none => exact fun _ b off _ hb => by cases hb
    | some g => exact ((hall y hy).2 g hv).mono (fun i hi => by injection hi with hi; exact hi.symm)
  refine ⟨ho, fun y hy => ⟨(hall y hy).1.1.upd hu (hoff y hy), (hall y hy).1.2⟩, fun g hg' y hy => ?_⟩
  rcases hob with e | e
  · exact (hall y hy).2 g (e ▸ hg')
  · rw [e] at hg'
    injection hg' with hg'
    subst hg'
    exact ((hall y hy).1.1.lt vl_pos).mono (fun i hi => by subst hi; exact Nat.le_refl _)
def OwnedP (l : List HdR) (w : World) (e : Ending) (w' : World) : Prop := ∃ v l', e = .returned v ∧ OwnH w w' v l' ∧ l'.map hdA = l.map hdA ∧ Ext w w'
set_option maxHeartbeats 8000000 in
theorem owned_any (P : Option Addr) (c : Nat) (l : List HdR) (w : World) (h : SlH w P c l) (hl : l.length ≤ 100000) (hr : ∀ x ∈ l, x.1.2.2.length ≤ 100000) :
    Calls Tryz.prog 49 #[.slice P l.length c] w (OwnedP l w) := by
  have hlen := h.sl.len
  go_enter Tryz.func49, Tryz.ntmps49
  go_wp2_with (fail)
  go_loopw [8, 3, 5] (fun i u _ wr => ∃ (j : Nat) (l' : List HdR) (v : Value), j ≤ l.length ∧ i = .int .i64 j ∧ v = u ∧ OwnH w wr v l' ∧ l'.map hdA = (l.take j).map hdA ∧ Ext w wr) (fun i _ _ _ => l.length - (intOf i).toNat)
  case atStart => exact ⟨0, [], _, by omega, rfl, rfl, OwnH.nil _ _, rfl, Ext.refl _⟩
  case round =>
    obtain ⟨j, l', v, hj, rfl, rfl, hO, hab, hx⟩ := hrel
    by_cases hlt : j < l.length
    · have cj : (j : Int) < l.length := by omega
      have d1 : IntKind.i64.wrap ((j : Int) + 1) = (j : Int) + 1 := IntWalk.i64_in _ ⟨by omega, by omega⟩
      obtain ⟨b, off, hP, g0, g1⟩ := (h.ext hx).at_ j hlt
      subst hP
      have hrw := h.row _ (nthH_mem hlt)
      have hrl := hr _ (nthH_mem hlt)
      have HTK := Lib.hid (show (l.take (j + 1)).map hdA = (l.take j).map hdA ++ [hdA (nthH l j)] from by
        rw [List.take_add_one, nthH_some hlt]; simp)
      have HLL := Lib.hid (show l'.length = j from by
        have := congrArg List.length hab
        rw [List.length_map, List.length_map, List.length_take] at this
        omega)
      generalize nthH l j = x at *
      obtain ⟨⟨A, B, L⟩, K⟩ := x
      dsimp only at g0 g1 hrw hrl
      have hC := fun W (hx' : Ext w W) => clonev_any A B L W (hrw.1.ext hx') hrl hrw.2
      have HO := Lib.hid hO
      have HAB := Lib.hid hab
      have HX := Lib.hid hx
      have hbx := BoxN.new wr 56 #[.slice A L.length B, .int .i64 K]
      have b0 := hbx.cell (i := 0) rfl
      have b1 := hbx.cell (i := 1) rfl
      have hxa := (Ext.refl wr).alloc (.cells #[.slice A L.length B, .int .i64 K] 56)
      have hxwa := hx.trans hxa
      clear hO hab hrw
      go_wp2_with (fail)
      have hszw := hx.size
      generalize wr.alloc (.cells #[.slice A L.length B, .int .i64 K] 56) = Y at *
      have s1 : Y.drew.cell? ⟨wr.heap.size, 0, none⟩ = some (.slice A L.length B) := b0
      have s2 : Y.drew.cell? ⟨wr.heap.size, 1, none⟩ = some (.int .i64 K) := b1
      refine wp_region_noPanic ?_
      refine wp_region_held (S := fun w' => w'.cell? ⟨wr.heap.size, 0, none⟩ = some (.slice A L.length B) ∧ w'.cell? ⟨wr.heap.size, 1, none⟩ = some (.int .i64 K)) (by kernel_rfl) ?_
      refine wpAnyH_take (i := 0) (v := v) (fuel := 9) rfl (by kernel_rfl) (by kernel_rfl) (by kernel_rfl) (fun _ _ _ h => h) (.inl ⟨rfl, fun W hS => by obtain ⟨e2, e3⟩ := hS; go_simp⟩) ⟨s1, s2⟩ ?_
      refine wpAnyH_take (i := 1) (v := .pointer (some ⟨wr.heap.size, 0, none⟩)) (fuel := 8) rfl (by kernel_rfl) (by kernel_rfl) (by kernel_rfl) (fun _ _ _ h => h) (.inl ⟨rfl, fun W hS => by obtain ⟨e2, e3⟩ := hS; go_simp⟩) ⟨s1, s2⟩ ?_
      refine wpAnyH_take (i := 2) (v := .slice A L.length B) (fuel := 7) rfl (by kernel_rfl) (by kernel_rfl) (by kernel_rfl) (fun _ _ _ h => h) (.inl ⟨rfl, fun W hS => by obtain ⟨e2, e3⟩ := hS; go_simp⟩) ⟨s1, s2⟩ ?_
      refine wpAnyH_take (i := 4) (v := .pointer (some ⟨wr.heap.size, 1, none⟩)) (fuel := 6) rfl (by kernel_rfl) (by kernel_rfl) (by kernel_rfl) (fun _ _ _ h => h) (.inl ⟨rfl, fun W hS => by obtain ⟨e2, e3⟩ := hS; go_simp⟩) ⟨s1, s2⟩ ?_
      refine wpAnyH_take (i := 5) (v := .int .i64 K) (fuel := 5) rfl (by kernel_rfl) (by kernel_rfl) (by kernel_rfl) (fun _ _ _ h => h) (.inl ⟨rfl, fun W hS => by obtain ⟨e2, e3⟩ := hS; go_simp⟩) ⟨s1, s2⟩ ?_
      refine wpAnyH_one (i := 3) (fuel := 4) rfl (by kernel_rfl) rfl fun K' hK => ?_
      go_simp
      refine (hC _ (hxwa.trans (Ext.refl _).drew)).mono ?_
      rintro e w9 ⟨⟨v9, rfl, ho9⟩, x9⟩
      obtain ⟨P9, c9, rfl, hs9, hn9⟩ := ho9.read elemV (by omega)
      have s1 := x9.cell s1
      have s2 := x9.cell s2
      refine hK _ _ ⟨s1, s2⟩ ?_
      clear hK K' hC
      refine wpAnyH_one (i := 6) (fuel := 3) rfl (by kernel_rfl) rfl fun K' hK => ?_
      go_simp
      refine hK _ _ ⟨s1, s2⟩ ?_
      clear hK K'
      refine wpAnyH_one (i := 7) (fuel := 2) rfl (by kernel_rfl) rfl fun K' hK => ?_
      go_simp
      have xA := (Ext.refl w9).alloc (.cells #[.slice P9 L.length c9, .int .i64 K] 56)
      have s1 := xA.cell s1
      have s2 := xA.cell s2
      refine hK _ _ ⟨s1, s2⟩ ?_
      clear hK K'
      have hyA := ((Ext.refl Y).drew.trans x9).trans xA
      have hO9 := (HO.out.ext hxa).ext hyA
      refine wpAnyH_one (i := 8) (fuel := 1) rfl (by kernel_rfl) rfl fun K' hK => ?_
      refine wpAppU_step (ops := #[]) elemHd (.tmp 12) (.tmp 19) rfl (v := v) (base := w.heap.size) rfl hO9.own (m := [((P9, c9, L), K)]) rfl (SlG.one elemHd.hk ((P9, c9, L), K) rfl rfl) (fun e => by cases e) (by have := HLL.out; simp; omega) (by have := HLL.out; simp; omega) (hxwa.trans hyA).size ?_
      intro v7 w7 ho7 hg7 hb7 hob7
      have h9lo : ∀ b off, P9 = some ⟨b, off, none⟩ → Y.heap.size ≤ b := fun b off e => by
        subst e
        exact (own_lt ho9 (g := b) rfl).1
      have hvlt : ∀ g, v.ownBlock = some g → g < wr.heap.size ∧ w.heap.size ≤ g := fun g hg => by
        have := own_lt HO.out.own hg
        omega
      have hYw : wr.heap.size ≤ Y.heap.size := hxa.size
      have hO7 := hO9.app (x := ((P9, c9, L), K)) ⟨hs9.ext xA, hn9, fun _ b off e hb => by have := h9lo b off e; omega⟩ (fun g hg _ b off e hb => by have h1 := h9lo b off e; have h2 := hvlt g hg; omega) ho7 hg7 hob7
      have hu7 := UpdF.of_grown hg7
      have hwrl : wr.heap.size < Y.heap.size := by
        have := block_lt b0
        exact this
      have s1 := hu7.cell s1 (fun e => by have := hvlt _ e; simp only at this; omega)
      have s2 := hu7.cell s2 (fun e => by have := hvlt _ e; simp only at this; omega)
      refine hK _ _ ⟨s1, s2⟩ ?_
      clear hK K'
      refine wpAnyH_one (i := 9) (fuel := 0) rfl (by kernel_rfl) rfl fun K' hK => ?_
      go_simp
      refine hK _ _ ⟨s1, s2⟩ ?_
      clear hK K'
      refine wpAnyH_done (by kernel_rfl) ?_ 0
      refine NoPanic.normal ?_
      have hx7 := hu7.ext (hxwa.trans hyA) (fun i hi => (hvlt i hi).2)
      clear s1 s2 b0 b1 ho7 hg7 hb7 hob7 hu7 ho9
      go_wp2_with (fail)
      go_roundw
      case rel => exact ⟨j + 1, _, _, by omega, by go_num, rfl, hO7, by rw [List.map_append, HAB.out, HTK.out]; rfl, hx7⟩
      case measure => simp [intOf]; omega
    · obtain rfl : j = l.length := by omega
      go_wp2_with (fail)
      go_ret
      exact ⟨_, l', rfl, hO, by rw [hab, List.take_length], hx⟩
end
section
open Go.RowKit Go.Maps
set_option linter.unusedVariables false
set_option linter.unusedSimpArgs false
set_option linter.unusedSectionVars false
set_option maxRecDepth 100000
attribute [local go_sem] Oper.semAt_some

/-- buckets of the call's own: F are their blocks -/
structure BkO (w : World) (F : Nat → Prop) (P : Option Addr) (c : Nat) (raw : List BkR) : Prop where
  own : OwnG csBk 54 2 w 0 (.slice P raw.length c) raw
  ents : ∀ (i : Nat) (x : BkR), raw[i]? = some x → OwnG csHd 56 2 w 0 (.slice x.1.1 x.1.2.2.length x.1.2.1) x.1.2.2
  rows : ∀ x ∈ raw, ∀ y ∈ x.1.2.2, SlV w y.1.1 y.1.2.1 y.1.2.2 ∧ (y.1.1 = none → y.1.2.1 = 0) ∧ Off F y.1.1 y.1.2.2
  FP : ∀ a, P = some a → F a.block
  Fe : ∀ (i : Nat) (x : BkR) (a : Addr), raw[i]? = some x → x.1.1 = some a → F a.block ∧ ∀ a', P = some a' → a'.block ≠ a.block
  Fd : ∀ (i j : Nat) (x y : BkR) (a b : Addr), raw[i]? = some x → raw[j]? = some y → x.1.1 = some a → y.1.1 = some b → a.block = b.block → i = j
  Flt : ∀ k, F k → k < w.heap.size
theorem BkO.ext {w w' : World} {F : Nat → Prop} {P : Option Addr} {c : Nat} {raw : List BkR} (H : BkO w F P c raw) (hx : Ext w w') : BkO w' F P c raw :=
  ⟨H.own.ext hx, fun i x hi => (H.ents i x hi).ext hx, fun x hx' y hy => ⟨(H.rows x hx' y hy).1.ext hx, (H.rows x hx' y hy).2⟩, H.FP, H.Fe, H.Fd, fun k hk => Nat.lt_of_lt_of_le (H.Flt k hk) hx.size⟩
theorem BkO.nil (w : World) : BkO w (fun _ => False) none 0 [] :=
  ⟨OwnG.nil _ _ _ _ _, (fun i x hi => by simp at hi), (fun x hx => by simp at hx), (fun a ha => by cases ha), (fun i x a hi => by simp at hi), (fun i j x y a b hi => by simp at hi), fun k hk => hk.elim⟩
theorem app_get {l : List BkR} {x : BkR} {j : Nat} {y : BkR} (hj : (l ++ [x])[j]? = some y) : l[j]? = some y ∨ (j = l.length ∧ y = x) := by
  have hj1 := (List.getElem?_eq_some_iff.1 hj).1
  rw [List.length_append, List.length_singleton] at hj1
  by_cases h1 : j < l.length
  · rw [List.getElem?_append_left h1] at hj
    exact .inl hj
  · obtain rfl : j = l.length := by omega
    simp at hj
    exact .inr ⟨rfl, hj.symm⟩
/-- a bucket with entries of its own was appended -/
theorem BkO.app {w0 W w1 w7 : World} {F : Nat → Prop} {P : Option Addr} {c : Nat} {l : List BkR} (H : BkO W F P c l) (hx1 : Ext W w1) {Px : Option Addr} {cx : Nat} {lx : List HdR} {nx : Int} (hX : OwnH W w1 (.slice Px lx.length cx) lx)
    {v7 : Value} (ho : OwnG csBk 54 2 w7 0 v7 (l ++ [((Px, cx, lx), nx)])) (hg : w1.grownBy w7 (Value.slice P l.length c).ownBlock) (hob : v7.ownBlock = (Value.slice P l.length c).ownBlock ∨ v7.ownBlock = some w1.heap.size) (hl : l.length ≤ 10000) (hF0 : ∀ k, F k → w0.heap.size ≤ k) (h0 : w0.heap.size ≤ W.heap.size) :
    ∃ P7 c7 F7, v7 = .slice P7 (l.length + 1) c7 ∧ BkO w7 F7 P7 c7 (l ++ [((Px, cx, lx), nx)]) ∧ (∀ k, F7 k → w0.heap.size ≤ k) := by
  have hu := UpdF.of_grown hg
  obtain ⟨P7, c7, rfl, _, _⟩ := ho.read elemBk (by simp; omega)
  have hlen : (l ++ [((Px, cx, lx), nx)] : List BkR).length = l.length + 1 := by simp
  have H1 := H.ext hx1
  have hP7 : ∀ a, P7 = some a → (∃ a', P = some a' ∧ a'.block = a.block) ∨ a.block = w1.heap.size := fun a ha => by
    rcases hob with e | e
    · rw [own_of ha] at e
      obtain ⟨a', e1, e2⟩ := slice_own e.symm
      exact .inl ⟨a', e1, e2⟩
    · rw [own_of ha] at e
      injection e with e
      exact .inr e
  have hPF : ∀ i, (Value.slice P l.length c).ownBlock = some i → F i := fun i hi => by
    obtain ⟨a, e, e2⟩ := slice_own hi
    exact e2 ▸ H.FP a e
  have hPx : ∀ a, Px = some a → W.heap.size ≤ a.block ∧ a.block < w1.heap.size := fun a ha => own_lt hX.own (own_of ha)
  have hsz := hx1.size
  rw [hlen] at ho hob ⊢
  refine ⟨P7, c7, fun k => F k ∨ (∃ a, P7 = some a ∧ k = a.block) ∨ ∃ a, Px = some a ∧ k = a.block, rfl, ⟨?_, fun i x hi => ?_, fun x hx y hy => ?_, fun a ha => .inr (.inl ⟨a, ha, rfl⟩), fun i x a hi ha => ?_, fun i j x y a b hi hj ha hb hab => ?_, fun k hk => ?_⟩, fun k hk => ?_⟩
  · rw [hlen]
    exact ho
  · rcases app_get hi with h1 | ⟨_, rfl⟩
    · refine (H1.ents i x h1).upd hu (fun g hg' e => ?_)
      obtain ⟨a, e1, e2⟩ := slice_own hg'
      obtain ⟨a', e3, e4⟩ := slice_own e
      exact (H.Fe i x a h1 e1).2 a' e3 (by omega)
    · refine (hX.own.lower (Nat.zero_le _)).upd hu (fun g hg' e => ?_)
      obtain ⟨a, e1, e2⟩ := slice_own hg'
      have h1 := hPx a e1
      have h2 := H.Flt _ (hPF _ e)
      omega
  · rcases List.mem_append.1 hx with h1 | h1
    · have h2 := H.rows x h1 y hy
      have h3 := H1.rows x h1 y hy
      refine ⟨h3.1.upd hu (h3.2.2.mono (fun i hi => hPF i hi)), h2.2.1, (h2.2.2.or (h2.1.lt vl_pos)).mono (fun k hk => ?_)⟩
      rcases hk with hk | ⟨a, ha, rfl⟩ | ⟨a, ha, rfl⟩
      · exact .inl hk
      · rcases hP7 a ha with ⟨a', e1, e2⟩ | e
        · exact .inl (e2 ▸ H.FP a' e1)
        · exact .inr (by omega)
      · exact .inr (hPx a ha).1
    · obtain rfl := List.mem_singleton.1 h1
      have h2 := hX.row y hy
      have h4 : Off (fun i => Px = none → False) y.1.1 y.1.2.2 ∨ True := .inr trivial
      refine ⟨h2.1.upd hu (h2.2.2.mono (fun i hi => H.Flt i (hPF i hi))), h2.2.1, fun hne b off e hb => ?_⟩
      rcases hb with hb | ⟨a, ha, e2⟩ | ⟨a, ha, e2⟩
      · exact h2.2.2 hne b off e (H.Flt _ hb)
      · rcases hP7 a ha with ⟨a', e1, e3⟩ | e3
        · exact h2.2.2 hne b off e (by have := H.Flt _ (H.FP a' e1); omega)
        · have := (h2.1.lt vl_pos) hne b off e
          omega
      · exact hX.sep a.block (own_of ha) y hy hne b off e e2
  · rcases app_get hi with h1 | ⟨_, rfl⟩
    · obtain ⟨f1, f2⟩ := H.Fe i x a h1 ha
      refine ⟨.inl f1, fun a' ha' e => ?_⟩
      rcases hP7 a' ha' with ⟨a2, h2, h3⟩ | h2
      · exact f2 a2 h2 (by omega)
      · have := H.Flt _ f1
        omega
    · refine ⟨.inr (.inr ⟨a, ha, rfl⟩), fun a' ha' e => ?_⟩
      have h5 := hPx a ha
      rcases hP7 a' ha' with ⟨a2, h2, h3⟩ | h2
      · have := H.Flt _ (H.FP a2 h2)
        omega
      · omega
  · rcases app_get hi with h1 | ⟨e1, rfl⟩
    · rcases app_get hj with h2 | ⟨e2, rfl⟩
      · exact H.Fd i j x y a b h1 h2 ha hb hab
      · have h5 := hPx b hb
        have h6 := H.Flt _ (H.Fe i x a h1 ha).1
        omega
    · rcases app_get hj with h2 | ⟨e2, rfl⟩
      · have h5 := hPx a ha
        have h6 := H.Flt _ (H.Fe j y b h2 hb).1
        omega
      · omega
  · have hus := hu.size
    rcases hk with hk | ⟨a, ha, rfl⟩ | ⟨a, ha, rfl⟩
    · have := H.Flt k hk; omega
    · exact (own_lt ho (own_of ha)).2
    · have := hPx a ha; omega
  · rcases hk with hk | ⟨a, ha, rfl⟩ | ⟨a, ha, rfl⟩
    · exact hF0 k hk
    · rcases hP7 a ha with ⟨a', e1, e2⟩ | e
      · exact hF0 _ (e2 ▸ H.FP a' e1)
      · omega
    · have := hPx a ha; omega
/-- read -/
theorem BkO.sl {w : World} {F : Nat → Prop} {P : Option Addr} {c : Nat} {raw : List BkR} (H : BkO w F P c raw) (hn : raw.length ≤ 100000) (hl : ∀ x ∈ raw, x.1.2.2.length ≤ 100000) : SlB w P c raw := by
  obtain ⟨P', c', e, hs, hn'⟩ := H.own.read elemBk (by omega)
  injection e with e1 _ e2
  subst e1 e2
  refine ⟨hs, hn', fun x hx => ?_⟩
  obtain ⟨i, hi⟩ := List.mem_iff_getElem?.1 hx
  obtain ⟨P', c', e, hs, hn2⟩ := (H.ents i x hi).read elemHd (by have := hl x hx; omega)
  injection e with e1 _ e2
  subst e1 e2
  exact ⟨hs, hn2, fun y hy => ⟨(H.rows x hx y hy).1, (H.rows x hx y hy).2.1⟩⟩
/-- the rows lie in blocks from n on -/
def NewRows (n : Nat) (l : List BkR) : Prop := ∀ x ∈ l, ∀ y ∈ x.1.2.2, Off (fun i => i < n) y.1.1 y.1.2.2
theorem NewRows.app {n : Nat} {w w1 : World} {l : List BkR} (H : NewRows n l) {v : Value} {A : Option Addr} {B : Nat} {lx : List HdR} {K : Int} (h : OwnH w w1 v lx) (hn : n ≤ w.heap.size) : NewRows n (l ++ [((A, B, lx), K)]) := fun x hx y hy => by
  rcases List.mem_append.1 hx with h1 | h1
  · exact H x h1 y hy
  · obtain rfl := List.mem_singleton.1 h1
    exact (h.row y hy).2.2.mono (fun i hi => by omega)
/-- how Buckets answers -/
def BucketsP (raw : List BkR) (w : World) (e : Ending) (w' : World) : Prop := ∃ P' c' F' l', e = .returned (.slice P' l'.length c') ∧ BkO w' F' P' c' l' ∧ (∀ k, F' k → w.heap.size ≤ k) ∧ absT l' = absT raw ∧ Ext w w' ∧ NewRows w.heap.size l'
set_option maxHeartbeats 8000000 in
theorem buckets_any (t : Nat) (h r : Int) (P : Option Addr) (c : Nat) (l : List BkR) (w : World) (H : CtR w t h r P c l) (hl : l.length ≤ 5000) (he : ∀ x ∈ l, x.1.2.2.length ≤ 100000) (hr : ∀ x ∈ l, ∀ y ∈ x.1.2.2, y.1.2.2.length ≤ 100000) :
    Calls Tryz.prog 24 #[.pointer (some ⟨t, 0, none⟩)] w (BucketsP l w) := by
  have a2 := H.box.cell (i := 2) rfl
  go_enter Tryz.func24, Tryz.ntmps24
  go_wp2_with (fail)
  go_loopw [13, 3, 5] (fun i u _ wr => ∃ (j : Nat) (l' : List BkR) (P' : Option Addr) (c' : Nat) (F' : Nat → Prop), j ≤ l.length ∧ i = .int .i64 j ∧ Value.slice P' l'.length c' = u ∧ BkO wr F' P' c' l' ∧ (∀ k, F' k → w.heap.size ≤ k) ∧ absT l' = (absT l).take j ∧ Ext w wr ∧ NewRows w.heap.size l') (fun i _ _ _ => l.length - (intOf i).toNat)
  case atStart => exact ⟨0, [], none, 0, _, by omega, rfl, rfl, BkO.nil _, fun k hk => hk.elim, rfl, Ext.refl _, fun x hx => by cases hx⟩
  case round =>
    obtain ⟨j, l', P', c', F', hj, rfl, rfl, hO, hF', hab, hx, hnr⟩ := hrel
    by_cases hlt : j < l.length
    · have cj : (j : Int) < l.length := by omega
      have d1 : IntKind.i64.wrap ((j : Int) + 1) = (j : Int) + 1 := IntWalk.i64_in _ ⟨by omega, by omega⟩
      obtain ⟨b, off, hP, g0, g1⟩ := (H.sl.ext hx).at_ j hlt
      subst hP
      have hen := H.sl.ent _ (nthBk_mem hlt)
      have hel := he _ (nthBk_mem hlt)
      have hrl := hr _ (nthBk_mem hlt)
      have HTK := fun x hx' => Lib.hid (absT_snoc (x := x) hlt hab hx')
      have hll := absT_len_take hj hab
      generalize nthBk l j = x at *
      obtain ⟨⟨A, B, L⟩, K⟩ := x
      dsimp only at g0 g1 hen hel hrl
      have hC := fun W (hx' : Ext w W) => owned_any A B L W (hen.ext hx') hel hrl
      have HO := Lib.hid hO
      have HNR := Lib.hid hnr
      have HX := Lib.hid hx
      have HLL := Lib.hid hll
      have hbx := BoxN.new wr 54 #[.slice A L.length B, .int .i64 K]
      have b0 := hbx.cell (i := 0) rfl
      have b1 := hbx.cell (i := 1) rfl
      have hxa := (Ext.refl wr).alloc (.cells #[.slice A L.length B, .int .i64 K] 54)
      have hxwa := hx.trans hxa
      clear hO hab hen hll hnr
      go_wp2_with (fail)
      have hszw := hx.size
      generalize wr.alloc (.cells #[.slice A L.length B, .int .i64 K] 54) = Y at *
      have s1 : Y.drew.cell? ⟨wr.heap.size, 0, none⟩ = some (.slice A L.length B) := b0
      have s2 : Y.drew.cell? ⟨wr.heap.size, 1, none⟩ = some (.int .i64 K) := b1
      refine wp_region_noPanic ?_
      refine wp_region_held (S := fun w' => w'.cell? ⟨wr.heap.size, 0, none⟩ = some (.slice A L.length B) ∧ w'.cell? ⟨wr.heap.size, 1, none⟩ = some (.int .i64 K)) (by kernel_rfl) ?_
      refine wpAnyH_take (i := 0) (v := .slice P' l'.length c') (fuel := 9) rfl (by kernel_rfl) (by kernel_rfl) (by kernel_rfl) (fun _ _ _ h => h) (.inl ⟨rfl, fun W hS => by obtain ⟨e2, e3⟩ := hS; go_simp⟩) ⟨s1, s2⟩ ?_
      refine wpAnyH_take (i := 1) (v := .pointer (some ⟨wr.heap.size, 0, none⟩)) (fuel := 8) rfl (by kernel_rfl) (by kernel_rfl) (by kernel_rfl) (fun _ _ _ h => h) (.inl ⟨rfl, fun W hS => by obtain ⟨e2, e3⟩ := hS; go_simp⟩) ⟨s1, s2⟩ ?_
      refine wpAnyH_take (i := 2) (v := .slice A L.length B) (fuel := 7) rfl (by kernel_rfl) (by kernel_rfl) (by kernel_rfl) (fun _ _ _ h => h) (.inl ⟨rfl, fun W hS => by obtain ⟨e2, e3⟩ := hS; go_simp⟩) ⟨s1, s2⟩ ?_
      refine wpAnyH_take (i := 4) (v := .pointer (some ⟨wr.heap.size, 1, none⟩)) (fuel := 6) rfl (by kernel_rfl) (by kernel_rfl) (by kernel_rfl) (fun _ _ _ h => h) (.inl ⟨rfl, fun W hS => by obtain ⟨e2, e3⟩ := hS; go_simp⟩) ⟨s1, s2⟩ ?_
      refine wpAnyH_take (i := 5) (v := .int .i64 K) (fuel := 5) rfl (by kernel_rfl) (by kernel_rfl) (by kernel_rfl) (fun _ _ _ h => h) (.inl ⟨rfl, fun W hS => by obtain ⟨e2, e3⟩ := hS; go_simp⟩) ⟨s1, s2⟩ ?_
      refine wpAnyH_one (i := 3) (fuel := 4) rfl (by kernel_rfl) rfl fun K' hK => ?_
      go_simp
      refine (hC _ (hxwa.trans (Ext.refl _).drew)).mono ?_
      rintro e w9 ⟨v9, lx, rfl, hX9, hxm, x9⟩
      have hlx : lx.length = L.length := by have := congrArg List.length hxm; simpa using this
      obtain ⟨P9, c9, rfl, _⟩ := hX9.own.read elemHd (by omega)
      clear hlx
      have s1 := x9.cell s1
      have s2 := x9.cell s2
      refine hK _ _ ⟨s1, s2⟩ ?_
      clear hK K' hC
      refine wpAnyH_one (i := 6) (fuel := 3) rfl (by kernel_rfl) rfl fun K' hK => ?_
      go_simp
      refine hK _ _ ⟨s1, s2⟩ ?_
      clear hK K'
      refine wpAnyH_one (i := 7) (fuel := 2) rfl (by kernel_rfl) rfl fun K' hK => ?_
      go_simp
      have xA := (Ext.refl w9).alloc (.cells #[.slice P9 lx.length c9, .int .i64 K] 54)
      have s1 := xA.cell s1
      have s2 := xA.cell s2
      refine hK _ _ ⟨s1, s2⟩ ?_
      clear hK K'
      have hyA := x9.trans xA
      have hY0 := HO.out.ext (hxa.trans (Ext.refl Y).drew)
      have hO9 := hY0.ext hyA
      refine wpAnyH_one (i := 8) (fuel := 1) rfl (by kernel_rfl) rfl fun K' hK => ?_
      refine wpAppU_step (ops := #[]) elemBk (.tmp 17) (.tmp 24) rfl (v := .slice P' l'.length c') (base := 0) rfl hO9.own (m := [((P9, c9, lx), K)]) rfl (SlG.one elemBk.hk ((P9, c9, lx), K) rfl rfl) (fun e => by cases e) (by have := HLL.out; simp; omega) (by have := HLL.out; simp; omega) (Nat.zero_le _) ?_
      intro v7 w7 ho7 hg7 hb7 hob7
      have hYw : wr.heap.size ≤ Y.heap.size := hxa.size
      obtain ⟨P7, c7, F7, rfl, hO7, hF7⟩ := hY0.app hyA (hX9.ext xA) ho7 hg7 hob7 (by have := HLL.out; omega) hF' (hxwa.trans (Ext.refl _).drew).size
      have hu7 := UpdF.of_grown hg7
      have hvlt : ∀ g, (Value.slice P' l'.length c').ownBlock = some g → g < wr.heap.size ∧ w.heap.size ≤ g := fun g hg => by
        obtain ⟨a, e1, e2⟩ := slice_own hg
        have h1 := HO.out.FP a e1
        exact ⟨e2 ▸ HO.out.Flt _ h1, e2 ▸ hF' _ h1⟩
      have s1 := hu7.cell s1 (fun e => by have := hvlt _ e; simp only at this; omega)
      have s2 := hu7.cell s2 (fun e => by have := hvlt _ e; simp only at this; omega)
      refine hK _ _ ⟨s1, s2⟩ ?_
      clear hK K'
      refine wpAnyH_one (i := 9) (fuel := 0) rfl (by kernel_rfl) rfl fun K' hK => ?_
      go_simp
      refine hK _ _ ⟨s1, s2⟩ ?_
      clear hK K'
      refine wpAnyH_done (by kernel_rfl) ?_ 0
      refine NoPanic.normal ?_
      have hx7 := hu7.ext (hxwa.trans ((Ext.refl Y).drew.trans hyA)) (fun i hi => (hvlt i hi).2)
      have HT7 := Lib.hid (HTK ((P9, c9, lx), K) (by unfold bkA; rw [hxm])).out
      have HNR7 := Lib.hid (NewRows.app (A := P9) (B := c9) (K := K) HNR.out hX9 (hxwa.trans (Ext.refl _).drew).size)
      clear s1 s2 b0 b1 ho7 hg7 hb7 hob7 hu7 HTK
      have hl7 : (l' ++ [((P9, c9, lx), K)]).length = l'.length + 1 := by simp
      go_wp2_with (fail)
      go_roundw
      case rel => exact ⟨j + 1, _, P7, c7, F7, by omega, by go_num, by rw [hl7], hO7, hF7, HT7.out, hx7, HNR7.out⟩
      case measure => simp [intOf]; omega
    · obtain rfl : j = l.length := by omega
      go_wp2_with (fail)
      go_ret
      exact ⟨P', c', F', l', rfl, hO, hF', by rw [hab, ← absT_len, List.take_length], hx, hnr⟩
end
end Go.Proofs.YtcbinafokhekmaaGreatDoor
