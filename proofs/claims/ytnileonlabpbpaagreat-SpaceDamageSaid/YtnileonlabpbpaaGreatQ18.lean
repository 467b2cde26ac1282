/- SpAG; SpAH; SpAI; GenB; SpAB (merged by group.py) -/
import Derived.Test.YtnileonlabpbpaaGreatQ17
import Derived.Test.YtnileonlabpbpaaGreatQ15
import Derived.Test.YtnileonlabpbpaaGreatQ01
import Derived.Deep.RegionHeld3
namespace Go.Proofs.YtnileonlabpbpaaGreat
section
open Go.RowKit
set_option linter.unusedVariables false
set_option linter.unusedSimpArgs false
set_option linter.unusedSectionVars false
set_option maxRecDepth 20000

/-- what a changing call has left of an area -/
def NextA (A g : Nat) (w w' : World) (size : Nat) (l : List ByteArray) : Prop := ∃ g' lv' cap', Sp w' A g' size l lv' cap' ∧ (g' = g ∨ w.heap.size ≤ g')
def grL (pages : Int) (n : Nat) : Int := if pages < 1 ∨ 200 < pages then 7 else if 200 < n + pages then 4 else 0
set_option maxHeartbeats 1000000 in
theorem sgrow_no (A g size cap : Nat) (l : List ByteArray) (lv : List UInt8) (pages er : Int) (w : World) (h : Sp w A g size l lv cap) (h1 : pages ≤ 9223372036854775807) (he : grL pages l.length = er) (h0 : er ≠ 0) :
    Calls Tryz.prog 41 #[.pointer (some ⟨A, 0, none⟩), .int .i64 pages] w fun e w' => e = .returned (.int .i64 er) ∧ Ext w w' := by
  have hle := h.le
  have g1 := h.ar.pagesC
  unfold grL at he
  by_cases c1 : pages < 1
  · rw [if_pos (.inl c1)] at he
    subst he
    go_enter Tryz.func41, Tryz.ntmps41
    go_wp2
    go_ret
    exact ⟨rfl, Ext.refl w⟩
  · by_cases c2 : 200 < pages
    · rw [if_pos (.inr c2)] at he
      subst he
      go_enter Tryz.func41, Tryz.ntmps41
      go_wp2
      go_ret
      exact ⟨rfl, Ext.refl w⟩
    · rw [if_neg (by omega)] at he
      by_cases c3 : 200 < (l.length : Int) + pages
      · rw [if_pos c3] at he
        subst he
        have k1 : IntKind.i64.wrap ((l.length : Int) + pages) = l.length + pages := IntWalk.i64_in _ ⟨by omega, by omega⟩
        go_enter Tryz.func41, Tryz.ntmps41
        go_wp2
        go_ret
        exact ⟨rfl, Ext.refl w⟩
      · rw [if_neg c3] at he
        exact absurd he.symm h0
set_option maxHeartbeats 1000000 in
theorem sgrow_yes (A g size cap : Nat) (l : List ByteArray) (lv : List UInt8) (pages : Nat) (w : World) (h : Sp w A g size l lv cap) (hg1 : 1 ≤ pages) (hg2 : l.length + pages ≤ 200) :
    Calls Tryz.prog 41 #[.pointer (some ⟨A, 0, none⟩), .int .i64 pages] w fun e w' => e = .returned (.int .i64 0) ∧ NextA A g w w' size (l ++ List.replicate pages (newP size)) ∧ Chg A g w w' := by
  have hle := h.le
  have g1 := h.ar.pagesC
  have g2 := h.ar.sizeC
  obtain ⟨z1, z2⟩ := h.sizes
  obtain ⟨pv, pz, _, e⟩ := newP_ok size h.sz
  have hN := fun W => new_any size W (by omega) (by omega)
  rw [e] at hN
  simp only at hN
  clear e
  have c1 : ¬ (pages : Int) < 1 := by omega
  have c2 : ¬ 200 < (pages : Int) := by omega
  have c3 : ¬ 200 < (l.length : Int) + pages := by omega
  have k1 : IntKind.i64.wrap ((l.length : Int) + pages) = l.length + pages := IntWalk.i64_in _ ⟨by omega, by omega⟩
  generalize newP size = p at *
  go_enter Tryz.func41, Tryz.ntmps41
  go_wp2_with (go_at_call 71; refine (hN _).mono ?_; rintro e w1 ⟨rfl, hx1⟩)
  clear g1 g2
  go_loopw [35] (fun i wr => ∃ k : Nat, k ≤ pages ∧ i = .int .i64 k ∧ NextA A g w wr size (l ++ List.replicate k p) ∧ Chg A g w wr) (fun i _ => pages - (intOf i).toNat)
  case atStart => exact ⟨0, by omega, rfl, ⟨g, lv, cap, by simpa using h.ext hx1, .inl rfl⟩, Chg.of_ext hx1⟩
  case round =>
    obtain ⟨k, hk, rfl, ⟨gr, lvr, capr, hS, hgr⟩, hc⟩ := hrel
    by_cases hlt : k < pages
    · obtain ⟨L, hL⟩ : ∃ L, l ++ List.replicate k p = L := ⟨_, rfl⟩
      have hLn : L.length = l.length + k := by rw [← hL]; simp
      have hLr : L ++ [p] = l ++ List.replicate (k + 1) p := by rw [← hL, List.replicate_succ', List.append_assoc]
      rw [hL] at hS
      have d1 := hS.ar.pagesC
      obtain ⟨g', cap', w6, hr, hg6, d6, f6, d7, hNt⟩ := sp_push hS (by omega) p pv pz
      have HLn := Lib.hid hLn
      have HLr := Lib.hid hLr
      have HS := Lib.hid hS
      obtain ⟨m, hm⟩ : ∃ m, L.length + 1 = m := ⟨_, rfl⟩
      rw [hm] at hr d7 hNt
      have k2 : IntKind.i64.wrap ((m : Int) - 1) = L.length := by rw [show (m : Int) - 1 = L.length from by omega]; exact IntWalk.i64_in _ ⟨by omega, by omega⟩
      clear hLn hLr hL hS hm
      go_wp2_with (first
        | (at_builtin; refine Lib.wpList_append_run _ rfl _ _ _ _ rfl _ _ rfl rfl _ _ hr ?_)
        | (go_at_call 74; refine hNt.mono ?_; rintro e w7 ⟨rfl, ⟨lv', hS7⟩, hc7⟩))
      refine ⟨⟨k + 1, by omega, by go_num, ⟨g', lv', cap', by rw [← HLr.out]; exact hS7, ?_⟩, ?_⟩, by simp [intOf]; omega⟩
      · rcases hg6 with rfl | hg6
        · exact hgr
        · exact .inr (Nat.le_trans hc.size hg6)
      · exact hc.next hc7 hgr
    · obtain rfl : k = pages := by omega
      go_wp2
      go_ret
      exact ⟨rfl, ⟨gr, lvr, capr, hS, hgr⟩, hc⟩
end
section
open Go.RowKit
set_option linter.unusedVariables false
set_option linter.unusedSimpArgs false
set_option linter.unusedSectionVars false
set_option maxRecDepth 20000

/-- addresses as elements -/
abbrev csAd (x : Int × Int) : List Value := [.int .i64 x.1, .int .i64 x.2]
theorem elemAd : ElemG csAd 34 33 2 16 where
  ht := Tryz.underlying34
  info := by
    have h : (Tryz.prog.info? 33).map (fun i => (i.zero, i.size, i.bytes)) = some (some (.agg #[.int .i64 0, .int .i64 0]), 2, 16) := by kernel_rfl
    cases hq : Tryz.prog.info? 33 with
    | none => simp [hq] at h
    | some i => simp [hq] at h; exact ⟨i, _, rfl, h.1, h.2.1, h.2.2, rfl⟩
  k0 := by omega
  hk := fun _ => rfl
  one := fun x u hu => by
    simp at hu
    rcases hu with rfl | rfl <;> rfl
abbrev OwnAd (w : World) (base : Nat) (v : Value) (l : List (Int × Int)) : Prop := OwnG csAd 33 2 w base v l
/-- the places of a page's lines -/
noncomputable def plL (n : Int) (p : ByteArray) (k : Nat) : List (Int × Int) := (List.range k).map fun i => (n, (cel p i).1)
theorem plL_succ (n : Int) (p : ByteArray) (k : Nat) : plL n p (k + 1) = plL n p k ++ [(n, (cel p k).1)] := by simp [plL, List.range_succ]
theorem plL_len (n : Int) (p : ByteArray) (k : Nat) : (plL n p k).length = k := by simp [plL]
set_option maxHeartbeats 1000000 in
theorem splaces_any (A g size cap : Nat) (l : List ByteArray) (lv : List UInt8) (q : Nat) (w : World) (h : Sp w A g size l lv cap) (hq : q < l.length) :
    Calls Tryz.prog 65 #[.pointer (some ⟨A, 0, none⟩), .int .i64 q] w fun e w' => (∃ v, e = .returned v ∧ OwnAd w' w.heap.size v (plL q (nthB l q) (cnt (nthB l q)))) ∧ Ext w w' := by
  have hle := h.le
  have g1 := h.ar.pagesC
  have g2 := nthCell h q hq
  obtain ⟨hv, hz⟩ := h.good q hq
  have hL := fun W => lines_ok (nthB l q) W hv
  have hn := cnt_le hv
  have c1 : (q : Int) < l.length := by omega
  generalize nthB l q = p at *
  go_enter Tryz.func65, Tryz.ntmps65
  go_wp2_with (go_at_call 104; refine (hL _).mono ?_; rintro e w1 ⟨B, capB, rfl, hI, hx1⟩)
  go_loopw [5, 9, 23] (fun o _ i wr => ∃ k : Nat, k ≤ cnt p ∧ i = .int .i64 k ∧ OwnAd wr w1.heap.size o (plL q p k) ∧ Ext w wr ∧ Ext w1 wr) (fun _ _ i _ => cnt p - (intOf i).toNat)
  case atStart => exact ⟨0, by omega, rfl, OwnG.nil _ _ _ _ _, hx1, Ext.refl _⟩
  case round =>
    obtain ⟨k, hk, rfl, ho, hx, hxx⟩ := hrel
    by_cases hlt : k < cnt p
    · obtain ⟨b, off, rfl, hc⟩ := hI.at_ k hlt
      have hcr := hxx.cell hc
      have hsz := hxx.size
      have HS := Lib.hid (plL_succ q p k)
      have HL := Lib.hid (plL_len q p k)
      have c2 : (k : Int) < cnt p := by omega
      clear hc hI
      generalize plL q p k = L at *
      generalize (cel p k).1 = y at *
      have hone := SlG.one (w := wr) (cs := csAd) elemAd.hk ((q : Int), y) (t0 := 33) (C := #[.int .i64 q, .int .i64 y]) rfl rfl
      go_wp2_with (at_builtin; refine wpList_app_G _ elemAd rfl _ _ rfl (base := w1.heap.size) rfl (ho.ext ((Ext.refl _).alloc _)) (m := [((q : Int), y)]) rfl hone (fun e => by cases e) (by rw [HL.out]; simp; omega) (by rw [HL.out]; simp; omega) (by simp; omega) ?_; intro v3 w3 ho3 hb3)
      refine ⟨⟨k + 1, by omega, by go_num, by rw [HS.out]; exact ho3, ?_, ?_⟩, by simp [intOf]; omega⟩
      · exact below_ext (hx.alloc _) hb3 hx1.size
      · exact below_ext (hxx.alloc _) hb3 (Nat.le_refl _)
    · obtain rfl : k = cnt p := by omega
      go_wp2
      go_ret
      exact ⟨⟨_, rfl, ho.low hx1.size⟩, hx⟩
/-- how many pages stay when empty ones go from the end -/
noncomputable def keepF (l : List ByteArray) : Nat → Nat
  | 0 => 0
  | n + 1 => if 1 ≤ n ∧ cnt (nthB l n) = 0 then keepF l n else n + 1
theorem keep_no {l : List ByteArray} {n : Nat} (h : ¬ (1 ≤ n ∧ cnt (nthB l n) = 0)) : keepF l (n + 1) = n + 1 := if_neg h
theorem keep_yes {l : List ByteArray} {n : Nat} (h : 1 ≤ n ∧ cnt (nthB l n) = 0) : keepF l (n + 1) = keepF l n := if_pos h
theorem nthB_take (l : List ByteArray) (m i : Nat) (h : i < m) : nthB (l.take m) i = nthB l i := by
  unfold nthB
  rw [List.getD_eq_getElem?_getD, List.getD_eq_getElem?_getD, List.getElem?_take, if_pos h]
theorem GoodL.take {size : Nat} {l : List ByteArray} (h : GoodL size l) (m : Nat) (h1 : 1 ≤ m) (h2 : m ≤ l.length) : GoodL size (l.take m) :=
  ⟨fun i hi => by
    rw [List.length_take] at hi
    rw [nthB_take _ _ _ (by omega)]
    exact h.good i (by omega), by rw [List.length_take]; omega, by rw [List.length_take]; have := h.le; omega, h.sz⟩
/-- the last page goes -/
theorem sp_pop {w : World} {A g size cap : Nat} {l : List ByteArray} {lv : List UInt8} (h : Sp w A g size l lv cap) (m : Nat) (h1 : 1 ≤ m) (h2 : m ≤ l.length) : Sp (w.setCell ⟨A, 201, none⟩ (.slice (some ⟨g, 0, none⟩) m cap)) A g size (l.take m) lv cap := by
  have hl : (l.take m).length = m := by rw [List.length_take]; omega
  have hg := h.goodL.take m h1 h2
  refine ⟨by rw [hl]; exact h.ar.setPages _, ?_, h.ne, fun i hi => ?_, hg.good, hg.pos, hg.le, hg.sz⟩
  · rw [hl]
    refine ⟨by simp; omega, ?_⟩
    rcases h.own.2 with ⟨_, h0⟩ | ⟨g', cap', cur, hv', hb, hgh, hcl, hcm, hcs, htk⟩
    · exact absurd h0 (by have := h.pos; omega)
    · simp only [Value.slice.injEq, Option.some.injEq, Addr.mk.injEq, and_true, true_and] at hv'
      obtain ⟨rfl, rfl⟩ := hv'
      refine .inr ⟨g, cap, cur, rfl, hb, (Below.heap_setCell _ _ _ g (fun e => h.ne e.symm)).trans hgh, by omega, hcm, hcs, ?_⟩
      have := congrArg (List.take m) htk
      simp only [Nat.mul_one, List.take_take] at this ⊢
      rw [Nat.min_eq_left h2] at this
      rw [this, List.map_take]
  · rw [hl] at hi
    rw [nthB_take _ _ _ hi]
    exact h.lev i (by omega)
set_option maxHeartbeats 1000000 in
theorem sshrink_any (A g size cap : Nat) (l : List ByteArray) (lv : List UInt8) (w : World) (h : Sp w A g size l lv cap) :
    Calls Tryz.prog 43 #[.pointer (some ⟨A, 0, none⟩)] w fun e w' => e = .returned (.int .i64 ((l.length - keepF l l.length : Nat) : Int)) ∧ Sp w' A g size (l.take (keepF l l.length)) lv cap ∧ Chg A g w w' := by
  have hle := h.le
  have hpos := h.pos
  have hlen := h.goodL
  go_enter Tryz.func43, Tryz.ntmps43
  go_wp2
  go_loopw [3] (fun n wr => ∃ m : Nat, 1 ≤ m ∧ m ≤ l.length ∧ n = .int .i64 ((l.length - m : Nat) : Int) ∧ keepF l m = keepF l l.length ∧ Sp wr A g size (l.take m) lv cap ∧ Chg A g w wr) (fun n _ => l.length - (intOf n).toNat)
  case atStart => exact ⟨l.length, hpos, Nat.le_refl _, by simp, rfl, by rw [List.take_length]; exact h, Chg.of_ext (Ext.refl w)⟩
  case round =>
    obtain ⟨m, hm1, hm2, rfl, hK, hS, hc⟩ := hrel
    have hml : (l.take m).length = m := by rw [List.length_take]; omega
    have d1 := hS.ar.pagesC
    rw [hml] at d1
    have hP := splaces_any A g size cap (l.take m) lv (m - 1) wr hS (by omega)
    rw [nthB_take _ _ _ (by omega)] at hP
    by_cases h1 : m = 1
    · subst h1
      have e1 : keepF l 1 = 1 := keep_no (by omega)
      rw [e1] at hK
      have HK := Lib.hid hK
      clear hP hK e1
      go_wp2
      go_ret
      exact ⟨by rw [← HK.out]; rfl, by rw [← HK.out]; exact hS, hc⟩
    · obtain ⟨m', rfl⟩ : ∃ m', m = m' + 1 := ⟨m - 1, by omega⟩
      rw [Nat.add_sub_cancel] at hP
      have c1 : (1 : Int) < ((m' + 1 : Nat) : Int) := by omega
      have k1 : IntKind.i64.wrap (((m' + 1 : Nat) : Int) - 1) = m' := by rw [show ((m' + 1 : Nat) : Int) - 1 = m' from by omega]; exact IntWalk.i64_in _ ⟨by omega, by omega⟩
      have HK := Lib.hid hK
      have c3 : (m' : Int) ≤ cap := by have := hS.slg.le; rw [List.length_take] at this; omega
      have HS := Lib.hid hS
      have HM := Lib.hid (show m' + 1 = m' + 1 from rfl)
      obtain ⟨M, hM⟩ : ∃ M, m' + 1 = M := ⟨_, rfl⟩
      rw [hM] at c1 k1 d1
      have Hm := Lib.hid hM
      have hpl := plL_len (m' : Int) (nthB l m') (cnt (nthB l m'))
      generalize hPL : plL (m' : Int) (nthB l m') (cnt (nthB l m')) = PL at *
      clear hPL hK hS hml
      by_cases h0 : cnt (nthB l m') = 0
      · rw [h0] at hpl
        clear hM
        go_wp2_with (go_at_call 65; refine hP.mono ?_; rintro e w2 ⟨⟨v2, rfl, ho2⟩, hx2⟩; obtain ⟨P2, cap2, rfl, hs2⟩ := ho2.slG elemAd (by omega); rw [hpl]; have d2 := hx2.cell d1; have f2 := (HS.out.ext hx2).ar.free 201)
        clear hP ho2 hs2 hpl
        have kn : IntKind.i64.wrap (((l.length - M : Nat) : Int) + 1) = ((l.length - m' : Nat) : Int) := by
          have := Hm.out
          rw [show ((l.length - M : Nat) : Int) + 1 = ((l.length - m' : Nat) : Int) from by omega]
          exact IntWalk.i64_in _ ⟨by omega, by omega⟩
        go_region
        go_wp2
        have hpop := sp_pop (HS.out.ext hx2) m' (by omega) (by rw [List.length_take]; omega)
        rw [List.take_take, Nat.min_eq_left (by omega)] at hpop
        exact ⟨⟨m', by omega, by omega, congrArg (Value.int .i64) (by omega), by rw [← HK.out, keep_yes ⟨by omega, h0⟩], ⟨⟨hpop.ar.heap, hpop.ar.len⟩, hpop.own, hpop.ne, hpop.lev, hpop.good, hpop.pos, hpop.le, hpop.sz⟩, (hc.trans (Chg.of_ext hx2)).trans (Chg.of_a (Upd.setCell _ _ _ _).drew)⟩, by simp [intOf]; omega⟩
      · have c4 : ((cnt (nthB l m') : Int) == 0) = false := by simpa using h0
        have hcl := cnt_le (h.good m' (by omega)).1
        have hk := keep_no (l := l) (n := m') (fun e => h0 e.2)
        rw [hk, hM] at HK
        clear hk
        generalize cnt (nthB l m') = c at *
        go_wp2_with (go_at_call 65; refine hP.mono ?_; rintro e w2 ⟨⟨v2, rfl, ho2⟩, hx2⟩; obtain ⟨P2, cap2, rfl, hs2⟩ := ho2.slG elemAd (by omega); rw [hpl])
        go_ret
        exact ⟨by rw [← HK.out]; rfl, by rw [← HK.out, ← hM]; exact HS.out.ext hx2, hc.trans (Chg.of_ext hx2)⟩
end
section
open Go.RowKit
set_option linter.unusedVariables false
set_option linter.unusedSimpArgs false
set_option linter.unusedSectionVars false
set_option maxRecDepth 20000

theorem replaceF_any (c : Nat) (p q : ByteArray) (w : World) (hc : w.cell? ⟨c, 0, none⟩ = some (.string p)) :
    Calls Tryz.prog 88 #[.string q, .pointer (some ⟨c, 0, none⟩)] w fun e w' => e = two2 (p, 0) ∧ Ext w w' := by
  go_enter Tryz.func88, Tryz.ntmps88
  go_wp2
  go_ret2
  exact ⟨rfl, Ext.refl w⟩
set_option maxHeartbeats 1000000 in
theorem sreplace_size (A g size cap : Nat) (l : List ByteArray) (lv : List UInt8) (x : Int) (p : ByteArray) (w : World) (h : Sp w A g size l lv cap) (hz : p.size ≠ size) :
    Calls Tryz.prog 45 #[.pointer (some ⟨A, 0, none⟩), .int .i64 x, .string p] w fun e w' => e = .returned (.int .i64 1) ∧ Ext w w' := by
  have c1 : ((p.size : Int) != (size : Int)) = true := bne_iff_ne.2 (by omega)
  have hx1 := (Ext.refl w).alloc (.cells #[.string p] 9)
  have g1 := (h.ar.ext hx1).sizeC
  have b1 := (Boxed.new w 9 (.string p)).cell
  go_enter Tryz.func45, Tryz.ntmps45
  go_wp2
  go_quiet (fail)
  go_wp2
  go_ret
  exact ⟨rfl, hx1.drewN _⟩
set_option maxHeartbeats 1000000 in
theorem sreplace_bad (A g size cap : Nat) (l : List ByteArray) (lv : List UInt8) (x : Int) (p : ByteArray) (w : World) (h : Sp w A g size l lv cap) (hz : p.size = size) (hv : ¬ ValidR p) :
    Calls Tryz.prog 45 #[.pointer (some ⟨A, 0, none⟩), .int .i64 x, .string p] w fun e w' => e = .returned (.int .i64 1) ∧ Ext w w' := by
  have hzz := h.sizes
  have c1 : ((p.size : Int) != (size : Int)) = false := by simp [hz]
  have hx1 := (Ext.refl w).alloc (.cells #[.string p] 9)
  have g1 := (h.ar.ext hx1).sizeC
  have b1 := (Boxed.new w 9 (.string p)).cell
  have hV := fun W => valid_any p W (by omega)
  rw [decide_eq_false hv] at hV
  clear hv
  go_enter Tryz.func45, Tryz.ntmps45
  go_wp2
  go_region_with (go_at_call 87; refine (hV _).mono ?_; rintro e w2 ⟨rfl, hx2⟩)
  all_goals (
    go_wp2
    go_ret
    exact ⟨rfl, (hx1.drew).trans hx2⟩)
section
variable (A g size cap : Nat) (l : List ByteArray) (lv : List UInt8) (p : ByteArray) (w : World) (h : Sp w A g size l lv cap) (hz : p.size = size) (hv : ValidR p)
include h hz hv
set_option maxHeartbeats 1000000 in
theorem sreplace_no (x : Int) (hx : ¬ (0 ≤ x ∧ x < l.length)) :
    Calls Tryz.prog 45 #[.pointer (some ⟨A, 0, none⟩), .int .i64 x, .string p] w fun e w' => e = .returned (.int .i64 7) ∧ Ext w w' := by
  have hzz := h.sizes
  have c1 : ((p.size : Int) != (size : Int)) = false := by simp [hz]
  have hx1 := (Ext.refl w).alloc (.cells #[.string p] 9)
  have g1 := (h.ar.ext hx1).sizeC
  have b1 := (Boxed.new w 9 (.string p)).cell
  have hV := fun W => valid_any p W (by omega)
  rw [decide_eq_true hv] at hV
  have hC := fun fv W hW => change_no A g size cap l lv x fv W hW hx
  clear hv hx
  go_enter Tryz.func45, Tryz.ntmps45
  go_wp2
  go_region_with (go_at_call 87; refine (hV _).mono ?_; rintro e w2 ⟨rfl, hx2⟩)
  all_goals (
    have hx12 := (hx1.drew).trans hx2
    go_wp2_with (go_at_call 48; refine (hC _ _ (h.ext hx12)).mono ?_; rintro e w3 ⟨rfl, hx3⟩)
    go_ret
    exact ⟨rfl, hx12.trans hx3⟩)
set_option maxHeartbeats 1000000 in
theorem sreplace_at (q : Nat) (hq : q < l.length) :
    Calls Tryz.prog 45 #[.pointer (some ⟨A, 0, none⟩), .int .i64 q, .string p] w fun e w' => e = .returned (.int .i64 0) ∧ (∃ lv', Sp w' A g size (l.set q p) lv' cap) ∧ Chg A g w w' := by
  have hzz := h.sizes
  have c1 : ((p.size : Int) != (size : Int)) = false := by simp [hz]
  have hx1 := (Ext.refl w).alloc (.cells #[.string p] 9)
  have g1 := (h.ar.ext hx1).sizeC
  have b1 := (Boxed.new w 9 (.string p)).cell
  have hV := fun W => valid_any p W (by omega)
  rw [decide_eq_true hv] at hV
  have hC := fun W (hW : Sp W A g size l lv cap) hb => change_in A g size cap l lv q 88 #[.pointer (some ⟨w.heap.size, 0, none⟩)] W hW hq (p, 0)
    (enters_of Tryz.func88 (by kernel_rfl) rfl) (replaceF_any w.heap.size p _ W hb) (fun _ => ⟨hv, hz⟩)
  rw [show newPages l q (p, 0) = l.set q p from if_pos rfl] at hC
  clear hv
  go_enter Tryz.func45, Tryz.ntmps45
  go_wp2
  go_region_with (go_at_call 87; refine (hV _).mono ?_; rintro e w2 ⟨rfl, hx2⟩)
  all_goals (
    have hx12 := (hx1.drew).trans hx2
    go_wp2_with (go_at_call 48; refine (hC _ (h.ext hx12) (hx2.cell b1)).mono ?_; rintro e w3 ⟨rfl, hS3, hc3⟩)
    go_ret
    exact ⟨rfl, hS3, (Chg.of_ext hx12).trans hc3⟩)
end
end
section
open Go.RowKit
set_option linter.unusedVariables false
set_option linter.unusedSimpArgs false
set_option linter.unusedSectionVars false
set_option maxRecDepth 20000

theorem alloc_at (W : World) (o : Obj) (E : Nat) (h : W.heap.size = E) : (W.alloc o).heap[E]? = some o := by subst h; exact World.alloc_heap_new _ _
theorem grown_heap {w w' : World} {row : Option Nat} (h : w.grownBy w' row) {N : Nat} {o : Obj} (hN : w.heap[N]? = some o) (hne : row ≠ some N) : w'.heap[N]? = some o :=
  (h.block N (Array.getElem?_eq_some_iff.1 hN).1 (fun e => hne e.symm)).trans hN
/-- an empty row -/
theorem own0G {α : Type} {cs : α → List Value} {e : TypeId} {k : Nat} {W : World} {base E : Nat} (hE : W.heap[E]? = some (.cells #[] e (0, 0))) (hb : base ≤ E) : OwnG cs e k W base (.slice (some ⟨E, 0, none⟩) 0 0) [] :=
  ⟨by simp, .inr ⟨E, 0, #[], rfl, hb, hE, by simp, by simp [maxLen], by simp, by simp⟩⟩
section
variable {α : Type} {cs : α → List Value} {t e : TypeId} {k bytes : Nat} {w : World} {ops : Array Oper} {o : Oper} {a : Act} {K : Act → World → Prop} {Q : Exit → Act → World → Prop} {F : Prop}
/-- an append of a list, at a step of a region that draws -/
theorem step_app_G (w0 : World) (E : ElemG cs t e k bytes) (hgd : o.guard = none) (s x : Operand) (ho : o.op = .call { callee := .builtin .append, args := #[s, x], argTypes := #[t, t] }) (v : Value) (l m : List α) (n : Nat) (P : Option Addr) (cap : Nat)
    (hs : a.eval s = v) (hx : a.eval x = .slice P n cap) (hn : m.length = n) (hown : OwnG cs e k w w0.heap.size v l) (hm : SlG cs w P cap m) (hP : P = none → cap = 0) (hl : (l.length + n) * bytes ≤ 140737488355328) (hlb : l.length + n ≤ 9223372036854775807) (hx0 : Ext w0 w)
    (h : ∀ v' w', OwnG cs e k w' w0.heap.size v' (l ++ m) → Ext w0 w' → w.grownBy w' v.ownBlock → K (a.put o.dst v') w') : if Region.wanted o (yielded ops a.tmps) = true then Oper.wp Tryz.prog o a w K Q else F := by
  rw [if_pos (by simp [Region.wanted, hgd])]
  subst hn
  obtain ⟨v', w', hr, h1, h2, h3⟩ := hown.append E o.type hm hP hl hlb hx0.size
  exact wp_append_at s x t ho v _ hs hx hr (h v' w' h1 (below_ext hx0 h3 (Nat.le_refl _)) h2)
/-- an append of a list to a new empty row, at a step of a region that draws -/
theorem step_app_freshG (w0 : World) (E : ElemG cs t e k bytes) (hgd : o.guard = none) (s x : Operand) (ho : o.op = .call { callee := .builtin .append, args := #[s, x], argTypes := #[t, t] }) (B : Nat) (m : List α) (n : Nat) (P : Option Addr) (cap : Nat)
    (hs : a.eval s = .slice (some ⟨B, 0, none⟩) 0 0) (hx : a.eval x = .slice P n cap) (hn : m.length = n) (hB : w.heap[B]? = some (.cells #[] e (0, 0))) (hbB : w0.heap.size ≤ B) (hm : SlG cs w P cap m) (hP : P = none → cap = 0) (hl : n * bytes ≤ 140737488355328) (hlb : n ≤ 9223372036854775807) (hx0 : Ext w0 w)
    (h : ∀ v' w', OwnG cs e k w' w0.heap.size v' m → Ext w0 w' → w.grownBy w' (some B) → K (a.put o.dst v') w') : if Region.wanted o (yielded ops a.tmps) = true then Oper.wp Tryz.prog o a w K Q else F :=
  step_app_G w0 E hgd s x ho _ [] m n P cap hs hx hn (own0G hB hbB) hm hP (by simpa using hl) (by simpa using hlb) hx0 (fun v' w' h1 h2 h3 => h v' w' (by simpa using h1) h2 h3)
theorem SlG.block1 (hk : ∀ x, (cs x).length = k) {g : Nat} (x : α) {C : Array Value} (hC : C = (cs x).toArray) (h : w.heap[g]? = some (.cells C e (0, 0))) : SlG cs w (some ⟨g, 0, none⟩) 1 [x] := by
  subst hC
  refine ⟨fun i y hi => ⟨g, 0, rfl, fun j u hj => ?_⟩, by simp, by omega⟩
  match i, hi with
  | 0, hi =>
    simp at hi
    subst hi
    rw [show (0 : Nat) + 0 * (cs x).length + j = j from by omega]
    unfold World.cell?
    simp only [h]
    simpa using hj
  | i + 1, hi => simp at hi
theorem SlG.takes {P : Option Addr} {c : Nat} {l : List α} (h : SlG cs w P c l) (n : Nat) : SlG cs w P c (l.take n) := by
  have := h.le
  refine ⟨fun i x hi => ?_, by rw [List.length_take]; omega, h.cap⟩
  refine h.at_ i x ?_
  rw [List.getElem?_take] at hi
  split at hi
  · exact hi
  · cases hi
theorem SlG.drops (hk : ∀ x, (cs x).length = k) {b off c : Nat} {l : List α} (h : SlG cs w (some ⟨b, off, none⟩) c l) (n : Nat) (hn : n ≤ l.length) : SlG cs w (some ⟨b, off + n * k, none⟩) (c - n) (l.drop n) := by
  have := h.le
  have := h.cap
  refine ⟨fun i x hi => ⟨b, off + n * k, rfl, fun j v hj => ?_⟩, by rw [List.length_drop]; omega, by omega⟩
  rw [List.getElem?_drop] at hi
  obtain ⟨b', off', e, hc⟩ := h.at_ (n + i) x hi
  simp only [Option.some.injEq, Addr.mk.injEq, and_true] at e
  obtain ⟨rfl, rfl⟩ := e
  have := hc j v hj
  rw [hk] at this ⊢
  rw [← this, Nat.add_mul]
  congr 2
  omega
theorem SlG.from (hk : ∀ x, (cs x).length = k) {b off c : Nat} {l : List α} (h : SlG cs w (some ⟨b, off, none⟩) c l) (p : Nat) (hp : p ≤ l.length) : SlG cs w (some ⟨b, if c = p then off else off + p * k, none⟩) (c - p) (l.drop p) := by
  by_cases hc : c = p
  · rw [if_pos hc]
    have h1 := h.le
    have h2 : l.drop p = [] := List.drop_eq_nil_iff.2 (by omega)
    rw [h2]
    exact ⟨fun i x hi => by simp at hi, by simp, by omega⟩
  · rw [if_neg hc]; exact h.drops hk p hp
end
/-- a slice from p on, wherever it lies -/
theorem slice_fromG (b off len c p k : Nat) (hp : p ≤ len) (hc : len ≤ c) (T : TypeId) (hT : Tryz.prog.underlying T = some (.slice (Tryz.prog.elem T))) (hs : (Tryz.prog.info? (Tryz.prog.elem T)).map (·.size) = some k) :
    ∀ w, (Instr.slice T (.slice (some ⟨b, off, none⟩) len c) (some (.int .i64 p)) none none).run Tryz.prog w = .ok (.slice (some ⟨b, if c = p then off else off + p * k, none⟩) (len - p) (c - p)) w := by
  intro w
  rw [run_slice_l (w := w) T (some ⟨b, off, none⟩) len c hT .i64 p (by omega) (by omega)]
  cases hq : Tryz.prog.info? (Tryz.prog.elem T) with
  | none => simp [hq] at hs
  | some i =>
    have hi : i.size = k := by simpa [hq] using hs
    simp [sizeOf, typeInfo, hq, hi, sliced, Result.andThen]
    by_cases h : c = p
    · simp [h]
    · simp [h, Go.WideShapes.add_plain]
end
section
open Go.RowKit
set_option linter.unusedVariables false
set_option linter.unusedSimpArgs false
set_option linter.unusedSectionVars false
set_option maxRecDepth 20000

theorem refBuilt0 (size : Nat) (hz : sizeB (size : Int) = true) (w : World) :
    Calls Tryz.prog 80 #[.int .i64 size, .slice none 0 0] w fun e w' => e = .returned (.string (newP size)) ∧ Ext w w' := by
  have hz' : 32 ≤ size ∧ size ≤ 4096 := by simp [sizeB] at hz; omega
  have hA : ¬ AnyBad (fun _ => ((0, ⟨#[]⟩) : Cel)) 0 := fun ⟨i, hi, _⟩ => by omega
  have hm : ¬ roomF size (fun _ => ((0, ⟨#[]⟩) : Cel)) 0 < 0 := by simp [roomF, lastF, bytesF]; omega
  have hF : Fit size 0 (fun _ => ((0, ⟨#[]⟩) : Cel)) := fit_of_good hA (by omega) hz hm
  have e : newP size = ⟨(bufF size 0 (fun _ => ((0, ⟨#[]⟩) : Cel)) 0).toArray⟩ := by unfold newP filledRes; rw [if_neg hm]
  rw [e]
  exact refBuilt_any size none 0 0 _ w ⟨fun i hi => by omega⟩ hF (by omega)
theorem TCell.below {t : TypeId} {w w' : World} {R base : Nat} {x y : Value} (h : TCell t w R x y) (hb : Below base w w') (hR : R < base) : TCell t w' R x y := ⟨(hb.block R hR).trans h.heap⟩
theorem OwnG.same_ {α : Type} {cs : α → List Value} {e : TypeId} {k : Nat} {w : World} {base : Nat} {v : Value} {l m : List α} (h : OwnG cs e k w base v l) (hlm : l = m) : OwnG cs e k w base v m := by subst hlm; exact h
section
variable {α : Type} {cs : α → List Value} {t e : TypeId} {k bytes : Nat} {w : World} {ops : Array Oper} {o : Oper} {a : Act} {K : Act → World → Prop} {Q : Exit → Act → World → Prop} {F : Prop}
/-- an append of a list, at a step of a region that draws; the blocks below 'base' stay -/
theorem step_app_B (base : Nat) (E : ElemG cs t e k bytes) (hgd : o.guard = none) (s x : Operand) (ho : o.op = .call { callee := .builtin .append, args := #[s, x], argTypes := #[t, t] }) (v : Value) (l m : List α) (n : Nat) (P : Option Addr) (cap : Nat)
    (hs : a.eval s = v) (hx : a.eval x = .slice P n cap) (hn : m.length = n) (hown : OwnG cs e k w base v l) (hm : SlG cs w P cap m) (hP : P = none → cap = 0) (hl : (l.length + n) * bytes ≤ 140737488355328) (hlb : l.length + n ≤ 9223372036854775807) (hbase : base ≤ w.heap.size)
    (h : ∀ v' w', OwnG cs e k w' base v' (l ++ m) → Below base w w' → K (a.put o.dst v') w') : if Region.wanted o (yielded ops a.tmps) = true then Oper.wp Tryz.prog o a w K Q else F := by
  rw [if_pos (by simp [Region.wanted, hgd])]
  subst hn
  obtain ⟨v', w', hr, h1, h2, h3⟩ := hown.append E o.type hm hP hl hlb hbase
  exact wp_append_at s x t ho v _ hs hx hr (h v' w' h1 h3)
end
set_option maxHeartbeats 1000000 in
theorem refNew7_no (size pages : Int) (w : World) (h0 : -9223372036854775808 ≤ size ∧ size ≤ 9223372036854775807) (hn : ¬ (sizeB size = true ∧ 1 ≤ pages ∧ pages ≤ 200)) :
    Calls Tryz.prog 36 #[.int .i64 size, .int .i64 pages] w fun e w' => e = .returned (.tuple #[.agg #[.int .i64 0, .slice none 0 0], .int .i64 7]) ∧ Ext w w' := by
  have hS := fun W => refSize_any size W h0.1 h0.2
  have hT := TCell.new 28 w (.int .i64 0) (.slice none 0 0)
  have t0 := hT.cells.1
  have t1 := hT.cells.2.1
  have tf0 := hT.cells.2.2.1
  have tf1 := hT.cells.2.2.2
  have hx := (Ext.refl w).alloc (.cells #[.int .i64 0, .slice none 0 0] 28)
  by_cases hz : sizeB size = true
  · rw [hz] at hS
    by_cases hp : pages < 1
    · clear hn
      go_enter Tryz.func36, Tryz.ntmps36
      go_wp2_with (go_at_call 17; refine (hS _).mono ?_; rintro e w1 ⟨rfl, rfl⟩)
      exact bodyPost_ret (v := .tuple #[.agg #[.int .i64 0, .slice none 0 0], .int .i64 7]) (by simp [results, Tryz.results36, go_sem, t0, t1]) rfl ⟨rfl, hx⟩
    · have hp2 : 200 < pages := by
        apply Classical.byContradiction
        intro h
        exact hn ⟨hz, by omega, by omega⟩
      clear hn
      go_enter Tryz.func36, Tryz.ntmps36
      go_wp2_with (go_at_call 17; refine (hS _).mono ?_; rintro e w1 ⟨rfl, rfl⟩)
      exact bodyPost_ret (v := .tuple #[.agg #[.int .i64 0, .slice none 0 0], .int .i64 7]) (by simp [results, Tryz.results36, go_sem, t0, t1]) rfl ⟨rfl, hx⟩
  · have hz' : sizeB size = false := by simpa using hz
    rw [hz'] at hS
    clear hn hz
    go_enter Tryz.func36, Tryz.ntmps36
    go_wp2_with (go_at_call 17; refine (hS _).mono ?_; rintro e w1 ⟨rfl, rfl⟩)
    exact bodyPost_ret (v := .tuple #[.agg #[.int .i64 0, .slice none 0 0], .int .i64 7]) (by simp [results, Tryz.results36, go_sem, t0, t1]) rfl ⟨rfl, hx⟩
set_option maxHeartbeats 1000000 in
theorem refNew7_yes (size pages : Nat) (w : World) (hz : sizeB (size : Int) = true) (hp1 : 1 ≤ pages) (hp2 : pages ≤ 200) :
    Calls Tryz.prog 36 #[.int .i64 size, .int .i64 pages] w fun e w' => (∃ v, e = .returned (.tuple #[v, .int .i64 0]) ∧ NewR w' w.heap.size v size (List.replicate pages (newP size))) ∧ Ext w w' := by
  have hz' : 32 ≤ size ∧ size ≤ 4096 := by simp [sizeB] at hz; omega
  have hS := fun W => refSize_any size W (by omega) (by omega)
  rw [hz] at hS
  have hB := fun {W : World} => refBuilt0 size hz W
  obtain ⟨pv, pz, _, _⟩ := newP_ok size hz
  generalize newP size = p at *
  have hs1 : (w.alloc (.cells #[.int .i64 0, .slice none 0 0] 28)).heap.size = w.heap.size + 1 := by simp
  have hs2 : ((w.alloc (.cells #[.int .i64 0, .slice none 0 0] 28)).alloc (.cells #[.int .i64 size, .slice none 0 0] 28)).heap.size = w.heap.size + 1 + 1 := by simp
  have hT := (TCell.new 28 w (.int .i64 0) (.slice none 0 0)).ext ((Ext.refl _).alloc (.cells #[.int .i64 size, .slice none 0 0] 28))
  have hA := TCell.new 28 (w.alloc (.cells #[.int .i64 0, .slice none 0 0] 28)) (.int .i64 size) (.slice none 0 0)
  rw [hs1] at hA
  have hx0 := ((Ext.refl w).alloc (.cells #[.int .i64 0, .slice none 0 0] 28)).alloc (.cells #[.int .i64 size, .slice none 0 0] 28)
  have c1 : ¬ (pages : Int) < 1 := by omega
  have c2 : ¬ 200 < (pages : Int) := by omega
  go_enter Tryz.func36, Tryz.ntmps36
  go_wp2_with (go_at_call 17; refine (hS _).mono ?_; rintro e w1 ⟨rfl, rfl⟩)
  generalize (w.alloc (.cells #[.int .i64 0, .slice none 0 0] 28)).alloc (.cells #[.int .i64 size, .slice none 0 0] 28) = W2 at *
  go_loopw [7] (fun i wr => ∃ k : Nat, k ≤ pages ∧ i = .int .i64 k ∧ (∃ v, TCell 28 wr (w.heap.size + 1) (.int .i64 size) v ∧ OwnS wr (w.heap.size + 1 + 1) v (List.replicate k p)) ∧ TCell 28 wr w.heap.size (.int .i64 0) (.slice none 0 0) ∧ Ext w wr ∧ w.heap.size + 1 + 1 ≤ wr.heap.size) (fun i _ => pages - (intOf i).toNat)
  case atStart => exact ⟨0, by omega, rfl, ⟨_, hA, OwnG.nil _ _ _ _ _⟩, hT, hx0, by omega⟩
  case round =>
    obtain ⟨k, hk, rfl, ⟨v, hAr, ho⟩, hTr, hx, hsz⟩ := hrel
    by_cases hlt : k < pages
    · have a1 := hAr.cells.2.1
      obtain ⟨L, hL⟩ : ∃ L, List.replicate k p = L := ⟨_, rfl⟩
      have hLn : L.length = k := by rw [← hL]; simp
      have hLr : L ++ [p] = List.replicate (k + 1) p := by rw [← hL, List.replicate_succ']
      rw [hL] at ho
      have HL := Lib.hid hLn
      have HR := Lib.hid hLr
      clear hLn hLr hL
      have c3 : (k : Int) < pages := by omega
      go_wp2
      go_region_law
        (first
          | (refine step_app_B (w.heap.size + 1 + 1) elemS ?_ (.tmp 28) (.tmp 31) ?_ v L [p] 1 (some ⟨?_, 0, none⟩) 1 ?_ ?_ rfl ?_ ?_ (fun e => by cases e) ?_ ?_ ?_ ?_
             · rfl
             · rfl
             rotate_left 1
             · rfl
             · rfl
             · exact ho.ext (by (repeat (first | exact Ext.refl _ | assumption | refine Ext.trans ?_ hx5 | refine Ext.drew ?_ | refine Ext.drewN ?_ _ | refine Ext.alloc ?_ _)))
             · refine SlG.block1 (e := 9) elemS.hk p rfl ?_; refine alloc_at _ _ _ ?_; (simp; done)
             · rw [HL.out]; omega
             · rw [HL.out]; omega
             · have := hx5.size; simp at this ⊢; omega
             intro v6 w6 ho6 hb6; have hA6 := TCell.below (hAr.ext (by (repeat (first | exact Ext.refl _ | assumption | refine Ext.trans ?_ hx5 | refine Ext.drew ?_ | refine Ext.drewN ?_ _ | refine Ext.alloc ?_ _)))) hb6 (Nat.lt_succ_self _); have af6 := hA6.cells.2.2.2; have a6 := hA6.cells.2.1; obtain ⟨g6, c6, rfl, hg6, hl6, _, _⟩ := ho6.tight (by rw [List.length_append]; exact Nat.succ_pos _))
          | (go_simp; go_at_call 80; (with_reducible refine hB.mono ?_); rintro e w5 ⟨rfl, hx5⟩; have a5 := hx5.cell a1; have a5b := (Ext.alloc hx5 (.cells #[.string p] 9)).cell a1; dsimp only)
          | fail)
      all_goals
        go_wp2
        have HX5 := ((Ext.refl wr).drew.trans hx5).alloc (.cells #[.string p] 9)
        have hL1 : (L ++ [p]).length = L.length + 1 := by simp
        rw [hL1] at ho6
        have hA7 := hA6.set1 (.slice (some ⟨g6, 0, none⟩) (L.length + 1) c6)
        have ho7 := ho6.far (R := w.heap.size + 1) (i := 1) (Nat.lt_succ_self _) (.slice (some ⟨g6, 0, none⟩) (L.length + 1) c6)
        have hT7 := (TCell.below (hTr.ext HX5) hb6 (by omega)).far (p := ⟨w.heap.size + 1, 1, none⟩) (by simp) (.slice (some ⟨g6, 0, none⟩) (L.length + 1) c6)
        have hx7 := (below_ext (hx.trans HX5) hb6 (by omega)).setCell (p := ⟨w.heap.size + 1, 1, none⟩) (show w.heap.size ≤ w.heap.size + 1 from by omega) (.slice (some ⟨g6, 0, none⟩) (L.length + 1) c6)
        have hs7 : w.heap.size + 1 + 1 ≤ w6.heap.size := Nat.le_trans (Nat.le_trans hsz HX5.size) hb6.size
        exact ⟨⟨k + 1, by omega, by go_num, ⟨_, ⟨hA7.heap⟩, by rw [← HR.out]; exact ho7⟩, ⟨hT7.heap⟩, hx7, by simpa [World.setCell] using hs7⟩, by simp [intOf]; omega⟩
    · obtain rfl : k = pages := by omega
      obtain ⟨g6, c6, rfl, hg6, hl6, _, _⟩ := ho.tight (by simp; omega)
      have a0 := hAr.cells.1
      have a1 := hAr.cells.2.1
      have t0 := hTr.cells.1
      have t1 := hTr.cells.2.1
      have tf0 := hTr.cells.2.2.1
      have tf1 := hTr.cells.2.2.2
      have hT1 := hTr.set0 (.int .i64 size)
      have u1 := hT1.cells.2.1
      have uf1 := hT1.cells.2.2.2
      have hT2 := hT1.set1 (.slice (some ⟨g6, 0, none⟩) (List.replicate k p).length c6)
      have r0 := hT2.cells.1
      have r1 := hT2.cells.2.1
      have ho8 := (ho.far (R := w.heap.size) (i := 0) (by omega) (.int .i64 size)).far (R := w.heap.size) (i := 1) (by omega) (.slice (some ⟨g6, 0, none⟩) (List.replicate k p).length c6)
      rw [List.length_replicate] at *
      go_wp2
      have hxF := (hx.setCell (p := ⟨w.heap.size, 0, none⟩) (Nat.le_refl _) (.int .i64 size)).setCell (p := ⟨w.heap.size, 1, none⟩) (Nat.le_refl _) (.slice (some ⟨g6, 0, none⟩) k c6)
      refine bodyPost_ret (v := .tuple #[.agg #[.int .i64 size, .slice (some ⟨g6, 0, none⟩) k c6], .int .i64 0]) ?_ rfl ⟨⟨_, rfl, NewR.of_own (ho8.low (Nat.le_trans (Nat.le_succ _) (Nat.le_succ _))) (by simp) ⟨fun i hi => ?_, by simp; omega, by simp; omega, hz⟩⟩, hxF⟩
      · simp [results, Tryz.results36, go_sem, r0, r1]
      · rw [List.length_replicate] at hi
        rw [nthB_replicate _ _ _ hi]
        exact ⟨pv, pz⟩
end
end Go.Proofs.YtnileonlabpbpaaGreat
