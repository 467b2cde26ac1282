/- ItXH (merged by group.py) -/
import Derived.Test.YtepgpejdnlejnaaDoorQ10
import Derived.Test.YtepgpejdnlejnaaDoorQ11
namespace Go.Proofs.YtepgpejdnlejnaaDoor
section
open Go.RowKit
set_option linter.unusedVariables false
set_option linter.unusedSimpArgs false
set_option linter.unusedSectionVars false
set_option maxRecDepth 100000
attribute [local go_sem] Oper.semAt_some

theorem value_none (R : Nat) (s : ByteArray) (n : Nat) (w : World) (h : Rdr w R s n) (hn : n ≤ s.size) (hs : s.size ≤ 1000000) (hL : LibB R w) (hr : readVl (s.data.toList.drop n) = none) :
    Calls Tryd.prog 79 #[.pointer (some ⟨R, 0, none⟩)] w fun e w' => e = .panicked [{ v := stopV, recovered := false }] ∧ Upd w R w' :=
  (value_rd R s n w h hn hs hL).mono fun e w' ⟨hu, h'⟩ => by
    rcases h' with ⟨v, n', h1, _⟩ | ⟨_, h2⟩
    · rw [hr] at h1; cases h1
    · exact ⟨h2, hu⟩
theorem value_some (R : Nat) (s : ByteArray) (n : Nat) (w : World) (h : Rdr w R s n) (hn : n ≤ s.size) (hs : s.size ≤ 1000000) (hL : LibB R w) {v : VlP} {n' : Nat} (hr : readVl (s.data.toList.drop n) = some (v, s.data.toList.drop n')) (hn' : n' ≤ s.size) :
    Calls Tryd.prog 79 #[.pointer (some ⟨R, 0, none⟩)] w fun e w' => e = .returned (ofP v).v ∧ Rdr w' R s (n' : Nat) ∧ Upd w R w' :=
  (value_rd R s n w h hn hs hL).mono fun e w' ⟨hu, h'⟩ => by
    rcases h' with ⟨v2, n2, h1, h2, h3, h4⟩ | ⟨h1, _⟩
    · rw [hr] at h1
      injection h1 with h1
      injection h1 with e1 e2
      have e3 := congrArg List.length e2
      have e4 : s.data.toList.length = s.size := by simp
      rw [List.length_drop, List.length_drop, e4] at e3
      obtain rfl : n' = n2 := by omega
      subst e1
      exact ⟨h3, h4, hu⟩
    · rw [hr] at h1; cases h1
theorem readVl_drop {s : ByteArray} {p : Nat} (hp : p ≤ s.size) : readVl (s.data.toList.drop p) = none ∨ ∃ v n', readVl (s.data.toList.drop p) = some (v, s.data.toList.drop n') ∧ n' ≤ s.size ∧ p ≤ n' := by
  cases h : readVl (s.data.toList.drop p) with
  | none => exact .inl rfl
  | some z =>
    obtain ⟨v, r⟩ := z
    right
    have hsuf : ∃ q, s.data.toList.drop p = q ++ r := readVl_suf h
    obtain ⟨q, hq⟩ := hsuf
    have e4 : s.data.toList.length = s.size := by simp
    have hl := congrArg List.length hq
    rw [List.length_drop, e4, List.length_append] at hl
    have hr : r = s.data.toList.drop (p + q.length) := by
      rw [← List.drop_drop, hq, List.drop_left]
    exact ⟨v, p + q.length, by rw [hr], by omega, by omega⟩
/-- what holds in a round of Parse -/
structure PaSt (w : World) (s : ByteArray) (l : List Vl) (p : Nat) (v : Value) (wr : World) : Prop where
  rd : Rdr wr (w.heap.size + 2) s p
  b2 : Boxed wr w.heap.size 23 v
  b3 : Boxed wr (w.heap.size + 1) 43 (.int .i64 0)
  own : OwnG Vl.cells 29 3 wr w.heap.size v l
  x : Ext w wr
theorem own_ne {α : Type} {cs : α → List Value} {e t : TypeId} {k base B : Nat} {W : World} {v : Value} {l : List α} {C : Array Value} {fz : Nat × Nat} (h : OwnG cs e k W base v l) (hB : W.heap[B]? = some (.cells C t fz)) (hte : t ≠ e) : v.ownBlock ≠ some B := by
  intro hv
  rcases h.2 with ⟨rfl, _⟩ | ⟨g, cap, cur, rfl, hb, hg, rest⟩
  · cases hv
  · obtain rfl : g = B := by simpa [Value.ownBlock] using hv
    rw [hB] at hg
    injection hg with hg
    injection hg with _ hg _
    exact hte hg
theorem OwnG.upd {α : Type} {cs : α → List Value} {e t : TypeId} {k base B : Nat} {W W' : World} {v : Value} {l : List α} {C : Array Value} {fz : Nat × Nat} (h : OwnG cs e k W base v l) (hB : W.heap[B]? = some (.cells C t fz)) (hte : t ≠ e) (hx : Upd W B W') : OwnG cs e k W' base v l :=
  World.ownsRow.kept h (row := some B) hx (.inr (fun e => own_ne h hB hte e))
theorem PaSt.called {w wr w5 : World} {s : ByteArray} {l : List Vl} {p n' : Nat} {v : Value} (h : PaSt w s l p v wr) (h5 : Rdr w5 (w.heap.size + 2) s (n' : Nat)) (hu : Upd wr.drew (w.heap.size + 2) w5) : PaSt w s l n' v w5 :=
  ⟨h5, hu.heap h.b2 (by omega), hu.heap h.b3 (by omega), OwnG.upd (W := wr.drew) (h.own.ext (Ext.refl wr).drew) h.rd (by decide) hu, Upd.ext h.x.drew hu (by omega)⟩
theorem PaSt.called2 {w wr w5 : World} {s : ByteArray} {l : List Vl} {p : Nat} {v : Value} (h : PaSt w s l p v wr) (hu : Upd wr.drew (w.heap.size + 2) w5) : Boxed w5 w.heap.size 23 v ∧ Boxed w5 (w.heap.size + 1) 43 (.int .i64 0) ∧ Ext w w5 :=
  ⟨hu.heap h.b2 (by omega), hu.heap h.b3 (by omega), Upd.ext h.x.drew hu (by omega)⟩
/-- what is written is what was there -/
theorem ext_same2 {W : World} {c : Nat} {t u : TypeId} {x y : Value} (h : Boxed W c t x) (k : Boxed W (c + 1) u y) : Ext W ((W.setCell ⟨c, 0, none⟩ x).setCell ⟨c + 1, 0, none⟩ y) := by
  have hu := (Upd.setCell W c 0 x)
  have hu2 := (Upd.setCell (W.setCell ⟨c, 0, none⟩ x) (c + 1) 0 y)
  refine ⟨rfl, rfl, rfl, by simp [World.setCell], fun i hi => ?_⟩
  by_cases h1 : i = c + 1
  · subst h1
    exact (((k.other (B' := c) (by omega) x).set y) : _ = _).trans k.symm
  · rw [hu2.block i (by simpa [World.setCell] using hi) (fun e => h1 (by injection e))]
    by_cases h2 : i = c
    · subst h2
      exact ((h.set x) : _ = _).trans h.symm
    · exact hu.block i hi (fun e => h2 (by injection e))
theorem PaSt.alloc {w wr : World} {s : ByteArray} {l : List Vl} {p : Nat} {v : Value} (h : PaSt w s l p v wr) (o : Obj) : PaSt w s l p v (wr.alloc o) :=
  have hx := (Ext.refl wr).alloc o
  ⟨h.rd.ext hx, hx.heap h.b2, hx.heap h.b3, h.own.ext hx, h.x.trans hx⟩
theorem PaSt.drewN {w wr : World} {s : ByteArray} {l : List Vl} {p : Nat} {v : Value} (h : PaSt w s l p v wr) (n : Nat) : PaSt w s l p v (wr.drewN n) :=
  have hx := (Ext.refl wr).drewN n
  ⟨h.rd.ext hx, hx.heap h.b2, hx.heap h.b3, h.own.ext hx, h.x.trans hx⟩
theorem PaSt.app {w W w6 : World} {s : ByteArray} {l m : List Vl} {p : Nat} {v v' : Value} (h : PaSt w s l p v W) (ho : OwnG Vl.cells 29 3 w6 w.heap.size v' m) (hg : W.grownBy w6 v.ownBlock) (hx : Ext w w6) :
    (w6.cell? ⟨w.heap.size, 0, none⟩ = some v ∧ w6.frozen? ⟨w.heap.size, 0, none⟩ = false) ∧ PaSt w s m p v' (w6.setCell ⟨w.heap.size, 0, none⟩ v') := by
  have k1 : Boxed w6 w.heap.size 23 v := grown_heap hg h.b2 (own_ne h.own h.b2 (by decide))
  have k2 : Boxed w6 (w.heap.size + 1) 43 (.int .i64 0) := grown_heap hg h.b3 (own_ne h.own h.b3 (by decide))
  have k3 : Rdr w6 (w.heap.size + 2) s p := grown_heap hg h.rd (own_ne h.own h.rd (by decide))
  refine ⟨⟨k1.cell, k1.frozen⟩, ?_⟩
  have hu : Upd w6 w.heap.size (w6.setCell ⟨w.heap.size, 0, none⟩ v') := Upd.setCell _ _ _ _
  exact ⟨hu.heap k3 (by omega), k1.set _, hu.heap k2 (by omega), OwnG.upd ho k1 (by decide) hu, hx.setCell (Nat.le_refl _) _⟩
theorem PaSt.set {w wr : World} {s : ByteArray} {l : List Vl} {p : Nat} {v : Value} (h : PaSt w s l p v wr) (q : Nat) (z : Int) (hz : z = (q : Int)) : PaSt w s l q v (wr.setCell ⟨w.heap.size + 2, 1, none⟩ (.int .i64 z)) := by
  subst hz
  have hu : Upd wr (w.heap.size + 2) (wr.setCell ⟨w.heap.size + 2, 1, none⟩ (.int .i64 (q : Int))) := Upd.setCell _ _ _ _
  exact ⟨h.rd.set _, hu.heap h.b2 (by omega), hu.heap h.b3 (by omega), OwnG.upd h.own h.rd (by decide) hu, Upd.ext h.x hu (by omega)⟩
theorem PaSt.ext {w wr w' : World} {s : ByteArray} {l : List Vl} {p : Nat} {v : Value} (h : PaSt w s l p v wr) (hx : Ext wr w') : PaSt w s l p v w' :=
  ⟨h.rd.ext hx, hx.heap h.b2, hx.heap h.b3, h.own.ext hx, h.x.trans hx⟩
theorem next_pa {w : World} {p : Nat} {s : ByteArray} {l : List Vl} {v : Value} {c : Int} (hc : byteN s p = c) (hn : p ≤ 140737488355328) (wr : World) (h : PaSt w s l p v wr) :
    Calls Tryd.prog 80 #[.pointer (some ⟨w.heap.size + 2, 0, none⟩)] wr fun e w' => e = .returned (.int .u8 c) ∧ PaSt w s l p v w' :=
  (next_at (w.heap.size + 2) s p c hc hn wr h.rd).mono fun e w' ⟨he, m, hw⟩ => ⟨he, hw ▸ h.drewN m⟩
theorem ext_libB {w wr : World} (hL : LibT w) (hx : Ext w wr) : LibB (w.heap.size + 2) wr := (hL.below.kept hx).mono (by omega)
/-- what Parse leaves -/
def ParPost (s : ByteArray) (w : World) (e : Ending) (w' : World) : Prop :=
  Ext w w' ∧ ∃ P c l y, e = .returned (.tuple #[.slice P l.length c, .int .i64 y]) ∧ SlV w' P c l ∧ parsePT rowP s.data.toList = (l.map toP, y)
set_option maxHeartbeats 8000000 in
theorem parse_any (s : ByteArray) (w : World) (hs : s.size ≤ 140737488355328) (hL : LibT w) :
    Calls Tryd.prog 46 #[.string s] w (ParPost s w) := by
  have hmf : ∀ (fn : Fn) (first cap : Array Value) (w : World), (Instr.makeFunc fn first cap).run Tryd.prog w = .ok (.func fn first cap) w := fun _ _ _ _ => rfl
  have hb1 := (Boxed.new w 23 (.slice none 0 0)).alloc (.cells #[.int .i64 0] 43)
  have hb2 := Boxed.new (w.alloc (.cells #[.slice none 0 0] 23)) 43 (.int .i64 0)
  rw [World.size_alloc] at hb2
  have hx0 : Ext w ((w.alloc (.cells #[.slice none 0 0] 23)).alloc (.cells #[.int .i64 0] 43)) := ((Ext.refl w).alloc _).alloc _
  have hs0 : ((w.alloc (.cells #[.slice none 0 0] 23)).alloc (.cells #[.int .i64 0] 43)).heap.size = w.heap.size + 2 := by simp
  have hel : s.data.toList.length = s.size := by simp
  by_cases h20 : 20000 < s.size
  · have c1 : (20000 : Int) < s.size := by omega
    have q1 := hb1.cell
    have q2 := hb2.cell
    have f1 := hb1.frozen
    have f2 := hb2.frozen
    go_enter_defers Tryd.func46, Tryd.ntmps46
    go_wp2 -- long
    have hb3 := (hb2.set (.int .i64 3))
    refine ⟨.tuple #[.slice none 0 0, .int .i64 3], ?_, ((Ext.refl w).alloc _).alloc _, none, 0, [], 3, rfl, SlG.nil _ _, ?_⟩
    · have r1 := ((Boxed.new w 23 (.slice none 0 0)).alloc (.cells #[.int .i64 3] 43)).cell
      have r2 := Boxed.new (w.alloc (.cells #[.slice none 0 0] 23)) 43 (.int .i64 3)
      rw [World.size_alloc] at r2
      have r2 := r2.cell
      simp [results, Tryd.results46, go_sem, r1, r2]
    · unfold parsePT
      rw [if_pos (by omega)]
      rfl
  · have c1 : ¬ (20000 : Int) < s.size := by omega
    go_enter_defers Tryd.func46, Tryd.ntmps46
    go_wp2
    go_loopw [12] (fun _ wr => ∃ (p : Nat) (l : List Vl) (v : Value), PaRel s l p ∧ PaSt w s l p v wr) (fun _ wr => s.size + 1 - ptrAt wr (w.heap.size + 2))
    case atStart =>
      refine ⟨0, [], .slice none 0 0, PaRel.start s, ?_⟩
      have hx1 := (Ext.refl ((w.alloc (.cells #[.slice none 0 0] 23)).alloc (.cells #[.int .i64 0] 43))).alloc (.cells #[.string s, .int .i64 0] 86)
      have hr0 := BoxN.new ((w.alloc (.cells #[.slice none 0 0] 23)).alloc (.cells #[.int .i64 0] 43)) 86 #[.string s, .int .i64 0]
      rw [hs0] at hr0
      exact ⟨hr0, hx1.heap hb1, hx1.heap hb2, OwnG.nil _ _ _ _ _, hx0.trans hx1⟩
    case round =>
      obtain ⟨p, l, v, hrel, hst⟩ := hrel
      have hmeas : ptrAt wr (w.heap.size + 2) = p := ptrAt_of hst.rd
      obtain ⟨_, _, hps, hlp, _⟩ := id hrel
      have HSZ := Lib.hid (show ¬ 20000 < s.data.toList.length from by omega)
      by_cases he : s.size = 0
      · have hs1 : s = ⟨#[]⟩ := empty_of he
        have hl0 : l = [] := List.length_eq_zero_iff.1 (by omega)
        have HT : Hid ((if s.data.toList = [] then some [] else readAll (s.data.toList.length + 1) s.data.toList) = some (l.map toP)) := Lib.hid (by rw [hs1, hl0]; rfl)
        have hemp : s.toList.isEmpty = true := by
          rw [hs1, ← decide_eq_emptyBytes]
          exact decide_eq_true rfl
        obtain ⟨PL, cL, rfl, hsl⟩ := OwnG.slG elemV hst.own (by omega)
        have hst9 := hst
        clear hs1 hl0 hst hrel hmeas he hel hs0 hb1 hb2 hx0 hlp hps
        have r1 := hst9.b2.cell
        have r3 := hst9.b3
        have hR := row_any PL cL l wr hsl
        have hlt9 := hst9.x
        cases hrb : rowB l with
        | false =>
          rw [hrb] at hR
          have hPP : parsePT rowP s.data.toList = ([], 2) := by
            unfold parsePT
            rw [if_neg HSZ.out, HT.out]
            simp only
            rw [if_pos (.inl (by rw [rowP_map]; exact hrb))]
          have HPP := Lib.hid hPP
          clear hPP hrb hsl
          go_wp2_with (fail)
          go_at_call 18
          refine hR.mono ?_
          rintro e w7 ⟨rfl, hx7⟩
          dsimp only
          go_wp2
          have hst10 := hst9.ext hx7
          refine parse_leaves w _ _ _ 0 _ hst10.b2 hst10.b3 hst10.x rfl rfl rfl ?_
          intro w' hx'
          exact ⟨hx', none, 0, [], 2, rfl, SlG.nil _ _, HPP.out⟩
        | true =>
          rw [hrb] at hR
          have hTx := fun W (hx : Ext wr W) => text_any PL cL l W (hsl.ext hx) (hL.tab.ext (hlt9.trans hx))
          obtain ⟨X, hX⟩ : ∃ X : ByteArray, ⟨(textL l).toArray⟩ = X := ⟨_, rfl⟩
          rw [hX] at hTx
          have hXd : X.data.toList = textL l := by rw [← hX]
          by_cases hm : textL l = s.data.toList
          · have hcmp : (X.toList == s.toList) = true := by
              rw [Lib.toList_data, Lib.toList_data, hXd, hm]
              simp
            have hPP : parsePT rowP s.data.toList = (l.map toP, 0) := by
              unfold parsePT
              rw [if_neg HSZ.out, HT.out]
              simp only
              rw [if_neg]
              rintro (h | h)
              · rw [rowP_map, hrb] at h
                cases h
              · rw [← textL_P] at h
                exact h hm
            have HPP := Lib.hid hPP
            have r1f := hst9.b2.frozen
            clear hPP hrb hX hXd hm
            go_wp2_with (fail)
            go_at_call 18
            refine hR.mono ?_
            rintro e w7 ⟨rfl, hx7⟩
            have r2 := hx7.cell r1
            dsimp only
            go_wp2_with (fail)
            go_at_call 44
            refine (hTx _ hx7).mono ?_
            rintro e w8 ⟨rfl, hx8⟩
            have hst10 := (hst9.ext hx7).ext hx8
            have r4 := hst10.b2.cell
            have r5 := hst10.b2.frozen
            have r6 := hst10.b3.cell
            have r7 := hst10.b3.frozen
            have b2' := hst10.b2
            have b3' := hst10.b3
            dsimp only
            go_wp2
            refine parse_returns w _ _ PL l.length cL 0 _ ((b2'.set _).other (by omega) _) ((b3'.other (by omega) _).set _) rfl rfl rfl ?_
            intro w' hx'
            have hx9 : Ext w8 ((w8.setCell ⟨w.heap.size, 0, none⟩ (.slice PL l.length cL)).setCell ⟨w.heap.size + 1, 0, none⟩ (.int .i64 0)) := ext_same2 b2' b3'
            exact ⟨((hst10.x.setCell (Nat.le_refl _) _).setCell (Nat.le_succ _) _).trans hx', PL, cL, l, 0, rfl, ((hsl.ext (hx7.trans hx8)).ext hx9).ext hx', HPP.out⟩
          · have hcmp : (X.toList == s.toList) = false := by
              rw [Lib.toList_data, Lib.toList_data, hXd]
              simpa using hm
            have hPP : parsePT rowP s.data.toList = ([], 2) := by
              unfold parsePT
              rw [if_neg HSZ.out, HT.out]
              simp only
              rw [if_pos]
              right
              rw [← textL_P]
              exact hm
            have HPP := Lib.hid hPP
            clear hPP hrb hX hXd hm
            go_wp2_with (fail)
            go_at_call 18
            refine hR.mono ?_
            rintro e w7 ⟨rfl, hx7⟩
            have r2 := hx7.cell r1
            dsimp only
            go_wp2_with (fail)
            go_at_call 44
            refine (hTx _ hx7).mono ?_
            rintro e w8 ⟨rfl, hx8⟩
            have hst10 := (hst9.ext hx7).ext hx8
            dsimp only
            go_wp2
            refine parse_leaves w _ _ _ 0 _ hst10.b2 hst10.b3 hst10.x rfl rfl rfl ?_
            intro w' hx'
            exact ⟨hx', none, 0, [], 2, rfl, SlG.nil _ _, HPP.out⟩
      · have hemp : s.toList.isEmpty = false := by
          rw [← decide_eq_emptyBytes]
          exact decide_eq_false (fun h => by rw [h] at he; exact he rfl)
        have hne : s.data.toList ≠ [] := fun h => by rw [h] at hel; exact he hel.symm
        rcases readVl_drop hps with hr | ⟨v0, n', hr, hn', hpn⟩
        · skip
          have HPP := Lib.hid (show parsePT rowP s.data.toList = ([], 2) from by
            unfold parsePT
            rw [if_neg HSZ.out, if_neg hne, hel, hrel.stop hr])
          have hV := value_none (w.heap.size + 2) s p wr.drew hst.rd hps (by omega) (ext_libB hL hst.x.drew) hr
          have b1 := hst.b2.cell
          clear hrel hr hel hs0 hb1 hb2 hx0 hmeas hne he
          go_wp2
          refine wp_region_held (S := fun w' => w'.cell? ⟨w.heap.size, 0, none⟩ = some v) (by kernel_rfl) ?_
          refine wpAnyH_two (i := 0) (j := 1) (fuel := 5) rfl rfl (by kernel_rfl) rfl rfl (fun K' hK => ?_) (fun K' hK => ?_)
          · go_simp
            refine hK _ _ b1 ?_
            clear hK K'
            refine wpAnyH_one (i := 1) (fuel := 4) rfl (by kernel_rfl) rfl fun K' hK => ?_
            go_simp
            refine hK _ _ b1 ?_
            clear hK K'
            refine wpAnyH_one (i := 2) (fuel := 3) rfl (by kernel_rfl) rfl fun K' hK => ?_
            go_simp
            refine hV.mono ?_
            rintro e w5 ⟨rfl, hu⟩
            have hst5 := hst.called2 hu
            refine parse_leaves w _ _ _ 0 _ hst5.1 hst5.2.1 hst5.2.2 rfl rfl rfl ?_
            intro w' hx'
            exact ⟨hx', none, 0, [], 2, rfl, SlG.nil _ _, HPP.out⟩
          · go_simp
            refine hK _ _ b1 ?_
            clear hK K'
            refine wpAnyH_two (i := 0) (j := 2) (fuel := 4) rfl rfl (by kernel_rfl) rfl rfl (fun K' hK => ?_) (fun K' hK => ?_)
            · go_simp
              refine hK _ _ b1 ?_
              clear hK K'
              refine wpAnyH_one (i := 2) (fuel := 3) rfl (by kernel_rfl) rfl fun K' hK => ?_
              go_simp
              refine hV.mono ?_
              rintro e w5 ⟨rfl, hu⟩
              have hst5 := hst.called2 hu
              refine parse_leaves w _ _ _ 0 _ hst5.1 hst5.2.1 hst5.2.2 rfl rfl rfl ?_
              intro w' hx'
              exact ⟨hx', none, 0, [], 2, rfl, SlG.nil _ _, HPP.out⟩
            · go_simp
              refine hV.mono ?_
              rintro e w5 ⟨rfl, hu⟩
              have hst5 := hst.called2 hu
              refine parse_leaves w _ _ _ 0 _ hst5.1 hst5.2.1 hst5.2.2 rfl rfl rfl ?_
              intro w' hx'
              exact ⟨hx', none, 0, [], 2, rfl, SlG.nil _ _, HPP.out⟩
        · have hV := value_some (w.heap.size + 2) s p wr.drew hst.rd hps (by omega) (ext_libB hL hst.x.drew) hr hn'
          obtain ⟨x, hx⟩ : ∃ x, ofP v0 = x := ⟨_, rfl⟩
          obtain ⟨L, hLx⟩ : ∃ L, l ++ [x] = L := ⟨_, rfl⟩
          have HLx := Lib.hid hLx
          have HLp := Lib.hid (show 0 < L.length from by rw [← hLx]; simp)
          have HLn := Lib.hid (show L.length ≤ 20001 from by rw [← hLx]; simp; omega)
          have b1 := hst.b2.cell
          have hl1 : l.length ≤ 20000 := by omega
          rw [hx] at hV
          have HRE := Lib.hid (And.intro hrel hr)
          have HX := Lib.hid hx
          unfold Vl.v at hV
          have hnz : 0 < s.size := by omega
          clear hrel hr hLx hx
          by_cases hfin : n' = s.size
          · have HT : Hid ((if s.data.toList = [] then some [] else readAll (s.data.toList.length + 1) s.data.toList) = some (L.map toP)) := Lib.hid (by
              rw [if_neg hne, hel, HRE.out.1.last HRE.out.2 hfin, ← HLx.out, HX.out])
            clear hel hs0 hb1 hb2 hx0 hmeas hne he
            go_wp2
            refine wp_region_noPanic ?_
            go_region_law
              (first
                | (refine step_app_G w elemV ?_ (.tmp 14) (.tmp 17) ?_ v l [x] 1 (some ⟨?_, 0, none⟩) 1 ?_ ?_ rfl ?_ ?_ (fun e => by cases e) ?_ ?_ ?_ ?_
                   · rfl
                   · rfl
                   rotate_left 1
                   · rfl
                   · rfl
                   · exact hst5.own.ext ((Ext.refl _).alloc _)
                   · refine SlG.block1 (e := 29) elemV.hk x rfl ?_; refine alloc_at _ _ _ ?_; (simp; done)
                   · omega
                   · omega
                   · exact hst5.x.alloc _
                   intro v6 w6 ho6 hx6 hg6; rw [HLx.out] at ho6; have hap := (hst5.alloc _).app ho6 hg6 hx6; obtain ⟨⟨p1, p2⟩, hst7⟩ := hap; obtain ⟨g6, c6, rfl, hg7, hl7, _, _⟩ := ho6.tight HLp.out)
                | (go_simp; go_at_call 79; (with_reducible refine hV.mono ?_); rintro e w5 ⟨rfl, h5, hu5⟩; have hst5 := hst.called h5 hu5; have b5 := hst5.b2.cell; have b5b := ((Ext.refl w5).alloc (.cells #[.int .i64 x.1, .int .i64 x.2.1, .string x.2.2] 29)).cell b5; dsimp only)
                | fail)
            all_goals (
              refine NoPanic.normal ?_
              have k1 := hst7.rd.n
              rw [hfin] at k1
              clear hst hst5 hV hu5 h5 b1 b5 b5b p1 p2 ho6 hg6 hx6
              have hst9 := hst7
              obtain ⟨PL, cL, hVe, hsl⟩ := OwnG.slG elemV hst9.own (by have := HLn.out; omega)
              injection hVe with e1 e2 e3
              subst e1 e3
              generalize w6.setCell ⟨w.heap.size, 0, none⟩ (.slice (some ⟨g6, 0, none⟩) L.length c6) = W9 at *
              obtain ⟨PL, hPL⟩ : ∃ P : Option Addr, some ⟨g6, 0, none⟩ = P := ⟨_, rfl⟩
              obtain ⟨cL, hcL⟩ : ∃ c, c6 = c := ⟨_, rfl⟩
              rw [hPL, hcL] at hsl
              rw [hPL, hcL] at hst9
              simp only [hPL, hcL]
              clear hPL hcL hst7 e2
              have r1 := hst9.b2.cell
              have r3 := hst9.b3
              have hR := row_any PL cL L W9 hsl
              have hlt9 := hst9.x
              cases hrb : rowB L with
              | false =>
                rw [hrb] at hR
                have hPP : parsePT rowP s.data.toList = ([], 2) := by
                  unfold parsePT
                  rw [if_neg HSZ.out, HT.out]
                  simp only
                  rw [if_pos (.inl (by rw [rowP_map]; exact hrb))]
                have HPP := Lib.hid hPP
                clear hPP hrb hsl
                go_wp2_with (fail)
                go_at_call 18
                refine hR.mono ?_
                rintro e w7 ⟨rfl, hx7⟩
                dsimp only
                go_wp2
                have hst10 := hst9.ext hx7
                refine parse_leaves w _ _ _ 0 _ hst10.b2 hst10.b3 hst10.x rfl rfl rfl ?_
                intro w' hx'
                exact ⟨hx', none, 0, [], 2, rfl, SlG.nil _ _, HPP.out⟩
              | true =>
                rw [hrb] at hR
                have hTx := fun W (hx : Ext W9 W) => text_any PL cL L W (hsl.ext hx) (hL.tab.ext (hlt9.trans hx))
                obtain ⟨X, hX⟩ : ∃ X : ByteArray, ⟨(textL L).toArray⟩ = X := ⟨_, rfl⟩
                rw [hX] at hTx
                have hXd : X.data.toList = textL L := by rw [← hX]
                by_cases hm : textL L = s.data.toList
                · have hcmp : (X.toList == s.toList) = true := by
                    rw [Lib.toList_data, Lib.toList_data, hXd, hm]
                    simp
                  have hPP : parsePT rowP s.data.toList = (L.map toP, 0) := by
                    unfold parsePT
                    rw [if_neg HSZ.out, HT.out]
                    simp only
                    rw [if_neg]
                    rintro (h | h)
                    · rw [rowP_map, hrb] at h
                      cases h
                    · rw [← textL_P] at h
                      exact h hm
                  have HPP := Lib.hid hPP
                  have r1f := hst9.b2.frozen
                  clear hPP hrb hX hXd hm
                  go_wp2_with (fail)
                  go_at_call 18
                  refine hR.mono ?_
                  rintro e w7 ⟨rfl, hx7⟩
                  have r2 := hx7.cell r1
                  dsimp only
                  go_wp2_with (fail)
                  go_at_call 44
                  refine (hTx _ hx7).mono ?_
                  rintro e w8 ⟨rfl, hx8⟩
                  have hst10 := (hst9.ext hx7).ext hx8
                  have r4 := hst10.b2.cell
                  have r5 := hst10.b2.frozen
                  have r6 := hst10.b3.cell
                  have r7 := hst10.b3.frozen
                  have b2' := hst10.b2
                  have b3' := hst10.b3
                  dsimp only
                  go_wp2
                  refine parse_returns w _ _ PL L.length cL 0 _ ((b2'.set _).other (by omega) _) ((b3'.other (by omega) _).set _) rfl rfl rfl ?_
                  intro w' hx'
                  have hx9 : Ext w8 ((w8.setCell ⟨w.heap.size, 0, none⟩ (.slice PL L.length cL)).setCell ⟨w.heap.size + 1, 0, none⟩ (.int .i64 0)) := ext_same2 b2' b3'
                  exact ⟨((hst10.x.setCell (Nat.le_refl _) _).setCell (Nat.le_succ _) _).trans hx', PL, cL, L, 0, rfl, ((hsl.ext (hx7.trans hx8)).ext hx9).ext hx', HPP.out⟩
                · have hcmp : (X.toList == s.toList) = false := by
                    rw [Lib.toList_data, Lib.toList_data, hXd]
                    simpa using hm
                  have hPP : parsePT rowP s.data.toList = ([], 2) := by
                    unfold parsePT
                    rw [if_neg HSZ.out, HT.out]
                    simp only
                    rw [if_pos]
                    right
                    rw [← textL_P]
                    exact hm
                  have HPP := Lib.hid hPP
                  clear hPP hrb hX hXd hm
                  go_wp2_with (fail)
                  go_at_call 18
                  refine hR.mono ?_
                  rintro e w7 ⟨rfl, hx7⟩
                  have r2 := hx7.cell r1
                  dsimp only
                  go_wp2_with (fail)
                  go_at_call 44
                  refine (hTx _ hx7).mono ?_
                  rintro e w8 ⟨rfl, hx8⟩
                  have hst10 := (hst9.ext hx7).ext hx8
                  dsimp only
                  go_wp2
                  refine parse_leaves w _ _ _ 0 _ hst10.b2 hst10.b3 hst10.x rfl rfl rfl ?_
                  intro w' hx'
                  exact ⟨hx', none, 0, [], 2, rfl, SlG.nil _ _, HPP.out⟩)
          · have hnlt : n' < s.size := by omega
            have e0 := byteU_Nall s n'
            have c3 : ¬ (n' : Int) = s.size := by omega
            by_cases h44 : byteU s n' = 44
            · rw [h44] at e0
              have hNx := fun V W hW => next_pa (w := w) (l := L) (v := V) (p := n') (s := s) e0 (by omega) W hW
              have HR2 := Lib.hid (show PaRel s L (n' + 1) from by rw [← HLx.out, ← HX.out]; exact HRE.out.1.more HRE.out.2 hnlt h44)
              have d0 : IntKind.i64.wrap ((n' : Int) + 1) = (n' : Int) + 1 := IntWalk.i64_in _ ⟨by omega, by omega⟩
              clear hel hs0 hb1 hb2 hx0 hne he
              go_wp2
              refine wp_region_noPanic ?_
              go_region_law
                (first
                  | (refine step_app_G w elemV ?_ (.tmp 14) (.tmp 17) ?_ v l [x] 1 (some ⟨?_, 0, none⟩) 1 ?_ ?_ rfl ?_ ?_ (fun e => by cases e) ?_ ?_ ?_ ?_
                     · rfl
                     · rfl
                     rotate_left 1
                     · rfl
                     · rfl
                     · exact hst5.own.ext ((Ext.refl _).alloc _)
                     · refine SlG.block1 (e := 29) elemV.hk x rfl ?_; refine alloc_at _ _ _ ?_; (simp; done)
                     · omega
                     · omega
                     · exact hst5.x.alloc _
                     intro v6 w6 ho6 hx6 hg6; rw [HLx.out] at ho6; have hap := (hst5.alloc _).app ho6 hg6 hx6; obtain ⟨⟨p1, p2⟩, hst7⟩ := hap; obtain ⟨g6, c6, rfl, hg7, hl7, _, _⟩ := ho6.tight HLp.out)
                  | (go_simp; go_at_call 79; (with_reducible refine hV.mono ?_); rintro e w5 ⟨rfl, h5, hu5⟩; have hst5 := hst.called h5 hu5; have b5 := hst5.b2.cell; have b5b := ((Ext.refl w5).alloc (.cells #[.int .i64 x.1, .int .i64 x.2.1, .string x.2.2] 29)).cell b5; dsimp only)
                  | fail)
              all_goals (
                refine NoPanic.normal ?_
                have k1 := hst7.rd.n
                clear hst hst5 hV hu5 h5 b1 b5 b5b p1 p2 ho6 hg6 hx6 e0 h44
                go_wp2_with (fail)
                go_at_call 80
                refine (hNx _ _ hst7).mono ?_
                rintro e w8 ⟨rfl, hst8⟩
                have k2 := hst8.rd.n
                have k3 := hst8.rd.free
                have hst9 := hst8.set (n' + 1) ((n' : Int) + 1) (by omega)
                dsimp only
                go_wp2
                go_roundw
                case rel => exact ⟨n' + 1, L, _, HR2.out, hst9⟩
                case measure => rw [ptrAt_of hst9.rd, hmeas]; omega)
            · have n44 : (((byteU s n').toNat : Int) == 44) = false := by
                rw [beq_eq_false_iff_ne]
                intro e
                have h44' : (44 : UInt8).toNat = 44 := rfl
                exact h44 (UInt8.toNat_inj.1 (by omega))
              have hNx := fun V W hW => next_pa (w := w) (l := L) (v := V) (p := n') (s := s) e0 (by omega) W hW
              have HPP := Lib.hid (show parsePT rowP s.data.toList = ([], 2) from by
                unfold parsePT
                rw [if_neg HSZ.out, if_neg hne, hel, HRE.out.1.bad HRE.out.2 hnlt h44])
              generalize byteU s n' = u at *
              clear hel hs0 hb1 hb2 hx0 hne he
              go_wp2
              refine wp_region_noPanic ?_
              go_region_law
                (first
                  | (refine step_app_G w elemV ?_ (.tmp 14) (.tmp 17) ?_ v l [x] 1 (some ⟨?_, 0, none⟩) 1 ?_ ?_ rfl ?_ ?_ (fun e => by cases e) ?_ ?_ ?_ ?_
                     · rfl
                     · rfl
                     rotate_left 1
                     · rfl
                     · rfl
                     · exact hst5.own.ext ((Ext.refl _).alloc _)
                     · refine SlG.block1 (e := 29) elemV.hk x rfl ?_; refine alloc_at _ _ _ ?_; (simp; done)
                     · omega
                     · omega
                     · exact hst5.x.alloc _
                     intro v6 w6 ho6 hx6 hg6; rw [HLx.out] at ho6; have hap := (hst5.alloc _).app ho6 hg6 hx6; obtain ⟨⟨p1, p2⟩, hst7⟩ := hap; obtain ⟨g6, c6, rfl, hg7, hl7, _, _⟩ := ho6.tight HLp.out)
                  | (go_simp; go_at_call 79; (with_reducible refine hV.mono ?_); rintro e w5 ⟨rfl, h5, hu5⟩; have hst5 := hst.called h5 hu5; have b5 := hst5.b2.cell; have b5b := ((Ext.refl w5).alloc (.cells #[.int .i64 x.1, .int .i64 x.2.1, .string x.2.2] 29)).cell b5; dsimp only)
                  | fail)
              all_goals (
                refine NoPanic.normal ?_
                have k1 := hst7.rd.n
                clear hst hst5 hV hu5 h5 b1 b5 b5b p1 p2 ho6 hg6 hx6 e0 h44
                go_wp2_with (fail)
                go_at_call 80
                refine (hNx _ _ hst7).mono ?_
                rintro e w8 ⟨rfl, hst8⟩
                dsimp only
                go_wp2
                refine parse_leaves w _ _ _ 0 _ hst8.b2 hst8.b3 hst8.x rfl rfl rfl ?_
                intro w' hx'
                exact ⟨hx', none, 0, [], 2, rfl, SlG.nil _ _, HPP.out⟩)
end
end Go.Proofs.YtepgpejdnlejnaaDoor
