/- Areas: the law SpaceImages. -/
import Derived.Test.YtnileonlabpbpaaGreatQSpAQ
namespace Go.Proofs.YtnileonlabpbpaaGreat
open Go.RowKit
set_option linter.unusedVariables false
set_option linter.unusedSimpArgs false
set_option linter.unusedSectionVars false
set_option maxRecDepth 20000

/-- two areas of the program's, apart from each other and from a box -/
structure Two (lo : Nat) (w : World) (X A g cap : Nat) (lv : List UInt8) (A2 g2 cap2 : Nat) (lv2 : List UInt8) (size : Nat) (l l2 : List ByteArray) : Prop where
  sp : Sp w A g size l lv cap
  sp2 : Sp w A2 g2 size l2 lv2 cap2
  d1 : A ≠ A2
  d2 : A ≠ g2
  d3 : g ≠ A2
  d4 : g ≠ g2
  x1 : X ≠ A
  x2 : X ≠ g
  x3 : X ≠ A2
  x4 : X ≠ g2
  la : lo ≤ A
  lg : lo ≤ g
  la2 : lo ≤ A2
  lg2 : lo ≤ g2
  xw : X < w.heap.size
theorem Two.symm {lo : Nat} {w : World} {X A g cap : Nat} {lv : List UInt8} {A2 g2 cap2 : Nat} {lv2 : List UInt8} {size : Nat} {l l2 : List ByteArray} (h : Two lo w X A g cap lv A2 g2 cap2 lv2 size l l2) : Two lo w X A2 g2 cap2 lv2 A g cap lv size l2 l :=
  ⟨h.sp2, h.sp, h.d1.symm, h.d3.symm, h.d2.symm, h.d4.symm, h.x3, h.x4, h.x1, h.x2, h.la2, h.lg2, h.la, h.lg, h.xw⟩
theorem Two.ext {lo : Nat} {w w' : World} {X A g cap : Nat} {lv : List UInt8} {A2 g2 cap2 : Nat} {lv2 : List UInt8} {size : Nat} {l l2 : List ByteArray} (h : Two lo w X A g cap lv A2 g2 cap2 lv2 size l l2) (hx : Ext w w') : Two lo w' X A g cap lv A2 g2 cap2 lv2 size l l2 :=
  ⟨h.sp.ext hx, h.sp2.ext hx, h.d1, h.d2, h.d3, h.d4, h.x1, h.x2, h.x3, h.x4, h.la, h.lg, h.la2, h.lg2, Nat.lt_of_lt_of_le h.xw hx.size⟩
theorem Two.left {lo : Nat} {w w' : World} {X A g cap : Nat} {lv : List UInt8} {A2 g2 cap2 : Nat} {lv2 : List UInt8} {size : Nat} {l l2 l' : List ByteArray} (h : Two lo w X A g cap lv A2 g2 cap2 lv2 size l l2) (hn : NextA A g w w' size l') (hc : Chg A g w w') : ∃ g' lv' cap', Two lo w' X A g' cap' lv' A2 g2 cap2 lv2 size l' l2 ∧ (g' = g ∨ w.heap.size ≤ g') := by
  obtain ⟨g', lv', cap', h1, h2⟩ := hn
  have e1 := h.sp2.ar.lt
  have e2 := h.sp2.gl
  have e3 := h.xw
  have e4 := h.la2
  refine ⟨g', lv', cap', ⟨h1, h.sp2.same (hc.block A2 e1 h.d1.symm h.d3.symm) (hc.block g2 e2 h.d2.symm h.d4.symm), h.d1, h.d2, ?_, ?_, h.x1, ?_, h.x3, h.x4, h.la, ?_, h.la2, h.lg2, Nat.lt_of_lt_of_le h.xw hc.size⟩, h2⟩
  · rcases h2 with rfl | h2
    · exact h.d3
    · omega
  · rcases h2 with rfl | h2
    · exact h.d4
    · omega
  · rcases h2 with rfl | h2
    · exact h.x2
    · omega
  · rcases h2 with rfl | h2
    · exact h.lg
    · omega
theorem Two.far {lo : Nat} {w w' : World} {X A g cap : Nat} {lv : List UInt8} {A2 g2 cap2 : Nat} {lv2 : List UInt8} {size : Nat} {l l2 : List ByteArray} {B : Nat} (h : Two lo w X A g cap lv A2 g2 cap2 lv2 size l l2) (hu : Upd w B w') (h1 : A ≠ B) (h2 : g ≠ B) (h3 : A2 ≠ B) (h4 : g2 ≠ B) : Two lo w' X A g cap lv A2 g2 cap2 lv2 size l l2 :=
  ⟨h.sp.upd hu h1 h2, h.sp2.upd hu h3 h4, h.d1, h.d2, h.d3, h.d4, h.x1, h.x2, h.x3, h.x4, h.la, h.lg, h.la2, h.lg2, Nat.lt_of_lt_of_le h.xw hu.size⟩
theorem imgB_small {size : Nat} {l : List ByteArray} (h : GoodL size l) : (imgB size l).size ≤ 140737488355328 := Nat.le_trans (imgB_le h) (by omega)
set_option maxHeartbeats 8000000 in
theorem spaceImages_any (size pages : Int) (PL : Option Addr) (capL : Nat) (L : List AcS) (PM : Option Addr) (capM : Nat) (M : List AcS) (w : World) (hsz : inI size) (hpg : inI pages) (hL : SlG csAc w PL capL L) (hok : ∀ x ∈ L, AcOk x) (hM : SlG csAc w PM capM M) (hokM : ∀ x ∈ M, AcOk x) :
    Calls Tryz.prog 6 #[.int .i64 size, .int .i64 pages, .slice PL L.length capL, .slice PM M.length capM] w fun e w' => e = .returned (.bool true) ∧ Ext w w' := by
  have hA := acts_any size pages PL capL L _ hL
  have hA2 := fun W hW => acts_any size pages PM capM M W hW
  go_enter Tryz.func6, Tryz.ntmps6
  go_wp2_with (fail)
  refine hA.mono ?_
  rintro e w1 ⟨⟨b, rfl, hb⟩, hx1⟩
  cases b
  · go_wp2_with (go_at_call 9; refine (sawake_any _).mono ?_; rintro e w3 ⟨rfl, hx3⟩)
    go_ret
    exact ⟨rfl, hx1.trans hx3⟩
  · go_wp2_with (fail)
    refine (hA2 _ (hM.ext hx1)).mono ?_
    rintro e w2 ⟨⟨b, rfl, hbM⟩, hx2⟩
    cases b
    · go_wp2_with (go_at_call 9; refine (sawake_any _).mono ?_; rintro e w3 ⟨rfl, hx3⟩)
      go_ret
      exact ⟨rfl, (hx1.trans hx2).trans hx3⟩
    · have hP := play_any size pages PL capL L w2 hsz hpg (hL.ext (hx1.trans hx2)) hok (by have h40 : L.length ≤ 40 := by simpa using hb
                                                                                           omega)
      have hM40 : M.length ≤ 40 := by simpa using hbM
      clear hbM
      go_wp2_with (fail)
      refine hP.mono ?_
      rintro e w3 ⟨pp, PR, nR, cR, sz, ok, rfl, hx3, hpost⟩
      cases ok
      · clear hpost
        have hXc := FCell.new 30 w3 (.pointer pp) (.int .i64 sz) (.slice PR nR cR) (.bool true) (.bool false)
        have r3 := hXc.cells.2.2.2.1
        have r4 := hXc.cells.2.2.2.2
        have hx4 := (Ext.refl w3).alloc (.cells #[.pointer pp, .int .i64 sz, .slice PR nR cR, .bool true, .bool false] 30)
        go_wp2_with (go_at_call 9; refine (sawake_any _).mono ?_; rintro e w5 ⟨rfl, hx5⟩)
        go_ret
        exact ⟨rfl, (((hx1.trans hx2).trans hx3).trans hx4).trans hx5⟩
      · obtain ⟨X0, A, g, z, cap, l, lv, rfl, rfl, rfl, hMd⟩ := hpost rfl
        have hx4 := (Ext.refl w3).alloc (.cells #[.pointer (some ⟨A, 0, none⟩), .int .i64 z, .slice PR l.length cR, .bool true, .bool true] 30)
        have hX4 := FCell.new 30 w3 (.pointer (some ⟨A, 0, none⟩)) (.int .i64 z) (.slice PR l.length cR) (.bool true) (.bool true)
        have hM4 := hMd.box (.cells #[.pointer (some ⟨A, 0, none⟩), .int .i64 z, .slice PR l.length cR, .bool true, .bool true] 30)
        have hw4 := ((hx1.trans hx2).trans hx3).trans hx4
        have s4 : (w3.alloc (.cells #[.pointer (some ⟨A, 0, none⟩), .int .i64 z, .slice PR l.length cR, .bool true, .bool true] 30)).heap.size = w3.heap.size + 1 := by simp
        have hg := hM4.rs.goodL
        have hw12 := (hx1.trans hx2).size
        have r0 := hX4.cells.1
        have r3 := hX4.cells.2.2.2.1
        have r4 := hX4.cells.2.2.2.2
        have hI := simage_any A g z cap l lv _ hM4.sp
        have hR := fun W hW => refImage7 PR z cR l (w := W) hW
        have hsm := imgB_small hg
        have hLd := fun W => load_any (imgB z l) hsm W
        rw [imgB_load hg hsm] at hLd
        generalize hW4 : w3.alloc (.cells #[.pointer (some ⟨A, 0, none⟩), .int .i64 z, .slice PR l.length cR, .bool true, .bool true] 30) = w4 at *
        generalize hX : w3.heap.size = X at *
        generalize imgB z l = I at *
        go_wp2_with (first
          | (go_at_call 29; refine hI.mono ?_; rintro e w5 ⟨rfl, hx5⟩; have hX5 := hX4.ext hx5; have x1 := hX5.cells.2.1; have x2 := hX5.cells.2.2.1; have hM5 := hM4.ext hx5)
          | (go_at_call 30; refine (hR _ hM5.rs).mono ?_; rintro e w6 ⟨rfl, hx6⟩; have hX6 := hX5.ext hx6; have hM6 := hM5.ext hx6)
          | (go_at_call 31; refine (hLd _).mono ?_; rintro e w7 ⟨ptr, rfl, hx7, A2, g2, lv2, cap2, rfl, hS2, hA2l, hg2l⟩; have hM7 := hM6.ext hx7; have hX7 := hX6.ext hx7; have x70 := hX7.cells.1; have x71 := hX7.cells.2.1; have x72 := hX7.cells.2.2.1)
          | (go_at_call 32; refine (agree_yes A2 g2 z cap2 l lv2 PR cR _ hS2 hM7.rs.rar).mono ?_; rintro e w8 ⟨rfl, hx8⟩))
        have hw8 : Ext w w8 := (hw4.trans (hx5.trans (hx6.trans hx7))).trans hx8
        have hTw : Two w.heap.size w8 X A g cap lv A2 g2 cap2 lv2 z l l := by
          have e1 := hM6.sp.ar.lt
          have e2 := hM6.sp.gl
          have e3 := hM6.xw
          have e4 := hM6.la
          have e5 := hM6.lg
          have e6 := hM6.lx
          have e7 := (hw4.trans (hx5.trans hx6)).size
          exact ⟨(hM7.ext hx8).sp, hS2.ext hx8, by omega, by omega, by omega, by omega, fun e => hM6.ax e.symm, fun e => hM6.gx e.symm, by omega, by omega, by omega, by omega, by omega, by omega, (hM7.ext hx8).xw⟩
        have hX8 := hX7.ext hx8
        clear hM4 hM5 hM6 hM7 hX4 hX5 hX6 hX7 hI hR hLd hS2 hA2l hg2l r0 r3 r4 x1 x2 x70 x71 x72 hW4 hX s4 hMd hg hw4
        generalize hnl : l.length = nl at *
        clear hnl
        go_loopw [14] (fun i wr => ∃ k : Nat, k ≤ M.length ∧ i = .int .i64 k ∧ (∃ l g cap lv g2 cap2 lv2, Two w.heap.size wr X A g cap lv A2 g2 cap2 lv2 z l l) ∧ FCell 30 wr X (.pointer (some ⟨A, 0, none⟩)) (.int .i64 z) (.slice PR nl cR) (.bool true) (.bool true) ∧ Ext w wr) (fun i _ => M.length - (intOf i).toNat)
        case atStart => exact ⟨0, by omega, rfl, ⟨l, g, cap, lv, g2, cap2, lv2, hTw⟩, hX8, hw8⟩
        case round =>
          obtain ⟨k, hk, rfl, ⟨l, g, cap, lv, g2, cap2, lv2, hT⟩, hX, hx⟩ := hrel
          have x0 := hX.cells.1
          have hg := hT.sp.goodL
          by_cases hlt : k < M.length
          · obtain ⟨x, hxk⟩ : ∃ x, M[k]? = some x := ⟨M[k], List.getElem?_eq_getElem hlt⟩
            have hxo := hokM x (List.mem_of_getElem? hxk)
            obtain ⟨bL, offL, rfl, hcL⟩ := hM.at_ k x hxk
            have c10 := hcL 1 _ rfl
            have c50 := hcL 5 _ rfl
            simp only [List.length_cons, List.length_nil, Nat.reduceAdd] at c10 c50
            have q1 := hx.cell c10
            have q5 := hx.cell c50
            have c1 : (k : Int) < M.length := by omega
            obtain ⟨ax, ay, r, l', hb⟩ := both_put z l x.near x.data hg hxo.data
            have hp1 := fun W hW => hb.prog A g lv cap W hW
            have hp2 := fun W hW => hb.prog A2 g2 lv2 cap2 W hW
            clear hb hcL hxk hxo
            generalize x.near = near at *
            generalize x.data = data at *
            have eA := hT.sp.ar.lt
            have eG := hT.sp.gl
            have eA2 := hT.sp2.ar.lt
            have eG2 := hT.sp2.gl
            have eX := hT.xw
            have nA9 : wr.heap.size ≠ A := by omega
            have nG9 : wr.heap.size ≠ g := by omega
            have neX9 : X ≠ wr.heap.size := by omega
            have hwz9 : w.heap.size ≤ wr.heap.size := hx.size
            have c10' := c10
            clear eA eG eA2 eG2 eX
            go_wp2
            go_region_held3 (fun w' => w'.cell? ⟨X, 0, none⟩ = some (.pointer (some ⟨A, 0, none⟩)) ∧ w'.cell? ⟨bL, offL + k * 6 + 1, none⟩ = some (.int .i64 near) ∧ w'.cell? ⟨bL, offL + k * 6 + 5, none⟩ = some (.string data)) (first | go_keep | exact ⟨x90, q91, q95⟩ | exact ⟨x9g, q91f, q95f⟩)
              (first
                | (go_at_call 33; (with_reducible refine (hp1 _ ((hT).sp.ext ((Ext.refl wr).drew))).mono ?_); rintro e w9 ⟨rfl, hn9, hc9⟩; obtain ⟨g9, lv9, cap9, hT9, hg9⟩ := ((hT.ext ((Ext.refl wr).drew))).left hn9 hc9; have hX9 := (hX.ext ((Ext.refl wr).drew)).chg hc9 (hT).x1 (hT).x2; have hw9 := Chg.ext (hx.trans ((Ext.refl wr).drew)) hc9 (hT).la (hT).lg; have x90 := hX9.cells.1; have q91 := hw9.cell c10; have q95 := hw9.cell c50)
                | (go_at_call 33; (with_reducible refine (hp1 _ ((hT).sp.ext (((Ext.refl wr).alloc (.cells #[.int .i64 0, .int .i64 0] 33)).drew))).mono ?_); rintro e w9 ⟨rfl, hn9, hc9⟩; obtain ⟨g9, lv9, cap9, hT9, hg9⟩ := ((hT.ext (((Ext.refl wr).alloc (.cells #[.int .i64 0, .int .i64 0] 33)).drew))).left hn9 hc9; have hX9 := (hX.ext (((Ext.refl wr).alloc (.cells #[.int .i64 0, .int .i64 0] 33)).drew)).chg hc9 (hT).x1 (hT).x2; have hw9 := Chg.ext (hx.trans (((Ext.refl wr).alloc (.cells #[.int .i64 0, .int .i64 0] 33)).drew)) hc9 (hT).la (hT).lg; have x90 := hX9.cells.1; have q91 := hw9.cell c10; have q95 := hw9.cell c50; have hQ9 := ((TCell.new 33 wr (.int .i64 0) (.int .i64 0)).ext ((Ext.refl _).drew)).chg hc9 nA9 nG9; have b90 := hQ9.cells.1; have b91 := hQ9.cells.2.1; have bf90 := hQ9.cells.2.2.1; have bf91 := hQ9.cells.2.2.2; have hQ91 := hQ9.set0 (.int .i64 ax); have b92 := hQ91.cells.2.1; have bf92 := hQ91.cells.2.2.2; have hQ92 := hQ91.set1 (.int .i64 ay); have hw9f := (hw9.setCell (p := ⟨wr.heap.size, 0, none⟩) hwz9 (.int .i64 ax)).setCell (p := ⟨wr.heap.size, 1, none⟩) hwz9 (.int .i64 ay); have q91f := hw9f.cell c10; have q95f := hw9f.cell c50; have x9f := ((hX9.far (p := ⟨wr.heap.size, 0, none⟩) neX9 (.int .i64 ax)).far (p := ⟨wr.heap.size, 1, none⟩) neX9 (.int .i64 ay)); have x9g := x9f.cells.1)
                | fail)
            · have hal := (Ext.refl w9).alloc (.cells #[.int .i64 ax, .int .i64 ay] 33)
              have hQ10 := TCell.new 33 w9 (.int .i64 ax) (.int .i64 ay)
              have hT10 := hT9.ext hal
              have hX10 := hX9.ext hal
              have hw10 := hw9.trans hal
              have eA2 := hT9.sp2.ar.lt
              have eG2 := hT9.sp2.gl
              have nBA : w9.heap.size ≠ A2 := by omega
              have nBG : w9.heap.size ≠ g2 := by omega
              clear x90 q91 q95 x0 q1 q5 eA2 eG2
              generalize w9.alloc (.cells #[.int .i64 ax, .int .i64 ay] 33) = W at *
              have eA := hT10.sp.ar.lt
              have eG := hT10.sp.gl
              have eA2 := hT10.sp2.ar.lt
              have eG2 := hT10.sp2.gl
              have eX := hT10.xw
              have eB := hQ10.lt
              have nA11 : W.heap.size ≠ A2 := by omega
              have nG11 : W.heap.size ≠ g2 := by omega
              have neX11 : X ≠ W.heap.size := by omega
              have hwz11 : w.heap.size ≤ W.heap.size := hw10.size
              have q101 := hw10.cell c10
              have q105 := hw10.cell c50
              clear c10' eA eG eA2 eG2 eX
              go_wp2
              go_region_held3 (fun w' => w'.cell? ⟨bL, offL + k * 6 + 1, none⟩ = some (.int .i64 near) ∧ w'.cell? ⟨bL, offL + k * 6 + 5, none⟩ = some (.string data)) (first | go_keep | exact ⟨q111, q115⟩ | exact ⟨q111f, q115f⟩)
                (first
                  | (go_at_call 33; (with_reducible refine (hp2 _ ((hT10.symm).sp.ext ((Ext.refl W).drew))).mono ?_); rintro e w11 ⟨rfl, hn11, hc11⟩; obtain ⟨g11, lv11, cap11, hT11, hg11⟩ := ((hT10.ext ((Ext.refl W).drew)).symm).left hn11 hc11; have hX11 := (hX10.ext ((Ext.refl W).drew)).chg hc11 (hT10.symm).x1 (hT10.symm).x2; have hw11 := Chg.ext (hw10.trans ((Ext.refl W).drew)) hc11 (hT10.symm).la (hT10.symm).lg; have x110 := hX11.cells.1; have q111 := hw11.cell c10; have q115 := hw11.cell c50; have hQa11 := (hQ10.ext ((Ext.refl W).drew)).chg hc11 nBA nBG)
                  | (go_at_call 33; (with_reducible refine (hp2 _ ((hT10.symm).sp.ext (((Ext.refl W).alloc (.cells #[.int .i64 0, .int .i64 0] 33)).drew))).mono ?_); rintro e w11 ⟨rfl, hn11, hc11⟩; obtain ⟨g11, lv11, cap11, hT11, hg11⟩ := ((hT10.ext (((Ext.refl W).alloc (.cells #[.int .i64 0, .int .i64 0] 33)).drew)).symm).left hn11 hc11; have hX11 := (hX10.ext (((Ext.refl W).alloc (.cells #[.int .i64 0, .int .i64 0] 33)).drew)).chg hc11 (hT10.symm).x1 (hT10.symm).x2; have hw11 := Chg.ext (hw10.trans (((Ext.refl W).alloc (.cells #[.int .i64 0, .int .i64 0] 33)).drew)) hc11 (hT10.symm).la (hT10.symm).lg; have x110 := hX11.cells.1; have q111 := hw11.cell c10; have q115 := hw11.cell c50; have hQ11 := ((TCell.new 33 W (.int .i64 0) (.int .i64 0)).ext ((Ext.refl _).drew)).chg hc11 nA11 nG11; have b110 := hQ11.cells.1; have b111 := hQ11.cells.2.1; have bf110 := hQ11.cells.2.2.1; have bf111 := hQ11.cells.2.2.2; have hQ111 := hQ11.set0 (.int .i64 ax); have b112 := hQ111.cells.2.1; have bf112 := hQ111.cells.2.2.2; have hQ112 := hQ111.set1 (.int .i64 ay); have hw11f := (hw11.setCell (p := ⟨W.heap.size, 0, none⟩) hwz11 (.int .i64 ax)).setCell (p := ⟨W.heap.size, 1, none⟩) hwz11 (.int .i64 ay); have q111f := hw11f.cell c10; have q115f := hw11f.cell c50; have hQa11 := (hQ10.ext (((Ext.refl W).alloc (.cells #[.int .i64 0, .int .i64 0] 33)).drew)).chg hc11 nBA nBG; have x11f := ((hX11.far (p := ⟨W.heap.size, 0, none⟩) neX11 (.int .i64 ax)).far (p := ⟨W.heap.size, 1, none⟩) neX11 (.int .i64 ay)))
                  | fail)
              · have hal := (Ext.refl w11).alloc (.cells #[.int .i64 ax, .int .i64 ay] 33)
                have hQa := hQa11.ext hal
                have hQb := TCell.new 33 w11 (.int .i64 ax) (.int .i64 ay)
                have hTz := hT11.symm.ext hal
                have hXz := hX11.ext hal
                have hwz := hw11.trans hal
                have q10 := hQa.cells.1
                have q11 := hQa.cells.2.1
                have q20 := hQb.cells.1
                have q21 := hQb.cells.2.1
                go_wp2
                exact ⟨⟨k + 1, by omega, by go_num, ⟨l', g9, cap9, lv9, g11, cap11, lv11, hTz⟩, hXz, hwz⟩, by simp [intOf]; omega⟩
              · have hQa := (hQa11.far (p := ⟨W.heap.size, 0, none⟩) (Nat.ne_of_lt eB) (.int .i64 ax)).far (p := ⟨W.heap.size, 1, none⟩) (Nat.ne_of_lt eB) (.int .i64 ay)
                have hQb := hQ112
                have hu := (Upd.setCell w11 W.heap.size 0 (.int .i64 ax)).trans (Upd.setCell _ W.heap.size 1 (.int .i64 ay))
                have l1 := hT10.sp.ar.lt
                have l2 := hT10.sp.gl
                have l3 := hT10.sp2.ar.lt
                have l4 := hT10.sp2.gl
                have hTz := hT11.symm.far hu (by omega) (by omega) (by omega) (by rcases hg11 with e | e
                                                                                  · omega
                                                                                  · simp at e; omega)
                have hXz := x11f
                have hwz := hw11f
                have q10 := hQa.cells.1
                have q11 := hQa.cells.2.1
                have q20 := hQb.cells.1
                have q21 := hQb.cells.2.1
                go_wp2
                exact ⟨⟨k + 1, by omega, by go_num, ⟨l', g9, cap9, lv9, g11, cap11, lv11, hTz⟩, hXz, hwz⟩, by simp [intOf]; omega⟩
            · have hQ10 := hQ92
              have hu9 := (Upd.setCell w9 wr.heap.size 0 (.int .i64 ax)).trans (Upd.setCell _ wr.heap.size 1 (.int .i64 ay))
              have l1 := hT.sp.ar.lt
              have l2 := hT.sp.gl
              have l3 := hT.sp2.ar.lt
              have l4 := hT.sp2.gl
              have hT10 := hT9.far hu9 (by omega) (by rcases hg9 with e | e
                                                      · omega
                                                      · simp at e; omega) (by omega) (by omega)
              have hX10 := x9f
              have hw10 := hw9f
              have nBA : wr.heap.size ≠ A2 := by omega
              have nBG : wr.heap.size ≠ g2 := by omega
              clear x90 q91 q95 x0 q1 q5 l1 l2 l3 l4 x9g q91f q95f b90 b91 b92 bf90 bf91 bf92 x9f hw9f hu9 hQ92 hQ91 hQ9
              generalize (w9.setCell ⟨wr.heap.size, 0, none⟩ (.int .i64 ax)).setCell ⟨wr.heap.size, 1, none⟩ (.int .i64 ay) = W at *
              have eA := hT10.sp.ar.lt
              have eG := hT10.sp.gl
              have eA2 := hT10.sp2.ar.lt
              have eG2 := hT10.sp2.gl
              have eX := hT10.xw
              have eB := hQ10.lt
              have nA11 : W.heap.size ≠ A2 := by omega
              have nG11 : W.heap.size ≠ g2 := by omega
              have neX11 : X ≠ W.heap.size := by omega
              have hwz11 : w.heap.size ≤ W.heap.size := hw10.size
              have q101 := hw10.cell c10
              have q105 := hw10.cell c50
              clear c10' eA eG eA2 eG2 eX
              go_wp2
              go_region_held3 (fun w' => w'.cell? ⟨bL, offL + k * 6 + 1, none⟩ = some (.int .i64 near) ∧ w'.cell? ⟨bL, offL + k * 6 + 5, none⟩ = some (.string data)) (first | go_keep | exact ⟨q111, q115⟩ | exact ⟨q111f, q115f⟩)
                (first
                  | (go_at_call 33; (with_reducible refine (hp2 _ ((hT10.symm).sp.ext ((Ext.refl W).drew))).mono ?_); rintro e w11 ⟨rfl, hn11, hc11⟩; obtain ⟨g11, lv11, cap11, hT11, hg11⟩ := ((hT10.ext ((Ext.refl W).drew)).symm).left hn11 hc11; have hX11 := (hX10.ext ((Ext.refl W).drew)).chg hc11 (hT10.symm).x1 (hT10.symm).x2; have hw11 := Chg.ext (hw10.trans ((Ext.refl W).drew)) hc11 (hT10.symm).la (hT10.symm).lg; have x110 := hX11.cells.1; have q111 := hw11.cell c10; have q115 := hw11.cell c50; have hQa11 := (hQ10.ext ((Ext.refl W).drew)).chg hc11 nBA nBG)
                  | (go_at_call 33; (with_reducible refine (hp2 _ ((hT10.symm).sp.ext (((Ext.refl W).alloc (.cells #[.int .i64 0, .int .i64 0] 33)).drew))).mono ?_); rintro e w11 ⟨rfl, hn11, hc11⟩; obtain ⟨g11, lv11, cap11, hT11, hg11⟩ := ((hT10.ext (((Ext.refl W).alloc (.cells #[.int .i64 0, .int .i64 0] 33)).drew)).symm).left hn11 hc11; have hX11 := (hX10.ext (((Ext.refl W).alloc (.cells #[.int .i64 0, .int .i64 0] 33)).drew)).chg hc11 (hT10.symm).x1 (hT10.symm).x2; have hw11 := Chg.ext (hw10.trans (((Ext.refl W).alloc (.cells #[.int .i64 0, .int .i64 0] 33)).drew)) hc11 (hT10.symm).la (hT10.symm).lg; have x110 := hX11.cells.1; have q111 := hw11.cell c10; have q115 := hw11.cell c50; have hQ11 := ((TCell.new 33 W (.int .i64 0) (.int .i64 0)).ext ((Ext.refl _).drew)).chg hc11 nA11 nG11; have b110 := hQ11.cells.1; have b111 := hQ11.cells.2.1; have bf110 := hQ11.cells.2.2.1; have bf111 := hQ11.cells.2.2.2; have hQ111 := hQ11.set0 (.int .i64 ax); have b112 := hQ111.cells.2.1; have bf112 := hQ111.cells.2.2.2; have hQ112 := hQ111.set1 (.int .i64 ay); have hw11f := (hw11.setCell (p := ⟨W.heap.size, 0, none⟩) hwz11 (.int .i64 ax)).setCell (p := ⟨W.heap.size, 1, none⟩) hwz11 (.int .i64 ay); have q111f := hw11f.cell c10; have q115f := hw11f.cell c50; have hQa11 := (hQ10.ext (((Ext.refl W).alloc (.cells #[.int .i64 0, .int .i64 0] 33)).drew)).chg hc11 nBA nBG; have x11f := ((hX11.far (p := ⟨W.heap.size, 0, none⟩) neX11 (.int .i64 ax)).far (p := ⟨W.heap.size, 1, none⟩) neX11 (.int .i64 ay)))
                  | fail)
              · have hal := (Ext.refl w11).alloc (.cells #[.int .i64 ax, .int .i64 ay] 33)
                have hQa := hQa11.ext hal
                have hQb := TCell.new 33 w11 (.int .i64 ax) (.int .i64 ay)
                have hTz := hT11.symm.ext hal
                have hXz := hX11.ext hal
                have hwz := hw11.trans hal
                have q10 := hQa.cells.1
                have q11 := hQa.cells.2.1
                have q20 := hQb.cells.1
                have q21 := hQb.cells.2.1
                go_wp2
                exact ⟨⟨k + 1, by omega, by go_num, ⟨l', g9, cap9, lv9, g11, cap11, lv11, hTz⟩, hXz, hwz⟩, by simp [intOf]; omega⟩
              · have hQa := (hQa11.far (p := ⟨W.heap.size, 0, none⟩) (Nat.ne_of_lt eB) (.int .i64 ax)).far (p := ⟨W.heap.size, 1, none⟩) (Nat.ne_of_lt eB) (.int .i64 ay)
                have hQb := hQ112
                have hu := (Upd.setCell w11 W.heap.size 0 (.int .i64 ax)).trans (Upd.setCell _ W.heap.size 1 (.int .i64 ay))
                have l1 := hT10.sp.ar.lt
                have l2 := hT10.sp.gl
                have l3 := hT10.sp2.ar.lt
                have l4 := hT10.sp2.gl
                have hTz := hT11.symm.far hu (by omega) (by omega) (by omega) (by rcases hg11 with e | e
                                                                                  · omega
                                                                                  · simp at e; omega)
                have hXz := x11f
                have hwz := hw11f
                have q10 := hQa.cells.1
                have q11 := hQa.cells.2.1
                have q20 := hQb.cells.1
                have q21 := hQb.cells.2.1
                go_wp2
                exact ⟨⟨k + 1, by omega, by go_num, ⟨l', g9, cap9, lv9, g11, cap11, lv11, hTz⟩, hXz, hwz⟩, by simp [intOf]; omega⟩
            -- END ROUND
          · obtain rfl : k = M.length := by omega
            have hI2 := fun W hW => simage_any A2 g2 z cap2 l lv2 W hW
            have hI1 := fun W hW => simage_any A g z cap l lv W hW
            generalize imgB z l = J at *
            have hxd := (Ext.refl wr).drew
            go_wp2
            go_region_held3 (fun w' => w'.cell? ⟨X, 0, none⟩ = some (.pointer (some ⟨A, 0, none⟩))) (first | go_keep | (refine Ext.cell ?_ x0; (repeat (first | exact Ext.refl _ | assumption | refine Ext.trans ?_ hx12 | refine Ext.trans ?_ hx11 | refine Ext.trans ?_ hx10 | refine Ext.drew ?_))))
              (first
                | (go_at_call 29; (with_reducible refine (hI2 _ (hT.sp2.ext ((Ext.refl wr).drew))).mono ?_); rintro e w10 ⟨rfl, hx10⟩)
                | (go_at_call 29; (with_reducible refine (hI1 _ (hT.sp.ext (((Ext.refl wr).drew).trans hx10))).mono ?_); rintro e w11 ⟨rfl, hx11⟩)
                | (go_at_call 9; refine (sawake_any _).mono ?_; rintro e w12 ⟨rfl, hx12⟩)
                | fail)
            all_goals (
              go_wp2
              go_ret
              exact ⟨rfl, (hx.trans hxd).trans (hx10.trans (hx11.trans hx12))⟩)
end Go.Proofs.YtnileonlabpbpaaGreat
