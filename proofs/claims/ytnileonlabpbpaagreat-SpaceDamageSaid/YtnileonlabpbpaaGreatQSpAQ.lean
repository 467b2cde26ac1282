/- Areas: the law SpaceApart. -/
import Derived.Test.YtnileonlabpbpaaGreatQSpAP
namespace Go.Proofs.YtnileonlabpbpaaGreat
open Go.RowKit
set_option linter.unusedVariables false
set_option linter.unusedSimpArgs false
set_option linter.unusedSectionVars false
set_option maxRecDepth 20000

theorem SlG.chg {α : Type} {cs : α → List Value} {w w' : World} {P : Option Addr} {cap A g : Nat} {l : List α} (h : SlG cs w P cap l) (hc : Chg A g w w') (hne : ∀ b off m, P = some ⟨b, off, m⟩ → b ≠ A ∧ b ≠ g) : SlG cs w' P cap l := by
  refine ⟨fun i x hi => ?_, h.le, h.cap⟩
  obtain ⟨b, off, e, h1⟩ := h.at_ i x hi
  refine ⟨b, off, e, fun j u hj => ?_⟩
  have hcell := h1 j u hj
  have := hne b off none e
  rw [World.cell?_of_block (hc.block b (block_lt hcell) this.1 this.2)]
  exact hcell
/-- a box of its own for the areas of a play -/
theorem Mid.box {lo : Nat} {w : World} {X A g size cap : Nat} {l : List ByteArray} {lv : List UInt8} {l0 : List ByteArray} {P : Option Addr} {c : Nat} (h : Mid lo w X A g size cap l lv l0 P c) (o : Obj) : Mid lo (w.alloc o) w.heap.size A g size cap l lv l0 P c := by
  have h1 := h.sp.ar.lt
  have h2 := h.sp.gl
  obtain ⟨b, off, e, hb⟩ := h.rs.known
  have hx := (Ext.refl w).alloc o
  refine ⟨h.sp.ext hx, h.rs.ext hx, fun b' off' m' e' => ?_, by omega, by omega, h.la, h.lg, Nat.le_of_lt (Nat.lt_of_le_of_lt h.lx h.xw), by simp⟩
  have h3 := h.far b' off' m' e'
  rw [e] at e'
  injection e' with e'
  injection e' with e1
  exact ⟨h3.1, h3.2.1, by omega, h3.2.2.2⟩
theorem TCell.chg {t : TypeId} {w w' : World} {R A g : Nat} {x y : Value} (h : TCell t w R x y) (hc : Chg A g w w') (hA : R ≠ A) (hg : R ≠ g) : TCell t w' R x y := ⟨(hc.block R h.lt hA hg).trans h.heap⟩
theorem Mid.prog2 {lo : Nat} {w w' : World} {X A g size cap : Nat} {l l' : List ByteArray} {lv : List UInt8} {l0 : List ByteArray} {P : Option Addr} {c : Nat} (h : Mid lo w X A g size cap l lv l0 P c) (hn : NextA A g w w' size l') (hc : Chg A g w w') : ∃ g' lv' cap', Mid lo w' X A g' size cap' l' lv' l0 P c ∧ (g' = g ∨ w.heap.size ≤ g') := by
  obtain ⟨g', lv', cap', h1, h2⟩ := hn
  have hm : ∃ g2 lv2 cap2, Mid lo w' X A g2 size cap2 l' lv2 l0 P c ∧ g2 = g' := by
    obtain ⟨b, off, e, hb⟩ := h.rs.known
    refine ⟨g', lv', cap', ⟨h1, h.rs.chg hc (fun b off m e => ⟨(h.far b off m e).1, (h.far b off m e).2.1⟩), fun b' off' m' e' => ?_, h.ax, ?_, h.la, ?_, h.lx, Nat.lt_of_lt_of_le h.xw hc.size⟩, rfl⟩
    · have hf := h.far b' off' m' e'
      refine ⟨hf.1, ?_, hf.2.2⟩
      rw [e] at e'
      injection e' with e'
      injection e' with e1
      rcases h2 with rfl | h2
      · exact hf.2.1
      · omega
    · rcases h2 with rfl | h2
      · exact h.gx
      · have := h.xw; omega
    · rcases h2 with rfl | h2
      · exact h.lg
      · have := h.xw; have := h.lx; omega
  obtain ⟨g2, lv2, cap2, hm, rfl⟩ := hm
  exact ⟨g2, lv2, cap2, hm, h2⟩
theorem OwnG.range {α : Type} {cs : α → List Value} {t e : TypeId} {k bytes : Nat} (E : ElemG cs t e k bytes) {w : World} {base : Nat} {v : Value} {l : List α} (h : OwnG cs e k w base v l) (hl : l.length ≤ 9223372036854775807) : ∃ P cap, v = .slice P l.length cap ∧ SlG cs w P cap l ∧ (∀ b off m, P = some ⟨b, off, m⟩ → base ≤ b ∧ b < w.heap.size) := by
  rcases h.2 with ⟨rfl, h0⟩ | ⟨g, cap, cur, rfl, hb, hg, rest⟩
  · obtain rfl := List.length_eq_zero_iff.1 h0
    exact ⟨none, 0, rfl, SlG.nil _ _, fun b off m e => by cases e⟩
  · obtain ⟨P, c, e, hs⟩ := h.slG E hl
    injection e with e1 _ e3
    subst e1 e3
    refine ⟨_, _, rfl, hs, fun b off m e => ?_⟩
    injection e with e
    injection e with e
    subst e
    exact ⟨hb, (Array.getElem?_eq_some_iff.1 hg).1⟩
theorem sget_r (A g size cap : Nat) (l : List ByteArray) (lv : List UInt8) (q : Nat) (y : Int) (r : ByteArray × Int) (w : World) (h : Sp w A g size l lv cap) (hq : q < l.length) (hy : 1 ≤ y ∧ y ≤ 200) (hr : GetR (cel (nthB l q)) (cnt (nthB l q)) y r) :
    Calls Tryz.prog 15 #[.pointer (some ⟨A, 0, none⟩), .agg #[.int .i64 q, .int .i64 y]] w fun e w' => e = two2 r ∧ Ext w w' :=
  sget_in A g size cap l lv q y w h q hq rfl r (fun W => get_rel _ y r W (h.good q hq).1 hy hr)
theorem refGet_rel (p : ByteArray) (x : Int) (r : ByteArray × Int) (w : World) (hv : ValidR p) (hx : 1 ≤ x ∧ x ≤ 200) (hr : GetR (cel p) (cnt p) x r) :
    Calls Tryz.prog 58 #[.string p, .int .i64 x] w fun e w' => e = two2 r ∧ Ext w w' := by
  have hG := cel_good hv
  obtain ⟨pos, hp⟩ := pos_of hG x
  rcases hr with ⟨k, h1, h2, rfl⟩ | ⟨h1, rfl⟩
  · have hk : k = pos := by
      rcases Nat.lt_trichotomy k pos with h | h | h
      · have := hp.below k h; omega
      · exact h
      · have := hp.above pos (Nat.le_refl _) (by omega)
        have := line_lt hG pos k h h1
        omega
    subst hk
    exact refGet_hit p x w hv hx k hp ⟨h1, h2⟩
  · exact refGet_miss p x w hv hx pos hp (fun h => h1 pos h.1 h.2)
theorem refGet7_r (P : Option Addr) (size cap q : Nat) (l : List ByteArray) (y : Int) (r : ByteArray × Int) {w : World} (h : RS w P cap size l) (hq : q < l.length) (hy : 1 ≤ y ∧ y ≤ 200) (hr : GetR (cel (nthB l q)) (cnt (nthB l q)) y r) :
    Calls Tryz.prog 16 #[.agg #[.int .i64 size, .slice P l.length cap], .agg #[.int .i64 q, .int .i64 y]] w fun e w' => e = two2 r ∧ Ext w w' :=
  refGet7_at P size cap q l y r h hq hy (fun W => refGet_rel _ y r W (h.good q hq).1 hy hr)
theorem allL_mem {l : List ByteArray} {k : Nat} {a : Int × Int} (h : a ∈ allL l k) : ∃ q i : Nat, q < k ∧ i < cnt (nthB l q) ∧ a = ((q : Int), (cel (nthB l q) i).1) := by
  unfold allL plL at h
  simp only [List.mem_flatMap, List.mem_range, List.mem_map] at h
  obtain ⟨q, hq, i, hi, rfl⟩ := h
  exact ⟨q, i, hq, hi, rfl⟩
theorem cel_line {p : ByteArray} (hv : ValidR p) (i : Nat) (hi : i < cnt p) : 1 ≤ (cel p i).1 ∧ (cel p i).1 ≤ 200 := by
  have hG := cel_good hv
  apply Classical.byContradiction
  intro h
  exact hG ⟨i, hi, by unfold BadF; omega⟩
set_option maxHeartbeats 2000000 in
theorem spaceApart_any (size pages : Int) (PL : Option Addr) (capL : Nat) (L : List AcS) (px py : Int) (data : ByteArray) (w : World) (hsz : inI size) (hpg : inI pages) (hL : SlG csAc w PL capL L) (hok : ∀ x ∈ L, AcOk x) (hpx : inI px) (hpy : inI py) (hd : data.size ≤ 140737488355328) :
    Calls Tryz.prog 4 #[.int .i64 size, .int .i64 pages, .slice PL L.length capL, .agg #[.int .i64 px, .int .i64 py], .string data] w fun e w' => e = .returned (.bool true) ∧ Ext w w' := by
  have hx0 := (Ext.refl w).alloc (.cells #[.int .i64 px, .int .i64 py] 33)
  have hT0 := TCell.new 33 w (.int .i64 px) (.int .i64 py)
  have hs0 : (w.alloc (.cells #[.int .i64 px, .int .i64 py] 33)).heap.size = w.heap.size + 1 := by simp
  have hA := acts_any size pages PL capL L _ (hL.ext hx0)
  have hL0 := hL.ext hx0
  generalize hw0 : w.alloc (.cells #[.int .i64 px, .int .i64 py] 33) = w0 at *
  go_enter Tryz.func4, Tryz.ntmps4
  go_wp2_with (go_at_call 8; refine hA.mono ?_; rintro e w1 ⟨⟨b, rfl, hb⟩, hx1⟩; cases b)
  · refine (sawake_any _).mono ?_
    rintro e w2 ⟨rfl, hx2⟩
    go_wp2
    go_ret
    exact ⟨rfl, (hx0.trans hx1).trans hx2⟩
  · refine (sawake_any _).mono ?_
    rintro e w2 ⟨rfl, hx2⟩
    go_wp2
    go_ret
    exact ⟨rfl, (hx0.trans hx1).trans hx2⟩
  · have hP := play_any size pages PL capL L w1 hsz hpg (hL0.ext hx1) hok (by have h40 : L.length ≤ 40 := by simpa using hb
                                                                              omega)
    refine hP.mono ?_
    rintro e w2 ⟨pp, PR, nR, cR, sz, ok, rfl, hx2, hpost⟩
    cases ok
    · clear hpost
      have hXc := FCell.new 30 w2 (.pointer pp) (.int .i64 sz) (.slice PR nR cR) (.bool true) (.bool false)
      have r3 := hXc.cells.2.2.2.1
      have r4 := hXc.cells.2.2.2.2
      have hx3 := (Ext.refl w2).alloc (.cells #[.pointer pp, .int .i64 sz, .slice PR nR cR, .bool true, .bool false] 30)
      go_wp2_with (go_at_call 9; refine (sawake_any _).mono ?_; rintro e w4 ⟨rfl, hx4⟩)
      go_ret
      exact ⟨rfl, (((hx0.trans hx1).trans hx2).trans hx3).trans hx4⟩
    · obtain ⟨X0, A, g, z, cap, l, lv, rfl, rfl, rfl, hM⟩ := hpost rfl
      have hx3 := (Ext.refl w2).alloc (.cells #[.pointer (some ⟨A, 0, none⟩), .int .i64 z, .slice PR l.length cR, .bool true, .bool true] 30)
      have hX3 := FCell.new 30 w2 (.pointer (some ⟨A, 0, none⟩)) (.int .i64 z) (.slice PR l.length cR) (.bool true) (.bool true)
      have hM3 := hM.box (.cells #[.pointer (some ⟨A, 0, none⟩), .int .i64 z, .slice PR l.length cR, .bool true, .bool true] 30)
      have hT3 := ((hT0.ext hx1).ext hx2).ext hx3
      have hw3 := ((hx0.trans hx1).trans hx2).trans hx3
      have s3 : (w2.alloc (.cells #[.pointer (some ⟨A, 0, none⟩), .int .i64 z, .slice PR l.length cR, .bool true, .bool true] 30)).heap.size = w2.heap.size + 1 := by simp
      have sA := hM.sp.ar.lt
      have sG := hM.sp.gl
      have sLo := hM.la
      have sLg := hM.lg
      have s01 := hx1.size
      have s12 := hx2.size
      have hall := refAll7 PR z cR l hM3.rs
      rw [s3] at hall
      have r3 := hX3.cells.2.2.2.1
      have r4 := hX3.cells.2.2.2.2
      have r1 := hX3.cells.2.1
      have r2 := hX3.cells.2.2.1
      have hg := hM3.rs.goodL
      obtain ⟨e1, l1, hb1, ha1⟩ := both_set z l px py data hg hpx hpy hd
      generalize hW3 : w2.alloc (.cells #[.pointer (some ⟨A, 0, none⟩), .int .i64 z, .slice PR l.length cR, .bool true, .bool true] 30) = W3 at *
      generalize hX : w2.heap.size = X at *
      have hal := allL_len l (fun i hi => (hg.good i hi).1) l.length (Nat.le_refl _)
      go_wp2_with (go_at_call 11; refine hall.mono ?_; rintro e w4 ⟨⟨v4, rfl, ho4⟩, hx4⟩; obtain ⟨Pa, ca, rfl, hs4, hr4⟩ := ho4.range elemAd (by have := hg.le; omega); have hM4 := hM3.ext hx4; have hX4 := hX3.ext hx4; have hT4 := hT3.ext hx4; have x40 := hX4.cells.1; have t40 := hT4.cells.1; have t41 := hT4.cells.2.1)
      have hp1 : ∀ W, Sp W A g z l lv cap → Calls Tryz.prog 12 #[.pointer (some ⟨A, 0, none⟩), .agg #[.int .i64 px, .int .i64 py], .string data] W fun e w' => e = .returned (.int .i64 e1) ∧ NextA A g W w' z l1 ∧ Chg A g W w' := fun W hW => hb1.prog A g lv cap W hW
      refine (hp1 _ hM4.sp).mono ?_
      rintro e w5 ⟨rfl, hn5, hc5⟩
      obtain ⟨g5, lv5, cap5, hM5, hg5⟩ := hM4.prog2 hn5 hc5
      have hX5 := hM4.chgX hX4 hc5
      have hT5 := hT4.chg hc5 (by omega) (by omega)
      have hS5 := hs4.chg hc5 (fun b off m e => by have := hr4 b off m e; exact ⟨by omega, by omega⟩)
      have hr5 : ∀ b off m, Pa = some ⟨b, off, m⟩ → b ≠ A ∧ b ≠ g5 ∧ b < w5.heap.size := fun b off m e => by have := hr4 b off m e; have := hc5.size; rcases hg5 with rfl | h5 <;> exact ⟨by omega, by omega, by omega⟩
      have hT5g : w.heap.size ≠ g5 := by have := hx4.size; rcases hg5 with rfl | h5 <;> omega
      have x50 := hX5.cells.1
      have t50 := hT5.cells.1
      have t51 := hT5.cells.2.1
      obtain ⟨e2, l2, hb2, ha2⟩ := both_putAt z l1 px py data hM5.sp.goodL hpx hpy hd
      have hp2 : ∀ W, Sp W A g5 z l1 lv5 cap5 → Calls Tryz.prog 13 #[.pointer (some ⟨A, 0, none⟩), .agg #[.int .i64 px, .int .i64 py], .string data] W fun e w' => e = .returned (.int .i64 e2) ∧ NextA A g5 W w' z l2 ∧ Chg A g5 W w' := fun W hW => hb2.prog A g5 lv5 cap5 W hW
      go_wp2_with (fail)
      refine (hp2 _ hM5.sp).mono ?_
      rintro e w6 ⟨rfl, hn6, hc6⟩
      obtain ⟨g6, lv6, cap6, hM6, hg6⟩ := hM5.prog2 hn6 hc6
      have hX6 := hM5.chgX hX5 hc6
      have hT6 := hT5.chg hc6 (by omega) (by omega)
      have hS6 := hS5.chg hc6 (fun b off m e => by have := hr5 b off m e; exact ⟨this.1, this.2.1⟩)
      have hr6 : ∀ b off m, Pa = some ⟨b, off, m⟩ → b ≠ A ∧ b ≠ g6 ∧ b < w6.heap.size := fun b off m e => by have := hr5 b off m e; have := hc6.size; rcases hg6 with rfl | h6 <;> exact ⟨by omega, by omega, by omega⟩
      have hT6g : w.heap.size ≠ g6 := by have := hT5.lt; rcases hg6 with rfl | h6 <;> omega
      have x60 := hX6.cells.1
      have t60 := hT6.cells.1
      have t61 := hT6.cells.2.1
      obtain ⟨e3, l3, hb3, ha3⟩ := both_drop z l2 px py hM6.sp.goodL hpx hpy
      have hp3 : ∀ W, Sp W A g6 z l2 lv6 cap6 → Calls Tryz.prog 14 #[.pointer (some ⟨A, 0, none⟩), .agg #[.int .i64 px, .int .i64 py]] W fun e w' => e = .returned (.int .i64 e3) ∧ NextA A g6 W w' z l3 ∧ Chg A g6 W w' := fun W hW => hb3.prog A g6 lv6 cap6 W hW
      go_wp2_with (fail)
      refine (hp3 _ hM6.sp).mono ?_
      rintro e w7 ⟨rfl, hn7, hc7⟩
      obtain ⟨g7, lv7, cap7, hM7, hg7⟩ := hM6.prog2 hn7 hc7
      have hX7 := hM6.chgX hX6 hc7
      have hT7 := hT6.chg hc7 (by omega) (by omega)
      have hS7 := hS6.chg hc7 (fun b off m e => by have := hr6 b off m e; exact ⟨this.1, this.2.1⟩)
      have hap := (ha1.trans ha2).trans ha3
      have hw5 : Ext w w5 := Chg.ext (hw3.trans hx4) hc5 (by omega) (by omega)
      have hw6 : Ext w w6 := Chg.ext hw5 hc6 (by omega) (by have := hM5.lg; omega)
      have hw7 : Ext w w7 := Chg.ext hw6 hc7 (by omega) (by have := hM6.lg; omega)
      clear hp1 hp2 hp3 hb1 hb2 hb3 hM5 hM6 hM4 hM3 hM hX3 hX4 hX5 hX6 hT3 hT4 hT5 hT6 hs4 hS5 hS6 hr4 hr5 hr6 hall x40 x50 x60 t40 t41 t50 t51 t60 t61 r1 r2 r3 r4
      go_wp2
      have HAL := Lib.hid (fun (a : Int × Int) (h : a ∈ allL l l.length) => allL_mem h)
      have hz := hg.sz
      obtain ⟨AL, hAL⟩ : ∃ AL, allL l l.length = AL := ⟨_, rfl⟩
      rw [hAL] at hS7 hal HAL
      have hle := hg.le
      rw [hAL]
      clear hAL ho4
      go_loopw [13] (fun i wr => ∃ k : Nat, k ≤ AL.length ∧ i = .int .i64 k ∧ Ext w7 wr) (fun i _ => AL.length - (intOf i).toNat)
      case atStart => exact ⟨0, by omega, rfl, Ext.refl _⟩
      case round =>
        obtain ⟨k, hk, rfl, hx⟩ := hrel
        have hMr := hM7.ext hx
        have hXr := hX7.ext hx
        have hTr := hT7.ext hx
        have x0 := hXr.cells.1
        have x1 := hXr.cells.2.1
        have x2 := hXr.cells.2.2.1
        have y0 := hTr.cells.1
        have y1 := hTr.cells.2.1
        by_cases hlt : k < AL.length
        · obtain ⟨a, hak⟩ : ∃ a, AL[k]? = some a := ⟨AL[k], List.getElem?_eq_getElem hlt⟩
          obtain ⟨q, i, hq, hi, rfl⟩ := HAL.out a (List.mem_of_getElem? hak)
          obtain ⟨ba, oa, rfl, hca⟩ := hS7.at_ k _ hak
          have a0 := hx.cell (hca 0 _ rfl)
          have a1 := hx.cell (hca 1 _ rfl)
          simp only [List.length_cons, List.length_nil, Nat.reduceAdd, Nat.add_zero] at a0 a1
          have hln := cel_line (hg.good q hq).1 i hi
          obtain ⟨r, hr⟩ := getR_some (cel (nthB l q)) (cnt (nthB l q)) (cel (nthB l q) i).1
          have hq3 : q < l3.length := by rw [hap.1]; exact hq
          have c1 : (k : Int) < AL.length := by omega
          clear hca hak
          generalize (cel (nthB l q) i).1 = y at *
          by_cases hqx : (q : Int) = px
          · by_cases hyy : y = py
            · obtain ⟨r3, hr3⟩ := getR_some (cel (nthB l3 q)) (cnt (nthB l3 q)) y
              subst hqx hyy
              have hGp := fun W hW => sget_r A g7 z cap7 l3 lv7 q y r3 W hW hq3 hln hr3
              have hGr := fun W hW => refGet7_r PR z cR q l y r (w := W) hW hq hln hr
              simp only [two2] at hGp hGr
              go_wp2
              go_region_held3 (fun w' => w'.cell? ⟨X, 0, none⟩ = some (.pointer (some ⟨A, 0, none⟩)) ∧ w'.cell? ⟨ba, oa + k * 2, none⟩ = some (.int .i64 q) ∧ w'.cell? ⟨ba, oa + k * 2 + 1, none⟩ = some (.int .i64 y)) (first | go_keep | (refine ⟨Ext.cell ?_ x0, Ext.cell ?_ a0, Ext.cell ?_ a1⟩ <;> (repeat (first | exact Ext.refl _ | assumption | refine Ext.trans ?_ hx8 | refine Ext.trans ?_ hx9 | refine Ext.drew ?_ | refine Ext.drewN ?_ _ | refine Ext.alloc ?_ _))))
                (first | (go_at_call 15; refine (hGp _ (hMr.sp.ext ((Ext.refl _).drew))).mono ?_; rintro e w8 ⟨rfl, hx8⟩) | fail)
              have hX8 := (Ext.refl wr).drew.trans hx8
              have hM8 := hMr.ext hX8
              have x81 := hX8.cell x1
              have x82 := hX8.cell x2
              have a80 := hX8.cell a0
              have a81 := hX8.cell a1
              have y80 := hX8.cell y0
              have y81 := hX8.cell y1
              clear x0 x1 x2 a0 a1 y0 y1
              go_wp2
              go_region_held3 (fun w' => w'.cell? ⟨X, 1, none⟩ = some (.int .i64 z) ∧ w'.cell? ⟨X, 2, none⟩ = some (.slice PR l.length cR) ∧ w'.cell? ⟨ba, oa + k * 2, none⟩ = some (.int .i64 q) ∧ w'.cell? ⟨ba, oa + k * 2 + 1, none⟩ = some (.int .i64 y)) (first | go_keep | (refine ⟨Ext.cell ?_ x81, Ext.cell ?_ x82, Ext.cell ?_ a80, Ext.cell ?_ a81⟩ <;> (repeat (first | exact Ext.refl _ | assumption | refine Ext.trans ?_ hx8 | refine Ext.trans ?_ hx9 | refine Ext.drew ?_ | refine Ext.drewN ?_ _ | refine Ext.alloc ?_ _))))
                (first | (go_at_call 16; refine (hGr _ (hM8.rs.ext ((Ext.refl _).drew))).mono ?_; rintro e w9 ⟨rfl, hx9⟩) | fail)
              have hX9 := hX8.trans ((Ext.refl w8).drew.trans hx9)
              have hX89 := (Ext.refl w8).drew.trans hx9
              have a90 := hX89.cell a80
              have a91 := hX89.cell a81
              have y90 := hX89.cell y80
              have y91 := hX89.cell y81
              clear x81 x82 a80 a81 y80 y81
              go_wp2
              go_region
              go_wp2
              exact ⟨⟨k + 1, by omega, by go_num, hx.trans (hX9.trans (Ext.refl _).drew)⟩, by simp [intOf]; omega⟩
            · have hr3 := hap.2 q y r hq (fun h => hyy h.2) hr
              have b1 : (y == py) = false := by simpa using hyy
              subst hqx
              clear hyy
              have ne1 : ∀ s : ByteArray, (s.toList != s.toList) = false := fun s => by simp
              have hGp := fun W hW => sget_r A g7 z cap7 l3 lv7 q y r W hW hq3 hln hr3
              have hGr := fun W hW => refGet7_r PR z cR q l y r (w := W) hW hq hln hr
              simp only [two2] at hGp hGr
              go_wp2
              go_region_held3 (fun w' => w'.cell? ⟨X, 0, none⟩ = some (.pointer (some ⟨A, 0, none⟩)) ∧ w'.cell? ⟨ba, oa + k * 2, none⟩ = some (.int .i64 q) ∧ w'.cell? ⟨ba, oa + k * 2 + 1, none⟩ = some (.int .i64 y)) (first | go_keep | (refine ⟨Ext.cell ?_ x0, Ext.cell ?_ a0, Ext.cell ?_ a1⟩ <;> (repeat (first | exact Ext.refl _ | assumption | refine Ext.trans ?_ hx8 | refine Ext.trans ?_ hx9 | refine Ext.drew ?_ | refine Ext.drewN ?_ _ | refine Ext.alloc ?_ _))))
                (first | (go_at_call 15; refine (hGp _ (hMr.sp.ext ((Ext.refl _).drew))).mono ?_; rintro e w8 ⟨rfl, hx8⟩) | fail)
              have hX8 := (Ext.refl wr).drew.trans hx8
              have hM8 := hMr.ext hX8
              have x81 := hX8.cell x1
              have x82 := hX8.cell x2
              have a80 := hX8.cell a0
              have a81 := hX8.cell a1
              have y80 := hX8.cell y0
              have y81 := hX8.cell y1
              clear x0 x1 x2 a0 a1 y0 y1
              go_wp2
              go_region_held3 (fun w' => w'.cell? ⟨X, 1, none⟩ = some (.int .i64 z) ∧ w'.cell? ⟨X, 2, none⟩ = some (.slice PR l.length cR) ∧ w'.cell? ⟨ba, oa + k * 2, none⟩ = some (.int .i64 q) ∧ w'.cell? ⟨ba, oa + k * 2 + 1, none⟩ = some (.int .i64 y)) (first | go_keep | (refine ⟨Ext.cell ?_ x81, Ext.cell ?_ x82, Ext.cell ?_ a80, Ext.cell ?_ a81⟩ <;> (repeat (first | exact Ext.refl _ | assumption | refine Ext.trans ?_ hx8 | refine Ext.trans ?_ hx9 | refine Ext.drew ?_ | refine Ext.drewN ?_ _ | refine Ext.alloc ?_ _))))
                (first | (go_at_call 16; refine (hGr _ (hM8.rs.ext ((Ext.refl _).drew))).mono ?_; rintro e w9 ⟨rfl, hx9⟩) | fail)
              have hX9 := hX8.trans ((Ext.refl w8).drew.trans hx9)
              have hX89 := (Ext.refl w8).drew.trans hx9
              have a90 := hX89.cell a80
              have a91 := hX89.cell a81
              have y90 := hX89.cell y80
              have y91 := hX89.cell y81
              clear x81 x82 a80 a81 y80 y81
              go_wp2
              go_region
              go_wp2
              exact ⟨⟨k + 1, by omega, by go_num, hx.trans (hX9.trans (Ext.refl _).drew)⟩, by simp [intOf]; omega⟩
          · have hr3 := hap.2 q y r hq (fun h => hqx h.1) hr
            have b1 : ((q : Int) == px) = false := by simpa using hqx
            clear hqx
            have ne1 : ∀ s : ByteArray, (s.toList != s.toList) = false := fun s => by simp
            have hGp := fun W hW => sget_r A g7 z cap7 l3 lv7 q y r W hW hq3 hln hr3
            have hGr := fun W hW => refGet7_r PR z cR q l y r (w := W) hW hq hln hr
            simp only [two2] at hGp hGr
            go_wp2
            go_region_held3 (fun w' => w'.cell? ⟨X, 0, none⟩ = some (.pointer (some ⟨A, 0, none⟩)) ∧ w'.cell? ⟨ba, oa + k * 2, none⟩ = some (.int .i64 q) ∧ w'.cell? ⟨ba, oa + k * 2 + 1, none⟩ = some (.int .i64 y)) (first | go_keep | (refine ⟨Ext.cell ?_ x0, Ext.cell ?_ a0, Ext.cell ?_ a1⟩ <;> (repeat (first | exact Ext.refl _ | assumption | refine Ext.trans ?_ hx8 | refine Ext.trans ?_ hx9 | refine Ext.drew ?_ | refine Ext.drewN ?_ _ | refine Ext.alloc ?_ _))))
              (first | (go_at_call 15; refine (hGp _ (hMr.sp.ext ((Ext.refl _).drew))).mono ?_; rintro e w8 ⟨rfl, hx8⟩) | fail)
            have hX8 := (Ext.refl wr).drew.trans hx8
            have hM8 := hMr.ext hX8
            have x81 := hX8.cell x1
            have x82 := hX8.cell x2
            have a80 := hX8.cell a0
            have a81 := hX8.cell a1
            have y80 := hX8.cell y0
            have y81 := hX8.cell y1
            clear x0 x1 x2 a0 a1 y0 y1
            go_wp2
            go_region_held3 (fun w' => w'.cell? ⟨X, 1, none⟩ = some (.int .i64 z) ∧ w'.cell? ⟨X, 2, none⟩ = some (.slice PR l.length cR) ∧ w'.cell? ⟨ba, oa + k * 2, none⟩ = some (.int .i64 q) ∧ w'.cell? ⟨ba, oa + k * 2 + 1, none⟩ = some (.int .i64 y)) (first | go_keep | (refine ⟨Ext.cell ?_ x81, Ext.cell ?_ x82, Ext.cell ?_ a80, Ext.cell ?_ a81⟩ <;> (repeat (first | exact Ext.refl _ | assumption | refine Ext.trans ?_ hx8 | refine Ext.trans ?_ hx9 | refine Ext.drew ?_ | refine Ext.drewN ?_ _ | refine Ext.alloc ?_ _))))
              (first | (go_at_call 16; refine (hGr _ (hM8.rs.ext ((Ext.refl _).drew))).mono ?_; rintro e w9 ⟨rfl, hx9⟩) | fail)
            have hX9 := hX8.trans ((Ext.refl w8).drew.trans hx9)
            have hX89 := (Ext.refl w8).drew.trans hx9
            have a90 := hX89.cell a80
            have a91 := hX89.cell a81
            have y90 := hX89.cell y80
            have y91 := hX89.cell y81
            clear x81 x82 a80 a81 y80 y81
            go_wp2
            go_region
            go_wp2
            exact ⟨⟨k + 1, by omega, by go_num, hx.trans (hX9.trans (Ext.refl _).drew)⟩, by simp [intOf]; omega⟩
        · obtain rfl : k = AL.length := by omega
          have hsz := size_is A lv7 z _ wr hMr.sp.ar
          have hsz2 := refSize_any z wr (by have := hMr.sp.sizes; omega) (by have := hMr.sp.sizes; omega)
          rw [hz] at hsz2
          go_wp2_with (first
            | (go_at_call 18; refine hsz.mono ?_; rintro e w8 ⟨rfl, rfl⟩)
            | (go_at_call 17; refine hsz2.mono ?_; rintro e w8 ⟨rfl, rfl⟩)
            | (go_at_call 9; refine (sawake_any _).mono ?_; rintro e w9 ⟨rfl, hx9⟩))
          go_ret
          exact ⟨rfl, (hw7.trans hx).trans hx9⟩
end Go.Proofs.YtnileonlabpbpaaGreat
