/- SpK; SpL; SpM; SpN (merged by group.py) -/
import Derived.Test.YtnileonlabpbpaaGreatQ13
import Derived.Test.YtnileonlabpbpaaGreatQ11
namespace Go.Proofs.YtnileonlabpbpaaGreat
section
open Go.RowKit
set_option linter.unusedVariables false
set_option linter.unusedSimpArgs false
set_option maxRecDepth 20000

/-- a block with one area of the reference -/
structure RCell (w : World) (R : Nat) (x y : Value) : Prop where
  heap : w.heap[R]? = some (.cells #[x, y] 28 (0, 0))
theorem RCell.new (w : World) (x y : Value) : RCell (w.alloc (.cells #[x, y] 28)) w.heap.size x y := ⟨World.alloc_heap_new w _⟩
theorem RCell.ext {w w' : World} {R : Nat} {x y : Value} (h : RCell w R x y) (hx : Ext w w') : RCell w' R x y := ⟨hx.heap h.heap⟩
theorem RCell.lt {w : World} {R : Nat} {x y : Value} (h : RCell w R x y) : R < w.heap.size := (Array.getElem?_eq_some_iff.1 h.heap).1
theorem RCell.cells {w : World} {R : Nat} {x y : Value} (h : RCell w R x y) : w.cell? ⟨R, 0, none⟩ = some x ∧ w.cell? ⟨R, 1, none⟩ = some y ∧ w.frozen? ⟨R, 0, none⟩ = false ∧ w.frozen? ⟨R, 1, none⟩ = false :=
  ⟨by simp [World.cell?, h.heap], by simp [World.cell?, h.heap], by simp [World.frozen?, h.heap], by simp [World.frozen?, h.heap]⟩
theorem RCell.set0 {w : World} {R : Nat} {x y : Value} (h : RCell w R x y) (u : Value) : RCell (w.setCell ⟨R, 0, none⟩ u) R u y := by
  refine ⟨?_⟩
  rw [heap_setCell_same w R 0 _ _ _ h.heap]
  rfl
theorem RCell.set1 {w : World} {R : Nat} {x y : Value} (h : RCell w R x y) (u : Value) : RCell (w.setCell ⟨R, 1, none⟩ u) R x u := by
  refine ⟨?_⟩
  rw [heap_setCell_same w R 1 _ _ _ h.heap]
  rfl
theorem RCell.read {w : World} {R : Nat} {x y : Value} (h : RCell w R x y) (u v : Value) : (w.setCell ⟨R, 0, none⟩ u).cell? ⟨R, 0, none⟩ = some u ∧ ((w.setCell ⟨R, 0, none⟩ u).setCell ⟨R, 1, none⟩ v).cell? ⟨R, 1, none⟩ = some v :=
  ⟨(h.set0 u).cells.1, ((h.set0 u).set1 v).cells.2.1⟩
theorem RCell.far {w : World} {R : Nat} {x y : Value} (h : RCell w R x y) {p : Addr} (hp : R ≠ p.block) (u : Value) : RCell (w.setCell p u) R x y := ⟨(Below.heap_setCell w p u R hp).trans h.heap⟩

/-- how the reference's Load ends -/
def RLoadPost (w : World) (r : LdR) (e : Ending) (w' : World) : Prop :=
  ∃ v, e = .returned (.tuple #[v, .int .i64 r.1, .int .i64 r.2.1]) ∧ Ext w w' ∧
    match r.2.2 with
    | none => v = .agg #[.int .i64 0, .slice none 0 0]
    | some (size, l) => ∃ P cap, v = .agg #[.int .i64 size, .slice P l.length cap] ∧ RAr w' P size l
theorem RLoadPost.no {w w' : World} {r : LdR} {a c : Int} {e : Ending} (hr : r = (a, c, none)) (he : e = .returned (.tuple #[.agg #[.int .i64 0, .slice none 0 0], .int .i64 a, .int .i64 c])) (hx : Ext w w') : RLoadPost w r e w' := by
  subst hr
  exact ⟨_, he, hx, rfl⟩
theorem RLoadPost.yes {w w' : World} {r : LdR} {size cap : Nat} {P : Option Addr} {l : List ByteArray} {e : Ending} (hr : r = (0, 0, some (size, l))) (he : e = .returned (.tuple #[.agg #[.int .i64 size, .slice P l.length cap], .int .i64 0, .int .i64 0]))
    (hS : RAr w' P size l) (hx : Ext w w') : RLoadPost w r e w' := by
  subst hr
  exact ⟨_, he, hx, P, cap, rfl, hS⟩

theorem RCell.same {w w' : World} {R : Nat} {x y : Value} (h : RCell w R x y) (e : w'.heap[R]? = w.heap[R]?) : RCell w' R x y := ⟨e.trans h.heap⟩
theorem rwrong_prog (p : ByteArray) (hp : p.size ≤ 140737488355328) (w : World) :
    Calls Tryz.prog 79 #[.string p] w fun e w' => e = .returned (.tuple #[.int .i64 (wrongN p hp).1, .int .i64 (wrongN p hp).2]) ∧ Ext w w' := by
  obtain ⟨a, e, h, hc⟩ := refWrong_any p w hp
  obtain ⟨rfl, rfl⟩ := h.uniq (wrongN_is p hp)
  exact hc
def RPageRel (s : ByteArray) (hs : s.size ≤ 140737488355328) (w : World) (B z n : Nat) (i : Value) (wr : World) : Prop :=
  ∃ (k : Nat) (acc : List ByteArray) (v : Value), k ≤ n ∧ i = .int .i64 k ∧ acc.length = k ∧ (k = 0 ∨ 8 + n + k * z ≤ s.size) ∧ (∀ i, i < acc.length → ValidR (nthB acc i) ∧ (nthB acc i).size = z) ∧
    RCell wr w.heap.size (.int .i64 0) (.slice none 0 0) ∧ RCell wr B (.int .i64 z) v ∧ wr.ownsRow (B + 1) 9 1 v k (acc.map .string) ∧ pageS s hs n z n 0 [] = pageS s hs n z (n - k) k acc ∧ Ext w wr ∧ B + 1 ≤ wr.heap.size

theorem RAr.far {w : World} {g size : Nat} {l : List ByteArray} (h : RAr w (some ⟨g, 0, none⟩) size l) {p : Addr} (hp : g ≠ p.block) (u : Value) : RAr (w.setCell p u) (some ⟨g, 0, none⟩) size l := by
  refine ⟨⟨fun i hi => ?_⟩, h.good, h.le, h.sz⟩
  obtain ⟨b, off, e, h1⟩ := h.sls.at_ i hi
  refine ⟨b, off, e, ?_⟩
  simp only [Option.some.injEq, Addr.mk.injEq, and_true] at e
  obtain ⟨rfl, rfl⟩ := e
  rw [← h1]
  unfold World.cell?
  rw [Below.heap_setCell w p u g hp]

def RMarkRel (s : ByteArray) (hs : s.size ≤ 140737488355328) (w : World) (i : Value) (wr : World) : Prop :=
  ∃ k : Nat, k ≤ 4 ∧ i = .int .i64 k ∧ RCell wr w.heap.size (.int .i64 0) (.slice none 0 0) ∧ k ≤ s.size ∧ markS s hs 4 0 = markS s hs (4 - k) k ∧ Ext w wr

set_option maxHeartbeats 1000000 in
theorem rload_any (s : ByteArray) (hs : s.size ≤ 140737488355328) (w : World) :
    Calls Tryz.prog 34 #[.string s] w (RLoadPost w (loadF s hs)) := by
  have hC0 := RCell.new w (.int .i64 0) (.slice none 0 0)
  have hx0 := (Ext.refl w).alloc (.cells #[.int .i64 0, .slice none 0 0] 28)
  have hfin : ∀ (W : World) (r : LdR) (a c : Int), RCell W w.heap.size (.int .i64 0) (.slice none 0 0) → Ext w W → r = (a, c, none) →
      RLoadPost w r (.returned (.tuple #[.agg #[.int .i64 0, .slice none 0 0], .int .i64 a, .int .i64 c])) ((W.setCell ⟨w.heap.size, 0, none⟩ (.int .i64 0)).setCell ⟨w.heap.size, 1, none⟩ (.slice none 0 0)) := fun W r a c hR hx hr =>
    RLoadPost.no hr rfl ((hx.setCell (Nat.le_refl _) _).setCell (Nat.le_refl _) _)
  by_cases hbig : 900000 < s.size
  · have d1 : (900000 : Int) < s.size := by omega
    have e : loadF s hs = (0, 3, none) := if_pos hbig
    have He := Lib.hid e
    clear e
    obtain ⟨c0, c1, f0, f1⟩ := hC0.cells
    go_enter Tryz.func34, Tryz.ntmps34
    go_wp2
    exact bodyPost_ret (v := .tuple #[.agg #[.int .i64 0, .slice none 0 0], .int .i64 0, .int .i64 3]) (by simp [results, Tryz.results34, go_sem]) rfl (RLoadPost.no He.out rfl hx0)
  have d1 : ¬ (900000 : Int) < s.size := by omega
  have e0 : loadF s hs = markS s hs 4 0 := if_neg hbig
  rw [e0]
  clear e0 hbig
  go_enter Tryz.func34, Tryz.ntmps34
  go_wp2
  go_loopw [5] (fun i wr => RMarkRel s hs w i wr) (fun i _ => 4 - (intOf i).toNat)
  case atStart => exact ⟨0, by omega, rfl, hC0, by omega, rfl, hx0⟩
  case round =>
    obtain ⟨k, hk, rfl, hR, hks, hm, hx⟩ := hrel
    obtain ⟨c0, c1, f0, f1⟩ := hR.cells
    by_cases hlt : k < 4
    · obtain ⟨d, hd⟩ : ∃ d, 4 - k = d + 1 := ⟨3 - k, by omega⟩
      have hd2 : 4 - (k + 1) = d := by omega
      rw [hd] at hm
      have hko : ∀ h, ((⟨#[65, 82, 69, 65]⟩ : ByteArray)[k]'h).toNat = markB k := by
        have h4 : k = 0 ∨ k = 1 ∨ k = 2 ∨ k = 3 := by omega
        rcases h4 with rfl | rfl | rfl | rfl <;> intro h <;> rfl
      have hix2 : ∀ wx, (Instr.index 9 (.string ⟨#[65, 82, 69, 65]⟩) (.int .i64 k)).run Tryz.prog wx = .ok (.int .u8 (markB k)) wx := fun wx => by
        rw [run_index_string (P := Tryz.prog) (w := wx) 9 _ .i64 (k : Int) Tryz.underlying9, dif_pos ⟨by omega, by show (k : Int) < 4; omega⟩]
        simp only [Int.toNat_natCast, hko]
      have hmb : markB k ≤ 82 := by
        have h4 : k = 0 ∨ k = 1 ∨ k = 2 ∨ k = 3 := by omega
        rcases h4 with rfl | rfl | rfl | rfl <;> decide
      have c4 : (k : Int) < 4 := by omega
      clear hko
      by_cases hb : k < s.size
      · have hg := get_bt s k hb
        have hix : ∀ wx, (Instr.index 9 (.string s) (.int .i64 k)).run Tryz.prog wx = .ok (.int .u8 (bt s k)) wx := fun wx => by
          rw [run_index_string (P := Tryz.prog) (w := wx) 9 s .i64 (k : Int) Tryz.underlying9, dif_pos ⟨by omega, by omega⟩]
          simp only [Int.toNat_natCast, hg]
        have d2 : ((k : Int) == (s.size : Int)) = false := by simp; omega
        clear hg
        by_cases he : bt s k = markB k
        · have Hm := Lib.hid (hm.trans (markS_yes hb he))
          rw [← hd2] at Hm
          rw [he] at hix
          clear hm he hd hd2
          generalize markB k = m at *
          go_wp2
          go_quiet (fail)
          go_wp2
          go_roundw
          case rel => exact ⟨k + 1, by omega, by go_num, hR.ext ((Ext.refl wr).drewN _), by omega, Hm.out, hx.drewN _⟩
          case measure => simp [intOf]; omega
        · have Hm := Lib.hid (hm.trans (markS_no (fun h => he h.2)))
          clear hm hd hd2
          have hnn : ((bt s k : Int) != (markB k : Int)) = true := by simp; omega
          have hnm : ((bt s k : Int) == (markB k : Int)) = false := by simp; omega
          generalize bt s k = v at *
          generalize markB k = m at *
          clear he
          go_wp2
          go_quiet (fail)
          go_wp2
          obtain ⟨r0, r1⟩ := (hR.ext ((Ext.refl wr).drewN nq)).read (.int .i64 0) (.slice none 0 0)
          exact bodyPost_ret (v := .tuple #[.agg #[.int .i64 0, .slice none 0 0], .int .i64 k, .int .i64 12]) (by simp [results, Tryz.results34, go_sem, r0, r1]) rfl (hfin _ _ _ _ (hR.ext ((Ext.refl wr).drewN _)) (hx.drewN _) Hm.out)
      · have Hm := Lib.hid (hm.trans (markS_no (fun h => hb h.1)))
        have d2 : ((k : Int) == (s.size : Int)) = true := by simp; omega
        clear hm hd hd2
        generalize markB k = m at *
        go_wp2
        go_quiet (fail)
        go_wp2
        obtain ⟨r0, r1⟩ := (hR.ext ((Ext.refl wr).drewN nq)).read (.int .i64 0) (.slice none 0 0)
        exact bodyPost_ret (v := .tuple #[.agg #[.int .i64 0, .slice none 0 0], .int .i64 k, .int .i64 12]) (by simp [results, Tryz.results34, go_sem, r0, r1]) rfl (hfin _ _ _ _ (hR.ext ((Ext.refl wr).drewN _)) (hx.drewN _) Hm.out)
    · obtain rfl : k = 4 := by omega
      have hm0 : markS s hs 4 0 = headS s hs := hm
      clear hm
      have t1 := twoF_lt s 4
      have t2 := twoF_lt s 6
      by_cases h6 : s.size < 6
      · have Hm := Lib.hid (hm0.trans (head_six h6))
        have c6 : (s.size : Int) < 6 := by omega
        clear hm0
        obtain ⟨r0, r1⟩ := hR.read (.int .i64 0) (.slice none 0 0)
        go_wp2
        exact bodyPost_ret (v := .tuple #[.agg #[.int .i64 0, .slice none 0 0], .int .i64 s.size, .int .i64 12]) (by simp [results, Tryz.results34, go_sem, r0, r1]) rfl (hfin _ _ _ _ hR hx Hm.out)
      · have c6 : ¬ (s.size : Int) < 6 := by omega
        have hT4 := fun W => refTwo_at s 4 4 W rfl hs (by omega)
        cases hz : sizeB (twoF s 4) with
        | false =>
          have Hm := Lib.hid (hm0.trans (head_size h6 hz))
          have hSz := fun W => refSize_any (twoF s 4) W (by omega) (by omega)
          rw [hz] at hSz
          clear hm0
          go_wp2_with fail
          refine (hT4 _).mono ?_
          rintro e w1 ⟨rfl, n4, rfl⟩
          replace hR := hR.ext ((Ext.refl wr).drewN n4)
          replace hx := hx.drewN n4
          generalize wr.drewN n4 = W1 at *
          have hRlt := hR.lt
          go_wp2_with fail
          refine (hSz _).mono ?_
          rintro e w2 ⟨rfl, rfl⟩
          have hB := RCell.new W1 (.int .i64 (twoF s 4)) (.slice none 0 0)
          replace hR := hR.ext ((Ext.refl W1).alloc (.cells #[.int .i64 (twoF s 4), .slice none 0 0] 28))
          have hwB : w.heap.size < W1.heap.size := hRlt
          have hsz : (W1.alloc (.cells #[.int .i64 (twoF s 4), .slice none 0 0] 28)).heap.size = W1.heap.size + 1 := by simp
          replace hx := hx.alloc (.cells #[.int .i64 (twoF s 4), .slice none 0 0] 28)
          clear hC0 hx0 hSz
          generalize W1.alloc (.cells #[.int .i64 (twoF s 4), .slice none 0 0] 28) = W2 at *
          generalize W1.heap.size = B at *
          obtain ⟨c0, c1, f0, f1⟩ := hR.cells
          obtain ⟨b0, b1, g0, g1⟩ := hB.cells
          obtain ⟨r0, r1⟩ := hR.read (.int .i64 0) (.slice none 0 0)
          go_wp2
          exact bodyPost_ret (v := .tuple #[.agg #[.int .i64 0, .slice none 0 0], .int .i64 4, .int .i64 12]) (by simp [results, Tryz.results34, go_sem, r0, r1]) rfl (hfin _ _ _ _ hR hx Hm.out)
        | true =>
          have hSz := fun W => refSize_any (twoF s 4) W (by omega) (by omega)
          rw [hz] at hSz
          go_wp2_with fail
          refine (hT4 _).mono ?_
          rintro e w1 ⟨rfl, n4, rfl⟩
          replace hR := hR.ext ((Ext.refl wr).drewN n4)
          replace hx := hx.drewN n4
          generalize wr.drewN n4 = W1 at *
          have hRlt := hR.lt
          go_wp2_with fail
          refine (hSz _).mono ?_
          rintro e w2 ⟨rfl, rfl⟩
          have hB := RCell.new W1 (.int .i64 (twoF s 4)) (.slice none 0 0)
          replace hR := hR.ext ((Ext.refl W1).alloc (.cells #[.int .i64 (twoF s 4), .slice none 0 0] 28))
          have hwB : w.heap.size < W1.heap.size := hRlt
          have hsz : (W1.alloc (.cells #[.int .i64 (twoF s 4), .slice none 0 0] 28)).heap.size = W1.heap.size + 1 := by simp
          replace hx := hx.alloc (.cells #[.int .i64 (twoF s 4), .slice none 0 0] 28)
          clear hC0 hx0 hSz
          generalize W1.alloc (.cells #[.int .i64 (twoF s 4), .slice none 0 0] 28) = W2 at *
          generalize W1.heap.size = B at *
          obtain ⟨c0, c1, f0, f1⟩ := hR.cells
          obtain ⟨b0, b1, g0, g1⟩ := hB.cells
          obtain ⟨r0, r1⟩ := hR.read (.int .i64 0) (.slice none 0 0)
          have hbd : 32 ≤ twoF s 4 ∧ twoF s 4 ≤ 4096 := by simp [sizeB] at hz; omega
          by_cases h8 : s.size < 8
          · have Hm := Lib.hid (hm0.trans (head_eight h6 (by rw [hz]; simp) h8))
            have c8 : (s.size : Int) < 8 := by omega
            clear hm0 hz
            go_wp2
            exact bodyPost_ret (v := .tuple #[.agg #[.int .i64 0, .slice none 0 0], .int .i64 s.size, .int .i64 12]) (by simp [results, Tryz.results34, go_sem, r0, r1]) rfl (hfin _ _ _ _ hR hx Hm.out)
          · have c8 : ¬ (s.size : Int) < 8 := by omega
            have hT6 := fun W => refTwo_at s 6 6 W rfl hs (by omega)
            by_cases hc : 1 ≤ twoF s 6 ∧ twoF s 6 ≤ 200
            · have Hm := Lib.hid (hm0.trans (head_ok h6 (by rw [hz]; simp) h8 hc))
              obtain ⟨hc1, hc2⟩ := hc
              have t3 : s.size ≤ 900000 := by omega
              clear hm0
              go_wp2_with fail
              refine (hT6 _).mono ?_
              rintro e w3 ⟨rfl, n6, rfl⟩
              replace hR := hR.ext ((Ext.refl W2).drewN n6)
              replace hB := hB.ext ((Ext.refl W2).drewN n6)
              replace hx := hx.drewN n6
              have hs3 : B + 1 ≤ (W2.drewN n6).heap.size := Nat.le_trans (Nat.le_of_eq hsz.symm) ((Ext.refl W2).drewN n6).size
              clear c0 c1 f0 f1 b0 b1 g0 g1 r0 r1 hT6 hT4
              generalize W2.drewN n6 = W3 at *
              generalize twoF s 4 = z at *
              generalize twoF s 6 = n at *
              have e1 : ¬ (n : Int) < 1 := by omega
              have e2 : ¬ 200 < (n : Int) := by omega
              go_wp2
              go_loopw [8] (fun i wr => RPageRel s hs w B z n i wr) (fun i _ => n - (intOf i).toNat)
              case atStart => exact ⟨0, [], _, by omega, rfl, rfl, .inl rfl, fun i hi => by simp at hi, hR, hB, World.ownsRow_nil _ _ _ _, rfl, hx, hs3⟩
              clear hR hB hx hs3
              case round =>
                obtain ⟨k, acc, v, hk, rfl, hacc, hlong, hgood, hR, hB, hown, hpk, hx, hs3⟩ := hrel
                obtain ⟨c0, c1, f0, f1⟩ := hR.cells
                obtain ⟨b0, b1, g0, g1⟩ := hB.cells
                obtain ⟨r0, r1⟩ := hR.read (.int .i64 0) (.slice none 0 0)
                by_cases hkn : k < n
                · obtain ⟨d, hd⟩ : ∃ d, n - k = d + 1 := ⟨n - k - 1, by omega⟩
                  have hd2 : n - (k + 1) = d := by omega
                  rw [hd] at hpk
                  have hkz : k * z ≤ 819200 := Nat.le_trans (Nat.mul_le_mul (show k ≤ 200 by omega) hbd.2) (by omega)
                  have hkc : ((k : Int) * (z : Int)) = ((k * z : Nat) : Int) := by simp
                  have hpl := pageAt_le s hs n z k
                  have hpd : pageAt s n z k = s.extract (8 + n + k * z) (8 + n + k * z + z) := rfl
                  by_cases hsh : s.size < 8 + n + k * z + z
                  · have Hp := Lib.hid ((Hm.out.trans hpk).trans (page_short (i := k) hsh))
                    generalize k * z = kz at *
                    clear hpk hpd
                    have hsh' : (s.size : Int) < 8 + n + kz + z := by omega
                    go_wp2
                    exact bodyPost_ret (v := .tuple #[.agg #[.int .i64 0, .slice none 0 0], .int .i64 s.size, .int .i64 12]) (by simp [results, Tryz.results34, go_sem, r0, r1]) rfl (hfin _ _ _ _ hR hx Hp.out)
                  · have hWN := rwrong_prog (pageAt s n z k) hpl
                    have hWok := (wrongN_is (pageAt s n z k) hpl).ok
                    have hWle := wrongN_le (pageAt s n z k) hpl
                    have hpz : (pageAt s n z k).size = z := by rw [hpd, ByteArray.size_extract]; omega
                    have hsl : (s.size : Int) ≥ 8 + n + (k * z : Nat) + z := by omega
                    have k3 : s.extract (((8 : Int) + n + (k * z : Nat)).toNat) (((8 : Int) + n + (k * z : Nat) + z).toNat) = pageAt s n z k := by
                      rw [hpd, show ((8 : Int) + n + (k * z : Nat)).toNat = 8 + n + k * z by omega, show ((8 : Int) + n + (k * z : Nat) + z).toNat = 8 + n + k * z + z by omega]
                    have hsl := fun wx => run_slice_string (P := Tryz.prog) wx 9 s .i64 .i64 ((8 : Int) + n + (k * z : Nat)) ((8 : Int) + n + (k * z : Nat) + z) Tryz.underlying9 (by omega) (by omega) (by omega)
                    rw [k3] at hsl
                    clear k3
                    by_cases hv : ValidR (pageAt s n z k)
                    · have Hp := Lib.hid (hpk.trans (page_yes (i := k) hsh hv))
                      rw [← hd2] at Hp
                      have hWz := hWok.2 hv
                      rw [hWz] at hWN
                      clear hWz
                      have hlong' : k + 1 = 0 ∨ 8 + n + (k + 1) * z ≤ s.size := .inr (by rw [Nat.succ_mul]; omega)
                      generalize (wrongN (pageAt s n z k) hpl).1 = wa at *
                      generalize pageAt s n z k = p at *
                      generalize hkzE : k * z = kz at *
                      have hsh' : ¬ (s.size : Int) < 8 + n + kz + z := by omega
                      clear hsh hpk hpd hWok hkzE hWle hd hd2 hkz
                      have hgood' : ∀ i, i < (acc ++ [p]).length → ValidR (nthB (acc ++ [p]) i) ∧ (nthB (acc ++ [p]) i).size = z := fun i hi => by
                        simp at hi
                        rw [nthB_append _ _ _ (by omega)]
                        split
                        · exact hgood i (by assumption)
                        · exact ⟨hv, hpz⟩
                      clear hv hpz
                      go_wp2_with fail
                      refine (hWN _).mono ?_
                      rintro e w5 ⟨rfl, hx5⟩
                      clear c0 c1 f0 f1 b0 b1 g0 g1 r0 r1
                      replace hR := hR.ext hx5
                      replace hB := hB.ext hx5
                      replace hx := hx.trans hx5
                      replace hown := ownsRow_ext hown hx5
                      replace hs3 := Nat.le_trans hs3 hx5.size
                      clear hx5
                      obtain ⟨b0, b1, g0, g1⟩ := hB.cells
                      subst hacc
                      obtain ⟨v', w6, hr, ho6, hg6⟩ := append_str w5 (B + 1) v acc p hown (by omega) hs3
                      have hvb : v.ownBlock ≠ some B := fun h => by have := (hown.lt B h).1; omega
                      have hvr : v.ownBlock ≠ some w.heap.size := fun h => by have := (hown.lt _ h).1; omega
                      have hB6 := (hB.ext ((Ext.refl w5).alloc (.cells #[.string p] 9))).same (hg6.block B (by have := hB.lt; simp; omega) (fun h => hvb h.symm))
                      have hR6 := (hR.ext ((Ext.refl w5).alloc (.cells #[.string p] 9))).same (hg6.block w.heap.size (by have := hR.lt; simp; omega) (fun h => hvr h.symm))
                      have hx6 : Ext w w6 := Below.grown (hx.alloc (.cells #[.string p] 9)) hg6 (hx.alloc _).size (fun j hj => by have := (hown.lt j hj).1; omega)
                      obtain ⟨d0, d1, e0, e1'⟩ := hB6.cells
                      have hLn : (acc ++ [p]).length = acc.length + 1 := by simp
                      rw [hLn] at ho6
                      obtain ⟨g, cap, rfl, hgb, hgl⟩ := own_slice' hLn ho6 (by omega)
                      clear hLn
                      go_wp2_with (at_builtin; refine Lib.wpList_append_run _ rfl _ _ _ _ rfl _ _ rfl rfl _ _ hr ?_)
                      have hu7 : Upd w6 B (w6.setCell ⟨B, 1, none⟩ (.slice (some ⟨g, 0, none⟩) (acc.length + 1) cap)) := Upd.setCell _ _ _ _
                      refine ⟨⟨acc.length + 1, acc ++ [p], _, by omega, by go_num, by simp, hlong', hgood', hR6.far (by simp; omega) _, hB6.set1 _, ownsRow_upd ho6 hu7 (Nat.lt_succ_self B), Hp.out, Upd.ext hx6 hu7 (by omega), Nat.le_trans (Nat.le_trans hgb (Nat.le_of_lt hgl)) hu7.size⟩, by simp [intOf]; omega⟩
                    · have Hp := Lib.hid ((Hm.out.trans hpk).trans (page_no (i := k) hsh hv))
                      have hWz : ¬ (wrongN (pageAt s n z k) hpl).2 = 0 := fun h => hv (hWok.1 h)
                      generalize (wrongN (pageAt s n z k) hpl).1 = wa at *
                      generalize (wrongN (pageAt s n z k) hpl).2 = we at *
                      generalize pageAt s n z k = p at *
                      generalize hkzE : k * z = kz at *
                      have hsh' : ¬ (s.size : Int) < 8 + n + kz + z := by omega
                      have d5 : ((we : Int) != 0) = true := by simp; omega
                      have d6 : ((we : Int) == 0) = false := by simp; omega
                      clear hsh hpk hpd hWok hkzE hv hd hd2 hWz
                      go_wp2_with fail
                      refine (hWN _).mono ?_
                      rintro e w5 ⟨rfl, hx5⟩
                      clear c0 c1 f0 f1 b0 b1 g0 g1 r0 r1
                      replace hR := hR.ext hx5
                      obtain ⟨c0, c1, f0, f1⟩ := hR.cells
                      obtain ⟨r0, r1⟩ := hR.read (.int .i64 0) (.slice none 0 0)
                      go_wp2
                      exact bodyPost_ret (v := .tuple #[.agg #[.int .i64 0, .slice none 0 0], .int .i64 ((8 : Int) + n + kz + wa), .int .i64 12]) (by simp [results, Tryz.results34, go_sem, r0, r1]) rfl
                        (hfin _ _ _ _ hR (hx.trans hx5) (Hp.out.trans (by rw [show (((8 + n + kz : Nat) : Int) + (wa : Int)) = (8 : Int) + n + kz + wa by omega])))
                · obtain rfl : n = k := by omega
                  have hl8 : 8 + n + n * z ≤ s.size := by omega
                  have hnz : n * z ≤ 819200 := Nat.le_trans (Nat.mul_le_mul (show n ≤ 200 by omega) hbd.2) (by omega)
                  have hnc : ((n : Int) * (z : Int)) = ((n * z : Nat) : Int) := by simp
                  rw [Nat.sub_self] at hpk
                  have hp0 : pageS s hs n z n 0 [] = levS s n z acc n 0 := hpk
                  have Hp := Lib.hid (Hm.out.trans hp0)
                  have hE1 := Lib.hid (lev_long (s := s) (n := n) (size := z) (i := n) (l := acc))
                  have hE2 := Lib.hid (lev_end (s := s) (n := n) (size := z) (i := n) (l := acc))
                  clear hpk hp0 hlong
                  generalize n * z = nz at *
                  obtain ⟨g, cap, rfl, hgb, hgl⟩ := own_slice' hacc hown (by omega)
                  have hA : RAr wr (some ⟨g, 0, none⟩) z acc := ⟨slS_of_row' hacc hown, hgood, by omega, hz⟩
                  have hLv := fun i (hi : i < n) W hW => refLevel7 (some ⟨g, 0, none⟩) z cap acc i W hW (by omega)
                  rw [hacc] at hLv
                  clear c0 c1 f0 f1 b0 b1 g0 g1 r0 r1
                  go_wp2
                  go_loopw [13] (fun i W => ∃ k : Nat, k ≤ n ∧ i = .int .i64 k ∧ levS s n z acc n 0 = levS s n z acc (n - k) k ∧ Ext wr W) (fun i _ => n - (intOf i).toNat)
                  case atStart => exact ⟨0, by omega, rfl, rfl, Ext.refl _⟩
                  case round =>
                    obtain ⟨k, hk, rfl, hlv, hxl⟩ := hrel
                    have hA' := hA.ext hxl
                    replace hR := hR.ext hxl
                    replace hB := hB.ext hxl
                    replace hx := hx.trans hxl
                    obtain ⟨c0, c1, f0, f1⟩ := hR.cells
                    obtain ⟨b0, b1, g0, g1⟩ := hB.cells
                    obtain ⟨r0, r1⟩ := hR.read (.int .i64 0) (.slice none 0 0)
                    by_cases hkn : k < n
                    · obtain ⟨d, hd⟩ : ∃ d, n - k = d + 1 := ⟨n - k - 1, by omega⟩
                      have hd2 : n - (k + 1) = d := by omega
                      rw [hd] at hlv
                      have hg := get_bt s (8 + k) (by omega)
                      have hb := bt_lt s (8 + k)
                      have c1 : (k : Int) < n := by omega
                      have c3 : (8 : Int) + k < s.size := by omega
                      have k2 : ((8 : Int) + k).toNat = 8 + k := by omega
                      have hix : ∀ wx, (Instr.index 9 (.string s) (.int .i64 ((8 : Int) + k))).run Tryz.prog wx = .ok (.int .u8 (bt s (8 + k))) wx := fun wx => by
                        rw [run_index_string (P := Tryz.prog) (w := wx) 9 s .i64 ((8 : Int) + k) Tryz.underlying9, dif_pos ⟨by omega, c3⟩]
                        simp only [k2, hg]
                      have k1 : IntKind.i64.wrap ((8 : Int) + k) = 8 + k := IntWalk.i64_in _ ⟨by omega, by omega⟩
                      have hL := hLv k hkn
                      clear hg k2
                      by_cases he : bt s (8 + k) = levP z (nthB acc k)
                      · have Hq := Lib.hid (hlv.trans (lev_yes he))
                        rw [← hd2] at Hq
                        rw [← he] at hL
                        clear hlv he hd hd2
                        generalize bt s (8 + k) = m at *
                        go_wp2_with fail
                        refine (hL _ hA').mono ?_
                        rintro e w5 ⟨rfl, hx5⟩
                        go_wp2
                        go_roundw
                        case rel => exact ⟨k + 1, by omega, by go_num, Hq.out, hxl.trans hx5⟩
                        case measure => simp [intOf]; omega
                      · have Hq := Lib.hid (Hp.out.trans (hlv.trans (lev_no he)))
                        have hne1 : ((bt s (8 + k) : Int) == (levP z (nthB acc k) : Int)) = false := by simp; omega
                        have hne2 : ((bt s (8 + k) : Int) != (levP z (nthB acc k) : Int)) = true := by simp; omega
                        generalize levP z (nthB acc k) = m at *
                        generalize bt s (8 + k) = m2 at *
                        clear hlv he hd hd2
                        go_wp2_with fail
                        refine (hL _ hA').mono ?_
                        rintro e w5 ⟨rfl, hx5⟩
                        clear c0 c1 f0 f1 b0 b1 g0 g1 r0 r1
                        replace hR := hR.ext hx5
                        obtain ⟨c0, c1, f0, f1⟩ := hR.cells
                        obtain ⟨r0, r1⟩ := hR.read (.int .i64 0) (.slice none 0 0)
                        go_wp2
                        exact bodyPost_ret (v := .tuple #[.agg #[.int .i64 0, .slice none 0 0], .int .i64 ((8 : Int) + k), .int .i64 12]) (by simp [results, Tryz.results34, go_sem, r0, r1]) rfl
                          (hfin _ _ _ _ hR (hx.trans hx5) (Hq.out.trans (by rw [show ((8 + k : Nat) : Int) = (8 : Int) + k by omega])))
                    · obtain rfl : n = k := by omega
                      rw [Nat.sub_self] at hlv
                      by_cases ht : 8 + n + nz < s.size
                      · have Hq := Lib.hid (Hp.out.trans (hlv.trans (hE1.out ht)))
                        have ht' : (8 : Int) + n + nz < s.size := by omega
                        clear hlv ht
                        have k1 : IntKind.i64.wrap ((8 : Int) + n) = 8 + n := IntWalk.i64_in _ ⟨by omega, by omega⟩
                        have k2 : IntKind.i64.wrap ((n : Int) * z) = nz := by rw [hnc]; exact IntWalk.i64_in _ ⟨by omega, by omega⟩
                        have k3 : IntKind.i64.wrap ((8 : Int) + n + nz) = 8 + n + nz := IntWalk.i64_in _ ⟨by omega, by omega⟩
                        have k4 : IntKind.i64.wrap (nz : Int) = nz := IntWalk.i64_in _ ⟨by omega, by omega⟩
                        go_wp2
                        have hR2 := hR.ext (Ext.drew (Ext.refl _))
                        have hB2 := ((hB.ext (Ext.drew (Ext.refl _))).far (p := ⟨w.heap.size, 0, none⟩) (by simp; omega) (.int .i64 0)).far (p := ⟨w.heap.size, 1, none⟩) (by simp; omega) (.slice none 0 0)
                        obtain ⟨r2, r3⟩ := hR2.read (.int .i64 0) (.slice none 0 0)
                        obtain ⟨d0, d1, _, _⟩ := hB2.cells
                        obtain ⟨s0, s1, s2, s3⟩ := (hR2.set0 (.int .i64 0)).cells
                        go_region_with fail
                        all_goals (
                          go_wp2
                          exact bodyPost_ret (v := .tuple #[.agg #[.int .i64 0, .slice none 0 0], .int .i64 ((8 : Int) + n + nz), .int .i64 12]) (by simp [results, Tryz.results34, go_sem, r0, r1, k3, k4]) rfl
                            (hfin _ _ _ _ hR2 (hx.trans (Ext.drew (Ext.refl _))) (Hq.out.trans (by rw [show ((8 + n + nz : Nat) : Int) = (8 : Int) + n + nz by omega]))))
                      · have Hq := Lib.hid (Hp.out.trans (hlv.trans (hE2.out ht)))
                        have ht' : ¬ (8 : Int) + n + nz < s.size := by omega
                        clear hlv ht
                        obtain ⟨r2, r3⟩ := hR.read (.int .i64 z) (.slice (some ⟨g, 0, none⟩) n cap)
                        go_wp2
                        exact bodyPost_ret (v := .tuple #[.agg #[.int .i64 z, .slice (some ⟨g, 0, none⟩) n cap], .int .i64 0, .int .i64 0]) (by simp [results, Tryz.results34, go_sem, r2, r3]) rfl
                          (RLoadPost.yes Hq.out (by rw [hacc]) ((hA'.far (by simp; omega) _).far (by simp; omega) _) ((hx.setCell (Nat.le_refl _) _).setCell (Nat.le_refl _) _))
            · have Hm := Lib.hid (hm0.trans (head_count h6 (by rw [hz]; simp) h8 hc))
              have hcc : ((twoF s 6 : Int) < 1 ∨ 1 ≤ (twoF s 6 : Int) ∧ 200 < (twoF s 6 : Int)) := by omega
              clear hm0 hz
              go_wp2_with fail
              refine (hT6 _).mono ?_
              rintro e w3 ⟨rfl, n6, rfl⟩
              replace hR := hR.ext ((Ext.refl W2).drewN n6)
              replace hx := hx.drewN n6
              clear c0 c1 f0 f1 b0 b1 g0 g1 r0 r1
              generalize W2.drewN n6 = W3 at *
              obtain ⟨c0, c1, f0, f1⟩ := hR.cells
              obtain ⟨r0, r1⟩ := hR.read (.int .i64 0) (.slice none 0 0)
              rcases hcc with hcc | ⟨hcc, hcd⟩
              all_goals (
                go_wp2
                exact bodyPost_ret (v := .tuple #[.agg #[.int .i64 0, .slice none 0 0], .int .i64 6, .int .i64 12]) (by simp [results, Tryz.results34, go_sem, r0, r1]) rfl (hfin _ _ _ _ hR hx Hm.out))
end
section
open Go.RowKit
set_option linter.unusedVariables false
set_option maxRecDepth 20000

theorem nthL_is {w : World} {A g size cap : Nat} {l : List ByteArray} {lv : List UInt8} (h : Sp w A g size l lv cap) (k : Nat) (hk : k < l.length) : (nthL lv k).toNat = levP size (nthB l k) := by
  obtain ⟨hv, hz⟩ := h.good k hk
  have h8 : levP size (nthB l k) ≤ 8 := by rw [← hz]; exact levP_le hv
  rw [h.lev k hk]
  simp
  omega
theorem pageK (A g size cap : Nat) (l : List ByteArray) (lv : List UInt8) (k : Nat) (w : World) (h : Sp w A g size l lv cap) (hk : k < l.length) :
    Calls Tryz.prog 25 #[.pointer (some ⟨A, 0, none⟩), .int .i64 k] w fun e w' => e = .returned (.tuple #[.string (nthB l k), .int .i64 0]) ∧ w = w' := by
  have hle := h.le
  have := page_is A lv size (some ⟨g, 0, none⟩) l.length cap l k w h.ar h.sls rfl (by omega)
  rw [if_pos ⟨by omega, by omega⟩] at this
  simpa using this
theorem levelK (A g size cap : Nat) (l : List ByteArray) (lv : List UInt8) (k : Nat) (w : World) (h : Sp w A g size l lv cap) (hk : k < l.length) :
    Calls Tryz.prog 27 #[.pointer (some ⟨A, 0, none⟩), .int .i64 k] w fun e w' => e = .returned (.tuple #[.int .i64 (levP size (nthB l k)), .int .i64 0]) ∧ w = w' := by
  have hle := h.le
  have := level_is A lv size (some ⟨g, 0, none⟩) l.length cap k w h.ar hle
  rw [if_pos ⟨by omega, by omega⟩, Int.toNat_natCast, nthL_is h k hk] at this
  exact this
set_option maxHeartbeats 2000000 in
theorem agree_yes (A g size cap : Nat) (l : List ByteArray) (lv : List UInt8) (P : Option Addr) (capR : Nat) (w : World) (h : Sp w A g size l lv cap) (hr : RAr w P size l) :
    Calls Tryz.prog 32 #[.pointer (some ⟨A, 0, none⟩), .agg #[.int .i64 size, .slice P l.length capR]] w fun e w' => e = .returned (.bool true) ∧ Ext w w' := by
  have hle := h.le
  have hx0 := (Ext.refl w).alloc (.cells #[.int .i64 size, .slice P l.length capR] 28)
  have hB := RCell.new w (.int .i64 size) (.slice P l.length capR)
  have hS := fun W hW => size_is A lv size (.slice (some ⟨g, 0, none⟩) l.length cap) W hW
  have hP := fun W hW => pages_is A lv size (some ⟨g, 0, none⟩) l.length cap W hW
  have hF := fun W hW => sfree_any A g size cap l lv W hW
  have hG := fun W hW => refFree7 P size capR l W hW
  have hb := sumRoom_le l (fun i hi => (h.good i hi).1) l.length (Nat.le_refl _)
  generalize sumRoom l l.length = sm at *
  go_enter Tryz.func32, Tryz.ntmps32
  go_wp2
  have h0 := h.ext hx0
  have hr0 := hr.ext hx0
  clear h hr
  generalize w.alloc (.cells #[.int .i64 size, .slice P l.length capR] 28) = W0 at *
  generalize w.heap.size = B at *
  obtain ⟨b0, b1, g0, g1⟩ := hB.cells
  go_region_with (first
    | (go_at_call 18; refine (hS _ (by exact h0.ar.ext (Ext.drew (Ext.refl _)))).mono ?_; rintro e w1 ⟨rfl, rfl⟩)
    | (go_at_call 66; refine (hP _ (by exact h0.ar.ext (Ext.drew (Ext.refl _)))).mono ?_; rintro e w1 ⟨rfl, rfl⟩)
    | (go_at_call 75; refine (hF _ (by exact h0.ext (Ext.drew (Ext.refl _)))).mono ?_; rintro e w4 ⟨rfl, hx4⟩; obtain ⟨d0, d1, _, _⟩ := (hB.ext ((Ext.drew (Ext.refl _)).trans hx4)).cells)
    | (go_at_call 76; refine (hG _ (hr0.ext ((Ext.drew (Ext.refl _)).trans hx4))).mono ?_; rintro e w5 ⟨rfl, hx5⟩))
  all_goals (
    have hx5' := (Ext.drew (Ext.refl W0)).trans (hx4.trans hx5)
    have h5 := h0.ext hx5'
    have hr5 := hr0.ext hx5'
    have hB5 := hB.ext hx5'
    replace hx0 := hx0.trans hx5'
    clear hx5 hx4 hx5' hB h0 hr0
    go_wp2
    go_loopw [5] (fun i wr => ∃ k : Nat, k ≤ l.length ∧ i = .int .i64 k ∧ Ext w5 wr) (fun i _ => l.length - (intOf i).toNat)
    case atStart => exact ⟨0, by omega, rfl, Ext.refl _⟩
    case round =>
      obtain ⟨k, hk, rfl, hx⟩ := hrel
      have h6 := h5.ext hx
      have hr6 := hr5.ext hx
      have hB6 := hB5.ext hx
      have hx6 := hx0.trans hx
      clear h5 hr5 hB5
      obtain ⟨b0, b1, g0, g1⟩ := hB6.cells
      by_cases hlt : k < l.length
      · obtain ⟨b, off, rfl, hc⟩ := hr6.sls.at_ k hlt
        have hLk := nthL_is h6 k hlt
        have hPg := pageK A g size cap l lv k _ h6 hlt
        have hLv := levelK A g size cap l lv k _ h6 hlt
        have hRL := refLevel7 (some ⟨b, off, none⟩) size capR l k _ hr6 hlt
        have c9 : (k : Int) < l.length := by omega
        generalize levP size (nthB l k) = m at *
        generalize nthB l k = p at *
        go_wp2_with (first
          | (go_at_call 25; refine hPg.mono ?_; rintro e w7 ⟨rfl, rfl⟩)
          | (go_at_call 27; refine hLv.mono ?_; rintro e w7 ⟨rfl, rfl⟩)
          | (go_at_call 28; refine hRL.mono ?_; rintro e w8 ⟨rfl, hx8⟩; have q1 := hx8.cell b1; have q2 := hx8.cell hc))
        go_roundw
        case rel => exact ⟨k + 1, by omega, by go_num, hx.trans hx8⟩
        case measure => simp [intOf]; omega
      · obtain rfl : k = l.length := by omega
        go_wp2
        go_ret
        exact ⟨rfl, hx6⟩)
end
section
open Go.RowKit
set_option linter.unusedVariables false
set_option linter.unusedSimpArgs false
set_option maxRecDepth 20000

/-- the first line of an empty page -/
theorem put_first (p s : ByteArray) (hv : ValidR p) (h0 : cnt p = 0) (hs : s.toList ≠ []) (hz : (s.size : Int) + 6 ≤ p.size) :
    holdsB p s.size = true ∧ ∃ q, ValidR q ∧ q.size = p.size ∧ (∀ w, Calls Tryz.prog 77 #[.string p, .string s] w fun e w' => e = put3 (q, 1, 0) ∧ Ext w w') ∧
      (∀ w, Calls Tryz.prog 56 #[.string q, .int .i64 1] w fun e w' => e = two2 (s, 0) ∧ Ext w w') := by
  have hG := cel_good hv
  obtain ⟨z1, z2⟩ := sizes_of hv
  have hn : nextF (cel p) (cnt p) = 1 := by rw [h0]; rfl
  have hp : PosI (cnt p) (cel p) (nextF (cel p) (cnt p)) 0 := ⟨Nat.zero_le _, fun i hi => by omega, fun i h1 h2 => by omega⟩
  have hs0 : 0 < s.size := by have h := hs; rw [ne_eq, toList_nil] at h; omega
  have hh : holdsB p s.size = true := by
    unfold holdsB topLine
    rw [hn, h0]
    simp [lastF, bytesF]
    omega
  have hh2 := hh
  unfold holdsB topLine at hh2
  simp only [Bool.and_eq_true, decide_eq_true_eq] at hh2
  have hroom := roomF_ins hp (by omega) s p.size
  have hr : ¬ roomF p.size (insF (cel p) 0 (nextF (cel p) (cnt p), s)) (cnt p + 1) < 0 := by
    rw [hroom]
    omega
  have e : putRes p.size (cnt p) (cel p) 0 s = ((filledRes p.size (cnt p + 1) (insF (cel p) 0 (nextF (cel p) (cnt p), s))).1, ((nextF (cel p) (cnt p) : Nat) : Int), 0) := by
    unfold putRes filledRes
    rw [if_pos hh2.1, if_neg hr]
    simp only [hr, if_false]
  obtain ⟨e1, e2, e3, e4⟩ := filled_valid p.size (cnt p + 1) _ (ins_good hG hp ⟨by omega, by omega⟩ (next_miss hG) s hs0) hv.1.1 (by unfold filledRes; rw [if_neg hr])
  refine ⟨hh, _, e2, e1, fun w => ?_, fun w => ?_⟩
  · have := put_ok p s w hv hs (by omega) 0 hp
    rw [e, hn] at this
    rw [hn]
    exact this
  · refine get_rel _ 1 (s, 0) w e2 ⟨by omega, by omega⟩ (.inl ⟨0, by omega, ?_, ?_⟩)
    · rw [e4 0 (by omega)]
      simp [insF, hn]
    · rw [e4 0 (by omega)]
      simp [insF]
set_option maxHeartbeats 1000000 in
theorem sawake_any (w : World) : Calls Tryz.prog 9 #[] w fun e w' => e = .returned (.bool true) ∧ Ext w w' := by
  have hz : sizeB ((32 : Nat) : Int) = true := by decide
  obtain ⟨hv, hs, hc, _⟩ := newP_ok 32 hz
  have hNew := fun W => newArea_yes 32 2 W hz (by omega) (by omega)
  have h97 : (⟨#[97, 98, 99]⟩ : ByteArray).toList ≠ [] := by rw [ne_eq, toList_nil]; decide
  obtain ⟨hh, q, hqv, hqz, hPut, hGet⟩ := put_first (newP 32) ⟨#[97, 98, 99]⟩ hv hc h97 (by rw [hs]; decide)
  have hl : List.replicate 2 (newP 32) = [newP 32, newP 32] := rfl
  have hF : FindR [newP 32, newP 32] 1 3 (1, 0) := .inl ⟨0, by simp, hh, fun j hj => by omega, by simp⟩
  simp only [hl] at hNew
  have hn1 : nthB [newP 32, newP 32] 1 = newP 32 := rfl
  have hn2 : nthB ([newP 32, newP 32].set 1 q) 1 = q := rfl
  have hl2 : [newP 32, newP 32].set 1 q = [newP 32, q] := rfl
  rw [hs] at hqz
  have hPutA : ∀ A g lv cap W, Sp W A g 32 [newP 32, newP 32] lv cap → Calls Tryz.prog 33 #[.pointer (some ⟨A, 0, none⟩), .int .i64 1, .string ⟨#[97, 98, 99]⟩] W fun e w' => e = .returned (.tuple #[.agg #[.int .i64 1, .int .i64 1], .int .i64 0]) ∧ (∃ lv', Sp w' A g 32 [newP 32, q] lv' cap) ∧ Chg A g W w' := fun A g lv cap W hS =>
    sput_yes A g 32 cap _ lv 1 ⟨#[97, 98, 99]⟩ W hS h97 1 (by simp) (fun W' hW => find_main A g 32 cap _ lv 1 3 W' hW (by simp) (by omega) (by omega) _ hF) q 1 hqv hqz (fun W' => by rw [hn1]; exact hPut W')
  have hGetA : ∀ A g lv cap W, Sp W A g 32 [newP 32, q] lv cap → Calls Tryz.prog 15 #[.pointer (some ⟨A, 0, none⟩), .agg #[.int .i64 1, .int .i64 1]] W fun e w' => e = .returned (.tuple #[.string ⟨#[97, 98, 99]⟩, .int .i64 0]) ∧ Ext W w' := fun A g lv cap W hS =>
    sget_in A g 32 cap _ lv 1 1 W hS 1 (by simp) rfl (⟨#[97, 98, 99]⟩, 0) (fun W' => hGet W')
  clear h97 hF hn1 hn2 hl2 hPut hGet hh hl hz hv hs hc hqv hqz
  generalize newP 32 = p at *
  go_enter Tryz.func9, Tryz.ntmps9
  go_wp2_with fail
  refine (hNew _).mono ?_
  rintro e w1 ⟨A, g, lv, cap, rfl, hS, hA, hg, hx1⟩
  go_wp2_with fail
  refine (hPutA _ _ _ _ _ hS).mono ?_
  rintro e w2 ⟨rfl, ⟨lv2, hS2⟩, hc2⟩
  have hx2 := Chg.ext hx1 hc2 hA hg
  have hS3 := hS2.ext ((Ext.refl w2).alloc (.cells #[.int .i64 1, .int .i64 1] 33))
  have hx3 := hx2.alloc (.cells #[.int .i64 1, .int .i64 1] 33)
  go_wp2_with (go_at_call 15; refine (hGetA _ _ _ _ _ hS3).mono ?_; rintro e w4 ⟨rfl, hx4⟩; obtain ⟨r0, r1, f0, f1⟩ := addr_box _ _ hx4)
  go_ret
  exact ⟨rfl, hx3.trans hx4⟩
end
section
open Go.RowKit
set_option linter.unusedVariables false
set_option maxRecDepth 20000
set_option linter.unusedSimpArgs false
set_option maxRecDepth 20000

/-- an error and no area, or no error and an area -/
def CodeOk (r : LdR) : Prop := (r.2.2 = none ∧ r.2.1 ≠ 0) ∨ (r.2.2 ≠ none ∧ r.2.1 = 0)
theorem CodeOk.no (a : Int) : CodeOk (a, 12, none) := .inl ⟨rfl, (by simp)⟩
theorem levS_code (s : ByteArray) (n size : Nat) (l : List ByteArray) : ∀ d i, CodeOk (levS s n size l d i)
  | 0, i => by
    by_cases h : 8 + n + n * size < s.size
    · rw [lev_long h]; exact .no _
    · rw [lev_end h]; exact .inr ⟨by simp, rfl⟩
  | d + 1, i => by
    by_cases h : bt s (8 + i) = levP size (nthB l i)
    · rw [lev_yes h]; exact levS_code s n size l d (i + 1)
    · rw [lev_no h]; exact .no _
theorem pageS_code (s : ByteArray) (hs : s.size ≤ 140737488355328) (n size : Nat) : ∀ d i l, CodeOk (pageS s hs n size d i l)
  | 0, i, l => levS_code s n size l n 0
  | d + 1, i, l => by
    by_cases h : s.size < 8 + n + i * size + size
    · rw [page_short h]; exact .no _
    · by_cases h1 : ValidR (pageAt s n size i)
      · rw [page_yes h h1]; exact pageS_code s hs n size d (i + 1) _
      · rw [page_no h h1]; exact .no _
theorem headS_code (s : ByteArray) (hs : s.size ≤ 140737488355328) : CodeOk (headS s hs) := by
  by_cases h : s.size < 6
  · rw [head_six h]; exact .no _
  · by_cases h1 : sizeB (twoF s 4) = false
    · rw [head_size h h1]; exact .no _
    · by_cases h2 : s.size < 8
      · rw [head_eight h h1 h2]; exact .no _
      · by_cases h3 : 1 ≤ twoF s 6 ∧ twoF s 6 ≤ 200
        · rw [head_ok h h1 h2 h3]; exact pageS_code _ _ _ _ _ _ _
        · rw [head_count h h1 h2 h3]; exact .no _
theorem markS_code (s : ByteArray) (hs : s.size ≤ 140737488355328) : ∀ d i, CodeOk (markS s hs d i)
  | 0, i => headS_code s hs
  | d + 1, i => by
    by_cases h : i < s.size ∧ bt s i = markB i
    · rw [markS_yes h.1 h.2]; exact markS_code s hs d (i + 1)
    · rw [markS_no h]; exact .no _
theorem loadF_code (s : ByteArray) (hs : s.size ≤ 140737488355328) : CodeOk (loadF s hs) := by
  by_cases h : 900000 < s.size
  · rw [show loadF s hs = (0, 3, none) from if_pos h]; exact .inl ⟨rfl, (by simp)⟩
  · rw [show loadF s hs = markS s hs 4 0 from if_neg h]; exact markS_code s hs 4 0
end
end Go.Proofs.YtnileonlabpbpaaGreat
