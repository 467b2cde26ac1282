/- SpI; SpJ (merged by group.py) -/
import Derived.Test.YtnileonlabpbpaaGreatQ12
namespace Go.Proofs.YtnileonlabpbpaaGreat
section
open Go.RowKit
set_option linter.unusedVariables false
set_option maxRecDepth 20000

/-- how Load ends -/
def LoadPost (w : World) (r : LdR) (e : Ending) (w' : World) : Prop :=
  ∃ ptr, e = .returned (.tuple #[ptr, .int .i64 r.1, .int .i64 r.2.1]) ∧ Ext w w' ∧
    match r.2.2 with
    | none => ptr = .pointer none
    | some (size, l) => ∃ A g lv cap, ptr = .pointer (some ⟨A, 0, none⟩) ∧ Sp w' A g size l lv cap ∧ w.heap.size ≤ A ∧ w.heap.size ≤ g
theorem LoadPost.no {w w' : World} {r : LdR} {a c : Int} {e : Ending} (hr : r = (a, c, none)) (he : e = .returned (.tuple #[.pointer none, .int .i64 a, .int .i64 c])) (hx : Ext w w') : LoadPost w r e w' := by
  subst hr
  exact ⟨_, he, hx, rfl⟩
theorem LoadPost.yes {w w' : World} {r : LdR} {size A g cap : Nat} {l : List ByteArray} {lv : List UInt8} {e : Ending} (hr : r = (0, 0, some (size, l))) (he : e = .returned (.tuple #[.pointer (some ⟨A, 0, none⟩), .int .i64 0, .int .i64 0]))
    (hS : Sp w' A g size l lv cap) (hA : w.heap.size ≤ A) (hg : w.heap.size ≤ g) (hx : Ext w w') : LoadPost w r e w' := by
  subst hr
  exact ⟨_, he, hx, A, g, lv, cap, rfl, hS, hA, hg⟩

def MarkRel (s : ByteArray) (hs : s.size ≤ 140737488355328) (w : World) (i : Value) (wr : World) : Prop :=
  ∃ k : Nat, k ≤ 4 ∧ i = .int .i64 k ∧ Rdr wr w.heap.size s k ∧ k ≤ s.size ∧ markS s hs 4 0 = markS s hs (4 - k) k ∧ Ext w wr

def PageRel (s : ByteArray) (hs : s.size ≤ 140737488355328) (w : World) (A g z n cap : Nat) (i : Value) (wr : World) : Prop :=
  ∃ (k : Nat) (acc : List ByteArray) (lv : List UInt8), k ≤ n ∧ i = .int .i64 k ∧ acc.length = k ∧ (k = 0 ∨ 8 + n + k * z ≤ s.size) ∧ Sp wr A g z (acc ++ List.replicate (n - k) (newP z)) lv cap ∧ pageS s hs n z n 0 [] = pageS s hs n z (n - k) k acc ∧ Ext w wr

set_option maxHeartbeats 1000000 in
theorem load_any (s : ByteArray) (hs : s.size ≤ 140737488355328) (w : World) :
    Calls Tryz.prog 31 #[.string s] w (LoadPost w (loadF s hs)) := by
  by_cases hbig : 900000 < s.size
  · have d1 : (900000 : Int) < s.size := by omega
    have e : loadF s hs = (0, 3, none) := if_pos hbig
    have He := Lib.hid e
    clear e
    go_enter Tryz.func31, Tryz.ntmps31
    go_wp2
    go_ret3
    exact LoadPost.no He.out rfl (Ext.refl w)
  have d1 : ¬ (900000 : Int) < s.size := by omega
  have e0 : loadF s hs = markS s hs 4 0 := if_neg hbig
  rw [e0]
  clear e0 hbig
  have hR0 : Rdr (w.alloc (.cells #[.string s, .int .i64 0] 105)) w.heap.size s 0 := World.alloc_heap_new w _
  have hx0 := (Ext.refl w).alloc (.cells #[.string s, .int .i64 0] 105)
  go_enter Tryz.func31, Tryz.ntmps31
  go_wp2
  go_loopw [24, 6, 7] (fun i _ _ wr => MarkRel s hs w i wr) (fun i _ _ _ => 4 - (intOf i).toNat)
  case atStart => exact ⟨0, by omega, rfl, hR0, by omega, rfl, hx0⟩
  case round =>
    obtain ⟨k, hk, rfl, hR, hks, hm, hx⟩ := hrel
    by_cases hlt : k < 4
    · obtain ⟨d, hd⟩ : ∃ d, 4 - k = d + 1 := ⟨3 - k, by omega⟩
      have hd2 : 4 - (k + 1) = d := by omega
      rw [hd] at hm
      have hRl := (Array.getElem?_eq_some_iff.1 hR).1
      have hmin : min (k : Int) s.size = k := by omega
      have hko : ∀ h, ((⟨#[65, 82, 69, 65]⟩ : ByteArray)[k]'h).toNat = markB k := by
        have h4 : k = 0 ∨ k = 1 ∨ k = 2 ∨ k = 3 := by omega
        rcases h4 with rfl | rfl | rfl | rfl <;> intro h <;> rfl
      have hmb : markB k ≤ 82 := by
        have h4 : k = 0 ∨ k = 1 ∨ k = 2 ∨ k = 3 := by omega
        rcases h4 with rfl | rfl | rfl | rfl <;> decide
      have hmk := hko (by show k < 4; exact hlt)
      have hmw : wrap64 (markB k : Int) = markB k := wrap_byte _ (by omega)
      have c4 : (k : Int) < 4 := by omega
      clear hko
      by_cases hb : k < s.size
      · have hB := byte_next w.heap.size s k wr hR hb hs
        have hbl := bt_lt s k
        by_cases he : bt s k = markB k
        · have Hm := Lib.hid (hm.trans (markS_yes hb he))
          rw [← hd2] at Hm
          rw [he] at hB
          clear hm he hmin hbl hd hd2
          generalize markB k = m at *
          go_wp2_with (go_at_call 68; refine hB.mono ?_; rintro e w1 ⟨rfl, hR1, hu1⟩)
          exact ⟨⟨k + 1, by omega, by go_num, hR1, by omega, Hm.out, Upd.ext hx hu1 (Nat.le_refl _)⟩, by simp [intOf]; omega⟩
        · have Hm := Lib.hid (hm.trans (markS_no (fun h => he h.2)))
          clear hm hd hd2
          have hnn : ((bt s k : Int) != (markB k : Int)) = true := by simp; omega
          generalize bt s k = v at *
          generalize markB k = m at *
          clear he
          go_wp2_with (go_at_call 68; refine hB.mono ?_; rintro e w1 ⟨rfl, hR1, hu1⟩)
          go_ret3
          exact LoadPost.no Hm.out rfl (Upd.ext hx hu1 (Nat.le_refl _))
      · have Hm := Lib.hid (hm.trans (markS_no (fun h => hb h.1)))
        have hB := byte_end w.heap.size s k wr hR (by omega) (by omega)
        clear hm hd hd2
        generalize markB k = m at *
        have hnn : ((-1 : Int) != (m : Int)) = true := by simp
        go_wp2_with (go_at_call 68; refine hB.mono ?_; rintro e w1 ⟨rfl, hR1, hu1⟩)
        all_goals (
          go_ret3
          exact LoadPost.no Hm.out rfl (Upd.ext hx hu1 (Nat.le_refl _)))
    · obtain rfl : k = 4 := by omega
      have hRl := (Array.getElem?_eq_some_iff.1 hR).1
      have hm0 : markS s hs 4 0 = headS s hs := hm
      clear hm
      have e1 := enters_of Tryz.func70 (by kernel_rfl) rfl
      have e2 := enters_of Tryz.func72 (by kernel_rfl) rfl
      have t1 : twoF s 4 ≤ 65535 := by have := twoF_lt s 4; omega
      have t2 : twoF s 6 ≤ 65535 := by have := twoF_lt s 6; omega
      by_cases h6 : s.size < 6
      · have Hm := Lib.hid (hm0.trans (head_six h6))
        have hN := number_end w.heap.size s 4 (.func (.func 70) #[] #[]) wr hR (by omega) (by omega) hs
        clear hm0 e1 e2
        go_wp2_with (go_at_call 69; refine hN.mono ?_; rintro e w1 ⟨rfl, hR1, hu1⟩; obtain ⟨c0, c1, f0, f1⟩ := hR1.cells)
        go_quiet (fail)
        go_wp2
        go_ret3
        exact LoadPost.no Hm.out rfl ((Upd.ext hx hu1 (Nat.le_refl _)).drewN _)
      · have hN1 := number_in w.heap.size s 4 70 (sizeB (twoF s 4)) wr hR (by omega) hs e1 (fun W => load1_any (twoF s 4) W t1)
        cases hz : sizeB (twoF s 4) with
        | false =>
          have Hm := Lib.hid (hm0.trans (head_size h6 hz))
          rw [hz] at hN1
          simp only [Bool.false_eq_true, if_false] at hN1
          clear hm0 e1 e2 hz
          go_wp2_with (go_at_call 69; refine hN1.mono ?_; rintro e w1 ⟨rfl, hR1, hu1⟩; obtain ⟨c0, c1, f0, f1⟩ := hR1.cells)
          go_quiet (fail)
          go_wp2
          go_ret3
          exact LoadPost.no Hm.out rfl ((Upd.ext hx hu1 (Nat.le_refl _)).drewN _)
        | true =>
          rw [hz] at hN1
          simp only [if_true] at hN1
          by_cases h8 : s.size < 8
          · have Hm := Lib.hid (hm0.trans (head_eight h6 (by rw [hz]; simp) h8))
            have hN2 := fun W hW => number_end w.heap.size s 6 (.func (.func 72) #[] #[]) W hW (by omega) (by omega) hs
            clear hm0 e1 e2 hz
            go_wp2_with fail
            refine hN1.mono ?_
            rintro e w1 ⟨rfl, hR1, hu1⟩
            go_wp2_with fail
            refine (hN2 _ hR1).mono ?_
            rintro e w2 ⟨rfl, hR2, hu2⟩
            obtain ⟨c0, c1, f0, f1⟩ := hR2.cells
            go_wp2
            go_quiet (fail)
            go_wp2
            go_ret3
            exact LoadPost.no Hm.out rfl ((Upd.ext hx (hu1.trans hu2) (Nat.le_refl _)).drewN _)
          · have hN2 := fun W hW => number_in w.heap.size s 6 72 (decide (1 ≤ twoF s 6 ∧ twoF s 6 ≤ 200)) W hW (by omega) hs e2 (fun W => load2_any (twoF s 6) W t2)
            by_cases hc : 1 ≤ twoF s 6 ∧ twoF s 6 ≤ 200
            · have Hm := Lib.hid (hm0.trans (head_ok h6 (by rw [hz]; simp) h8 hc))
              rw [decide_eq_true hc] at hN2
              simp only [if_true] at hN2
              have hbd : 32 ≤ twoF s 4 ∧ twoF s 4 ≤ 4096 := by simp [sizeB] at hz; omega
              have hNew := fun W => newArea_yes (twoF s 4) (twoF s 6) W hz hc.1 hc.2
              clear hm0 e1 e2
              obtain ⟨hc1, hc2⟩ := hc
              have t3 : s.size ≤ 900000 := by omega
              generalize twoF s 4 = z at *
              generalize twoF s 6 = n at *
              go_wp2_with fail
              refine hN1.mono ?_
              rintro e w1 ⟨rfl, hR1, hu1⟩
              go_wp2_with fail
              refine (hN2 _ hR1).mono ?_
              rintro e w2 ⟨rfl, hR2, hu2⟩
              have hx2 := Upd.ext hx (hu1.trans hu2) (Nat.le_refl _)
              clear hN1 hN2
              go_wp2_with (go_at_call 35; refine (hNew _).mono ?_; rintro e w3 ⟨A, g, lv, cap, rfl, hS, hA, hg, hx3⟩)
              have hx4 := hx2.trans hx3
              have hwA : w.heap.size ≤ A := Nat.le_trans hx2.size hA
              have hwg : w.heap.size ≤ g := Nat.le_trans hx2.size hg
              go_loopw [68, 2] (fun i u wr => u = .pointer (some ⟨A, 0, none⟩) ∧ PageRel s hs w A g z n cap i wr) (fun i _ _ => n - (intOf i).toNat)
              case atStart => exact ⟨rfl, 0, [], lv, by omega, rfl, rfl, .inl rfl, by simpa using hS, rfl, hx4⟩
              case round =>
                obtain ⟨rfl, k, acc, lv', hk, rfl, hacc, hlong, hSk, hpk, hxk⟩ := hrel
                by_cases hkn : k < n
                · obtain ⟨d, hd⟩ : ∃ d, n - k = d + 1 := ⟨n - k - 1, by omega⟩
                  have hd2 : n - (k + 1) = d := by omega
                  rw [hd] at hpk hSk
                  have hkz : k * z ≤ 819200 := Nat.le_trans (Nat.mul_le_mul (show k ≤ 200 by omega) hbd.2) (by omega)
                  have hkc : ((k : Int) * (z : Int)) = ((k * z : Nat) : Int) := by simp
                  have hpl := pageAt_le s hs n z k
                  have hpd : pageAt s n z k = s.extract (8 + n + k * z) (8 + n + k * z + z) := rfl
                  by_cases hsh : s.size < 8 + n + k * z + z
                  · have Hp := Lib.hid ((Hm.out.trans hpk).trans (page_short (i := k) hsh))
                    generalize k * z = kz at *
                    clear hpk hpd
                    have hsh' : (s.size : Int) < 8 + n + kz + z := by omega
                    go_wp2
                    go_ret3
                    exact LoadPost.no Hp.out rfl hxk
                  · have hWN := wrong_prog (pageAt s n z k) hpl
                    have hWok := (wrongN_is (pageAt s n z k) hpl).ok
                    have hWle := wrongN_le (pageAt s n z k) hpl
                    have hpz : (pageAt s n z k).size = z := by rw [hpd, ByteArray.size_extract]; omega
                    have hsl : (s.size : Int) ≥ 8 + n + (k * z : Nat) + z := by omega
                    have k3 : s.extract (((8 : Int) + n + (k * z : Nat)).toNat) (((8 : Int) + n + (k * z : Nat) + z).toNat) = pageAt s n z k := by
                      rw [hpd, show ((8 : Int) + n + (k * z : Nat)).toNat = 8 + n + k * z by omega, show ((8 : Int) + n + (k * z : Nat) + z).toNat = 8 + n + k * z + z by omega]
                    have hsl := fun wx => run_slice_string (P := Tryz.prog) wx 9 s .i64 .i64 ((8 : Int) + n + (k * z : Nat)) ((8 : Int) + n + (k * z : Nat) + z) Tryz.underlying9 (by omega) (by omega) (by omega)
                    rw [k3] at hsl
                    clear k3
                    by_cases hv : ValidR (pageAt s n z k)
                    · have Hp := Lib.hid (hpk.trans (page_yes (i := k) hsh hv))
                      rw [← hd2] at Hp
                      have hqc := fun W hW => sp_store (w := W) (A := A) (g := g) (size := z) (cap := cap) (lv := lv') (l := acc ++ List.replicate (d + 1) (newP z)) hW k (by simp; omega) (pageAt s n z k) hv hpz
                      have hset : (acc ++ List.replicate (d + 1) (newP z)).set k (pageAt s n z k) = (acc ++ [pageAt s n z k]) ++ List.replicate (n - (k + 1)) (newP z) := by
                        rw [hd2, ← hacc, List.replicate_succ]
                        simp
                      simp only [hset] at hqc
                      have hWz := hWok.2 hv
                      rw [hWz] at hWN
                      clear hWz
                      have hle := hSk.le
                      have c1 : (k : Int) < ((acc ++ List.replicate (d + 1) (newP z)).length : Nat) := by simp; omega
                      have g4 := hSk.own.frozenAt k
                      have g1 := hSk.ar.pagesC
                      generalize (wrongN (pageAt s n z k) hpl).1 = wa at *
                      generalize pageAt s n z k = p at *
                      have hlong' : k + 1 = 0 ∨ 8 + n + (k + 1) * z ≤ s.size := .inr (by rw [Nat.succ_mul]; omega)
                      generalize hkzE : k * z = kz at *
                      have hsh' : ¬ (s.size : Int) < 8 + n + kz + z := by omega
                      clear hsh hpk hpd hset hpz hWle hWok hkzE hv hd hd2 hkz
                      go_wp2_with fail
                      refine (hWN _).mono ?_
                      rintro e w5 ⟨rfl, hx5⟩
                      have hS5 := hSk.ext hx5
                      have g3 := hS5.ar.pagesC
                      have f4 := hS5.own.frozenAt k
                      have g5 := nthCell hS5 k (by simp; omega)
                      clear g1 g4
                      go_wp2_with fail
                      refine (hqc _ hS5).mono ?_
                      rintro e w6 ⟨rfl, ⟨lv6, hS6⟩, hc6⟩
                      have hx6 := Chg.ext (hxk.trans hx5) hc6 hwA hwg
                      go_wp2
                      go_roundw
                      case rel => exact ⟨rfl, k + 1, acc ++ [p], lv6, by omega, by go_num, by simp [hacc], hlong', hS6, Hp.out, hx6⟩
                      case measure => simp [intOf]; omega
                    · have Hp := Lib.hid ((Hm.out.trans hpk).trans (page_no (i := k) hsh hv))
                      have hWz : ¬ (wrongN (pageAt s n z k) hpl).2 = 0 := fun h => hv (hWok.1 h)
                      generalize (wrongN (pageAt s n z k) hpl).1 = wa at *
                      generalize (wrongN (pageAt s n z k) hpl).2 = we at *
                      generalize pageAt s n z k = p at *
                      generalize hkzE : k * z = kz at *
                      have hsh' : ¬ (s.size : Int) < 8 + n + kz + z := by omega
                      have d5 : ((we : Int) != 0) = true := by simp; omega
                      have d6 : ((we : Int) == 0) = false := by simp; omega
                      clear hsh hpk hpd hWok hkzE hv hd hd2 hWz
                      go_wp2_with fail
                      refine (hWN _).mono ?_
                      rintro e w5 ⟨rfl, hx5⟩
                      go_wp2
                      go_ret3
                      exact LoadPost.no (a := (8 : Int) + n + kz + wa) (c := 12) (Hp.out.trans (by rw [show (((8 + n + kz : Nat) : Int) + (wa : Int)) = (8 : Int) + n + kz + wa by omega])) rfl (hxk.trans hx5)
                · obtain rfl : n = k := by omega
                  have hl8 : 8 + n + n * z ≤ s.size := by omega
                  have hnz : n * z ≤ 819200 := Nat.le_trans (Nat.mul_le_mul (show n ≤ 200 by omega) hbd.2) (by omega)
                  have hnc : ((n : Int) * (z : Int)) = ((n * z : Nat) : Int) := by simp
                  rw [Nat.sub_self, List.replicate_zero, List.append_nil] at hSk
                  rw [Nat.sub_self] at hpk
                  have hp0 : pageS s hs n z n 0 [] = levS s n z acc n 0 := hpk
                  have Hp := Lib.hid (Hm.out.trans hp0)
                  have hlk := fun i hi => hSk.lev i hi
                  have hgood := hSk.good
                  have hE1 := Lib.hid (lev_long (s := s) (n := n) (size := z) (i := n) (l := acc))
                  have hE2 := Lib.hid (lev_end (s := s) (n := n) (size := z) (i := n) (l := acc))
                  clear hpk hp0 hlong
                  generalize n * z = nz at *
                  go_wp2
                  go_loopw [113, 2] (fun i u W => u = .pointer (some ⟨A, 0, none⟩) ∧ ∃ k : Nat, k ≤ n ∧ i = .int .i64 k ∧ levS s n z acc n 0 = levS s n z acc (n - k) k ∧ Ext wr W) (fun i _ _ => n - (intOf i).toNat)
                  case atStart => exact ⟨rfl, 0, by omega, rfl, rfl, Ext.refl _⟩
                  case round =>
                    obtain ⟨rfl, k, hk, rfl, hlv, hxl⟩ := hrel
                    have hSl := hSk.ext hxl
                    by_cases hkn : k < n
                    · obtain ⟨d, hd⟩ : ∃ d, n - k = d + 1 := ⟨n - k - 1, by omega⟩
                      have hd2 : n - (k + 1) = d := by omega
                      rw [hd] at hlv
                      have hg := get_bt s (8 + k) (by omega)
                      have hb := bt_lt s (8 + k)
                      have g1 := hSl.ar.level k (by omega)
                      have hlt9 : levP z (nthB acc k) ≤ 8 := by
                        obtain ⟨q1, q2⟩ := hgood k (by omega)
                        rw [← q2]; exact levP_le q1
                      have hlk' : (nthL lv' k).toNat = levP z (nthB acc k) := by
                        rw [hlk k (by omega)]
                        simp
                        omega
                      rw [hlk'] at g1
                      have c1 : (k : Int) < n := by omega
                      have c2 : (k : Int) < 200 := by omega
                      have c3 : (8 : Int) + k < s.size := by omega
                      have k1 : IntKind.i64.wrap ((8 : Int) + k) = 8 + k := IntWalk.i64_in _ ⟨by omega, by omega⟩
                      have k2 : ((8 : Int) + k).toNat = 8 + k := by omega
                      have hix : ∀ wx, (Instr.index 9 (.string s) (.int .i64 ((8 : Int) + k))).run Tryz.prog wx = .ok (.int .u8 (bt s (8 + k))) wx := fun wx => by
                        rw [run_index_string (P := Tryz.prog) (w := wx) 9 s .i64 ((8 : Int) + k) Tryz.underlying9, dif_pos ⟨by omega, c3⟩]
                        simp only [k2, hg]
                      by_cases he : bt s (8 + k) = levP z (nthB acc k)
                      · have Hq := Lib.hid (hlv.trans (lev_yes he))
                        rw [← hd2] at Hq
                        rw [he] at hix
                        clear hg k2
                        generalize levP z (nthB acc k) = m at *
                        clear hlv he hlk' hd hd2 hb
                        go_wp2
                        go_quiet (fail)
                        go_wp2
                        go_roundw
                        case rel => exact ⟨rfl, k + 1, by omega, by go_num, Hq.out, hxl.drewN _⟩
                        case measure => simp [intOf]; omega
                      · have Hq := Lib.hid (Hp.out.trans (hlv.trans (lev_no he)))
                        have hne1 : ((bt s (8 + k) : Int) == (levP z (nthB acc k) : Int)) = false := by simp; omega
                        have hne2 : ((bt s (8 + k) : Int) != (levP z (nthB acc k) : Int)) = true := by simp; omega
                        generalize levP z (nthB acc k) = m at *
                        generalize bt s (8 + k) = m2 at *
                        clear hlv he hlk' hd hd2 hb hg k2
                        go_wp2
                        go_quiet (fail)
                        go_wp2
                        go_ret3
                        exact LoadPost.no (a := (8 : Int) + k) (c := 12) (Hq.out.trans (by rw [show ((8 + k : Nat) : Int) = (8 : Int) + k by omega])) rfl (hxk.trans (hxl.drewN _))
                    · obtain rfl : n = k := by omega
                      rw [Nat.sub_self] at hlv
                      have hxx := hxk.trans hxl
                      by_cases ht : 8 + n + nz < s.size
                      · have Hq := Lib.hid (Hp.out.trans (hlv.trans (hE1.out ht)))
                        have ht' : (8 : Int) + n + nz < s.size := by omega
                        clear hlv ht
                        go_wp2
                        go_ret3
                        exact LoadPost.no (a := (8 : Int) + n + nz) (c := 12) (Hq.out.trans (by rw [show ((8 + n + nz : Nat) : Int) = (8 : Int) + n + nz by omega])) rfl hxx
                      · have Hq := Lib.hid (Hp.out.trans (hlv.trans (hE2.out ht)))
                        have ht' : ¬ (8 : Int) + n + nz < s.size := by omega
                        clear hlv ht
                        go_wp2
                        go_ret3
                        exact LoadPost.yes Hq.out rfl hSl hwA hwg hxx
            · have Hm := Lib.hid (hm0.trans (head_count h6 (by rw [hz]; simp) h8 hc))
              rw [decide_eq_false hc] at hN2
              simp only [Bool.false_eq_true, if_false] at hN2
              clear hm0 e1 e2 hz hc
              go_wp2_with fail
              refine hN1.mono ?_
              rintro e w1 ⟨rfl, hR1, hu1⟩
              go_wp2_with fail
              refine (hN2 _ hR1).mono ?_
              rintro e w2 ⟨rfl, hR2, hu2⟩
              obtain ⟨c0, c1, f0, f1⟩ := hR2.cells
              go_wp2
              go_quiet (fail)
              go_wp2
              go_ret3
              exact LoadPost.no Hm.out rfl ((Upd.ext hx (hu1.trans hu2) (Nat.le_refl _)).drewN _)
end
section
open Go.RowKit
set_option linter.unusedVariables false
set_option maxRecDepth 20000

/-- the pages of a reference area -/
structure RAr (w : World) (P : Option Addr) (size : Nat) (l : List ByteArray) : Prop where
  sls : SlS w P l
  good : ∀ i, i < l.length → ValidR (nthB l i) ∧ (nthB l i).size = size
  le : l.length ≤ 200
  sz : sizeB (size : Int) = true
theorem RAr.ext {w w' : World} {P : Option Addr} {size : Nat} {l : List ByteArray} (h : RAr w P size l) (hx : Ext w w') : RAr w' P size l := ⟨h.sls.ext hx, h.good, h.le, h.sz⟩
theorem RAr.sizes {w : World} {P : Option Addr} {size : Nat} {l : List ByteArray} (h : RAr w P size l) : 32 ≤ size ∧ size ≤ 4096 := by have := h.sz; simp [sizeB] at this; omega

theorem refIs_any (P : Option Addr) (size x : Int) (n cap : Nat) (w : World) (hn : n ≤ 9223372036854775807) :
    Calls Tryz.prog 62 #[.agg #[.int .i64 size, .slice P n cap], .int .i64 x] w fun e w' => e = .returned (.bool (decide (0 ≤ x ∧ x < n))) ∧ Ext w w' := by
  by_cases h0 : 0 ≤ x
  · by_cases h1 : x < n
    · rw [decide_eq_true ⟨h0, h1⟩]
      go_enter Tryz.func62, Tryz.ntmps62
      go_wp2
      go_ret
      exact ⟨rfl, (Ext.refl w).alloc _⟩
    · rw [decide_eq_false (fun h => h1 h.2)]
      go_enter Tryz.func62, Tryz.ntmps62
      go_wp2
      go_ret
      exact ⟨rfl, (Ext.refl w).alloc _⟩
  · rw [decide_eq_false (fun h => h0 h.1)]
    go_enter Tryz.func62, Tryz.ntmps62
    go_wp2
    go_ret
    exact ⟨rfl, (Ext.refl w).alloc _⟩

theorem Boxed0.new (w : World) (x y : Value) : (w.alloc (.cells #[x, y] 28)).cell? ⟨w.heap.size, 0, none⟩ = some x := by
  have h := World.alloc_heap_new w (.cells #[x, y] 28)
  exact (by unfold World.cell?; rw [h]; rfl)
theorem ar_box {w w1 : World} (x y : Value) (hx : Ext (w.alloc (.cells #[x, y] 28)) w1) :
    w1.cell? ⟨w.heap.size, 0, none⟩ = some x ∧ w1.cell? ⟨w.heap.size, 1, none⟩ = some y ∧ w1.frozen? ⟨w.heap.size, 0, none⟩ = false ∧ w1.frozen? ⟨w.heap.size, 1, none⟩ = false := by
  have hb := hx.heap (World.alloc_heap_new w (.cells #[x, y] 28))
  refine ⟨by simp [World.cell?, hb], by simp [World.cell?, hb], by simp [World.frozen?, hb], by simp [World.frozen?, hb]⟩
set_option maxHeartbeats 2000000 in
theorem refRoom7 (P : Option Addr) (size cap : Nat) (l : List ByteArray) (q : Nat) (w : World) (h : RAr w P size l) (hq : q < l.length) :
    Calls Tryz.prog 67 #[.agg #[.int .i64 size, .slice P l.length cap], .int .i64 q] w fun e w' => e = .returned (.int .i64 (roomP (nthB l q))) ∧ Ext w w' := by
  obtain ⟨hv, hz⟩ := h.good q hq
  obtain ⟨b, off, rfl, hc⟩ := h.sls.at_ q hq
  have hle := h.le
  have hc1 : (w.alloc (.cells #[.int .i64 size, .slice (some ⟨b, off, none⟩) l.length cap] 28)).cell? ⟨b, off + q, none⟩ = some (.string (nthB l q)) := ((Ext.refl w).alloc _).cell hc
  have e : roomP (nthB l q) = roomF size (cel (nthB l q)) (cnt (nthB l q)) := by rw [← hz]; rfl
  rw [e]
  have hl := cel_last hv
  have hl0 : -4096 ≤ lastF (cel (nthB l q)) (cnt (nthB l q)) := by rw [hl]; omega
  have hl1 : lastF (cel (nthB l q)) (cnt (nthB l q)) ≤ 4096 := by rw [hl]; have := hv.1.2.1; omega
  obtain ⟨z1, z2⟩ := h.sizes
  have c1 : (q : Int) < l.length := by omega
  have hS := cel_size hv
  have hn := cnt_le hv
  have hC : ∀ W, Calls Tryz.prog 64 #[.string (nthB l q)] W fun e w' => ∃ A cap, e = .returned (.slice A (cnt (nthB l q)) cap) ∧ SlC w' A (cnt (nthB l q)) (cel (nthB l q)) ∧ Ext W w' := fun W =>
    (refCellsOf_any _ W hv).mono (by
      rintro e w2 ⟨v, rfl, hown, hx2⟩
      obtain ⟨A, cap, rfl, hs⟩ := slC_of_row hown
      exact ⟨A, cap, rfl, hs, hx2⟩)
  have hR := fun A cap W hs => refRoom_any size A cap (cnt (nthB l q)) (cel (nthB l q)) W hn hs hS hl0 hl1 (by omega) (by omega)
  clear hl e hc
  generalize cnt (nthB l q) = n at *
  generalize cel (nthB l q) = f at *
  generalize nthB l q = p at *
  go_enter Tryz.func67, Tryz.ntmps67
  go_wp2
  go_region_with (first
    | (go_at_call 64; refine (hC _).mono ?_; rintro e w3 ⟨A, cap', rfl, hs, hx3⟩; have q0 := hx3.cell (Boxed0.new w (.int .i64 size) (.slice (some ⟨b, off, none⟩) l.length cap)))
    | (go_at_call 105; refine (hR A cap' _ hs).mono ?_; rintro e w4 ⟨rfl, rfl⟩))
  all_goals (
    go_wp2
    go_ret
    exact ⟨rfl, (((Ext.refl w).alloc _).drew).trans hx3⟩)

theorem refLevel7 (P : Option Addr) (size cap : Nat) (l : List ByteArray) (q : Nat) (w : World) (h : RAr w P size l) (hq : q < l.length) :
    Calls Tryz.prog 28 #[.agg #[.int .i64 size, .slice P l.length cap], .int .i64 q] w fun e w' => e = .returned (.tuple #[.int .i64 (levP size (nthB l q)), .int .i64 0]) ∧ Ext w w' := by
  obtain ⟨hv, hz⟩ := h.good q hq
  have hle := h.le
  obtain ⟨z1, z2⟩ := h.sizes
  have hI := fun W => refIs_any P size q l.length cap W (by omega)
  have hR := fun W hW => refRoom7 P size cap l q W hW hq
  rw [decide_eq_true ⟨by omega, by omega⟩] at hI
  have hr := roomP_le hv
  have e : (levP size (nthB l q) : Int) = roomP (nthB l q) * 8 / (size : Int) := by
    unfold levP
    exact Int.toNat_of_nonneg (Int.ediv_nonneg (by omega) (by omega))
  rw [e]
  have k1 : IntKind.i64.wrap (roomP (nthB l q) * 8) = roomP (nthB l q) * 8 := IntWalk.i64_in _ ⟨by omega, by omega⟩
  have k2 : (roomP (nthB l q) * 8).tdiv (size : Int) = roomP (nthB l q) * 8 / (size : Int) := Int.tdiv_eq_ediv_of_nonneg (by omega)
  have k3 : ((size : Int) == 0) = false := by simp; omega
  have hb : 0 ≤ roomP (nthB l q) * 8 / (size : Int) ∧ roomP (nthB l q) * 8 / (size : Int) ≤ 40000 := ⟨Int.ediv_nonneg (by omega) (by omega), Int.le_trans (Int.ediv_le_self _ (by omega)) (by omega)⟩
  have k4 : IntKind.i64.wrap (roomP (nthB l q) * 8 / (size : Int)) = roomP (nthB l q) * 8 / (size : Int) := IntWalk.i64_in _ ⟨by omega, by omega⟩
  have k5 : ¬ (size : Int) = 0 := by omega
  clear e hb
  generalize roomP (nthB l q) = r at *
  go_enter Tryz.func28, Tryz.ntmps28
  go_wp2_with (go_at_call 62; refine (hI _).mono ?_; rintro e w1 ⟨rfl, hx1⟩; obtain ⟨c0, c1, f0, f1⟩ := ar_box _ _ hx1)
  have h1 := h.ext (((Ext.refl w).alloc _).trans hx1)
  go_region_with (go_at_call 67; refine (hR _ (h1.ext (Ext.drew (Ext.refl _)))).mono ?_; rintro e w2 ⟨rfl, hx2⟩; have d0 := hx2.cell c0; have d1 := hx2.cell c1)
  all_goals (
    go_wp2
    go_ret2
    exact ⟨rfl, ((((Ext.refl w).alloc _).trans hx1).drew).trans hx2⟩)

theorem refFree7 (P : Option Addr) (size cap : Nat) (l : List ByteArray) (w : World) (h : RAr w P size l) :
    Calls Tryz.prog 76 #[.agg #[.int .i64 size, .slice P l.length cap]] w fun e w' => e = .returned (.int .i64 (sumRoom l l.length)) ∧ Ext w w' := by
  have hle := h.le
  have hgood := fun i hi => (h.good i hi).1
  have hb := sumRoom_le l hgood
  have hR := fun q hq W hW => refRoom7 P size cap l q W hW hq
  go_enter Tryz.func76, Tryz.ntmps76
  go_wp2
  have hx0 := (Ext.refl w).alloc (.cells #[.int .i64 size, .slice P l.length cap] 28)
  go_loopw [3, 4] (fun s i wr => ∃ k : Nat, k ≤ l.length ∧ i = .int .i64 k ∧ s = .int .i64 (sumRoom l k) ∧ Ext (w.alloc (.cells #[.int .i64 size, .slice P l.length cap] 28)) wr) (fun _ i _ => l.length - (intOf i).toNat)
  case atStart => exact ⟨0, by omega, rfl, rfl, Ext.refl _⟩
  case round =>
    obtain ⟨k, hk, rfl, rfl, hx⟩ := hrel
    obtain ⟨c0, c1, f0, f1⟩ := ar_box _ _ hx
    have h1 := h.ext (hx0.trans hx)
    by_cases hlt : k < l.length
    · have hb0 := hb k (by omega)
      have hb1 := hb (k + 1) (by omega)
      have hbb : sumRoom l (k + 1) = sumRoom l k + roomP (nthB l k) := rfl
      rw [hbb] at hb1
      have Hb := Lib.hid hbb
      clear hbb
      have c2 : (k : Int) < l.length := by omega
      have hRk := hR k hlt
      generalize roomP (nthB l k) = r at *
      generalize sumRoom l k = sm at *
      have k1 : IntKind.i64.wrap (sm + r) = sm + r := IntWalk.i64_in _ ⟨by omega, by omega⟩
      go_wp2_with (go_at_call 67; refine (hRk _ h1).mono ?_; rintro e w2 ⟨rfl, hx2⟩)
      go_roundw
      case rel => exact ⟨k + 1, by omega, by go_num, by rw [Hb.out], hx.trans hx2⟩
      case measure => simp [intOf]; omega
    · obtain rfl : k = l.length := by omega
      go_wp2
      go_ret
      exact ⟨rfl, hx0.trans hx⟩
end
end Go.Proofs.YtnileonlabpbpaaGreat
