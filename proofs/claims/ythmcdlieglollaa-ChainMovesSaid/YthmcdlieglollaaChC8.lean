/- Rings: how many keys have other links in two lists. -/
import Derived.Test.YthmcdlieglollaaChC7
import Derived.Laws.StructEq
namespace Go.Proofs.Ythmcdlieglollaa
open Go.RowKit Go.Sort Go.Maps
set_option linter.unusedVariables false
set_option linter.unusedSimpArgs false
set_option linter.unusedSectionVars false
set_option maxRecDepth 20000
attribute [local go_sem] Oper.semAt_some

theorem take_mem {b : List Lk} {r : Nat} (h : r < b.length) (x : Lk) : x ∈ b.take (r + 1) ↔ x ∈ b.take r ∨ x = nthL b r := by
  rw [List.take_succ_eq_append_getElem h, List.mem_append, List.mem_singleton, nthL_get h]
theorem cnt_snoc (p : Lk → Bool) {a : List Lk} {q : Nat} (h : q < a.length) : ((a.take (q + 1)).filter p).length = ((a.take q).filter p).length + if p (nthL a q) = true then 1 else 0 := by
  rw [List.take_succ_eq_append_getElem h, List.filter_append, List.length_append, nthL_get h]
  congr 1
  by_cases hp : p a[q] = true
  · simp [hp]
  · simp [hp]
def outB (b : List Lk) (x : Lk) : Bool := decide (x ∉ b)
def outK (a : List Lk) (x : Lk) : Bool := decide (x.1 ∉ ks a)
theorem chg_sum (a b : List Lk) : chgF a b = (a.filter (outB b)).length + (b.filter (outK a)).length := rfl
def hasB (b : List Lk) (r : Nat) (x : Lk) : Bool := decide (x ∈ b.take r)
def hasK (a : List Lk) (r : Nat) (x : Lk) : Bool := decide (x.1 ∈ ks (a.take r))
theorem hasB_succ {b : List Lk} {r : Nat} (h : r < b.length) (x : Lk) : hasB b (r + 1) x = (hasB b r x || decide (x = nthL b r)) := by
  unfold hasB
  rw [Bool.eq_iff_iff, Bool.or_eq_true, decide_eq_true_eq, decide_eq_true_eq, decide_eq_true_eq]
  exact take_mem h x
theorem hasK_succ {a : List Lk} {r : Nat} (h : r < a.length) (x : Lk) : hasK a (r + 1) x = (hasK a r x || decide ((nthL a r).1 = x.1)) := by
  unfold hasK
  rw [Bool.eq_iff_iff, Bool.or_eq_true, decide_eq_true_eq, decide_eq_true_eq, decide_eq_true_eq, List.take_succ_eq_append_getElem h, nthL_get h]
  unfold ks
  rw [List.map_append, List.mem_append, List.map_cons, List.map_nil, List.mem_singleton]
  exact or_congr Iff.rfl ⟨fun e => e.symm, fun e => e.symm⟩
theorem hasB_0 (b : List Lk) (x : Lk) : hasB b 0 x = false := by simp [hasB]
theorem hasK_0 (a : List Lk) (x : Lk) : hasK a 0 x = false := by simp [hasK, ks]
theorem hasB_all (b : List Lk) (x : Lk) : outB b x = !hasB b b.length x := by simp [outB, hasB]
theorem hasK_all (a : List Lk) (x : Lk) : outK a x = !hasK a a.length x := by simp [outK, hasK]
set_option maxHeartbeats 8000000 in
theorem changes_any (P Q : Option Addr) (c d : Nat) (a b : List Lk) {w : World} (ha : SlL w P c a) (hb : SlL w Q d b) (hal : a.length ≤ 1000) (hbl : b.length ≤ 1000) :
    Calls Try.prog 38 #[.slice P a.length c, .slice Q b.length d] w fun e w' => e = .returned (.int .i64 (chgF a b : Nat)) ∧ Ext w w' := by
  have HC := Lib.hid (chg_sum a b)
  go_enter Try.func38, Try.ntmps38
  go_wp2
  go_loopw [6, 5, 7, 8] (fun i n _ _ wr => ∃ q m : Nat, q ≤ a.length ∧ i = .int .i64 q ∧ n = .int .i64 m ∧ m ≤ q ∧ ((a.take q).filter (outB b)).length = m ∧ Ext w wr) (fun i _ _ _ _ => a.length - (intOf i).toNat)
  case atStart => exact ⟨0, 0, by omega, rfl, rfl, by omega, rfl, Ext.refl w⟩
  case round =>
    obtain ⟨q, m, hk, rfl, rfl, hmq, hm, hx⟩ := hrel
    by_cases hlt : q < a.length
    · have hcs := cnt_snoc (outB b) hlt
      rw [hm] at hcs
      have HCS := Lib.hid hcs
      clear hcs hm
      obtain ⟨b0, of0, hP, g0, g1, g2, g3⟩ := ha.lkAt q hlt
      have G := Lib.hid (And.intro g0 (And.intro g1 (And.intro g2 g3)))
      subst hP
      clear g0 g1 g2 g3
      have cq : (q : Int) < a.length := by omega
      have d1 : IntKind.i64.wrap ((q : Int) + 1) = (q : Int) + 1 := IntWalk.i64_in _ ⟨by omega, by omega⟩
      have d2 : IntKind.i64.wrap ((m : Int) + 1) = (m : Int) + 1 := IntWalk.i64_in _ ⟨by omega, by omega⟩
      have HAL := Lib.hid (hasB_all b (nthL a q))
      have HSU := Lib.hid (fun r h => @hasB_succ b r h (nthL a q))
      have H0 := Lib.hid (hasB_0 b (nthL a q))
      generalize nthL a q = xx at *
      obtain ⟨x0, x1, x2, x3⟩ := xx
      simp only at G
      go_wp2
      go_loopw [8, 7] (fun k f w2 => ∃ r : Nat, r ≤ b.length ∧ k = .int .i64 r ∧ f = .bool (hasB b r (x0, x1, x2, x3)) ∧ Ext w w2) (fun k _ _ => b.length - (intOf k).toNat)
      case atStart => exact ⟨0, by omega, rfl, by rw [H0.out], hx⟩
      case round =>
        obtain ⟨r, hr, rfl, rfl, hx2⟩ := hrel
        by_cases hlr : r < b.length
        · have HR := Lib.hid (HSU.out r hlr)
          obtain ⟨b1, of1, hQ, k0, k1, k2, k3⟩ := (hb.ext hx2).lkAt r hlr
          subst hQ
          have cr : (r : Int) < b.length := by omega
          have d3 : IntKind.i64.wrap ((r : Int) + 1) = (r : Int) + 1 := IntWalk.i64_in _ ⟨by omega, by omega⟩
          have g0 := hx2.cell G.out.1
          have g1 := hx2.cell G.out.2.1
          have g2 := hx2.cell G.out.2.2.1
          have g3 := hx2.cell G.out.2.2.2
          generalize hff : hasB b r (x0, x1, x2, x3) = ff at *
          generalize nthL b r = yy at *
          obtain ⟨y0, y1, y2, y3⟩ := yy
          simp only at k0 k1 k2 k3
          clear hff
          cases ff with
          | true =>
            go_wp2
            go_quiet (fail)
            go_wp2
            go_roundw
            case rel => exact ⟨r + 1, by omega, by go_num, by rw [HR.out]; rfl, hx2.drewN _⟩
            case measure => simp [intOf]; omega
          | false =>
            by_cases he0 : x0 = y0
            · subst he0
              by_cases he1 : x1 = y1
              · subst he1
                by_cases he2 : x2 = y2
                · subst he2
                  by_cases he3 : x3 = y3
                  · subst he3
                    go_wp2
                    go_quiet (fail)
                    go_wp2
                    go_roundw
                    case rel => exact ⟨r + 1, by omega, by go_num, by rw [HR.out]; simp, hx2.drewN _⟩
                    case measure => simp [intOf]; omega
                  · have he' : (x3 == y3) = false := by simpa using he3
                    have HE := Lib.hid he3
                    clear he3
                    go_wp2
                    go_quiet (fail)
                    go_wp2
                    go_roundw
                    case rel => exact ⟨r + 1, by omega, by go_num, by rw [HR.out]; simp [HE.out], hx2.drewN _⟩
                    case measure => simp [intOf]; omega
                · have he' : (x2 == y2) = false := by simpa using he2
                  have HE := Lib.hid he2
                  clear he2
                  go_wp2
                  go_quiet (fail)
                  go_wp2
                  go_roundw
                  case rel => exact ⟨r + 1, by omega, by go_num, by rw [HR.out]; simp [HE.out], hx2.drewN _⟩
                  case measure => simp [intOf]; omega
              · have he' : (x1 == y1) = false := by simpa using he1
                have HE := Lib.hid he1
                clear he1
                go_wp2
                go_quiet (fail)
                go_wp2
                go_roundw
                case rel => exact ⟨r + 1, by omega, by go_num, by rw [HR.out]; simp [HE.out], hx2.drewN _⟩
                case measure => simp [intOf]; omega
            · have he' : (x0 == y0) = false := by simpa using he0
              have HE := Lib.hid he0
              clear he0
              go_wp2
              go_quiet (fail)
              go_wp2
              go_roundw
              case rel => exact ⟨r + 1, by omega, by go_num, by rw [HR.out]; simp [HE.out], hx2.drewN _⟩
              case measure => simp [intOf]; omega
        · obtain rfl : r = b.length := by omega
          generalize hff : hasB b b.length (x0, x1, x2, x3) = ff at *
          clear hff
          cases ff with
          | true =>
            go_wp2
            go_roundw
            case rel => exact ⟨q + 1, m, by omega, by go_num, rfl, by omega, by rw [HCS.out, HAL.out]; rfl, hx2⟩
            case measure => simp [intOf]; omega
          | false =>
            go_wp2
            go_roundw
            case rel => exact ⟨q + 1, m + 1, by omega, by go_num, by go_num, by omega, by rw [HCS.out, HAL.out]; rfl, hx2⟩
            case measure => simp [intOf]; omega
    · obtain rfl : q = a.length := by omega
      rw [List.take_length] at hm
      have HM := Lib.hid hm
      clear hm
      go_wp2
      go_loopw [9, 5, 10, 11] (fun i n _ _ wr => ∃ q m2 : Nat, q ≤ b.length ∧ i = .int .i64 q ∧ n = .int .i64 ((m + m2 : Nat) : Int) ∧ m2 ≤ q ∧ ((b.take q).filter (outK a)).length = m2 ∧ Ext w wr) (fun i _ _ _ _ => b.length - (intOf i).toNat)
      case atStart => exact ⟨0, 0, by omega, rfl, rfl, by omega, rfl, hx⟩
      case round =>
        obtain ⟨q, m2, hk, rfl, rfl, hmq2, hm, hx⟩ := hrel
        by_cases hlt : q < b.length
        · have hcs := cnt_snoc (outK a) hlt
          rw [hm] at hcs
          have HCS := Lib.hid hcs
          clear hcs hm
          obtain ⟨b0, of0, hP, g0, g1, g2, g3⟩ := hb.lkAt q hlt
          have G := Lib.hid g0
          subst hP
          clear g0 g1 g2 g3
          have cq : (q : Int) < b.length := by omega
          have d1 : IntKind.i64.wrap ((q : Int) + 1) = (q : Int) + 1 := IntWalk.i64_in _ ⟨by omega, by omega⟩
          have HAL := Lib.hid (hasK_all a (nthL b q))
          have HSU := Lib.hid (fun r h => @hasK_succ a r h (nthL b q))
          have H0 := Lib.hid (hasK_0 a (nthL b q))
          generalize nthL b q = xx at *
          go_wp2
          go_loopw [11, 10] (fun k f w2 => ∃ r : Nat, r ≤ a.length ∧ k = .int .i64 r ∧ f = .bool (hasK a r xx) ∧ Ext w w2) (fun k _ _ => a.length - (intOf k).toNat)
          case atStart => exact ⟨0, by omega, rfl, by rw [H0.out], hx⟩
          case round =>
            obtain ⟨r, hr, rfl, rfl, hx2⟩ := hrel
            by_cases hlr : r < a.length
            · have HR := Lib.hid (HSU.out r hlr)
              obtain ⟨b1, of1, hQ, k0, k1, k2, k3⟩ := (ha.ext hx2).lkAt r hlr
              subst hQ
              have cr : (r : Int) < a.length := by omega
              have d3 : IntKind.i64.wrap ((r : Int) + 1) = (r : Int) + 1 := IntWalk.i64_in _ ⟨by omega, by omega⟩
              have g0 := hx2.cell G.out
              generalize hff : hasK a r xx = ff at *
              generalize (nthL a r).1 = y at *
              clear hff k1 k2 k3
              cases ff with
              | true =>
                go_wp2
                go_quiet (fail)
                go_wp2
                go_roundw
                case rel => exact ⟨r + 1, by omega, by go_num, by rw [HR.out]; rfl, hx2.drewN _⟩
                case measure => simp [intOf]; omega
              | false =>
                by_cases he : y = xx.1
                · have he' : (y == xx.1) = true := by simpa using he
                  have HE := Lib.hid he
                  clear he
                  generalize xx.1 = z at *
                  go_wp2
                  go_quiet (fail)
                  go_wp2
                  go_roundw
                  case rel => exact ⟨r + 1, by omega, by go_num, by rw [HR.out, decide_eq_true HE.out]; rfl, hx2.drewN _⟩
                  case measure => simp [intOf]; omega
                · have he' : (y == xx.1) = false := by simpa using he
                  have HE := Lib.hid he
                  clear he
                  go_wp2
                  go_quiet (fail)
                  go_wp2
                  go_roundw
                  case rel => exact ⟨r + 1, by omega, by go_num, by rw [HR.out, decide_eq_false HE.out]; rfl, hx2.drewN _⟩
                  case measure => simp [intOf]; omega
            · obtain rfl : r = a.length := by omega
              have d2 : IntKind.i64.wrap (((m + m2 : Nat) : Int) + 1) = ((m + m2 : Nat) : Int) + 1 := IntWalk.i64_in _ ⟨by omega, by omega⟩
              generalize hff : hasK a a.length xx = ff at *
              clear hff
              cases ff with
              | true =>
                go_wp2
                go_roundw
                case rel => exact ⟨q + 1, m2, by omega, by go_num, rfl, by omega, by rw [HCS.out, HAL.out]; rfl, hx2⟩
                case measure => simp [intOf]; omega
              | false =>
                go_wp2
                go_roundw
                case rel => exact ⟨q + 1, m2 + 1, by omega, by go_num, by go_num, by omega, by rw [HCS.out, HAL.out]; rfl, hx2⟩
                case measure => simp [intOf]; omega
        · obtain rfl : q = b.length := by omega
          rw [List.take_length] at hm
          have HM2 := Lib.hid hm
          clear hm
          go_wp2
          go_ret
          exact ⟨by rw [HC.out, HM.out, HM2.out]; first | rfl | (simp; done), hx⟩
end Go.Proofs.Ythmcdlieglollaa
