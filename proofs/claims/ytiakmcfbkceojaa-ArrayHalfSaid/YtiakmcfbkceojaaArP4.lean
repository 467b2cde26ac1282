/- Arrays: Pack refused; slices.Equal, ContainsFunc; Changed of both. -/
import Derived.Test.YtiakmcfbkceojaaArP3
namespace Go.Proofs.Ytiakmcfbkceojaa
open Go.RowKit Go.Maps
set_option linter.unusedVariables false
set_option linter.unusedSimpArgs false
set_option maxRecDepth 20000
attribute [local go_sem] Oper.semAt_some

section
variable (b n : Int) (P : Option Addr) (cap : Nat) (Q : Nat → Option Addr) (C : Nat → Nat) (LL : List (List Int)) (w : World) (h : SlA w P cap Q C LL)
include h
theorem apack_no (hv : ∀ l ∈ LL, ∀ x ∈ l, In64 x) (hok : ¬ ArOk b LL) : Calls Try.prog 28 #[.int .i64 b, .slice P LL.length cap, .int .i64 n] w fun e w' => e = .returned (.tuple #[.slice none 0 0, .int .i64 1]) ∧ Ext w w' := by
  have hV := avalid_any b P cap Q C LL w h hv
  rw [validF_no hok] at hV
  go_enter Try.func28, Try.ntmps28
  go_wp2_with (go_at_call 15; refine hV.mono ?_; rintro e w1 ⟨rfl, hx1⟩)
  go_ret2
  exact ⟨rfl, hx1⟩
theorem rpack_no (hok : ¬ ArOk b LL) : Calls Try.prog 29 #[.int .i64 b, .slice P LL.length cap, .int .i64 n] w fun e w' => e = .returned (.tuple #[.slice none 0 0, .int .i64 1]) ∧ Ext w w' := by
  have hV := rkeys_no b P cap Q C LL w h hok
  go_enter Try.func29, Try.ntmps29
  go_wp2_with (go_at_call 20; refine hV.mono ?_; rintro e w1 ⟨rfl, hx1⟩)
  go_ret2
  exact ⟨rfl, hx1⟩
theorem apack_out (hok : ArOk b LL) (hr : ¬ (1 ≤ n ∧ n ≤ b)) : Calls Try.prog 28 #[.int .i64 b, .slice P LL.length cap, .int .i64 n] w fun e w' => e = .returned (.tuple #[.slice none 0 0, .int .i64 7]) ∧ Ext w w' := by
  have hV := avalid_yes b P cap Q C LL w h hok
  by_cases h1 : n < 1
  · clear hr
    go_enter Try.func28, Try.ntmps28
    go_wp2_with (go_at_call 15; refine hV.mono ?_; rintro e w1 ⟨rfl, hx1⟩)
    go_ret2
    exact ⟨rfl, hx1⟩
  · have h2 : b < n := by omega
    clear hr
    go_enter Try.func28, Try.ntmps28
    go_wp2_with (go_at_call 15; refine hV.mono ?_; rintro e w1 ⟨rfl, hx1⟩)
    go_ret2
    exact ⟨rfl, hx1⟩
theorem rpack_out (hok : ArOk b LL) (hr : ¬ (1 ≤ n ∧ n ≤ b)) : Calls Try.prog 29 #[.int .i64 b, .slice P LL.length cap, .int .i64 n] w fun e w' => e = .returned (.tuple #[.slice none 0 0, .int .i64 7]) ∧ Ext w w' := by
  have hL : Calls Try.prog 20 #[.int .i64 b, .slice P LL.length cap] w fun e w' => ∃ v, e = .returned (.tuple #[v, .int .i64 0]) ∧ Ext w w' := (rkeys_yes b P cap Q C LL w h hok).mono (by
    rintro e w' ⟨v, rfl, hown, hx⟩
    exact ⟨v, rfl, hx⟩)
  by_cases h1 : n < 1
  · clear hr
    go_enter Try.func29, Try.ntmps29
    go_wp2_with (go_at_call 20; refine hL.mono ?_; rintro e w1 ⟨v, rfl, hx1⟩)
    go_ret2
    exact ⟨rfl, hx1⟩
  · have h2 : b < n := by omega
    clear hr
    go_enter Try.func29, Try.ntmps29
    go_wp2_with (go_at_call 20; refine hL.mono ?_; rintro e w1 ⟨v, rfl, hx1⟩)
    go_ret2
    exact ⟨rfl, hx1⟩
end

theorem equal_any (P Q : Option Addr) (c d : Nat) (l m : List Int) (w : World) (h1 : SlI w P c l) (h2 : SlI w Q d m) :
    Calls Try.prog 55 #[.slice P l.length c, .slice Q m.length d] w (Quietly w (.returned (.bool (decide (l = m))))) := by
  have hl1 : l.length ≤ 9223372036854775807 := Nat.le_trans h1.le h1.cap
  have hl2 : m.length ≤ 9223372036854775807 := Nat.le_trans h2.le h2.cap
  by_cases hlen : l.length = m.length
  · have HE := fun hj => Lib.hid (eq_of_nthI hlen hj)
    have HN := Lib.hid hlen
    rw [← hlen]
    clear hlen
    go_enter Try.func55, Try.ntmps55
    go_wp2
    go_loopw [13, 5, 4] (fun i _ _ wr => SameR l m w i wr) (fun i _ _ _ => l.length - (intOf i).toNat)
    case atStart => exact ⟨0, 0, by omega, rfl, by rw [World.drewN_zero], fun j hj => by omega⟩
    case round =>
      obtain ⟨k, n, hk, rfl, rfl, ha⟩ := hrel
      by_cases hlt : k < l.length
      · obtain ⟨b1, o1, rfl, g1⟩ := h1.at_ k hlt
        obtain ⟨b2, o2, rfl, g2⟩ := h2.at_ k (by have := HN.out; omega)
        have c1 : (k : Int) < l.length := by omega
        by_cases he : nthI l k = nthI m k
        · have hnext : ∀ j, j < k + 1 → nthI l j = nthI m j := fun j hj => by
            by_cases hjk : j = k
            · subst hjk; exact he
            · exact ha j (by omega)
          have Hn := Lib.hid hnext
          clear hnext ha HE
          rw [← he] at g2
          clear he
          generalize nthI l k = x at *
          have c2 : (x != x) = false := by simp
          go_wp2
          go_quiet (fail)
          go_wp2
          go_roundw
          case rel => exact ⟨k + 1, _, by omega, by go_num, rfl, Hn.out⟩
          case measure => simp [intOf]; omega
        · have Hd := Lib.hid (decide_eq_false (fun e : l = m => he (by rw [e])))
          have c2 : (nthI l k != nthI m k) = true := by simpa using he
          clear ha HE he
          generalize nthI l k = x at *
          generalize nthI m k = y at *
          go_wp2
          go_quiet (fail)
          go_wp2
          go_ret
          exact ⟨by rw [Hd.out]; rfl, _, World.drewN_drewN _ _ _⟩
      · obtain rfl : k = l.length := by omega
        have Hd := Lib.hid (decide_eq_true (HE ha).out)
        clear ha HE
        go_wp2
        go_ret
        exact ⟨by rw [Hd.out]; rfl, _, rfl⟩
  · have hd : decide (l = m) = false := decide_eq_false (fun e => hlen (by rw [e]))
    have c1 : ((l.length : Int) != (m.length : Int)) = true := by simp; omega
    have c2 : (l.length != m.length) = true := by simpa using hlen
    have Hd := Lib.hid hd
    clear hd hlen
    go_enter Try.func55, Try.ntmps55
    go_wp2
    go_ret
    exact ⟨by rw [Hd.out]; rfl, 0, by rw [World.drewN_zero]⟩
theorem changed1_any (cb : Nat) (P Q : Option Addr) (c d : Nat) (l m : List Int) (w : World) (hc : w.cell? ⟨cb, 0, none⟩ = some (.slice P l.length c)) (h1 : SlI w P c l) (h2 : SlI w Q d m) :
    Calls Try.prog 54 #[.slice Q m.length d, .pointer (some ⟨cb, 0, none⟩)] w (Quietly w (.returned (.bool (decide (l = m))))) := by
  have hE := equal_any P Q c d l m w h1 h2
  generalize decide (l = m) = r at *
  unfold Quietly at hE
  go_enter Try.func54, Try.ntmps54
  go_wp2_with (go_at_call 55; refine hE.mono ?_; rintro e w1 ⟨rfl, nq, rfl⟩)
  go_ret
  exact ⟨rfl, nq, rfl⟩
/-- how a search among blocks ends -/
def IdxPost (l : List Int) (LL : List (List Int)) (w : World) (e : Ending) (w' : World) : Prop := ∃ r : Int, e = .returned (.int .i64 r) ∧ (0 ≤ r ↔ l ∈ LL) ∧ ∃ n, w' = w.drewN n
theorem indexFunc_any (cb : Nat) (P : Option Addr) (cap : Nat) (Q : Nat → Option Addr) (C : Nat → Nat) (LL : List (List Int)) (P2 : Option Addr) (c : Nat) (l : List Int) (w : World) (h : SlA w P cap Q C LL) (hc : w.cell? ⟨cb, 0, none⟩ = some (.slice P2 l.length c)) (h1 : SlI w P2 c l) :
    Calls Try.prog 67 #[.slice P LL.length cap, .func (.func 54) #[] #[.pointer (some ⟨cb, 0, none⟩)]] w (IdxPost l LL w) := by
  have hlen := h.len
  go_enter Try.func67, Try.ntmps67
  go_wp2
  go_loopw [8, 5, 4] (fun i _ _ wr => ∃ k n : Nat, k ≤ LL.length ∧ i = .int .i64 k ∧ wr = w.drewN n ∧ Hid (∀ j, j < k → l ≠ nthA LL j)) (fun i _ _ _ => LL.length - (intOf i).toNat)
  case atStart => exact ⟨0, 0, by omega, rfl, by rw [World.drewN_zero], Lib.hid (fun j hj => by omega)⟩
  case round =>
    obtain ⟨k, n, hk, rfl, rfl, ha⟩ := hrel
    by_cases hlt : k < LL.length
    · obtain ⟨b1, o1, rfl, g1⟩ := h.at_ k hlt
      have hx := (Ext.refl w).drewN n
      have hC := changed1_any cb P2 (Q k) c (C k) l (nthA LL k) (w.drewN n) (hx.cell hc) (h1.ext hx) ((h.row k hlt).ext hx)
      have c1 : (k : Int) < LL.length := by omega
      unfold Quietly at hC
      by_cases he : l = nthA LL k
      · rw [decide_eq_true he] at hC
        have Hm : Hid (l ∈ LL) := Lib.hid (he ▸ nthA_mem hlt)
        clear he
        go_wp2_with (go_at_call 54; refine hC.mono ?_; rintro e w1 ⟨rfl, nq, rfl⟩)
        go_ret
        exact ⟨k, rfl, ⟨fun _ => Hm.out, fun _ => by omega⟩, _, rfl⟩
      · rw [decide_eq_false he] at hC
        have He : Hid (∀ j, j < k + 1 → l ≠ nthA LL j) := Lib.hid (fun j hj => by
          by_cases hjk : j = k
          · subst hjk; exact he
          · exact ha.out j (by omega))
        clear he ha
        go_wp2_with (go_at_call 54; refine hC.mono ?_; rintro e w1 ⟨rfl, nq, rfl⟩)
        go_roundw
        case rel => exact ⟨k + 1, _, by omega, by go_num, rfl, He⟩
        case measure => simp [intOf]; omega
    · obtain rfl : k = LL.length := by omega
      go_wp2
      go_ret
      exact ⟨-1, rfl, ⟨fun h => by omega, fun hm => by
        obtain ⟨i, hi, e⟩ := mem_nthA hm
        exact absurd e.symm (ha.out i hi)⟩, _, rfl⟩
theorem containsFunc_any (cb : Nat) (P : Option Addr) (cap : Nat) (Q : Nat → Option Addr) (C : Nat → Nat) (LL : List (List Int)) (P2 : Option Addr) (c : Nat) (l : List Int) (w : World) (h : SlA w P cap Q C LL) (hc : w.cell? ⟨cb, 0, none⟩ = some (.slice P2 l.length c)) (h1 : SlI w P2 c l) :
    Calls Try.prog 53 #[.slice P LL.length cap, .func (.func 54) #[] #[.pointer (some ⟨cb, 0, none⟩)]] w (Quietly w (.returned (.bool (decide (l ∈ LL))))) := by
  have hI := indexFunc_any cb P cap Q C LL P2 c l w h hc h1
  unfold IdxPost at hI
  go_enter Try.func53, Try.ntmps53
  go_wp2_with (go_at_call 67; refine hI.mono ?_; rintro e w1 ⟨r, rfl, hr, nq, rfl⟩; have Hr := Lib.hid hr; clear hr)
  go_ret
  refine ⟨ret_bool ?_, nq, rfl⟩
  by_cases hr : 0 ≤ r
  · rw [decide_eq_true (Hr.out.1 hr)]; simpa using hr
  · rw [decide_eq_false (fun hm => hr (Hr.out.2 hm))]; simpa using hr
end Go.Proofs.Ytiakmcfbkceojaa
