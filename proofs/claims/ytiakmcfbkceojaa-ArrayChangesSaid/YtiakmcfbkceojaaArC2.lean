/- ArrayChanges: all cases. -/
import Derived.Test.YtiakmcfbkceojaaArC1
namespace Go.Proofs.Ytiakmcfbkceojaa
open Go.RowKit Go.Maps
set_option linter.unusedVariables false
set_option linter.unusedSimpArgs false
set_option linter.unusedSectionVars false
set_option maxRecDepth 20000
attribute [local go_sem] Oper.semAt_some

theorem rflat_nil (P : Option Addr) (cap : Nat) (w : World) :
    Calls Try.prog 48 #[.slice P 0 cap] w fun e w' => e = .returned (.slice none 0 0) ∧ Ext w w' := by
  go_enter Try.func48, Try.ntmps48
  go_wp2
  go_loopw [4, 3] (fun i v wr => i = .int .i64 0 ∧ v = .slice none 0 0 ∧ wr = w) (fun i _ _ => 0)
  case atStart => exact ⟨rfl, rfl, rfl⟩
  case round =>
    obtain ⟨rfl, rfl, rfl⟩ := hrel
    go_wp2
    go_ret
    exact ⟨rfl, Ext.refl _⟩
theorem rkeys_nil (b : Int) (P : Option Addr) (cap : Nat) (Q : Nat → Option Addr) (C : Nat → Nat) (w : World) (h : SlA w P cap Q C []) (hok : ArOk b []) :
    Calls Try.prog 20 #[.int .i64 b, .slice P ([] : List (List Int)).length cap] w fun e w' => e = .returned (.tuple #[.slice none 0 0, .int .i64 0]) ∧ Ext w w' := by
  have hV := rvalid_any b P cap Q C [] w h
  rw [validF_iff.2 hok] at hV
  simp only [List.length_nil] at hV ⊢
  go_enter Try.func20, Try.ntmps20
  go_wp2_with (first
    | (go_at_call 19; refine hV.mono ?_; rintro e w1 ⟨rfl, hx1⟩)
    | (go_at_call 48; refine (rflat_nil P cap _).mono ?_; rintro e w2 ⟨rfl, hx2⟩))
  go_ret2
  exact ⟨rfl, hx1.trans hx2⟩
theorem kx {b : Int} {X : List (List Int)} (hok : ArOk b X) : ∀ P c Q C W, SlA W P c Q C X → Calls Try.prog 13 #[.int .i64 b, .slice P X.length c] W fun e w' => ∃ v, e = .returned (.tuple #[v, .int .i64 0]) ∧ w'.ownsRow W.heap.size 3 1 v X.flatten.length (intVs X.flatten) ∧ Ext W w' :=
  fun P c Q C W hW => akeys_yes b P c Q C X W hW hok hok.in64
theorem len1000 {b : Int} {X : List (List Int)} (hok : ArOk b X) : X.length ≤ 1000 := by
  have h1 := len_le_flat X hok.ne
  have h2 := hok.tot
  omega
theorem apx {b : Int} {X : List (List Int)} (hok : ArOk b X) (P : Option Addr) (cap : Nat) (Q : Nat → Option Addr) (C : Nat → Nat) (LL : List (List Int)) : ∀ P1 c1 Q1 C1 W, SlA W P1 c1 Q1 C1 X → SlA W P cap Q C LL → Calls Try.prog 35 #[.slice P1 X.length c1, .slice P LL.length cap] W fun e w' => e = .returned (.int .i64 (apartN X LL)) ∧ Ext W w' :=
  fun P1 c1 Q1 C1 W h1 h2 => apart_any P1 c1 Q1 C1 X P cap Q C LL W h1 h2 (len1000 hok)

section
variable (b : Int) (P : Option Addr) (cap : Nat) (Q : Nat → Option Addr) (C : Nat → Nat) (LL : List (List Int)) (index too key : Int) (w : World) (h : SlA w P cap Q C LL) (hv : ∀ l ∈ LL, ∀ x ∈ l, In64 x) (hI : In64 index) (hT : In64 too) (hK : In64 key)
include h hv
theorem arrayChanges_any : Calls Try.prog 8 #[.int .i64 b, .slice P LL.length cap, .int .i64 index, .int .i64 too, .int .i64 key] w fun e w' => e = .returned (.bool true) ∧ Ext w w' := by
  have hL := light_is P cap Q C LL w h
  cases hl : lightB LL with
  | false =>
    rw [hl] at hL
    go_enter Try.func8, Try.ntmps8
    go_wp2_with (first
      | (go_at_call 16; (with_reducible refine hL.mono ?_); rintro e w1 ⟨rfl, rfl⟩)
      | (go_at_call 9; refine (awake_any _).mono ?_; rintro e w2 ⟨rfl, hx2⟩))
    go_ret
    exact ⟨rfl, hx2⟩
  | true =>
  rw [hl] at hL
  obtain ⟨X1, e0, hPut, hp⟩ := put_both b P cap Q C LL w h hv index key
  obtain ⟨X2, k1, e1, hTk, ht⟩ := take_both b P cap Q C LL w h hv index
  obtain ⟨X3, e2, hSh⟩ := shift_both b P cap Q C LL w h hv index too
  rcases hp with hp | ⟨hp, i, hi, hi1, hX1, hok, hok1⟩
  · rcases ht with ht | ⟨ht, i, hi, hi2, hX2, hk1, hok, hok2⟩
    · refine changes_no b P cap Q C LL index too key w h X1 X2 X3 k1 e0 e1 e2 hL hPut hTk hSh hp ht (fun W hW => ?_)
      by_cases hok : ArOk b LL
      · exact (rkeys_yes b P cap Q C LL W hW hok).mono (by rintro e w' ⟨v, rfl, _, hx⟩; exact ⟨_, _, rfl, hx⟩)
      · exact (rkeys_no b P cap Q C LL W hW hok).mono (by rintro e w' ⟨rfl, hx⟩; exact ⟨_, _, rfl, hx⟩)
    · have hG2 : X2.flatten = LL.flatten.take i ++ LL.flatten.drop (i + 1) := by rw [hX2, remF_flat hi2, List.eraseIdx_eq_take_drop_succ]
      have ha2 : apartN X2 LL ≤ 2 := by rw [hX2]; exact remF_apart b LL i
      exact changes_take b P cap Q C LL index too key w h X1 X2 X3 k1 e0 e1 e2 hL hPut hTk hSh hp ht i hi LL.flatten hok.tot (fun W hW => rky b P cap Q C LL W hW hok) X2.flatten (kx hok2) _ ha2 (apx hok2 P cap Q C LL) (Lib.hid hG2) hi2 hk1.symm
  · have hG1 : X1.flatten = LL.flatten.take i ++ [key] ++ LL.flatten.drop i := by rw [hX1, insF_flat hi1]; simp [insI]
    have ha1 : apartN X1 LL ≤ 2 := by rw [hX1]; exact insF_apart b LL i key
    rcases ht with ht | ⟨ht, i2, hi', hi2, hX2, hk1, _, hok2⟩
    · by_cases hF : LL.flatten = []
      · obtain rfl : LL = [] := by
          cases LL with
          | nil => rfl
          | cons l L =>
            have := hok.ne l List.mem_cons_self
            simp at hF
            exact absurd hF.1 this
        have hi0 : i = 0 := by simp at hi1; exact hi1
        subst hi0
        exact changes_put0 b P cap Q C [] index too key w h X1 X2 X3 k1 e0 e1 e2 hL hPut hTk hSh hp ht 0 hi rfl (fun W hW => rkeys_nil b P cap Q C W hW hok) X1.flatten (kx hok1) _ ha1 (apx hok1 P cap Q C []) (Lib.hid (by rw [hG1]; simp))
      · exact changes_put b P cap Q C LL index too key w h X1 X2 X3 k1 e0 e1 e2 hL hPut hTk hSh hp ht i hi LL.flatten hok.tot hF (fun W hW => rky b P cap Q C LL W hW hok) X1.flatten (kx hok1) _ ha1 (apx hok1 P cap Q C LL) (Lib.hid hG1) hi1
    · obtain rfl : i = i2 := by omega
      have hG2 : X2.flatten = LL.flatten.take i ++ LL.flatten.drop (i + 1) := by rw [hX2, remF_flat hi2, List.eraseIdx_eq_take_drop_succ]
      have ha2 : apartN X2 LL ≤ 2 := by rw [hX2]; exact remF_apart b LL i
      exact changes_both b P cap Q C LL index too key w h X1 X2 X3 k1 e0 e1 e2 hL hPut hTk hSh hp ht i hi LL.flatten hok.tot (fun W hW => rky b P cap Q C LL W hW hok) X1.flatten (kx hok1) _ ha1 (apx hok1 P cap Q C LL) X2.flatten (kx hok2) _ ha2 (apx hok2 P cap Q C LL) (Lib.hid hG1) (Lib.hid hG2) hi2 hk1.symm
end
end Go.Proofs.Ytiakmcfbkceojaa
