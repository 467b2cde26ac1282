/- Rings: the nth member and a member's number, of the program and of the reference. -/
import Derived.Test.YthmcdlieglollaaChX2
namespace Go.Proofs.Ythmcdlieglollaa
open Go.RowKit Go.Sort Go.Maps
set_option linter.unusedVariables false
set_option linter.unusedSimpArgs false
set_option linter.unusedSectionVars false
set_option maxRecDepth 20000
attribute [local go_sem] Oper.semAt_some

def nthF (ms : List Int) (n : Int) : Int × Int :=
  if n = 0 then (0, 7) else if 0 < n ∧ n ≤ ms.length then (nthI ms (n - 1).toNat, 0) else if n < 0 ∧ -(ms.length : Int) ≤ n then (nthI ms (ms.length + n).toNat, 0) else (0, 8)
theorem nthF_0 (ms : List Int) : nthF ms 0 = (0, 7) := by simp [nthF]
theorem nthF_pos (ms : List Int) (n : Int) (i : Nat) (hi : i < ms.length) (h : n = i + 1) : nthF ms n = (nthI ms i, 0) := by
  unfold nthF
  rw [if_neg (by omega), if_pos (by omega), show (n - 1).toNat = i from by omega]
theorem nthF_neg (ms : List Int) (n : Int) (i : Nat) (hi : i < ms.length) (h : n = i - ms.length) : nthF ms n = (nthI ms i, 0) := by
  unfold nthF
  rw [if_neg (by omega), if_neg (by omega), if_pos (by omega), show (ms.length + n).toNat = i from by omega]
theorem nthF_no (ms : List Int) (n : Int) (h : n < -(ms.length : Int) ∨ (ms.length : Int) < n) : nthF ms n = (0, 8) := by
  unfold nthF
  rw [if_neg (by omega), if_neg (by omega), if_neg (by omega)]
theorem nth_cases (ms : List Int) (n : Int) : n = 0 ∨ (∃ i : Nat, i < ms.length ∧ n = i + 1) ∨ (∃ i : Nat, i < ms.length ∧ n = i - ms.length) ∨ (n < -(ms.length : Int) - 1 ∨ (ms.length : Int) + 1 < n) ∨ n = ms.length + 1 ∨ n = -(ms.length : Int) - 1 := by
  by_cases h0 : n = 0
  · exact .inl h0
  by_cases h1 : 0 < n ∧ n ≤ ms.length
  · exact .inr (.inl ⟨(n - 1).toNat, by omega, by omega⟩)
  by_cases h2 : n < 0 ∧ -(ms.length : Int) ≤ n
  · exact .inr (.inr (.inl ⟨(n + ms.length).toNat, by omega, by omega⟩))
  by_cases h3 : n = ms.length + 1
  · exact .inr (.inr (.inr (.inr (.inl h3))))
  by_cases h4 : n = -(ms.length : Int) - 1
  · exact .inr (.inr (.inr (.inr (.inr h4))))
  · exact .inr (.inr (.inr (.inl (by omega))))
/-- the members of a ring, as a slice -/
theorem listed_res (P : Option Addr) (cap : Nat) (l : List Lk) (o : Int) (ms : List Int) (hlb : l = builtF o ms) (hr : Right (o :: ms)) {w : World} (h : SlL w P cap l) :
    Calls Try.prog 54 #[.slice P l.length cap] w fun e w' => (∃ Q c, e = .returned (.slice Q ms.length c) ∧ SlI w' Q c ms ∧ (Q = none → c = 0)) ∧ Ext w w' :=
  (listed_any P cap l o ms hlb hr w h).mono fun e w' ⟨⟨v, he, ho⟩, hx⟩ => by
    obtain ⟨Q, c, e2, h2, q2⟩ := ho.res elemI (by have := hr.le; simp at this; omega)
    exact ⟨⟨Q, c, by rw [he, e2], h2, q2⟩, hx⟩
theorem index_any (P : Option Addr) (cap : Nat) (l : List Int) (k : Int) (w : World) (h : SlI w P cap l) :
    Calls Try.prog 63 #[.slice P l.length cap, .int .i64 k] w fun e w' => e = .returned (.int .i64 (idxI l k)) ∧ w' = w := by
  have hlen := h.len
  go_enter Try.func63, Try.ntmps63
  go_wp2
  go_loopw [8] (fun i wr => ∃ q : Nat, q ≤ l.length ∧ i = .int .i64 q ∧ (∀ j : Nat, j < q → nthI l j ≠ k) ∧ wr = w) (fun i _ => l.length - (intOf i).toNat)
  case atStart => exact ⟨0, by omega, rfl, by intro j hj; omega, rfl⟩
  case round =>
    obtain ⟨q, hk, rfl, hall, rfl⟩ := hrel
    by_cases hlt : q < l.length
    · obtain ⟨b, off, hP, g0⟩ := h.intAt q hlt
      rw [show l.getD q 0 = nthI l q from rfl] at g0
      subst hP
      have c1 : (q : Int) < l.length := by omega
      have d1 : IntKind.i64.wrap ((q : Int) + 1) = (q : Int) + 1 := IntWalk.i64_in _ ⟨by omega, by omega⟩
      by_cases he : nthI l q = k
      · have Hn : Hid (idxI l k = q) := Lib.hid (idxI_at _ _ q hlt hall he)
        have he' : (k == nthI l q) = true := by simpa using he.symm
        generalize nthI l q = x at *
        clear hall he
        go_wp2
        go_ret
        exact ⟨by rw [Hn.out]; rfl, by trivial⟩
      · have Hy : Hid (∀ j : Nat, j < q + 1 → nthI l j ≠ k) := Lib.hid (fun j hj => by
          by_cases hjk : j = q
          · subst hjk; exact he
          · exact hall j (by omega))
        have he' : (k == nthI l q) = false := by simpa using fun e => he e.symm
        generalize nthI l q = x at *
        clear hall he
        go_wp2
        go_roundw
        case rel => exact ⟨q + 1, by omega, by go_num, Hy.out, by trivial⟩
        case measure => simp [intOf]; omega
    · obtain rfl : q = l.length := by omega
      have Hn : Hid (idxI l k = -1) := Lib.hid (idxI_no _ _ hall)
      clear hall
      go_wp2
      go_ret
      exact ⟨by rw [Hn.out]; rfl, by trivial⟩
set_option maxHeartbeats 4000000 in
theorem nth_any (P : Option Addr) (cap : Nat) (l : List Lk) (o : Int) (ms : List Int) (n : Int) (hlb : l = builtF o ms) (hr : Right (o :: ms)) (w : World) (h : SlL w P cap l) (hn : OkI n) :
    Calls Try.prog 31 #[.slice P l.length cap, .int .i64 n] w fun e w' => e = .returned (.tuple #[.int .i64 (nthF ms n).1, .int .i64 (nthF ms n).2]) ∧ Ext w w' := by
  have hV := valid_any P cap l w h (by rw [hlb]; exact built_okK hr)
  rw [show validB l = true from by rw [hlb]; exact validB_built hr] at hV
  have hle := hr.le
  simp only [List.length_cons] at hle
  have hLL := fun {W} hs => listed_res P cap l o ms hlb hr (w := W) hs
  have hlen : l.length = ms.length + 1 := by rw [hlb]; exact built_len o ms
  generalize l.length = L at *
  obtain ⟨hn1, hn2⟩ := hn
  subst hlen
  clear hlb hr
  have d0 : IntKind.i64.wrap ((ms.length : Int) + 1) = (ms.length : Int) + 1 := IntWalk.i64_in _ ⟨by omega, by omega⟩
  rcases nth_cases ms n with rfl | ⟨i, hi, hni⟩ | ⟨i, hi, hni⟩ | hi | hni | hni
  · rw [nthF_0]
    go_enter Try.func31, Try.ntmps31
    go_wp2_with (go_at_call 14; refine hV.mono ?_; rintro e w1 ⟨rfl, hx1⟩)
    go_ret2
    exact ⟨rfl, hx1⟩
  · rw [nthF_pos ms _ i hi hni]
    have HI := Lib.hid hi
    have hq1 : (n == 0) = false := by
      have : n ≠ 0 := by omega
      simpa using this
    have hq2 : ¬ n < 0 := by omega
    have hq4 : ¬ (n < -((ms.length : Int) + 1)) := by omega
    have hq5 : ¬ ((ms.length : Int) + 1 < n) := by omega
    have hq3 : n - 1 = (i : Int) := by omega
    have ci : (i : Int) < ms.length := by omega
    clear hni
    go_enter Try.func31, Try.ntmps31
    go_wp2_with (first
      | (go_at_call 14; refine hV.mono ?_; rintro e w1 ⟨rfl, hx1⟩; have s1 := h.ext hx1)
      | (go_at_call 54; refine (hLL s1).mono ?_; rintro e w2 ⟨⟨P2, c2, rfl, t2, q2⟩, hx2⟩; obtain ⟨b2, of2, hP2, k2⟩ := t2.intAt i HI.out; subst hP2; rw [show ms.getD i 0 = nthI ms i from rfl] at k2))
    go_ret2
    exact ⟨rfl, hx1.trans hx2⟩
  · rw [nthF_neg ms _ i hi hni]
    have HI := Lib.hid hi
    have hq1 : (n == 0) = false := by
      have : n ≠ 0 := by omega
      simpa using this
    have hq2 : n < 0 := by omega
    have hq4 : ¬ (n < -((ms.length : Int) + 1)) := by omega
    have hq5 : ¬ ((ms.length : Int) + 1 < n) := by omega
    have hq3 : (ms.length : Int) + n = i := by omega
    have ci : (i : Int) < ms.length := by omega
    clear hni
    go_enter Try.func31, Try.ntmps31
    go_wp2_with (first
      | (go_at_call 14; refine hV.mono ?_; rintro e w1 ⟨rfl, hx1⟩; have s1 := h.ext hx1)
      | (go_at_call 54; refine (hLL s1).mono ?_; rintro e w2 ⟨⟨P2, c2, rfl, t2, q2⟩, hx2⟩; obtain ⟨b2, of2, hP2, k2⟩ := t2.intAt i HI.out; subst hP2; rw [show ms.getD i 0 = nthI ms i from rfl] at k2))
    go_ret2
    exact ⟨rfl, hx1.trans hx2⟩
  · rw [nthF_no ms n (by omega)]
    have hq1 : (n == 0) = false := by
      have : n ≠ 0 := by omega
      simpa using this
    rcases hi with hi | hi
    · have hq2 : n < -((ms.length : Int) + 1) := by omega
      go_enter Try.func31, Try.ntmps31
      go_wp2_with (go_at_call 14; refine hV.mono ?_; rintro e w1 ⟨rfl, hx1⟩)
      go_ret2
      exact ⟨rfl, hx1⟩
    · have hq2 : ¬ n < -((ms.length : Int) + 1) := by omega
      have hq3 : (ms.length : Int) + 1 < n := by omega
      go_enter Try.func31, Try.ntmps31
      go_wp2_with (go_at_call 14; refine hV.mono ?_; rintro e w1 ⟨rfl, hx1⟩)
      go_ret2
      exact ⟨rfl, hx1⟩
  · rw [nthF_no ms n (by omega)]
    have hq1 : (n == 0) = false := by
      have : n ≠ 0 := by omega
      simpa using this
    have hq2 : ¬ n < 0 := by omega
    have hq4 : ¬ (n < -((ms.length : Int) + 1)) := by omega
    have hq5 : ¬ ((ms.length : Int) + 1 < n) := by omega
    have hq3 : n - 1 = (ms.length : Int) := by omega
    clear hni
    go_enter Try.func31, Try.ntmps31
    go_wp2_with (first
      | (go_at_call 14; refine hV.mono ?_; rintro e w1 ⟨rfl, hx1⟩; have s1 := h.ext hx1)
      | (go_at_call 54; refine (hLL s1).mono ?_; rintro e w2 ⟨⟨P2, c2, rfl, t2, q2⟩, hx2⟩))
    go_ret2
    exact ⟨rfl, hx1.trans hx2⟩
  · rw [nthF_no ms n (by omega)]
    have hq1 : (n == 0) = false := by
      have : n ≠ 0 := by omega
      simpa using this
    have hq2 : n < 0 := by omega
    have hq4 : ¬ (n < -((ms.length : Int) + 1)) := by omega
    have hq5 : ¬ ((ms.length : Int) + 1 < n) := by omega
    have hq3 : (ms.length : Int) + n = -1 := by omega
    clear hni
    go_enter Try.func31, Try.ntmps31
    go_wp2_with (first
      | (go_at_call 14; refine hV.mono ?_; rintro e w1 ⟨rfl, hx1⟩; have s1 := h.ext hx1)
      | (go_at_call 54; refine (hLL s1).mono ?_; rintro e w2 ⟨⟨P2, c2, rfl, t2, q2⟩, hx2⟩))
    go_ret2
    exact ⟨rfl, hx1.trans hx2⟩
end Go.Proofs.Ythmcdlieglollaa
