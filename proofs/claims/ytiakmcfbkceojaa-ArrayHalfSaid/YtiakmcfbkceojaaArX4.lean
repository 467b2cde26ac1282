/- Arrays: Put, Take and Shift of both. -/
import Derived.Test.YtiakmcfbkceojaaArX2
import Derived.Test.YtiakmcfbkceojaaArX3
import Derived.Test.YtiakmcfbkceojaaArP9
namespace Go.Proofs.Ytiakmcfbkceojaa
open Go.RowKit Go.Maps
set_option linter.unusedVariables false
set_option linter.unusedSimpArgs false
set_option linter.unusedSectionVars false
set_option maxRecDepth 20000
attribute [local go_sem] Oper.semAt_some

theorem sindex_any (P : Option Addr) (cap : Nat) (l : List Int) (x : Int) (w : World) (h : SlI w P cap l) :
    Calls Try.prog 70 #[.slice P l.length cap, .int .i64 x] w fun e w' => e = .returned (.int .i64 (idxFrom x 0 l)) ∧ w = w' := by
  have hlen : l.length ≤ 9223372036854775807 := Nat.le_trans h.le h.cap
  go_enter Try.func70, Try.ntmps70
  go_wp2
  go_loop [8, 5, 4] (fun i _ _ => ∃ k : Nat, k ≤ l.length ∧ i = .int .i64 k ∧ Hid (idxFrom x 0 l = idxFrom x k (l.drop k))) (fun i _ _ => l.length - (intOf i).toNat)
  case atStart => exact ⟨0, by omega, rfl, Lib.hid rfl⟩
  case round =>
    obtain ⟨k, hk, rfl, hm⟩ := hrel
    by_cases hlt : k < l.length
    · obtain ⟨b, off, hP, hc⟩ := h.at_ k hlt
      have c1 : (k : Int) < l.length := by omega
      have hd := nthI_drop hlt
      subst hP
      by_cases he : nthI l k = x
      · have Hm : Hid (idxFrom x 0 l = (k : Int)) := Lib.hid (by rw [hm.out, hd, idxFrom, if_pos he])
        rw [he] at hc
        clear hd he hm
        go_wp2
        go_ret
        exact ⟨ret_int Hm.out.symm, rfl⟩
      · have Hm : Hid (idxFrom x 0 l = idxFrom x (k + 1) (l.drop (k + 1))) := Lib.hid (by rw [hm.out, hd, idxFrom, if_neg he])
        have c2 : (x == nthI l k) = false := by simp; exact fun e => he e.symm
        clear hd hm he
        generalize nthI l k = y at *
        go_wp2
        go_round
        case rel => exact ⟨k + 1, by omega, by go_num, Hm⟩
        case measure => simp [intOf]; omega
    · obtain rfl : k = l.length := by omega
      have Hm : Hid (idxFrom x 0 l = -1) := Lib.hid (by rw [hm.out, List.drop_length]; rfl)
      go_wp2
      go_ret
      exact ⟨ret_int Hm.out.symm, rfl⟩
theorem scontains_any (P : Option Addr) (cap : Nat) (l : List Int) (x : Int) (w : World) (h : SlI w P cap l) :
    Calls Try.prog 58 #[.slice P l.length cap, .int .i64 x] w fun e w' => e = .returned (.bool (decide (x ∈ l))) ∧ w = w' := by
  have hI := sindex_any P cap l x w h
  rw [← idxFrom_mem x l 0]
  generalize idxFrom x 0 l = r at *
  go_enter Try.func58, Try.ntmps58
  go_wp2_with (go_at_call 70; refine hI.mono ?_; rintro e w1 ⟨rfl, rfl⟩)
  go_ret
  exact ⟨rfl, rfl⟩
/-- all keys, read -/
def LstPost (F : List Int) (w : World) (e : Ending) (w' : World) : Prop := ∃ P c, e = .returned (.slice P F.length c) ∧ SlI w' P c F ∧ Ext w w'
theorem alst (b : Int) (P : Option Addr) (cap : Nat) (Q : Nat → Option Addr) (C : Nat → Nat) (LL : List (List Int)) (w : World) (h : SlA w P cap Q C LL) (hok : ArOk b LL) :
    Calls Try.prog 46 #[.slice P LL.length cap] w (LstPost LL.flatten w) := (listed_any P cap Q C LL w h hok.ne hok.le).mono (by
    rintro e w' ⟨v, rfl, hown, hx⟩
    obtain ⟨P', c', rfl, hs⟩ := slI_of_row hown
    exact ⟨P', c', rfl, hs, hx⟩)
theorem rlst (b : Int) (P : Option Addr) (cap : Nat) (Q : Nat → Option Addr) (C : Nat → Nat) (LL : List (List Int)) (w : World) (h : SlA w P cap Q C LL) (hok : ArOk b LL) :
    Calls Try.prog 48 #[.slice P LL.length cap] w (LstPost LL.flatten w) := (rflat_any P cap Q C LL w h hok.ne hok.le).mono (by
    rintro e w' ⟨v, rfl, hown, hx⟩
    obtain ⟨P', c', rfl, hs⟩ := slI_of_row hown
    exact ⟨P', c', rfl, hs, hx⟩)
/-- Keys of the reference, read -/
def KyPost (F : List Int) (w : World) (e : Ending) (w' : World) : Prop := ∃ P c, e = .returned (.tuple #[.slice P F.length c, .int .i64 0]) ∧ SlI w' P c F ∧ Ext w w'
theorem rky (b : Int) (P : Option Addr) (cap : Nat) (Q : Nat → Option Addr) (C : Nat → Nat) (LL : List (List Int)) (w : World) (h : SlA w P cap Q C LL) (hok : ArOk b LL) :
    Calls Try.prog 20 #[.int .i64 b, .slice P LL.length cap] w (KyPost LL.flatten w) := (rkeys_yes b P cap Q C LL w h hok).mono (by
    rintro e w' ⟨v, rfl, hown, hx⟩
    obtain ⟨P', c', rfl, hs⟩ := slI_of_row hown
    exact ⟨P', c', rfl, hs, hx⟩)
/-- blocks, read -/
def BlkPost (X : List (List Int)) (w : World) (e : Ending) (w' : World) : Prop := ∃ P c Q C, e = .returned (.slice P X.length c) ∧ SlA w' P c Q C X ∧ Ext w w'
/-- blocks and a key, read -/
def Blk2Post (X : List (List Int)) (key : Int) (w : World) (e : Ending) (w' : World) : Prop := ∃ P c Q C, e = .returned (.tuple #[.slice P X.length c, .int .i64 key]) ∧ SlA w' P c Q C X ∧ Ext w w'
def TPost (X : List (List Int)) (key e0 : Int) (w : World) (e : Ending) (w' : World) : Prop := ∃ P c Q C, e = .returned (.tuple #[.slice P X.length c, .int .i64 key, .int .i64 e0]) ∧ SlA w' P c Q C X ∧ Ext w w'
theorem tpost_no {k : Int} {w w' : World} {e : Ending} (h : e = .returned (.tuple #[.slice none 0 0, .int .i64 0, .int .i64 k]) ∧ Ext w w') : TPost [] 0 k w e w' := ⟨none, 0, fun _ => none, fun _ => 0, h.1, SlA.empty _ _ (by omega) _ _, h.2⟩
theorem ArOk.tot {b : Int} {LL : List (List Int)} (h : ArOk b LL) : LL.flatten.length ≤ 500 := h.keys.2.2
section
variable (b : Int) (LL : List (List Int)) (w : World)
/-- insert of owned -/
theorem ins_owned2 (hok : ArOk b LL) (i : Nat) (k : Int) (hi : i ≤ LL.flatten.length) (v : Value) (RR : List Row) (W : World) (hx : Ext w W) (hO : OwnA W w.heap.size v RR) (hT : ∀ r ∈ RR, TightB W w.heap.size r) (hm : RR.map Row.l = LL) :
    Calls Try.prog 41 #[.int .i64 b, v, .int .i64 i, .int .i64 k] W fun e w' => ∃ P c Q C, e = .returned (.slice P (insF b LL i k).length c) ∧ SlA w' P c Q C (insF b LL i k) ∧ Ext w w' := by
  subst hm
  have htot := hok.tot
  have h1 := insert_any b hok.room w.heap.size v RR i k W hO hx.size hi hok.blocks (by omega) (fun h0 => hT _ (by
    refine nthR_mem ?_
    have hS := spotF_spot (LL := RR.map Row.l) (index := i) (by simpa using h0) hi
    have := hS.1
    rw [List.length_map] at this
    exact this))
  refine h1.mono ?_
  rintro e w' ⟨v', RR', rfl, hO', hm', hB, _⟩
  obtain ⟨P, c, Q, C, hv, hA⟩ := hO'.read
  rw [hm'] at hv hA
  subst hv
  exact ⟨P, c, Q, C, rfl, hA, Below.trans hx hB⟩
end
theorem ins_owned (b : Int) (P : Option Addr) (cap : Nat) (Q : Nat → Option Addr) (C : Nat → Nat) (LL : List (List Int)) (w : World) (h : SlA w P cap Q C LL) (hok : ArOk b LL) (i : Nat) (k : Int) (hi : i ≤ LL.flatten.length) (v : Value) (RR : List Row) (W : World) (hx : Ext w W) (hO : OwnA W w.heap.size v RR) (hT : ∀ r ∈ RR, TightB W w.heap.size r) (hm : RR.map Row.l = LL) :
    Calls Try.prog 41 #[.int .i64 b, v, .int .i64 i, .int .i64 k] W fun e w' => ∃ P c Q C, e = .returned (.slice P (insF b LL i k).length c) ∧ SlA w' P c Q C (insF b LL i k) ∧ Ext w w' :=
  ins_owned2 b LL w hok i k hi v RR W hx hO hT hm
section
variable (b : Int) (P : Option Addr) (cap : Nat) (Q : Nat → Option Addr) (C : Nat → Nat) (LL : List (List Int)) (w : World) (h : SlA w P cap Q C LL) (hv : ∀ l ∈ LL, ∀ x ∈ l, In64 x) (index k : Int)
include h hv
theorem aput_no (hok : ¬ (validF b LL = true ∧ keyB k = true)) : Calls Try.prog 33 #[.int .i64 b, .slice P LL.length cap, .int .i64 index, .int .i64 k] w (PPost [] 1 w) := by
  have hV := avalid_any b P cap Q C LL w h hv
  cases hvl : validF b LL with
  | false =>
    rw [hvl] at hV
    go_enter Try.func33, Try.ntmps33
    go_wp2_with (go_at_call 15; refine hV.mono ?_; rintro e w1 ⟨rfl, hx1⟩)
    go_ret2
    exact ppost_no ⟨rfl, hx1⟩
  | true =>
    have hk : keyB k = false := by
      cases hk : keyB k with
      | false => rfl
      | true => exact absurd ⟨hvl, hk⟩ hok
    rw [hvl] at hV
    go_enter Try.func33, Try.ntmps33
    go_wp2_with (first | (go_at_call 15; refine hV.mono ?_; rintro e w1 ⟨rfl, hx1⟩) | (go_at_call 39; refine (akey_any _ _).mono ?_; rintro e w2 ⟨rfl, rfl⟩; rw [hk]))
    go_ret2
    exact ppost_no ⟨rfl, hx1⟩
theorem aput_out (hok : ArOk b LL) (hk : keyB k = true) (hi : ¬ (0 ≤ index ∧ index ≤ LL.flatten.length)) : Calls Try.prog 33 #[.int .i64 b, .slice P LL.length cap, .int .i64 index, .int .i64 k] w (PPost [] 7 w) := by
  have hV := avalid_any b P cap Q C LL w h hv
  rw [validF_iff.2 hok] at hV
  have hL := fun W hW => alst b P cap Q C LL W hW hok
  unfold LstPost at hL
  have htot := hok.tot
  clear hok
  generalize LL.flatten = F at *
  by_cases h0 : index < 0
  · clear hi
    go_enter Try.func33, Try.ntmps33
    go_wp2_with (first | (go_at_call 15; refine hV.mono ?_; rintro e w1 ⟨rfl, hx1⟩) | (go_at_call 39; refine (akey_any _ _).mono ?_; rintro e w2 ⟨rfl, rfl⟩; rw [hk]) | (go_at_call 46; refine (hL _ (by exact h.ext hx1)).mono ?_; rintro e w3 ⟨P', c', rfl, hs, hx3⟩))
    go_ret2
    exact ppost_no ⟨rfl, hx1.trans hx3⟩
  · have h1 : (F.length : Int) < index := by omega
    clear hi
    go_enter Try.func33, Try.ntmps33
    go_wp2_with (first | (go_at_call 15; refine hV.mono ?_; rintro e w1 ⟨rfl, hx1⟩) | (go_at_call 39; refine (akey_any _ _).mono ?_; rintro e w2 ⟨rfl, rfl⟩; rw [hk]) | (go_at_call 46; refine (hL _ (by exact h.ext hx1)).mono ?_; rintro e w3 ⟨P', c', rfl, hs, hx3⟩))
    go_ret2
    exact ppost_no ⟨rfl, hx1.trans hx3⟩
theorem aput_dup (i : Nat) (hok : ArOk b LL) (hk : keyB k = true) (hi : i ≤ LL.flatten.length) (hin : k ∈ LL.flatten) : Calls Try.prog 33 #[.int .i64 b, .slice P LL.length cap, .int .i64 i, .int .i64 k] w (PPost [] 6 w) := by
  have hV := avalid_any b P cap Q C LL w h hv
  rw [validF_iff.2 hok] at hV
  have hL := fun W hW => alst b P cap Q C LL W hW hok
  unfold LstPost at hL
  have htot := hok.tot
  have hd := decide_eq_true hin
  clear hok hin
  generalize LL.flatten = F at *
  have h0 : ¬ (i : Int) < 0 := by omega
  have h1 : ¬ (F.length : Int) < i := by omega
  go_enter Try.func33, Try.ntmps33
  go_wp2_with (first | (go_at_call 15; refine hV.mono ?_; rintro e w1 ⟨rfl, hx1⟩) | (go_at_call 39; refine (akey_any _ _).mono ?_; rintro e w2 ⟨rfl, rfl⟩; rw [hk]) | (go_at_call 46; refine (hL _ (by exact h.ext hx1)).mono ?_; rintro e w3 ⟨P', c', rfl, hs, hx3⟩) | (go_at_call 58; refine (scontains_any P' c' F k _ (by exact hs)).mono ?_; rintro e w4 ⟨rfl, rfl⟩; rw [hd]))
  go_ret2
  exact ppost_no ⟨rfl, hx1.trans hx3⟩
theorem aput_full (i : Nat) (hok : ArOk b LL) (hk : keyB k = true) (hi : i ≤ LL.flatten.length) (hin : k ∉ LL.flatten) (hf : ¬ LL.flatten.length < 500) : Calls Try.prog 33 #[.int .i64 b, .slice P LL.length cap, .int .i64 i, .int .i64 k] w (PPost [] 4 w) := by
  have hV := avalid_any b P cap Q C LL w h hv
  rw [validF_iff.2 hok] at hV
  have hL := fun W hW => alst b P cap Q C LL W hW hok
  unfold LstPost at hL
  have htot := hok.tot
  have hd := decide_eq_false hin
  clear hok hin
  generalize LL.flatten = F at *
  have h0 : ¬ (i : Int) < 0 := by omega
  have h1 : ¬ (F.length : Int) < i := by omega
  have h2 : (500 : Int) ≤ F.length := by omega
  have h3 : ((F.length : Int) == 500) = true := by simp; omega
  go_enter Try.func33, Try.ntmps33
  go_wp2_with (first | (go_at_call 15; refine hV.mono ?_; rintro e w1 ⟨rfl, hx1⟩) | (go_at_call 39; refine (akey_any _ _).mono ?_; rintro e w2 ⟨rfl, rfl⟩; rw [hk]) | (go_at_call 46; refine (hL _ (by exact h.ext hx1)).mono ?_; rintro e w3 ⟨P', c', rfl, hs, hx3⟩) | (go_at_call 58; refine (scontains_any P' c' F k _ (by exact hs)).mono ?_; rintro e w4 ⟨rfl, rfl⟩; rw [hd]))
  go_ret2
  exact ppost_no ⟨rfl, hx1.trans hx3⟩
theorem aput_yes (i : Nat) (hok : ArOk b LL) (hk : keyB k = true) (hi : i ≤ LL.flatten.length) (hin : k ∉ LL.flatten) (hf : LL.flatten.length < 500) : Calls Try.prog 33 #[.int .i64 b, .slice P LL.length cap, .int .i64 i, .int .i64 k] w (PPost (insF b LL i k) 0 w) := by
  have hV := avalid_any b P cap Q C LL w h hv
  rw [validF_iff.2 hok] at hV
  have hL := fun W hW => alst b P cap Q C LL W hW hok
  unfold LstPost at hL
  have htot := hok.tot
  have hd := decide_eq_false hin
  have hOw := fun W hW => owned_any P cap Q C LL W hW hok.ne hok.le
  unfold OwdPost at hOw
  have hIn := fun (W0 : World) hW0 => fun v RR W hx hO hT hm => ins_owned b P cap Q C LL W0 hW0 hok i k hi v RR W hx hO hT hm
  clear hok hin
  generalize LL.flatten = F at *
  have h0 : ¬ (i : Int) < 0 := by omega
  have h1 : ¬ (F.length : Int) < i := by omega
  have h2 : ¬ (500 : Int) ≤ F.length := by omega
  have h3 : ((F.length : Int) == 500) = false := by simp; omega
  go_enter Try.func33, Try.ntmps33
  go_wp2_with (first | (go_at_call 15; refine hV.mono ?_; rintro e w1 ⟨rfl, hx1⟩) | (go_at_call 39; refine (akey_any _ _).mono ?_; rintro e w2 ⟨rfl, rfl⟩; rw [hk]) | (go_at_call 46; refine (hL _ (by exact h.ext hx1)).mono ?_; rintro e w3 ⟨P', c', rfl, hs, hx3⟩) | (go_at_call 58; refine (scontains_any P' c' F k _ (by exact hs)).mono ?_; rintro e w4 ⟨rfl, rfl⟩; rw [hd]) | (go_at_call 57; refine (hOw _ (by exact h.ext (hx1.trans hx3))).mono ?_; rintro e w5 ⟨v5, R5, rfl, hO5, hT5, hm5, hx5⟩) | (go_at_call 41; refine (hIn _ (h.ext (hx1.trans hx3)) v5 R5 _ hx5 hO5 hT5 hm5).mono ?_; rintro e w6 ⟨P6, c6, Q6, C6, rfl, hA6, hx6⟩))
  go_ret2
  exact ⟨P6, c6, Q6, C6, rfl, hA6, (hx1.trans hx3).trans hx6⟩
theorem rput_no (hok : ¬ (validF b LL = true ∧ keyB k = true)) : Calls Try.prog 34 #[.int .i64 b, .slice P LL.length cap, .int .i64 index, .int .i64 k] w (PPost [] 1 w) := by
  have hV := rvalid_any b P cap Q C LL w h
  cases hvl : validF b LL with
  | false =>
    rw [hvl] at hV
    go_enter Try.func34, Try.ntmps34
    go_wp2_with (go_at_call 19; refine hV.mono ?_; rintro e w1 ⟨rfl, hx1⟩)
    go_ret2
    exact ppost_no ⟨rfl, hx1⟩
  | true =>
    have hk : keyB k = false := by
      cases hk : keyB k with
      | false => rfl
      | true => exact absurd ⟨hvl, hk⟩ hok
    rw [hvl] at hV
    go_enter Try.func34, Try.ntmps34
    go_wp2_with (first | (go_at_call 19; refine hV.mono ?_; rintro e w1 ⟨rfl, hx1⟩) | (go_at_call 43; refine (rkey_any _ _).mono ?_; rintro e w2 ⟨rfl, rfl⟩; rw [hk]))
    go_ret2
    exact ppost_no ⟨rfl, hx1⟩
theorem rput_out (hok : ArOk b LL) (hk : keyB k = true) (hi : ¬ (0 ≤ index ∧ index ≤ LL.flatten.length)) : Calls Try.prog 34 #[.int .i64 b, .slice P LL.length cap, .int .i64 index, .int .i64 k] w (PPost [] 7 w) := by
  have hV := rvalid_any b P cap Q C LL w h
  rw [validF_iff.2 hok] at hV
  have hL := fun W hW => rlst b P cap Q C LL W hW hok
  unfold LstPost at hL
  have htot := hok.tot
  clear hok
  generalize LL.flatten = F at *
  by_cases h0 : index < 0
  · clear hi
    go_enter Try.func34, Try.ntmps34
    go_wp2_with (first | (go_at_call 19; refine hV.mono ?_; rintro e w1 ⟨rfl, hx1⟩) | (go_at_call 43; refine (rkey_any _ _).mono ?_; rintro e w2 ⟨rfl, rfl⟩; rw [hk]) | (go_at_call 48; refine (hL _ (by exact h.ext hx1)).mono ?_; rintro e w3 ⟨P', c', rfl, hs, hx3⟩))
    go_ret2
    exact ppost_no ⟨rfl, hx1.trans hx3⟩
  · have h1 : (F.length : Int) < index := by omega
    clear hi
    go_enter Try.func34, Try.ntmps34
    go_wp2_with (first | (go_at_call 19; refine hV.mono ?_; rintro e w1 ⟨rfl, hx1⟩) | (go_at_call 43; refine (rkey_any _ _).mono ?_; rintro e w2 ⟨rfl, rfl⟩; rw [hk]) | (go_at_call 48; refine (hL _ (by exact h.ext hx1)).mono ?_; rintro e w3 ⟨P', c', rfl, hs, hx3⟩))
    go_ret2
    exact ppost_no ⟨rfl, hx1.trans hx3⟩
theorem rput_dup (i : Nat) (hok : ArOk b LL) (hk : keyB k = true) (hi : i ≤ LL.flatten.length) (hin : k ∈ LL.flatten) : Calls Try.prog 34 #[.int .i64 b, .slice P LL.length cap, .int .i64 i, .int .i64 k] w (PPost [] 6 w) := by
  have hV := rvalid_any b P cap Q C LL w h
  rw [validF_iff.2 hok] at hV
  have hL := fun W hW => rlst b P cap Q C LL W hW hok
  unfold LstPost at hL
  have htot := hok.tot
  have hd := decide_eq_true hin
  clear hok hin
  generalize LL.flatten = F at *
  have h0 : ¬ (i : Int) < 0 := by omega
  have h1 : ¬ (F.length : Int) < i := by omega
  go_enter Try.func34, Try.ntmps34
  go_wp2_with (first | (go_at_call 19; refine hV.mono ?_; rintro e w1 ⟨rfl, hx1⟩) | (go_at_call 43; refine (rkey_any _ _).mono ?_; rintro e w2 ⟨rfl, rfl⟩; rw [hk]) | (go_at_call 48; refine (hL _ (by exact h.ext hx1)).mono ?_; rintro e w3 ⟨P', c', rfl, hs, hx3⟩) | (go_at_call 47; refine (has_any P' c' F k _ (by exact hs)).mono ?_; rintro e w4 ⟨rfl, rfl⟩; rw [hd]))
  go_ret2
  exact ppost_no ⟨rfl, hx1.trans hx3⟩
theorem rput_full (i : Nat) (hok : ArOk b LL) (hk : keyB k = true) (hi : i ≤ LL.flatten.length) (hin : k ∉ LL.flatten) (hf : ¬ LL.flatten.length < 500) : Calls Try.prog 34 #[.int .i64 b, .slice P LL.length cap, .int .i64 i, .int .i64 k] w (PPost [] 4 w) := by
  have hV := rvalid_any b P cap Q C LL w h
  rw [validF_iff.2 hok] at hV
  have hL := fun W hW => rlst b P cap Q C LL W hW hok
  unfold LstPost at hL
  have htot := hok.tot
  have hd := decide_eq_false hin
  clear hok hin
  generalize LL.flatten = F at *
  have h0 : ¬ (i : Int) < 0 := by omega
  have h1 : ¬ (F.length : Int) < i := by omega
  have h2 : (500 : Int) ≤ F.length := by omega
  have h3 : ((F.length : Int) == 500) = true := by simp; omega
  go_enter Try.func34, Try.ntmps34
  go_wp2_with (first | (go_at_call 19; refine hV.mono ?_; rintro e w1 ⟨rfl, hx1⟩) | (go_at_call 43; refine (rkey_any _ _).mono ?_; rintro e w2 ⟨rfl, rfl⟩; rw [hk]) | (go_at_call 48; refine (hL _ (by exact h.ext hx1)).mono ?_; rintro e w3 ⟨P', c', rfl, hs, hx3⟩) | (go_at_call 47; refine (has_any P' c' F k _ (by exact hs)).mono ?_; rintro e w4 ⟨rfl, rfl⟩; rw [hd]))
  go_ret2
  exact ppost_no ⟨rfl, hx1.trans hx3⟩
theorem rput_yes (i : Nat) (hok : ArOk b LL) (hk : keyB k = true) (hi : i ≤ LL.flatten.length) (hin : k ∉ LL.flatten) (hf : LL.flatten.length < 500) : Calls Try.prog 34 #[.int .i64 b, .slice P LL.length cap, .int .i64 i, .int .i64 k] w (PPost (insF b LL i k) 0 w) := by
  have hV := rvalid_any b P cap Q C LL w h
  rw [validF_iff.2 hok] at hV
  have hL := fun W hW => rlst b P cap Q C LL W hW hok
  unfold LstPost at hL
  have htot := hok.tot
  have hd := decide_eq_false hin
  have hIn := fun W hW => rput_any b hok.room P cap Q C LL i k W hW hok.blocks hi (by omega)
  unfold ArrPost at hIn
  clear hok hin
  generalize LL.flatten = F at *
  have h0 : ¬ (i : Int) < 0 := by omega
  have h1 : ¬ (F.length : Int) < i := by omega
  have h2 : ¬ (500 : Int) ≤ F.length := by omega
  have h3 : ((F.length : Int) == 500) = false := by simp; omega
  go_enter Try.func34, Try.ntmps34
  go_wp2_with (first | (go_at_call 19; refine hV.mono ?_; rintro e w1 ⟨rfl, hx1⟩) | (go_at_call 43; refine (rkey_any _ _).mono ?_; rintro e w2 ⟨rfl, rfl⟩; rw [hk]) | (go_at_call 48; refine (hL _ (by exact h.ext hx1)).mono ?_; rintro e w3 ⟨P', c', rfl, hs, hx3⟩) | (go_at_call 47; refine (has_any P' c' F k _ (by exact hs)).mono ?_; rintro e w4 ⟨rfl, rfl⟩; rw [hd]) | (go_at_call 45; refine (hIn _ (by exact h.ext (hx1.trans hx3))).mono ?_; rintro e w6 ⟨v6, R6, rfl, hO6, hm6, hx6⟩; obtain ⟨P6, c6, Q6, C6, hv6, hA6⟩ := hO6.read; rw [hm6] at hv6 hA6; subst hv6))
  go_ret2
  exact ⟨P6, c6, Q6, C6, rfl, hA6, (hx1.trans hx3).trans hx6⟩
end
/-- remove of owned -/
def RmoPost (X : List (List Int)) (key : Int) (W0 : World) (e : Ending) (w' : World) : Prop := ∃ v RR, e = .returned (.tuple #[v, .int .i64 key]) ∧ OwnA w' W0.heap.size v RR ∧ (∀ r ∈ RR, TightB w' W0.heap.size r) ∧ RR.map Row.l = X ∧ Ext W0 w'
theorem rem_owned (b : Int) (P : Option Addr) (cap : Nat) (Q : Nat → Option Addr) (C : Nat → Nat) (LL : List (List Int)) (w : World) (h : SlA w P cap Q C LL) (hok : ArOk b LL) (i : Nat) (hi : i < LL.flatten.length) (v : Value) (RR : List Row) (W : World) (hx : Ext w W) (hO : OwnA W w.heap.size v RR) (hT : ∀ r ∈ RR, TightB W w.heap.size r) (hm : RR.map Row.l = LL) :
    Calls Try.prog 56 #[.int .i64 b, v, .int .i64 i] W fun e w' => ∃ v' RR', e = .returned (.tuple #[v', .int .i64 (nthI LL.flatten i)]) ∧ OwnA w' w.heap.size v' RR' ∧ (∀ r ∈ RR', TightB w' w.heap.size r) ∧ RR'.map Row.l = remF b LL i ∧ Ext w w' := by
  subst hm
  have htot := hok.tot
  rcases hO.cases with ⟨rfl, rfl⟩ | ⟨g, c, rfl, _, _, _⟩
  · simp at hi
  · have h1 := remove_any b hok.room w.heap.size g c RR i W hO hT hx.size hi hok.blocks (by omega)
    refine h1.mono ?_
    rintro e w' ⟨v', RR', rfl, hO', hT', hm', hB⟩
    exact ⟨v', RR', rfl, hO', hT', hm', Below.trans hx hB⟩
section
variable (b : Int) (P : Option Addr) (cap : Nat) (Q : Nat → Option Addr) (C : Nat → Nat) (LL : List (List Int)) (w : World) (h : SlA w P cap Q C LL) (hv : ∀ l ∈ LL, ∀ x ∈ l, In64 x) (index : Int)
include h hv
theorem atake_no (hok : ¬ ArOk b LL) : Calls Try.prog 32 #[.int .i64 b, .slice P LL.length cap, .int .i64 index] w (TPost [] 0 1 w) := by
  have hV := avalid_any b P cap Q C LL w h hv
  rw [validF_no hok] at hV
  go_enter Try.func32, Try.ntmps32
  go_wp2_with (go_at_call 15; refine hV.mono ?_; rintro e w1 ⟨rfl, hx1⟩)
  go_ret3
  exact tpost_no ⟨rfl, hx1⟩
theorem atake_out (hok : ArOk b LL) (hi : ¬ (0 ≤ index ∧ index < LL.flatten.length)) : Calls Try.prog 32 #[.int .i64 b, .slice P LL.length cap, .int .i64 index] w (TPost [] 0 7 w) := by
  have hV := avalid_yes b P cap Q C LL w h hok
  have hL := fun W hW => alst b P cap Q C LL W hW hok
  unfold LstPost at hL
  have htot := hok.tot
  clear hok
  generalize LL.flatten = F at *
  by_cases h0 : index < 0
  · clear hi
    go_enter Try.func32, Try.ntmps32
    go_wp2_with (go_at_call 15; refine hV.mono ?_; rintro e w1 ⟨rfl, hx1⟩)
    go_ret3
    exact tpost_no ⟨rfl, hx1⟩
  · have h1 : (F.length : Int) ≤ index := by omega
    clear hi
    go_enter Try.func32, Try.ntmps32
    go_wp2_with (first | (go_at_call 15; refine hV.mono ?_; rintro e w1 ⟨rfl, hx1⟩) | (go_at_call 46; refine (hL _ (by exact h.ext hx1)).mono ?_; rintro e w3 ⟨P', c', rfl, hs, hx3⟩))
    go_ret3
    exact tpost_no ⟨rfl, hx1.trans hx3⟩
theorem atake_yes (i : Nat) (hok : ArOk b LL) (hi : i < LL.flatten.length) : Calls Try.prog 32 #[.int .i64 b, .slice P LL.length cap, .int .i64 i] w (TPost (remF b LL i) (nthI LL.flatten i) 0 w) := by
  have hV := avalid_yes b P cap Q C LL w h hok
  have hL := fun W hW => alst b P cap Q C LL W hW hok
  unfold LstPost at hL
  have htot := hok.tot
  have hOw := fun W hW => owned_any P cap Q C LL W hW hok.ne hok.le
  unfold OwdPost at hOw
  have hRm := fun (W0 : World) hW0 => fun v RR W hx hO hT hm => rem_owned b P cap Q C LL W0 hW0 hok i hi v RR W hx hO hT hm
  clear hok
  generalize LL.flatten = F at *
  generalize nthI F i = key at *
  have h0 : ¬ (i : Int) < 0 := by omega
  have h1 : ¬ (F.length : Int) ≤ i := by omega
  go_enter Try.func32, Try.ntmps32
  go_wp2_with (first | (go_at_call 15; refine hV.mono ?_; rintro e w1 ⟨rfl, hx1⟩) | (go_at_call 46; refine (hL _ (by exact h.ext hx1)).mono ?_; rintro e w3 ⟨P', c', rfl, hs, hx3⟩) | (go_at_call 57; refine (hOw _ (by exact h.ext (hx1.trans hx3))).mono ?_; rintro e w5 ⟨v5, R5, rfl, hO5, hT5, hm5, hx5⟩) | (go_at_call 56; refine (hRm _ (h.ext (hx1.trans hx3)) v5 R5 _ hx5 hO5 hT5 hm5).mono ?_; rintro e w6 ⟨v6, R6, rfl, hO6, hT6, hm6, hx6⟩; obtain ⟨P6, c6, Q6, C6, hv6, hA6⟩ := hO6.read; rw [hm6] at hv6 hA6; subst hv6))
  go_ret3
  exact ⟨P6, c6, Q6, C6, rfl, hA6, (hx1.trans hx3).trans hx6⟩
theorem rtk_no (hok : ¬ ArOk b LL) : Calls Try.prog 36 #[.int .i64 b, .slice P LL.length cap, .int .i64 index] w (TPost [] 0 1 w) := by
  have hV := rkeys_no b P cap Q C LL w h hok
  go_enter Try.func36, Try.ntmps36
  go_wp2_with (go_at_call 20; refine hV.mono ?_; rintro e w1 ⟨rfl, hx1⟩)
  go_ret3
  exact tpost_no ⟨rfl, hx1⟩
theorem rtk_out (hok : ArOk b LL) (hi : ¬ (0 ≤ index ∧ index < LL.flatten.length)) : Calls Try.prog 36 #[.int .i64 b, .slice P LL.length cap, .int .i64 index] w (TPost [] 0 7 w) := by
  have hV := rky b P cap Q C LL w h hok
  unfold KyPost at hV
  have htot := hok.tot
  clear hok
  generalize LL.flatten = F at *
  by_cases h0 : index < 0
  · clear hi
    go_enter Try.func36, Try.ntmps36
    go_wp2_with (first | (go_at_call 20; refine hV.mono ?_; rintro e w1 ⟨P', c', rfl, hs, hx1⟩))
    go_ret3
    exact tpost_no ⟨rfl, hx1⟩
  · have h1 : (F.length : Int) ≤ index := by omega
    clear hi
    go_enter Try.func36, Try.ntmps36
    go_wp2_with (first | (go_at_call 20; refine hV.mono ?_; rintro e w1 ⟨P', c', rfl, hs, hx1⟩))
    go_ret3
    exact tpost_no ⟨rfl, hx1⟩
theorem rtk_yes (i : Nat) (hok : ArOk b LL) (hi : i < LL.flatten.length) : Calls Try.prog 36 #[.int .i64 b, .slice P LL.length cap, .int .i64 i] w (TPost (remF b LL i) (nthI LL.flatten i) 0 w) := by
  have hV := rky b P cap Q C LL w h hok
  unfold KyPost at hV
  have htot := hok.tot
  have hRm := fun W hW => rtake_any b hok.room P cap Q C LL i W hW hok.blocks hi (by omega)
  unfold TakPost at hRm
  clear hok
  generalize LL.flatten = F at *
  generalize nthI F i = key at *
  have h0 : ¬ (i : Int) < 0 := by omega
  have h1 : ¬ (F.length : Int) ≤ i := by omega
  go_enter Try.func36, Try.ntmps36
  go_wp2_with (first | (go_at_call 20; refine hV.mono ?_; rintro e w1 ⟨P', c', rfl, hs, hx1⟩) | (go_at_call 59; refine (hRm _ (by exact h.ext hx1)).mono ?_; rintro e w6 ⟨v6, R6, rfl, hO6, hm6, hx6⟩; obtain ⟨P6, c6, Q6, C6, hv6, hA6⟩ := hO6.read; rw [hm6] at hv6 hA6; subst hv6))
  go_ret3
  exact ⟨P6, c6, Q6, C6, rfl, hA6, (hx1).trans hx6⟩
end
section
variable (b : Int) (P : Option Addr) (cap : Nat) (Q : Nat → Option Addr) (C : Nat → Nat) (LL : List (List Int)) (w : World) (h : SlA w P cap Q C LL) (hv : ∀ l ∈ LL, ∀ x ∈ l, In64 x) (index too : Int)
include h hv
theorem ashift_no (hok : ¬ ArOk b LL) : Calls Try.prog 37 #[.int .i64 b, .slice P LL.length cap, .int .i64 index, .int .i64 too] w (PPost [] 1 w) := by
  have hV := avalid_any b P cap Q C LL w h hv
  rw [validF_no hok] at hV
  go_enter Try.func37, Try.ntmps37
  go_wp2_with (go_at_call 15; refine hV.mono ?_; rintro e w1 ⟨rfl, hx1⟩)
  go_ret2
  exact ppost_no ⟨rfl, hx1⟩
theorem ashift_out (hok : ArOk b LL) (hi : ¬ (0 ≤ index ∧ index < LL.flatten.length ∧ 0 ≤ too ∧ too < LL.flatten.length)) : Calls Try.prog 37 #[.int .i64 b, .slice P LL.length cap, .int .i64 index, .int .i64 too] w (PPost [] 7 w) := by
  have hV := avalid_yes b P cap Q C LL w h hok
  have hL := fun W hW => alst b P cap Q C LL W hW hok
  unfold LstPost at hL
  have htot := hok.tot
  clear hok
  generalize LL.flatten = F at *
  by_cases h0 : index < 0
  · clear hi
    go_enter Try.func37, Try.ntmps37
    go_wp2_with (first | (go_at_call 15; refine hV.mono ?_; rintro e w1 ⟨rfl, hx1⟩) | (go_at_call 46; refine (hL _ (by exact h.ext hx1)).mono ?_; rintro e w3 ⟨P', c', rfl, hs, hx3⟩))
    go_ret2
    exact ppost_no ⟨rfl, hx1.trans hx3⟩
  · by_cases h1 : (F.length : Int) ≤ index
    · clear hi
      go_enter Try.func37, Try.ntmps37
      go_wp2_with (first | (go_at_call 15; refine hV.mono ?_; rintro e w1 ⟨rfl, hx1⟩) | (go_at_call 46; refine (hL _ (by exact h.ext hx1)).mono ?_; rintro e w3 ⟨P', c', rfl, hs, hx3⟩))
      go_ret2
      exact ppost_no ⟨rfl, hx1.trans hx3⟩
    · by_cases h2 : too < 0
      · clear hi
        go_enter Try.func37, Try.ntmps37
        go_wp2_with (first | (go_at_call 15; refine hV.mono ?_; rintro e w1 ⟨rfl, hx1⟩) | (go_at_call 46; refine (hL _ (by exact h.ext hx1)).mono ?_; rintro e w3 ⟨P', c', rfl, hs, hx3⟩))
        go_ret2
        exact ppost_no ⟨rfl, hx1.trans hx3⟩
      · have h3 : (F.length : Int) ≤ too := by omega
        clear hi
        go_enter Try.func37, Try.ntmps37
        go_wp2_with (first | (go_at_call 15; refine hV.mono ?_; rintro e w1 ⟨rfl, hx1⟩) | (go_at_call 46; refine (hL _ (by exact h.ext hx1)).mono ?_; rintro e w3 ⟨P', c', rfl, hs, hx3⟩))
        go_ret2
        exact ppost_no ⟨rfl, hx1.trans hx3⟩
theorem ashift_yes (i j : Nat) (hok : ArOk b LL) (hi : i < LL.flatten.length) (hj : j < LL.flatten.length) : Calls Try.prog 37 #[.int .i64 b, .slice P LL.length cap, .int .i64 i, .int .i64 j] w (PPost (insF b (remF b LL i) j (nthI LL.flatten i)) 0 w) := by
  have hV := avalid_yes b P cap Q C LL w h hok
  have hL := fun W hW => alst b P cap Q C LL W hW hok
  unfold LstPost at hL
  have htot := hok.tot
  have hok2 := hok.rem hi
  have hl2 : (remF b LL i).flatten.length = LL.flatten.length - 1 := by rw [remF_flat hi, List.length_eraseIdx, if_pos hi]
  have hOw := fun W hW => owned_any P cap Q C LL W hW hok.ne hok.le
  unfold OwdPost at hOw
  have hRm := fun (W0 : World) hW0 => fun v RR W hx hO hT hm => rem_owned b P cap Q C LL W0 hW0 hok i hi v RR W hx hO hT hm
  have hIn := fun (P : Option Addr) (cap : Nat) (Q : Nat → Option Addr) (C : Nat → Nat) (W0 : World) => fun v RR W hx hO hT hm => ins_owned2 b (remF b LL i) W0 hok2 j (nthI LL.flatten i) (by omega) v RR W hx hO hT hm
  clear hok hok2
  generalize remF b LL i = X at *
  generalize LL.flatten = F at *
  generalize nthI F i = key at *
  have h0 : ¬ (i : Int) < 0 := by omega
  have h1 : ¬ (F.length : Int) ≤ i := by omega
  have h2 : ¬ (j : Int) < 0 := by omega
  have h3 : ¬ (F.length : Int) ≤ j := by omega
  go_enter Try.func37, Try.ntmps37
  go_wp2_with (first | (go_at_call 15; refine hV.mono ?_; rintro e w1 ⟨rfl, hx1⟩) | (go_at_call 46; refine (hL _ (by exact h.ext hx1)).mono ?_; rintro e w3 ⟨P', c', rfl, hs, hx3⟩) | (go_at_call 57; refine (hOw _ (by exact h.ext (hx1.trans hx3))).mono ?_; rintro e w5 ⟨v5, R5, rfl, hO5, hT5, hm5, hx5⟩) | (go_at_call 56; refine (hRm _ (h.ext (hx1.trans hx3)) v5 R5 _ hx5 hO5 hT5 hm5).mono ?_; rintro e w6 ⟨v6, R6, rfl, hO6, hT6, hm6, hx6⟩) | (go_at_call 41; refine (hIn none 0 (fun _ => none) (fun _ => 0) _ v6 R6 _ hx6 hO6 hT6 hm6).mono ?_; rintro e w7 ⟨P7, c7, Q7, C7, rfl, hA7, hx7⟩))
  go_ret2
  exact ⟨P7, c7, Q7, C7, rfl, hA7, (hx1.trans hx3).trans hx7⟩
theorem rshift_no (hok : ¬ ArOk b LL) : Calls Try.prog 38 #[.int .i64 b, .slice P LL.length cap, .int .i64 index, .int .i64 too] w (PPost [] 1 w) := by
  have hV := rkeys_no b P cap Q C LL w h hok
  go_enter Try.func38, Try.ntmps38
  go_wp2_with (go_at_call 20; refine hV.mono ?_; rintro e w1 ⟨rfl, hx1⟩)
  go_ret2
  exact ppost_no ⟨rfl, hx1⟩
theorem rshift_out (hok : ArOk b LL) (hi : ¬ (0 ≤ index ∧ index < LL.flatten.length ∧ 0 ≤ too ∧ too < LL.flatten.length)) : Calls Try.prog 38 #[.int .i64 b, .slice P LL.length cap, .int .i64 index, .int .i64 too] w (PPost [] 7 w) := by
  have hV := rky b P cap Q C LL w h hok
  unfold KyPost at hV
  have htot := hok.tot
  clear hok
  generalize LL.flatten = F at *
  by_cases h0 : index < 0
  · clear hi
    go_enter Try.func38, Try.ntmps38
    go_wp2_with (first | (go_at_call 20; refine hV.mono ?_; rintro e w1 ⟨P', c', rfl, hs, hx1⟩))
    go_ret2
    exact ppost_no ⟨rfl, hx1⟩
  · by_cases h1 : (F.length : Int) ≤ index
    · clear hi
      go_enter Try.func38, Try.ntmps38
      go_wp2_with (first | (go_at_call 20; refine hV.mono ?_; rintro e w1 ⟨P', c', rfl, hs, hx1⟩))
      go_ret2
      exact ppost_no ⟨rfl, hx1⟩
    · by_cases h2 : too < 0
      · clear hi
        go_enter Try.func38, Try.ntmps38
        go_wp2_with (first | (go_at_call 20; refine hV.mono ?_; rintro e w1 ⟨P', c', rfl, hs, hx1⟩))
        go_ret2
        exact ppost_no ⟨rfl, hx1⟩
      · have h3 : (F.length : Int) ≤ too := by omega
        clear hi
        go_enter Try.func38, Try.ntmps38
        go_wp2_with (first | (go_at_call 20; refine hV.mono ?_; rintro e w1 ⟨P', c', rfl, hs, hx1⟩))
        go_ret2
        exact ppost_no ⟨rfl, hx1⟩
theorem rshift_yes (i j : Nat) (hok : ArOk b LL) (hi : i < LL.flatten.length) (hj : j < LL.flatten.length) : Calls Try.prog 38 #[.int .i64 b, .slice P LL.length cap, .int .i64 i, .int .i64 j] w (PPost (insF b (remF b LL i) j (nthI LL.flatten i)) 0 w) := by
  have hV := rky b P cap Q C LL w h hok
  unfold KyPost at hV
  have htot := hok.tot
  have hok2 := hok.rem hi
  have hl2 : (remF b LL i).flatten.length = LL.flatten.length - 1 := by rw [remF_flat hi, List.length_eraseIdx, if_pos hi]
  have hRm := fun W hW => rtake_any b hok.room P cap Q C LL i W hW hok.blocks hi (by omega)
  have hIn := fun P cap Q C W hW => rput_any b hok.room P cap Q C (remF b LL i) j (nthI LL.flatten i) W hW hok2.blocks (by omega) (by omega)
  unfold TakPost at hRm
  unfold ArrPost at hIn
  clear hok hok2
  generalize remF b LL i = X at *
  generalize LL.flatten = F at *
  generalize nthI F i = key at *
  have h0 : ¬ (i : Int) < 0 := by omega
  have h1 : ¬ (F.length : Int) ≤ i := by omega
  have h2 : ¬ (j : Int) < 0 := by omega
  have h3 : ¬ (F.length : Int) ≤ j := by omega
  go_enter Try.func38, Try.ntmps38
  go_wp2_with (first | (go_at_call 20; refine hV.mono ?_; rintro e w1 ⟨P', c', rfl, hs, hx1⟩) | (go_at_call 59; refine (hRm _ (by exact h.ext hx1)).mono ?_; rintro e w6 ⟨v6, R6, rfl, hO6, hm6, hx6⟩; obtain ⟨P6, c6, Q6, C6, hv6, hA6⟩ := hO6.read; rw [hm6] at hv6 hA6; subst hv6) | (go_at_call 45; refine (hIn _ _ _ _ _ (by exact hA6)).mono ?_; rintro e w7 ⟨v7, R7, rfl, hO7, hm7, hx7⟩; obtain ⟨P7, c7, Q7, C7, hv7, hA7⟩ := hO7.read; rw [hm7] at hv7 hA7; subst hv7))
  go_ret2
  exact ⟨P7, c7, Q7, C7, rfl, hA7, hx1.trans (hx6.trans hx7)⟩
end
end Go.Proofs.Ytiakmcfbkceojaa
