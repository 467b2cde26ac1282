/- Rings: Insert, Remove, Shift of the program and of the reference. -/
import Derived.Test.YthmcdlieglollaaChC4
namespace Go.Proofs.Ythmcdlieglollaa
open Go.RowKit Go.Sort Go.Maps
set_option linter.unusedVariables false
set_option linter.unusedSimpArgs false
set_option linter.unusedSectionVars false
set_option maxRecDepth 20000
attribute [local go_sem] Oper.semAt_some

theorem in_round {o : Int} {ms : List Int} (k : Int) : idxI (o :: ms) k < 0 ∨ ∃ i : Nat, i < ms.length + 1 ∧ nthI (o :: ms) i = k ∧ idxI (o :: ms) k = i := by
  by_cases h : idxI (o :: ms) k < 0
  · exact .inl h
  · have h1 := (idxI_ge (o :: ms) k).2
    simp only [List.length_cons] at h1
    exact .inr ⟨(idxI (o :: ms) k).toNat, by omega, idxI_val _ _ (by omega), by omega⟩
theorem at_no (P : Option Addr) (cap : Nat) (l : List Lk) (o : Int) (ms : List Int) (k : Int) (hlb : l = builtF o ms) (w : World) (h : SlL w P cap l) (hno : idxI (o :: ms) k < 0) :
    Calls Try.prog 52 #[.slice P l.length cap, .int .i64 k] w fun e w' => e = .returned (.int .i64 (-1)) ∧ w' = w := by
  have := at_any P cap l k w h
  have h1 := (idxI_ge (ks l) k).1
  have h2 : ¬ 0 ≤ idxI (ks l) k := by rw [hlb]; exact ks_no hno
  rwa [show idxI (ks l) k = -1 from by omega] at this
theorem at_yes (P : Option Addr) (cap : Nat) (l : List Lk) (o : Int) (ms : List Int) (k : Int) (i : Nat) (hlb : l = builtF o ms) (hr : Right (o :: ms)) (w : World) (h : SlL w P cap l) (hi : i < ms.length + 1) (hik : nthI (o :: ms) i = k) :
    Calls Try.prog 52 #[.slice P l.length cap, .int .i64 k] w fun e w' => e = .returned (.int .i64 (placeF o ms i)) ∧ w' = w := by
  have := at_any P cap l k w h
  rwa [show idxI (ks l) k = placeF o ms i from by rw [hlb, ← hik]; exact ks_yes hr hi] at this
def insE (o : Int) (ms : List Int) (a k : Int) : Int := if keyB a = false then 1 else if keyB k = false then 1 else if idxI (o :: ms) a < 0 then 5 else if idxI (o :: ms) k < 0 then 0 else 6
def insL (o : Int) (ms : List Int) (a k : Int) : List Lk := if insE o ms a k = 0 then builtF o (insF ms a k) else []
def remE (o : Int) (ms : List Int) (k : Int) : Int := if keyB k = false then 1 else if idxI (o :: ms) k < 0 then 5 else if k = o then 14 else 0
def remL (o : Int) (ms : List Int) (k : Int) : List Lk := if remE o ms k = 0 then builtF o (remF ms k) else []
def shE (o : Int) (ms : List Int) (k a : Int) : Int := if keyB k = false then 1 else if keyB a = false then 1 else if idxI (o :: ms) k < 0 then 5 else if idxI (o :: ms) a < 0 then 5 else if k = o then 14 else 0
def shL (o : Int) (ms : List Int) (k a : Int) : List Lk := if shE o ms k a = 0 then (if k = a then builtF o ms else builtF o (insF (remF ms k) a k)) else []
theorem nat_not_neg (i : Nat) : ¬ (i : Int) < 0 := by omega
theorem ins_cases (o : Int) (ms : List Int) (a k : Int) :
    (keyB a = false ∧ insE o ms a k = 1 ∧ insL o ms a k = []) ∨ (keyB a = true ∧ keyB k = false ∧ insE o ms a k = 1 ∧ insL o ms a k = []) ∨
    (keyB a = true ∧ keyB k = true ∧ idxI (o :: ms) a < 0 ∧ insE o ms a k = 5 ∧ insL o ms a k = []) ∨
    (∃ i j : Nat, keyB a = true ∧ keyB k = true ∧ i < ms.length + 1 ∧ nthI (o :: ms) i = a ∧ j < ms.length + 1 ∧ nthI (o :: ms) j = k ∧ insE o ms a k = 6 ∧ insL o ms a k = []) ∨
    (∃ i : Nat, keyB a = true ∧ keyB k = true ∧ i < ms.length + 1 ∧ nthI (o :: ms) i = a ∧ idxI (o :: ms) k < 0 ∧ insE o ms a k = 0 ∧ insL o ms a k = builtF o (insF ms a k)) := by
  unfold insL
  cases h1 : keyB a with
  | false => have e : insE o ms a k = 1 := by simp [insE, h1]
             exact .inl ⟨rfl, e, by rw [e]; simp⟩
  | true =>
    cases h2 : keyB k with
    | false => have e : insE o ms a k = 1 := by simp [insE, h1, h2]
               exact .inr (.inl ⟨rfl, rfl, e, by rw [e]; simp⟩)
    | true =>
      rcases in_round (o := o) (ms := ms) a with h3 | ⟨i, h3, h4, h5⟩
      · have e : insE o ms a k = 5 := by simp [insE, h1, h2, h3]
        exact .inr (.inr (.inl ⟨rfl, rfl, h3, e, by rw [e]; simp⟩))
      · rcases in_round (o := o) (ms := ms) k with h6 | ⟨j, h6, h7, h8⟩
        · have e : insE o ms a k = 0 := by unfold insE; rw [h1, h2, h5, if_neg (by simp), if_neg (by simp), if_neg (nat_not_neg i), if_pos h6]
          exact .inr (.inr (.inr (.inr ⟨i, rfl, rfl, h3, h4, h6, e, by rw [e]; simp⟩)))
        · have e : insE o ms a k = 6 := by unfold insE; rw [h1, h2, h5, h8, if_neg (by simp), if_neg (by simp), if_neg (nat_not_neg i), if_neg (nat_not_neg j)]
          exact .inr (.inr (.inr (.inl ⟨i, j, rfl, rfl, h3, h4, h6, h7, e, by rw [e]; simp⟩)))
theorem rem_cases (o : Int) (ms : List Int) (k : Int) :
    (keyB k = false ∧ remE o ms k = 1 ∧ remL o ms k = []) ∨ (keyB k = true ∧ idxI (o :: ms) k < 0 ∧ remE o ms k = 5 ∧ remL o ms k = []) ∨
    (keyB k = true ∧ k = o ∧ remE o ms k = 14 ∧ remL o ms k = []) ∨
    (∃ i : Nat, keyB k = true ∧ i < ms.length + 1 ∧ nthI (o :: ms) i = k ∧ k ≠ o ∧ remE o ms k = 0 ∧ remL o ms k = builtF o (remF ms k)) := by
  unfold remL
  cases h1 : keyB k with
  | false => have e : remE o ms k = 1 := by simp [remE, h1]
             exact .inl ⟨rfl, e, by rw [e]; simp⟩
  | true =>
    rcases in_round (o := o) (ms := ms) k with h3 | ⟨i, h3, h4, h5⟩
    · have e : remE o ms k = 5 := by simp [remE, h1, h3]
      exact .inr (.inl ⟨rfl, h3, e, by rw [e]; simp⟩)
    · by_cases h6 : k = o
      · have e : remE o ms k = 14 := by unfold remE; rw [h1, h5, if_neg (by simp), if_neg (nat_not_neg i), if_pos h6]
        exact .inr (.inr (.inl ⟨rfl, h6, e, by rw [e]; simp⟩))
      · have e : remE o ms k = 0 := by unfold remE; rw [h1, h5, if_neg (by simp), if_neg (nat_not_neg i), if_neg h6]
        exact .inr (.inr (.inr ⟨i, rfl, h3, h4, h6, e, by rw [e]; simp⟩))
theorem sh_cases (o : Int) (ms : List Int) (k a : Int) :
    (keyB k = false ∧ shE o ms k a = 1 ∧ shL o ms k a = []) ∨ (keyB k = true ∧ keyB a = false ∧ shE o ms k a = 1 ∧ shL o ms k a = []) ∨
    (keyB k = true ∧ keyB a = true ∧ idxI (o :: ms) k < 0 ∧ shE o ms k a = 5 ∧ shL o ms k a = []) ∨
    (∃ i : Nat, keyB k = true ∧ keyB a = true ∧ i < ms.length + 1 ∧ nthI (o :: ms) i = k ∧ idxI (o :: ms) a < 0 ∧ shE o ms k a = 5 ∧ shL o ms k a = []) ∨
    (∃ j : Nat, keyB k = true ∧ keyB a = true ∧ k = o ∧ j < ms.length + 1 ∧ nthI (o :: ms) j = a ∧ shE o ms k a = 14 ∧ shL o ms k a = []) ∨
    (∃ i : Nat, keyB k = true ∧ keyB a = true ∧ i < ms.length + 1 ∧ nthI (o :: ms) i = k ∧ k ≠ o ∧ k = a ∧ shE o ms k a = 0 ∧ shL o ms k a = builtF o ms) ∨
    (∃ i j : Nat, keyB k = true ∧ keyB a = true ∧ i < ms.length + 1 ∧ nthI (o :: ms) i = k ∧ k ≠ o ∧ j < ms.length + 1 ∧ nthI (o :: ms) j = a ∧ k ≠ a ∧ shE o ms k a = 0 ∧ shL o ms k a = builtF o (insF (remF ms k) a k)) := by
  unfold shL
  cases h1 : keyB k with
  | false => have e : shE o ms k a = 1 := by simp [shE, h1]
             exact .inl ⟨rfl, e, by rw [e]; simp⟩
  | true =>
    cases h2 : keyB a with
    | false => have e : shE o ms k a = 1 := by simp [shE, h1, h2]
               exact .inr (.inl ⟨rfl, rfl, e, by rw [e]; simp⟩)
    | true =>
      rcases in_round (o := o) (ms := ms) k with h3 | ⟨i, h3, h4, h5⟩
      · have e : shE o ms k a = 5 := by simp [shE, h1, h2, h3]
        exact .inr (.inr (.inl ⟨rfl, rfl, h3, e, by rw [e]; simp⟩))
      · rcases in_round (o := o) (ms := ms) a with h6 | ⟨j, h6, h7, h8⟩
        · have e : shE o ms k a = 5 := by unfold shE; rw [h1, h2, h5, if_neg (by simp), if_neg (by simp), if_neg (nat_not_neg i), if_pos h6]
          exact .inr (.inr (.inr (.inl ⟨i, rfl, rfl, h3, h4, h6, e, by rw [e]; simp⟩)))
        · by_cases h9 : k = o
          · have e : shE o ms k a = 14 := by unfold shE; rw [h1, h2, h5, h8, if_neg (by simp), if_neg (by simp), if_neg (nat_not_neg i), if_neg (nat_not_neg j), if_pos h9]
            exact .inr (.inr (.inr (.inr (.inl ⟨j, rfl, rfl, h9, h6, h7, e, by rw [e]; simp⟩))))
          · have e : shE o ms k a = 0 := by unfold shE; rw [h1, h2, h5, h8, if_neg (by simp), if_neg (by simp), if_neg (nat_not_neg i), if_neg (nat_not_neg j), if_neg h9]
            by_cases h10 : k = a
            · exact .inr (.inr (.inr (.inr (.inr (.inl ⟨i, rfl, rfl, h3, h4, h9, h10, e, by rw [e]; simp [h10]⟩)))))
            · exact .inr (.inr (.inr (.inr (.inr (.inr ⟨i, j, rfl, rfl, h3, h4, h9, h6, h7, h10, e, by rw [e]; simp [h10]⟩)))))
theorem not_round {o : Int} {ms : List Int} {k : Int} (h : idxI (o :: ms) k < 0) : k ∉ o :: ms := fun hm => by
  have := idxI_mem.2 hm
  omega
theorem no_first {o : Int} {ms : List Int} (hr : Right (o :: ms)) {a : Int} (h : a = o) : idxI ms a = -1 := by
  have hnd := hr.nodup
  rw [List.nodup_cons] at hnd
  have h1 := (idxI_ge ms a).1
  have h2 : ¬ 0 ≤ idxI ms a := fun h3 => hnd.1 (by rw [← h]; exact idxI_mem.1 h3)
  omega
/-- what chain.asked tells of a ring -/
theorem asked_no (P : Option Addr) (cap : Nat) (l : List Lk) (o : Int) (ms : List Int) (k : Int) (hlb : l = builtF o ms) (hr : Right (o :: ms)) {w : World} (h : SlL w P cap l) (hk : OkI k) (hno : idxI (o :: ms) k < 0) :
    Calls Try.prog 67 #[.slice P l.length cap, .int .i64 k] w fun e w' => e = .returned (.int .i64 5) ∧ Ext w w' := by
  have hF := find_built P cap l o ms k hlb hr w h hk hno
  clear hno hlb
  go_enter Try.func67, Try.ntmps67
  go_wp2_with (go_at_call 49; refine hF.mono ?_; rintro e w3 ⟨⟨i, rfl⟩, hx3⟩)
  go_ret
  exact ⟨rfl, hx3⟩
theorem asked_yes (P : Option Addr) (cap : Nat) (l : List Lk) (o : Int) (ms : List Int) (k : Int) (i : Nat) (hlb : l = builtF o ms) (hr : Right (o :: ms)) {w : World} (h : SlL w P cap l) (hk : OkI k) (hi : i < ms.length + 1) (hik : nthI (o :: ms) i = k) (b : Bool) (hb : (k == o) = b) :
    Calls Try.prog 67 #[.slice P l.length cap, .int .i64 k] w fun e w' => e = .returned (.int .i64 (bif b then 14 else 0)) ∧ Ext w w' := by
  have hF := find_place P cap l o ms k i hlb hr w h hk hi hik
  have hlen : l.length = ms.length + 1 := by rw [hlb]; exact built_len o ms
  obtain ⟨bb, off, hP, g3⟩ := own_cell h (by omega)
  rw [show own l = o from by rw [hlb]; exact built_own o ms] at g3
  subst hP
  have c0 : (0 : Int) < l.length := by omega
  have c0n : 0 < l.length := by omega
  clear hlb hik hi hlen
  generalize placeF o ms i = p at *
  cases b with
  | true =>
    go_enter Try.func67, Try.ntmps67
    go_wp2_with (go_at_call 49; refine hF.mono ?_; rintro e w3 ⟨rfl, hx3⟩; have g3 := hx3.cell g3)
    go_ret
    exact ⟨rfl, hx3⟩
  | false =>
    go_enter Try.func67, Try.ntmps67
    go_wp2_with (go_at_call 49; refine hF.mono ?_; rintro e w3 ⟨rfl, hx3⟩; have g3 := hx3.cell g3)
    go_ret
    exact ⟨rfl, hx3⟩
set_option maxHeartbeats 4000000 in
theorem insert_any (P : Option Addr) (cap : Nat) (l : List Lk) (o : Int) (ms : List Int) (a k : Int) (hlb : l = builtF o ms) (hr : Right (o :: ms)) {w : World} (h : SlL w P cap l) (ha : OkI a) (hk : OkI k) (hn : ms.length ≤ 200) :
    Calls Try.prog 35 #[.slice P l.length cap, .int .i64 a, .int .i64 k] w fun e w' => (∃ v, e = .returned (.tuple #[v, .int .i64 (insE o ms a k)]) ∧ ResL w' v (insL o ms a k)) ∧ Ext w w' := by
  have hV := valid_any P cap l w h (by rw [hlb]; exact built_okK hr)
  rw [show validB l = true from by rw [hlb]; exact validB_built hr] at hV
  rcases ins_cases o ms a k with ⟨h1, he, hl⟩ | ⟨h1, h2, he, hl⟩ | ⟨h1, h2, h3, he, hl⟩ | ⟨i, j, h1, h2, h3, h4, h5, h6, he, hl⟩ | ⟨i, h1, h2, h3, h4, h5, he, hl⟩
  · have hKa := fun W => key_any a W
    rw [h1] at hKa
    clear h1
    have HE := Lib.hid he
    have HL := Lib.hid hl
    rw [HE.out, HL.out]
    clear he hl hlb
    go_enter Try.func35, Try.ntmps35
    go_wp2_with (first
      | (go_at_call 14; refine hV.mono ?_; rintro e w1 ⟨rfl, hx1⟩; have s1 := h.ext hx1)
      | (go_at_call 48; (with_reducible refine (hKa _).mono ?_); rintro e w2 ⟨rfl, rfl⟩))
    go_ret2
    exact ⟨⟨_, rfl, ResG.nil _ _⟩, hx1⟩
  · have hKa := fun W => key_any a W
    rw [h1] at hKa
    clear h1
    have hKk := fun W => key_any k W
    rw [h2] at hKk
    clear h2
    have HE := Lib.hid he
    have HL := Lib.hid hl
    rw [HE.out, HL.out]
    clear he hl hlb
    go_enter Try.func35, Try.ntmps35
    go_wp2_with (first
      | (go_at_call 14; refine hV.mono ?_; rintro e w1 ⟨rfl, hx1⟩; have s1 := h.ext hx1)
      | (go_at_call 48; (with_reducible refine (hKa _).mono ?_); rintro e w2 ⟨rfl, rfl⟩)
      | (go_at_call 48; (with_reducible refine (hKk _).mono ?_); rintro e w2 ⟨rfl, rfl⟩))
    go_ret2
    exact ⟨⟨_, rfl, ResG.nil _ _⟩, hx1⟩
  · have hF := fun W hs => find_built P cap l o ms a hlb hr W hs ha h3
    have hKa := fun W => key_any a W
    rw [h1] at hKa
    clear h1
    have hKk := fun W => key_any k W
    rw [h2] at hKk
    clear h2
    have HE := Lib.hid he
    have HL := Lib.hid hl
    rw [HE.out, HL.out]
    clear he hl hlb h3
    go_enter Try.func35, Try.ntmps35
    go_wp2_with (first
      | (go_at_call 14; refine hV.mono ?_; rintro e w1 ⟨rfl, hx1⟩; have s1 := h.ext hx1)
      | (go_at_call 48; (with_reducible refine (hKa _).mono ?_); rintro e w2 ⟨rfl, rfl⟩)
      | (go_at_call 48; (with_reducible refine (hKk _).mono ?_); rintro e w2 ⟨rfl, rfl⟩)
      | (go_at_call 49; refine (hF _ s1).mono ?_; rintro e w3 ⟨⟨i, rfl⟩, hx3⟩))
    go_ret2
    exact ⟨⟨_, rfl, ResG.nil _ _⟩, hx1.trans (hx3)⟩
  · have hFa := fun W hs => find_place P cap l o ms a i hlb hr W hs ha h3 h4
    have hFk := fun W hs => find_place P cap l o ms k j hlb hr W hs hk h5 h6
    have hKa := fun W => key_any a W
    rw [h1] at hKa
    clear h1
    have hKk := fun W => key_any k W
    rw [h2] at hKk
    clear h2
    have HE := Lib.hid he
    have HL := Lib.hid hl
    rw [HE.out, HL.out]
    clear he hl hlb h3 h4 h5 h6
    go_enter Try.func35, Try.ntmps35
    go_wp2_with (first
      | (go_at_call 14; refine hV.mono ?_; rintro e w1 ⟨rfl, hx1⟩; have s1 := h.ext hx1)
      | (go_at_call 48; (with_reducible refine (hKa _).mono ?_); rintro e w2 ⟨rfl, rfl⟩)
      | (go_at_call 48; (with_reducible refine (hKk _).mono ?_); rintro e w2 ⟨rfl, rfl⟩)
      | (go_at_call 49; (with_reducible refine (hFa _ s1).mono ?_); rintro e w3 ⟨rfl, hx3⟩; have s3 := s1.ext hx3)
      | (go_at_call 49; (with_reducible refine (hFk _ s3).mono ?_); rintro e w4 ⟨rfl, hx4⟩))
    go_ret2
    exact ⟨⟨_, rfl, ResG.nil _ _⟩, hx1.trans (hx3.trans (hx4))⟩
  · have hFa := fun W hs => find_place P cap l o ms a i hlb hr W hs ha h3 h4
    have hFk := fun W hs => find_built P cap l o ms k hlb hr W hs hk h5
    have hPt := fun {W} hs => put_any P cap l o ms a k hlb hr (right_ins hr h2 (not_round h5) (by omega)) (w := W) hs
    have hKa := fun W => key_any a W
    rw [h1] at hKa
    clear h1
    have hKk := fun W => key_any k W
    rw [h2] at hKk
    clear h2
    have HE := Lib.hid he
    have HL := Lib.hid hl
    rw [HE.out, HL.out]
    have hlen : l.length = ms.length + 1 := by rw [hlb]; exact built_len o ms
    have c5 : ¬ (500 : Int) ≤ l.length := by omega
    clear he hl hlb h3 h4 h5 hlen
    go_enter Try.func35, Try.ntmps35
    go_wp2_with (first
      | (go_at_call 14; refine hV.mono ?_; rintro e w1 ⟨rfl, hx1⟩; have s1 := h.ext hx1)
      | (go_at_call 48; (with_reducible refine (hKa _).mono ?_); rintro e w2 ⟨rfl, rfl⟩)
      | (go_at_call 48; (with_reducible refine (hKk _).mono ?_); rintro e w2 ⟨rfl, rfl⟩)
      | (go_at_call 49; (with_reducible refine (hFa _ s1).mono ?_); rintro e w3 ⟨rfl, hx3⟩; have s3 := s1.ext hx3)
      | (go_at_call 49; (with_reducible refine (hFk _ s3).mono ?_); rintro e w4 ⟨⟨z, rfl⟩, hx4⟩; have s4 := s3.ext hx4)
      | (go_at_call 65; refine (hPt s4).mono ?_; rintro e w5 ⟨⟨v5, rfl, hv5⟩, hx5⟩))
    go_ret2
    exact ⟨⟨_, rfl, hv5⟩, hx1.trans (hx3.trans (hx4.trans (hx5)))⟩
set_option maxHeartbeats 4000000 in
theorem remove_any (P : Option Addr) (cap : Nat) (l : List Lk) (o : Int) (ms : List Int) (k : Int) (hlb : l = builtF o ms) (hr : Right (o :: ms)) {w : World} (h : SlL w P cap l) (hk : OkI k) (hn : ms.length ≤ 200) :
    Calls Try.prog 37 #[.slice P l.length cap, .int .i64 k] w fun e w' => (∃ v, e = .returned (.tuple #[v, .int .i64 (remE o ms k)]) ∧ ResL w' v (remL o ms k)) ∧ Ext w w' := by
  have hV := valid_any P cap l w h (by rw [hlb]; exact built_okK hr)
  rw [show validB l = true from by rw [hlb]; exact validB_built hr] at hV
  rcases rem_cases o ms k with ⟨h1, he, hl⟩ | ⟨h1, h2, he, hl⟩ | ⟨h1, h2, he, hl⟩ | ⟨i, h1, h3, h4, h5, he, hl⟩
  · have hKk := fun W => key_any k W
    rw [h1] at hKk
    clear h1
    have HE := Lib.hid he
    have HL := Lib.hid hl
    rw [HE.out, HL.out]
    clear he hl hlb
    go_enter Try.func37, Try.ntmps37
    go_wp2_with (first
      | (go_at_call 14; refine hV.mono ?_; rintro e w1 ⟨rfl, hx1⟩; have s1 := h.ext hx1)
      | (go_at_call 48; (with_reducible refine (hKk _).mono ?_); rintro e w2 ⟨rfl, rfl⟩))
    go_ret2
    exact ⟨⟨_, rfl, ResG.nil _ _⟩, hx1⟩
  · have hA := fun {W} hs => asked_no P cap l o ms k hlb hr (w := W) hs hk h2
    have hKk := fun W => key_any k W
    rw [h1] at hKk
    clear h1
    have HE := Lib.hid he
    have HL := Lib.hid hl
    rw [HE.out, HL.out]
    clear he hl hlb h2
    go_enter Try.func37, Try.ntmps37
    go_wp2_with (first
      | (go_at_call 14; refine hV.mono ?_; rintro e w1 ⟨rfl, hx1⟩; have s1 := h.ext hx1)
      | (go_at_call 48; (with_reducible refine (hKk _).mono ?_); rintro e w2 ⟨rfl, rfl⟩)
      | (go_at_call 67; refine (hA s1).mono ?_; rintro e w3 ⟨rfl, hx3⟩; have s3 := s1.ext hx3))
    go_ret2
    exact ⟨⟨_, rfl, ResG.nil _ _⟩, hx1.trans (hx3)⟩
  · have hA := fun {W} hs => asked_yes P cap l o ms k 0 hlb hr (w := W) hs hk (by omega) h2.symm true (by simpa using h2)
    simp only [cond_true] at hA
    have hKk := fun W => key_any k W
    rw [h1] at hKk
    clear h1
    have HE := Lib.hid he
    have HL := Lib.hid hl
    rw [HE.out, HL.out]
    clear he hl hlb h2
    go_enter Try.func37, Try.ntmps37
    go_wp2_with (first
      | (go_at_call 14; refine hV.mono ?_; rintro e w1 ⟨rfl, hx1⟩; have s1 := h.ext hx1)
      | (go_at_call 48; (with_reducible refine (hKk _).mono ?_); rintro e w2 ⟨rfl, rfl⟩)
      | (go_at_call 67; refine (hA s1).mono ?_; rintro e w3 ⟨rfl, hx3⟩; have s3 := s1.ext hx3))
    go_ret2
    exact ⟨⟨_, rfl, ResG.nil _ _⟩, hx1.trans (hx3)⟩
  · have hA := fun {W} hs => asked_yes P cap l o ms k i hlb hr (w := W) hs hk h3 h4 false (by simpa using h5)
    simp only [cond_false] at hA
    have hW := fun {W} hs => without_any P cap l o ms k hlb hr (w := W) hs
    have hKk := fun W => key_any k W
    rw [h1] at hKk
    clear h1
    have HE := Lib.hid he
    have HL := Lib.hid hl
    rw [HE.out, HL.out]
    clear he hl hlb h3 h4 h5
    go_enter Try.func37, Try.ntmps37
    go_wp2_with (first
      | (go_at_call 14; refine hV.mono ?_; rintro e w1 ⟨rfl, hx1⟩; have s1 := h.ext hx1)
      | (go_at_call 48; (with_reducible refine (hKk _).mono ?_); rintro e w2 ⟨rfl, rfl⟩)
      | (go_at_call 67; refine (hA s1).mono ?_; rintro e w3 ⟨rfl, hx3⟩; have s3 := s1.ext hx3)
      | (go_at_call 68; refine (hW s3).mono ?_; rintro e w5 ⟨⟨v5, rfl, hv5⟩, hx5⟩))
    go_ret2
    exact ⟨⟨_, rfl, hv5⟩, hx1.trans (hx3.trans (hx5))⟩
end Go.Proofs.Ythmcdlieglollaa
