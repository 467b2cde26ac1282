/- Rings: the key behind or before one, of the program and of the reference. -/
import Derived.Test.YthmcdlieglollaaChU
namespace Go.Proofs.Ythmcdlieglollaa
open Go.RowKit Go.Sort Go.Maps
set_option linter.unusedVariables false
set_option linter.unusedSimpArgs false
set_option linter.unusedSectionVars false
set_option maxRecDepth 20000
attribute [local go_sem] Oper.semAt_some

def stepF (o : Int) (ms : List Int) (k : Int) (f : Nat → Nat) : Int × Int :=
  if keyB k = false then (0, 1) else if idxI (o :: ms) k < 0 then (0, 5) else if f (idxI (o :: ms) k).toNat = 0 then (0, 8) else (nthI (o :: ms) (f (idxI (o :: ms) k).toNat), 0)
theorem step_cases {o : Int} {ms : List Int} (hr : Right (o :: ms)) (k : Int) (f : Nat → Nat) :
    (keyB k = false ∧ stepF o ms k f = (0, 1)) ∨ (keyB k = true ∧ idxI (o :: ms) k < 0 ∧ stepF o ms k f = (0, 5)) ∨
    ∃ i : Nat, keyB k = true ∧ i < ms.length + 1 ∧ nthI (o :: ms) i = k ∧ idxI (o :: ms) k = i ∧ ((f i = 0 ∧ stepF o ms k f = (0, 8)) ∨ (f i ≠ 0 ∧ stepF o ms k f = (nthI (o :: ms) (f i), 0))) := by
  unfold stepF
  cases hk : keyB k with
  | false => exact .inl ⟨rfl, by simp⟩
  | true =>
    by_cases h0 : idxI (o :: ms) k < 0
    · exact .inr (.inl ⟨rfl, h0, by simp [h0]⟩)
    · have h1 := (idxI_ge (o :: ms) k).2
      simp only [List.length_cons] at h1
      refine .inr (.inr ⟨(idxI (o :: ms) k).toNat, rfl, by omega, idxI_val _ _ (by omega), by omega, ?_⟩)
      by_cases hf : f (idxI (o :: ms) k).toNat = 0
      · exact .inl ⟨hf, by simp [h0, hf]⟩
      · exact .inr ⟨hf, by simp [h0, hf]⟩
theorem ks_no {o : Int} {ms : List Int} {k : Int} (h : idxI (o :: ms) k < 0) : ¬ 0 ≤ idxI (ks (builtF o ms)) k := by
  intro h1
  rw [idxI_mem, built_ks, sortI_mem] at h1
  have := idxI_mem.2 h1
  omega
theorem ks_yes {o : Int} {ms : List Int} (hr : Right (o :: ms)) {i : Nat} (hi : i < ms.length + 1) : idxI (ks (builtF o ms)) (nthI (o :: ms) i) = placeF o ms i := by
  rw [built_ks]
  exact (place_ok hr hi).2.1
/-- chain.find among the links of a ring -/
theorem find_built (P : Option Addr) (cap : Nat) (l : List Lk) (o : Int) (ms : List Int) (k : Int) (hlb : l = builtF o ms) (hr : Right (o :: ms)) (w : World) (h : SlL w P cap l) (hk : OkI k) (hno : idxI (o :: ms) k < 0) :
    Calls Try.prog 49 #[.slice P l.length cap, .int .i64 k] w fun e w' => (∃ i : Int, e = .returned (.tuple #[.int .i64 i, .bool false])) ∧ Ext w w' := by
  have hle := hr.le
  simp only [List.length_cons] at hle
  have := find_any P cap l k w h (by rw [hlb, built_len]; omega) (fun i hi => by rw [hlb] at hi ⊢; rw [built_len] at hi; exact built_good1 hr i hi) hk
  rw [decide_eq_false (by rw [hlb]; exact ks_no hno)] at this
  exact this.mono fun e w' ⟨⟨i, he, _⟩, hx⟩ => ⟨⟨i, he⟩, hx⟩
theorem find_place (P : Option Addr) (cap : Nat) (l : List Lk) (o : Int) (ms : List Int) (k : Int) (i : Nat) (hlb : l = builtF o ms) (hr : Right (o :: ms)) (w : World) (h : SlL w P cap l) (hk : OkI k) (hi : i < ms.length + 1) (hik : nthI (o :: ms) i = k) :
    Calls Try.prog 49 #[.slice P l.length cap, .int .i64 k] w fun e w' => e = .returned (.tuple #[.int .i64 (placeF o ms i), .bool true]) ∧ Ext w w' := by
  have hle := hr.le
  simp only [List.length_cons] at hle
  have := find_any P cap l k w h (by rw [hlb, built_len]; omega) (fun i hi => by rw [hlb] at hi ⊢; rw [built_len] at hi; exact built_good1 hr i hi) hk
  have hp : idxI (ks l) k = placeF o ms i := by rw [hlb, ← hik]; exact ks_yes hr hi
  rw [hp, decide_eq_true (by omega)] at this
  exact this.mono fun e w' ⟨⟨j, he, hj⟩, hx⟩ => ⟨by rw [he, hj (by omega)], hx⟩
set_option maxHeartbeats 4000000 in
theorem step_any (P : Option Addr) (cap : Nat) (l : List Lk) (o : Int) (ms : List Int) (k : Int) (g : Nat) (dir : Lk → Int) (f : Nat → Nat) (hlb : l = builtF o ms) (hr : Right (o :: ms))
    (hf : ∀ i, i < ms.length + 1 → f i < ms.length + 1 ∧ dir (lkF (o :: ms) o (nthI (o :: ms) i)) = nthI (o :: ms) (f i))
    (hG : ∀ x W, Calls Try.prog g #[Lk.v x] W fun e w' => e = .returned (.int .i64 (dir x)) ∧ Ext W w') (eg : ∀ args w, (callFunc g args).run Try.prog w = .ok (.enter g args) w)
    (w : World) (h : SlL w P cap l) (hk : OkI k) :
    Calls Try.prog 59 #[.slice P l.length cap, .int .i64 k, .func (.func g) #[] #[]] w fun e w' => e = .returned (.tuple #[.int .i64 (stepF o ms k f).1, .int .i64 (stepF o ms k f).2]) ∧ Ext w w' := by
  have hV := valid_any P cap l w h (by rw [hlb]; exact built_okK hr)
  rw [show validB l = true from by rw [hlb]; exact validB_built hr] at hV
  have hK := fun W => key_any k W
  rcases step_cases hr k f with ⟨h1, h2⟩ | ⟨h1, h2, h3⟩ | ⟨i, h1, h2, h3, _, h4⟩
  · have H2 := Lib.hid h2
    rw [H2.out]
    rw [h1] at hK
    clear h1 h2 hlb
    go_enter Try.func59, Try.ntmps59
    go_wp2_with (first
      | (go_at_call 14; refine hV.mono ?_; rintro e w1 ⟨rfl, hx1⟩)
      | (go_at_call 48; refine (hK _).mono ?_; rintro e w2 ⟨rfl, rfl⟩))
    go_ret2
    exact ⟨rfl, hx1⟩
  · have hF := fun W hs => find_built P cap l o ms k hlb hr W hs hk h2
    have H2 := Lib.hid h3
    rw [H2.out]
    rw [h1] at hK
    clear h1 h2 h3 hlb
    go_enter Try.func59, Try.ntmps59
    go_wp2_with (first
      | (go_at_call 14; refine hV.mono ?_; rintro e w1 ⟨rfl, hx1⟩; have s1 := h.ext hx1)
      | (go_at_call 48; refine (hK _).mono ?_; rintro e w2 ⟨rfl, rfl⟩)
      | (go_at_call 49; refine (hF _ s1).mono ?_; rintro e w3 ⟨⟨i, rfl⟩, hx3⟩))
    go_ret2
    exact ⟨rfl, hx1.trans hx3⟩
  · have hF := fun W hs => find_place P cap l o ms k i hlb hr W hs hk h2 h3
    have hp := place_ok hr h2
    have hlen : l.length = ms.length + 1 := by rw [hlb]; exact built_len o ms
    have hd := (hf i h2).2
    rw [← hp.2.2] at hd
    have hGx := fun W => hG (nthL l (placeF o ms i)) W
    rw [← hlb] at hd
    rw [hd] at hGx
    obtain ⟨b, off, hP, g3⟩ := own_cell h (by omega)
    rw [show own l = o from by rw [hlb]; exact built_own o ms] at g3
    subst hP
    obtain ⟨b1, off1, hP1, k0, k1, k2, k3⟩ := h.lkAt (placeF o ms i) (by omega)
    injection hP1 with hP1
    injection hP1 with hP11 hP12
    subst hP11 hP12
    have cp : ((placeF o ms i : Nat) : Int) < l.length := by omega
    have c0 : (0 : Int) < l.length := by omega
    have hcase : (nthI (o :: ms) (f i) = o ∧ stepF o ms k f = (0, 8)) ∨ (nthI (o :: ms) (f i) ≠ o ∧ stepF o ms k f = (nthI (o :: ms) (f i), 0)) := by
      rcases h4 with ⟨h4, h5⟩ | ⟨h4, h5⟩
      · exact .inl ⟨by rw [h4]; rfl, h5⟩
      · refine .inr ⟨fun e => h4 ?_, h5⟩
        exact nodup_inj hr.nodup (i := f i) (j := 0) (by simpa using (hf i h2).1) (by simp) e
    unfold Lk.v at hGx
    rw [h1] at hK
    clear h1 h3 h4 hp hlen hd hlb hf hG
    generalize placeF o ms i = p at *
    generalize nthI (o :: ms) (f i) = d at *
    generalize nthL l p = x at *
    rcases hcase with ⟨he, hs⟩ | ⟨he, hs⟩
    · have H2 := Lib.hid hs
      rw [H2.out]
      subst he
      clear hs
      go_enter Try.func59, Try.ntmps59
      go_wp2_with (first
        | (go_at_call 14; refine hV.mono ?_; rintro e w1 ⟨rfl, hx1⟩; have s1 := h.ext hx1)
        | (go_at_call 48; refine (hK _).mono ?_; rintro e w2 ⟨rfl, rfl⟩)
        | (go_at_call 49; refine (hF _ s1).mono ?_; rintro e w3 ⟨rfl, hx3⟩; have hx13 := hx1.trans hx3; have k0 := hx13.cell k0; have k1 := hx13.cell k1; have k2 := hx13.cell k2; have k3 := hx13.cell k3)
        | ((with_reducible refine (hGx _).mono ?_); rintro e w4 ⟨rfl, hx4⟩; have g3 := (hx13.trans hx4).cell g3))
      go_ret2
      exact ⟨rfl, hx13.trans hx4⟩
    · have H2 := Lib.hid hs
      rw [H2.out]
      have he' : (d == o) = false := by simpa using he
      clear hs he
      go_enter Try.func59, Try.ntmps59
      go_wp2_with (first
        | (go_at_call 14; refine hV.mono ?_; rintro e w1 ⟨rfl, hx1⟩; have s1 := h.ext hx1)
        | (go_at_call 48; refine (hK _).mono ?_; rintro e w2 ⟨rfl, rfl⟩)
        | (go_at_call 49; refine (hF _ s1).mono ?_; rintro e w3 ⟨rfl, hx3⟩; have hx13 := hx1.trans hx3; have k0 := hx13.cell k0; have k1 := hx13.cell k1; have k2 := hx13.cell k2; have k3 := hx13.cell k3)
        | ((with_reducible refine (hGx _).mono ?_); rintro e w4 ⟨rfl, hx4⟩; have g3 := (hx13.trans hx4).cell g3))
      go_ret2
      exact ⟨rfl, hx13.trans hx4⟩
def onF (m i : Nat) : Nat := (i + 1) % (m + 1)
def backF (m i : Nat) : Nat := (i + m) % (m + 1)
theorem on_lk {o : Int} {ms : List Int} (hr : Right (o :: ms)) (i : Nat) (hi : i < ms.length + 1) : onF ms.length i < ms.length + 1 ∧ (fun x : Lk => x.2.1) (lkF (o :: ms) o (nthI (o :: ms) i)) = nthI (o :: ms) (onF ms.length i) :=
  ⟨Nat.mod_lt _ (by omega), by rw [lk_round hr hi]; rfl⟩
theorem back_lk {o : Int} {ms : List Int} (hr : Right (o :: ms)) (i : Nat) (hi : i < ms.length + 1) : backF ms.length i < ms.length + 1 ∧ (fun x : Lk => x.2.2.1) (lkF (o :: ms) o (nthI (o :: ms) i)) = nthI (o :: ms) (backF ms.length i) :=
  ⟨Nat.mod_lt _ (by omega), by rw [lk_round hr hi]; rfl⟩
theorem nextf_any (x : Lk) (w : World) : Calls Try.prog 60 #[x.v] w fun e w' => e = .returned (.int .i64 ((fun x : Lk => x.2.1) x)) ∧ Ext w w' := by
  obtain ⟨a, b, c, d⟩ := x
  show Calls _ _ #[.agg #[.int .i64 a, .int .i64 b, .int .i64 c, .int .i64 d]] _ _
  go_enter Try.func60, Try.ntmps60
  go_wp2
  go_ret
  exact ⟨by first | rfl | (simp; done), (Ext.refl w).alloc _⟩
theorem priorf_any (x : Lk) (w : World) : Calls Try.prog 62 #[x.v] w fun e w' => e = .returned (.int .i64 ((fun x : Lk => x.2.2.1) x)) ∧ Ext w w' := by
  obtain ⟨a, b, c, d⟩ := x
  show Calls _ _ #[.agg #[.int .i64 a, .int .i64 b, .int .i64 c, .int .i64 d]] _ _
  go_enter Try.func62, Try.ntmps62
  go_wp2
  go_ret
  exact ⟨by first | rfl | (simp; done), (Ext.refl w).alloc _⟩
theorem next_any (P : Option Addr) (cap : Nat) (l : List Lk) (o : Int) (ms : List Int) (k : Int) (hlb : l = builtF o ms) (hr : Right (o :: ms)) (w : World) (h : SlL w P cap l) (hk : OkI k) :
    Calls Try.prog 27 #[.slice P l.length cap, .int .i64 k] w fun e w' => e = .returned (.tuple #[.int .i64 (stepF o ms k (onF ms.length)).1, .int .i64 (stepF o ms k (onF ms.length)).2]) ∧ Ext w w' := by
  have hS := step_any P cap l o ms k 60 _ (onF ms.length) hlb hr (on_lk hr) nextf_any (enters_of Try.func60 (by kernel_rfl) rfl) w h hk
  generalize stepF o ms k (onF ms.length) = r at *
  clear hlb
  go_enter Try.func27, Try.ntmps27
  go_wp2_with (go_at_call 59; refine hS.mono ?_; rintro e w1 ⟨rfl, hx1⟩)
  go_ret2
  exact ⟨rfl, hx1⟩
theorem prior_any (P : Option Addr) (cap : Nat) (l : List Lk) (o : Int) (ms : List Int) (k : Int) (hlb : l = builtF o ms) (hr : Right (o :: ms)) (w : World) (h : SlL w P cap l) (hk : OkI k) :
    Calls Try.prog 29 #[.slice P l.length cap, .int .i64 k] w fun e w' => e = .returned (.tuple #[.int .i64 (stepF o ms k (backF ms.length)).1, .int .i64 (stepF o ms k (backF ms.length)).2]) ∧ Ext w w' := by
  have hS := step_any P cap l o ms k 62 _ (backF ms.length) hlb hr (back_lk hr) priorf_any (enters_of Try.func62 (by kernel_rfl) rfl) w h hk
  generalize stepF o ms k (backF ms.length) = r at *
  clear hlb
  go_enter Try.func29, Try.ntmps29
  go_wp2_with (go_at_call 59; refine hS.mono ?_; rintro e w1 ⟨rfl, hx1⟩)
  go_ret2
  exact ⟨rfl, hx1⟩
end Go.Proofs.Ythmcdlieglollaa
