/- Rings: Owner, Members, Back, Count of both. -/
import Derived.Test.YthmcdlieglollaaChM
namespace Go.Proofs.Ythmcdlieglollaa
open Go.RowKit Go.Sort
set_option linter.unusedVariables false
set_option linter.unusedSimpArgs false
set_option linter.unusedSectionVars false
set_option maxRecDepth 20000
attribute [local go_sem] Oper.semAt_some

/-- a list that a call gives -/
def ResG {α : Type} (cs : α → List Value) (w : World) (v : Value) (l : List α) : Prop := ∃ P cap, v = .slice P l.length cap ∧ SlG cs w P cap l ∧ (P = none → cap = 0)
theorem ResG.nil {α : Type} (cs : α → List Value) (w : World) : ResG cs w (.slice none 0 0) [] := ⟨none, 0, rfl, SlG.nil _ _, fun _ => rfl⟩
theorem OwnG.res {α : Type} {cs : α → List Value} {t e : TypeId} {k bytes : Nat} (E : ElemG cs t e k bytes) {w : World} {base : Nat} {v : Value} {l : List α} (h : OwnG cs e k w base v l) (hl : l.length ≤ 9223372036854775807) : ResG cs w v l := by
  obtain ⟨P, cap, e, s⟩ := h.slG E hl
  refine ⟨P, cap, e, s, fun hp => ?_⟩
  rcases h.2 with ⟨h1, _⟩ | ⟨g, c, cur, h1, _⟩
  · rw [e] at h1; injection h1 with _ _ h3
  · rw [e, hp] at h1; cases h1
theorem ResG.ext {α : Type} {cs : α → List Value} {w w' : World} {v : Value} {l : List α} (h : ResG cs w v l) (hx : Ext w w') : ResG cs w' v l := by
  obtain ⟨P, cap, e, s, hp⟩ := h
  exact ⟨P, cap, e, s.ext hx, hp⟩
abbrev ResI := @ResG Int (fun x => [.int .i64 x])
abbrev ResL := @ResG Lk Lk.cells
/-- the members of links that are no ring: none -/
noncomputable def ownF (l : List Lk) : Int := if validB l = true then own l else 0
open Classical in
noncomputable def memF (l : List Lk) : List Int := if h : ∃ p : Int × List Int, l = builtF p.1 p.2 ∧ Right (p.1 :: p.2) then h.choose.2 else []
def errF (l : List Lk) : Int := if validB l = true then 0 else 1
theorem built_inj {o o' : Int} {ms ms' : List Int} (h : Right (o :: ms)) (h' : Right (o' :: ms')) (e : builtF o ms = builtF o' ms') : o = o' ∧ ms = ms' := by
  have h1 : o = o' := by rw [← built_own o ms, e, built_own]
  subst h1
  have hlen : ms.length = ms'.length := by
    have := congrArg List.length e
    rw [built_len, built_len] at this
    omega
  refine ⟨rfl, ?_⟩
  have key : ∀ j, j < ms.length + 1 → nthI (o :: ms) j = nthI (o :: ms') j := by
    intro j
    induction j with
    | zero => intro _; rfl
    | succ j ih =>
      intro hj
      have hj0 := ih (by omega)
      have p1 := place_ok h (j := j) (by omega)
      have p2 := place_ok h' (j := j) (by omega)
      have l1 := lk_round h (j := j) (by omega)
      have l2 := lk_round h' (j := j) (by omega)
      have hp : placeF o ms j = placeF o ms' j := by
        have a1 := p1.2.1
        have a2 := p2.2.1
        rw [← built_ks, e, built_ks, hj0] at a1
        rw [a1] at a2
        omega
      have q1 := p1.2.2
      rw [e, hp, p2.2.2, l1, l2] at q1
      have := congrArg (fun x : Lk => x.2.1) q1
      simp only at this
      rw [Nat.mod_eq_of_lt (by omega), Nat.mod_eq_of_lt (by omega)] at this
      exact this.symm
  apply ext_nthI hlen
  intro i hi
  exact key (i + 1) (by omega)
theorem memF_built {o : Int} {ms : List Int} (h : Right (o :: ms)) : memF (builtF o ms) = ms := by
  unfold memF
  have hex : ∃ p : Int × List Int, builtF o ms = builtF p.1 p.2 ∧ Right (p.1 :: p.2) := ⟨(o, ms), rfl, h⟩
  rw [dif_pos hex]
  have hs := hex.choose_spec
  exact (built_inj h hs.2 hs.1).2.symm
theorem memF_no {l : List Lk} (h : validB l = false) : memF l = [] := by
  unfold memF
  rw [dif_neg]
  rintro ⟨p, rfl, hr⟩
  rw [validB_built hr] at h
  cases h
set_option maxHeartbeats 4000000 in
theorem rmembers_any (P : Option Addr) (cap : Nat) (l : List Lk) (o : Int) (ms : List Int) (hlb : l = builtF o ms) (hr : Right (o :: ms)) (w : World) (h : SlL w P cap l) :
    Calls Try.prog 58 #[.slice P l.length cap] w fun e w' => (∃ v, e = .returned v ∧ OwnI w' w.heap.size v ms) ∧ Ext w w' := by
  have hlen := built_len o ms
  rw [← hlb] at hlen
  have hle := hr.le
  simp only [List.length_cons] at hle
  have hAT : ∀ j W, j < ms.length + 1 → SlL W P cap l → Calls Try.prog 52 #[.slice P l.length cap, .int .i64 (nthI (o :: ms) j)] W fun e w' => e = .returned (.int .i64 (placeF o ms j)) ∧ w' = W := fun j W hj hs => by
    have := at_any P cap l (nthI (o :: ms) j) W hs
    rw [hlb, built_ks, (place_ok hr hj).2.1, ← hlb] at this
    exact this
  have HPL := Lib.hid (show ∀ j, j < ms.length + 1 → placeF o ms j < l.length ∧ (nthL l (placeF o ms j)).2.1 = nthI (o :: ms) ((j + 1) % (ms.length + 1)) from fun j hj => by
    have hp := place_ok hr hj
    refine ⟨by rw [hlen]; exact hp.1, ?_⟩
    rw [hlb, hp.2.2, lk_round hr hj])
  have HOWN := Lib.hid (show own l = o from by rw [hlb]; exact built_own o ms)
  have HND := Lib.hid hr.nodup
  have HAT := Lib.hid hAT
  have HL5 := Lib.hid (show ms.length ≤ 500 by omega)
  have hl0 : 0 < l.length := by omega
  have hlx := h.len
  obtain ⟨b0, off0, hP0, _, _, _, z3⟩ := h.lkAt 0 hl0
  subst hP0
  simp only [Nat.zero_mul, Nat.add_zero] at z3
  rw [show (nthL l 0).2.2.2 = own l from rfl, HOWN.out] at z3
  have hlt0 : (0 : Int) < l.length := by omega
  have hA0 := hAT 0 w (by omega) h
  rw [show nthI (o :: ms) 0 = o from rfl] at hA0
  obtain ⟨b1, off1, hP1, _, g1, _, _⟩ := h.lkAt (placeF o ms 0) (HPL.out 0 (by omega)).1
  injection hP1 with hP1
  injection hP1 with hP11 hP12
  subst hP11 hP12
  rw [(HPL.out 0 (by omega)).2] at g1
  have cp : ((placeF o ms 0 : Nat) : Int) < l.length := by have := (HPL.out 0 (by omega)).1; omega
  clear hlen hle hlb hr hAT
  generalize placeF o ms 0 = p0 at *
  go_enter Try.func58, Try.ntmps58
  go_wp2_with (go_at_call 52; refine hA0.mono ?_; rintro e w1 ⟨rfl, rfl⟩)
  go_loopg [5, 4] ms.length (fun gk k v wr => ∃ j : Nat, gk + j = ms.length ∧ k = .int .i64 (nthI (o :: ms) ((j + 1) % (ms.length + 1))) ∧ OwnI wr w1.heap.size v (ms.take j) ∧ Ext w1 wr)
  case atStart => exact ⟨0, by omega, rfl, OwnG.nil _ _ _ _ _, Ext.refl _⟩
  case round =>
    obtain ⟨j, hk, rfl, hown, hx⟩ := hrel
    by_cases hlt : j < ms.length
    · have hmod : (j + 1) % (ms.length + 1) = j + 1 := Nat.mod_eq_of_lt (by omega)
      rw [hmod]
      have hne : nthI (o :: ms) (j + 1) ≠ o := fun e => by
        have := nodup_inj HND.out (i := j + 1) (j := 0) (by simp; omega) (by simp) e
        omega
      have hne' : (nthI (o :: ms) (j + 1) != o) = true := by simpa using hne
      obtain ⟨gp, rfl⟩ : ∃ gp, gk = gp + 1 := ⟨gk - 1, by omega⟩
      have HGK := Lib.hid hk
      have hAJ := fun W hs => HAT.out (j + 1) W (by omega) hs
      obtain ⟨b1, off1, hP1, _, k1, _, _⟩ := h.lkAt (placeF o ms (j + 1)) (HPL.out (j + 1) (by omega)).1
      injection hP1 with hP1
      injection hP1 with hP11 hP12
      subst hP11 hP12
      rw [(HPL.out (j + 1) (by omega)).2] at k1
      have ck : ((placeF o ms (j + 1) : Nat) : Int) < l.length := by have := (HPL.out (j + 1) (by omega)).1; omega
      have HTK := Lib.hid (show ms.take (j + 1) = ms.take j ++ [nthI (o :: ms) (j + 1)] from by
        rw [List.take_add_one]
        congr 1
        unfold nthI
        simp [List.getD_eq_getElem?_getD, hlt])
      have HO := Lib.hid hown
      have HTL := Lib.hid (show (ms.take j).length ≤ 500 from by rw [List.length_take]; have := HL5.out; omega)
      clear hne hmod hk hown
      generalize placeF o ms (j + 1) = p1 at *
      generalize nthI (o :: ms) (j + 1) = key at *
      obtain ⟨key2, hk2⟩ : ∃ k, nthI (o :: ms) ((j + 1 + 1) % (ms.length + 1)) = k := ⟨_, rfl⟩
      have HK2 := Lib.hid hk2
      rw [hk2] at k1
      clear hk2
      go_wp2_with (at_builtin; refine wpList_app_G _ elemI rfl _ _ rfl (base := w1.heap.size) rfl (HO.out.ext ((Ext.refl _).alloc _)) (m := [key]) rfl (SlG.one elemI.hk _ ?c1 ?c2) ?c3 ?c4 ?c5 ?c6 ?_)
      case c1 => rfl
      all_goals first
        | (intro e; cases e; done)
        | (have := HL5.out; have := hx.size; omega; done)
        | (have := HL5.out; have := hx.size; simp; omega; done)
        | skip
      intro v' w3 hown' hbl
      have hx3 : Ext w1 w3 := below_ext (hx.alloc _) hbl (Nat.le_refl _)
      have k1 := hx3.cell k1
      go_wp2_with (go_at_call 52; refine (hAJ _ (h.ext hx3)).mono ?_; rintro e w4 ⟨rfl, rfl⟩)
      go_roundg gp
      case measure => omega
      case rel => exact ⟨j + 1, by have := HGK.out; omega, by rw [HK2.out], by rw [HTK.out]; exact hown', hx3⟩
    · obtain rfl : j = ms.length := by omega
      rw [Nat.mod_self]
      rw [List.take_length] at hown
      have he : nthI (o :: ms) 0 = o := rfl
      rw [he]
      have hne' : (o != o) = false := by simp
      clear he
      go_wp2
      go_ret
      exact ⟨⟨_, rfl, hown⟩, hx⟩
end Go.Proofs.Ythmcdlieglollaa
