/- Rings: Owner, Members, Back, Count of both. -/
import Derived.Test.YtpobjheodlkkiaaGreatDoorChM
namespace Go.Proofs.YtpobjheodlkkiaaGreatDoor
open Go.RowKit Go.Sort
set_option linter.unusedVariables false
set_option maxRecDepth 20000
set_option linter.unusedSimpArgs false
set_option linter.unusedSectionVars false
set_option maxRecDepth 20000
attribute [local go_sem] Oper.semAt_some

/-- a list that a call gives -/
def ResG {α : Type} (cs : α → List Value) (w : World) (v : Value) (l : List α) : Prop := ∃ P cap, v = .slice P l.length cap ∧ SlG cs w P cap l ∧ (P = none → cap = 0)
theorem ResG.nil {α : Type} (cs : α → List Value) (w : World) : ResG cs w (.slice none 0 0) [] := ⟨none, 0, rfl, SlG.nil _ _, fun _ => rfl⟩
theorem OwnG.res {α : Type} {cs : α → List Value} {t e : TypeId} {k bytes : Nat} (E : ElemG cs t e k bytes) {w : World} {base : Nat} {v : Value} {l : List α} (h : OwnG cs e k w base v l) (hl : l.length ≤ 9223372036854775807) : ResG cs w v l := by
  obtain ⟨P, cap, e, s⟩ := h.slG E hl
  refine ⟨P, cap, e, s, fun hp => ?_⟩
  rcases h.2 with ⟨h1, _⟩ | ⟨g, c, cur, h1, _⟩
  · rw [e] at h1; injection h1 with _ _ h3
  · rw [e, hp] at h1; cases h1
theorem ResG.ext {α : Type} {cs : α → List Value} {w w' : World} {v : Value} {l : List α} (h : ResG cs w v l) (hx : Ext w w') : ResG cs w' v l := by
  obtain ⟨P, cap, e, s, hp⟩ := h
  exact ⟨P, cap, e, s.ext hx, hp⟩
abbrev ResI := @ResG Int (fun x => [.int .i64 x])
abbrev ResL := @ResG Lk Lk.cells
/-- the members of links that are no ring: none -/
noncomputable def ownF (l : List Lk) : Int := if validB l = true then own l else 0
open Classical in
noncomputable def memF (l : List Lk) : List Int := if h : ∃ p : Int × List Int, l = builtF p.1 p.2 ∧ Right (p.1 :: p.2) then h.choose.2 else []
def errF (l : List Lk) : Int := if validB l = true then 0 else 1
theorem built_inj {o o' : Int} {ms ms' : List Int} (h : Right (o :: ms)) (h' : Right (o' :: ms')) (e : builtF o ms = builtF o' ms') : o = o' ∧ ms = ms' := by
  have h1 : o = o' := by rw [← built_own o ms, e, built_own]
  subst h1
  have hlen : ms.length = ms'.length := by
    have := congrArg List.length e
    rw [built_len, built_len] at this
    omega
  refine ⟨rfl, ?_⟩
  have key : ∀ j, j < ms.length + 1 → nthI (o :: ms) j = nthI (o :: ms') j := by
    intro j
    induction j with
    | zero => intro _; rfl
    | succ j ih =>
      intro hj
      have hj0 := ih (by omega)
      have p1 := place_ok h (j := j) (by omega)
      have p2 := place_ok h' (j := j) (by omega)
      have l1 := lk_round h (j := j) (by omega)
      have l2 := lk_round h' (j := j) (by omega)
      have hp : placeF o ms j = placeF o ms' j := by
        have a1 := p1.2.1
        have a2 := p2.2.1
        rw [← built_ks, e, built_ks, hj0] at a1
        rw [a1] at a2
        omega
      have q1 := p1.2.2
      rw [e, hp, p2.2.2, l1, l2] at q1
      have := congrArg (fun x : Lk => x.2.1) q1
      simp only at this
      rw [Nat.mod_eq_of_lt (by omega), Nat.mod_eq_of_lt (by omega)] at this
      exact this.symm
  apply ext_nthI hlen
  intro i hi
  exact key (i + 1) (by omega)
theorem memF_built {o : Int} {ms : List Int} (h : Right (o :: ms)) : memF (builtF o ms) = ms := by
  unfold memF
  have hex : ∃ p : Int × List Int, builtF o ms = builtF p.1 p.2 ∧ Right (p.1 :: p.2) := ⟨(o, ms), rfl, h⟩
  rw [dif_pos hex]
  have hs := hex.choose_spec
  exact (built_inj h hs.2 hs.1).2.symm
theorem memF_no {l : List Lk} (h : validB l = false) : memF l = [] := by
  unfold memF
  rw [dif_neg]
  rintro ⟨p, rfl, hr⟩
  rw [validB_built hr] at h
  cases h

end Go.Proofs.YtpobjheodlkkiaaGreatDoor
