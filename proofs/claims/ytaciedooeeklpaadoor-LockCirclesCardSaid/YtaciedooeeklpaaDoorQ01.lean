/- LkB; LkC; LkD; LkE (merged by group.py) -/
import Derived.Test.YtaciedooeeklpaaDoorQ00
namespace Go.Proofs.YtaciedooeeklpaaDoor
section
set_option linter.unusedVariables false
set_option linter.unusedSimpArgs false

/-- one number leads to another one in some steps -/
inductive Reach (next : Int → List Int) (u : Int) : Int → Prop
  | one {v : Int} : v ∈ next u → Reach next u v
  | step {v w : Int} : Reach next u v → w ∈ next v → Reach next u w
section
variable {next : Int → List Int} {edges : List (Int × Int)} {start : Int}
theorem circP_some : ∀ (f : Nat) (ws : List (List Int)) (met : List Int) (c : List Int), (∀ w ∈ ws, endW w = start ∨ Reach next start (endW w)) → circP next start f ws met = some c → Reach next start start
  | 0, _, _, _, _, h => by simp [circP] at h
  | f + 1, ws, met, c, hw, h => by
    unfold circP at h
    by_cases e : ws = []
    · rw [if_pos e] at h; cases h
    · rw [if_neg e] at h
      cases hb : backP next start ws with
      | some w =>
        have h1 := List.find?_some hb
        have h2 := List.mem_of_find?_eq_some hb
        have h1 : start ∈ next (endW w) := by simpa using h1
        rcases hw w h2 with h3 | h3
        · rw [h3] at h1; exact .one h1
        · exact .step h3 h1
      | none =>
        rw [hb] at h
        refine circP_some f _ _ c (fun x hx => ?_) h
        obtain ⟨xs, w, bs, v, e1, rfl, h3, _⟩ := expP_iff.1 hx
        rw [endW_app]
        rcases hw w (by rw [e1]; simp) with h4 | h4
        · rw [h4] at h3; exact .inr (.one h3)
        · exact .inr (.step h4 h3)
/-- what was met leads nowhere else, and not back -/
def ClosedM (next : Int → List Int) (start : Int) (m : List Int) : Prop := ∀ v, v ∈ m ∨ v = start → start ∉ next v ∧ ∀ u ∈ next v, u ∈ m
def InvM (next : Int → List Int) (start : Int) (ws : List (List Int)) (m : List Int) : Prop := ∀ v, v ∈ m ∨ v = start → (∃ w ∈ ws, endW w = v) ∨ (start ∉ next v ∧ ∀ u ∈ next v, u ∈ m)
theorem invM_step {ws : List (List Int)} {m : List Int} (h : InvM next start ws m) (hb : backP next start ws = none) : InvM next start (expP next ws m) (metP next ws m) := by
  have hno : ∀ w ∈ ws, start ∉ next (endW w) := fun w hw => by
    have := List.find?_eq_none.1 hb w hw
    simpa using this
  have hold : ∀ v, v ∈ m ∨ v = start → start ∉ next v ∧ ∀ u ∈ next v, u ∈ metP next ws m := fun v hv => by
    rcases h v hv with ⟨w, hw, rfl⟩ | ⟨h1, h2⟩
    · exact ⟨hno w hw, fun u hu => metP_iff.2 (.inr ⟨w, hw, hu⟩)⟩
    · exact ⟨h1, fun u hu => metP_iff.2 (.inl (h2 u hu))⟩
  intro v hv
  rcases hv with hv | hv
  · by_cases hm : v ∈ m
    · exact .inr (hold v (.inl hm))
    · rcases metP_iff.1 hv with h1 | h1
      · exact absurd h1 hm
      · left
        -- the first way that leads to v
        have : ∀ ws : List (List Int), (∃ w ∈ ws, v ∈ next (endW w)) → ∃ xs w bs, ws = xs ++ w :: bs ∧ v ∈ next (endW w) ∧ ∀ a ∈ xs, v ∉ next (endW a) := by
          intro ws
          induction ws with
          | nil => rintro ⟨w, hw, _⟩; cases hw
          | cons w0 ws ih =>
            intro hx
            by_cases h0 : v ∈ next (endW w0)
            · exact ⟨[], w0, ws, rfl, h0, fun a ha => by cases ha⟩
            · obtain ⟨xs, w, bs, e, g1, g2⟩ := ih (by
                obtain ⟨w, hw, hv⟩ := hx
                rcases List.mem_cons.1 hw with rfl | hw
                · exact absurd hv h0
                · exact ⟨w, hw, hv⟩)
              refine ⟨w0 :: xs, w, bs, by rw [e]; rfl, g1, fun a ha => ?_⟩
              rcases List.mem_cons.1 ha with rfl | ha
              · exact h0
              · exact g2 a ha
        obtain ⟨xs, w, bs, e, g1, g2⟩ := this ws h1
        exact ⟨w ++ [v], expP_iff.2 ⟨xs, w, bs, v, e, rfl, g1, hm, g2⟩, endW_app _ _⟩
  · exact .inr (hold v (.inr hv))
theorem circP_none (hnx : ∀ u v, v ∈ next u ↔ (u, v) ∈ edges) : ∀ (f : Nat) (ws : List (List Int)) (met : List Int), InvM next start ws met → unmet edges met < f → circP next start f ws met = none → ∃ m, ClosedM next start m
  | 0, _, _, _, h, _ => by omega
  | f + 1, ws, met, hI, hf, h => by
    have hcl : ∀ m, InvM next start [] m → ClosedM next start m := fun m hm v hv => by
      rcases hm v hv with ⟨w, hw, _⟩ | h1
      · cases hw
      · exact h1
    unfold circP at h
    by_cases e : ws = []
    · subst e; exact ⟨_, hcl _ hI⟩
    · rw [if_neg e] at h
      cases hb : backP next start ws with
      | some w => rw [hb] at h; cases h
      | none =>
        rw [hb] at h
        have hI2 := invM_step hI hb
        by_cases e2 : expP next ws met = []
        · rw [e2] at hI2; exact ⟨_, hcl _ hI2⟩
        · have := unmet_lt hnx e2
          exact circP_none hnx f _ _ hI2 (by omega) h
theorem closed_no {m : List Int} (h : ClosedM next start m) : ¬ Reach next start start := by
  have : ∀ v, Reach next start v → v ∈ m ∧ v ≠ start := by
    intro v hv
    induction hv with
    | one h1 => exact ⟨(h start (.inr rfl)).2 _ h1, fun e => (h start (.inr rfl)).1 (e ▸ h1)⟩
    | step _ h2 ih => exact ⟨(h _ (.inl ih.1)).2 _ h2, fun e => (h _ (.inl ih.1)).1 (e ▸ h2)⟩
  exact fun h1 => (this _ h1).2 rfl
/-- the search finds a circle just where there is one -/
theorem circ_iff (hnx : ∀ u v, v ∈ next u ↔ (u, v) ∈ edges) {f : Nat} (hf : edges.length < f) : circP next start f [[start]] [] = none ↔ ¬ Reach next start start := by
  constructor
  · intro h
    obtain ⟨m, hm⟩ := circP_none hnx f [[start]] [] (fun v hv => by
      rcases hv with hv | rfl
      · cases hv
      · exact .inl ⟨[v], by simp, rfl⟩) (Nat.lt_of_le_of_lt (by unfold unmet; exact List.length_filter_le ..) hf) h
    exact closed_no hm
  · intro h
    cases e : circP next start f [[start]] [] with
    | none => rfl
    | some c => exact absurd (circP_some f [[start]] [] c (fun w hw => by simp at hw; subst hw; exact .inl rfl) e) h
end
end
section
set_option linter.unusedVariables false
set_option linter.unusedSimpArgs false

/-- a lock or a request: its unit, its name, its mode -/
abbrev Gr := Int × ByteArray × Int
/-- the locks, and whether they were noticed -/
abbrev HeldL := List (Gr × Bool)
/-- the requests, and whether they are changes -/
abbrev LineL := List (Gr × Bool)
def aboveB (a b : List UInt8) : Bool := (a ++ [47]).isPrefixOf b
def touchN (a b : ByteArray) : Bool := decide (a = b) || aboveB a.data.toList b.data.toList || aboveB b.data.toList a.data.toList
theorem touchN_symm (a b : ByteArray) : touchN a b = touchN b a := by
  unfold touchN
  rw [show decide (a = b) = decide (b = a) from by rw [decide_eq_decide]; exact eq_comm, Bool.or_assoc, Bool.or_assoc, Bool.or_comm (aboveB a.data.toList _)]
def clashN (a b : Int) : Bool := decide (a ≠ 1) && decide (b ≠ 1) && (decide (a = 3) || decide (b = 3))
theorem clashN_symm (a b : Int) : clashN a b = clashN b a := by
  unfold clashN
  rw [Bool.and_comm (decide (a ≠ 1)), Bool.or_comm]
/-- whether two of different units clash -/
def against (a b : Gr) : Bool := decide (a.1 ≠ b.1) && touchN a.2.1 b.2.1 && clashN a.2.2 b.2.2
theorem against_symm (a b : Gr) : against a b = against b a := by
  unfold against
  rw [touchN_symm, clashN_symm, show decide (a.1 ≠ b.1) = decide (b.1 ≠ a.1) from by rw [decide_eq_decide]; exact ne_comm]
theorem against_unit {a b : Gr} (h : against a b = true) : a.1 ≠ b.1 := by
  unfold against at h
  simp at h
  exact h.1.1
/-- the units for which a request waits -/
def forL (H : HeldL) (F : LineL) (g : Gr) : List Int := ((H ++ F).filter fun e => against g e.1).map fun e => e.1.1
theorem forL_iff {H : HeldL} {F : LineL} {g : Gr} {v : Int} : v ∈ forL H F g ↔ ∃ e, (e ∈ H ∨ e ∈ F) ∧ against g e.1 = true ∧ e.1.1 = v := by
  unfold forL
  rw [List.mem_map]
  constructor
  · rintro ⟨e, h, rfl⟩
    rw [List.mem_filter, List.mem_append] at h
    exact ⟨e, h.1, h.2, rfl⟩
  · rintro ⟨e, h1, h2, rfl⟩
    exact ⟨e, List.mem_filter.2 ⟨List.mem_append.2 h1, h2⟩, rfl⟩
theorem forL_nil {H : HeldL} {F : LineL} {g : Gr} : forL H F g = [] ↔ ∀ e, e ∈ H ∨ e ∈ F → against g e.1 = false := by
  constructor
  · intro h e he
    cases ha : against g e.1 with
    | false => rfl
    | true => have := forL_iff.2 ⟨e, he, ha, rfl⟩; rw [h] at this; cases this
  · intro h
    cases hl : forL H F g with
    | nil => rfl
    | cons v l =>
      obtain ⟨e, h1, h2, _⟩ := forL_iff.1 (show v ∈ forL H F g from by rw [hl]; exact List.mem_cons_self ..)
      rw [h e h1] at h2
      cases h2
theorem forL_ne {H : HeldL} {F : LineL} {g : Gr} {v : Int} (h : v ∈ forL H F g) : v ≠ g.1 := by
  obtain ⟨e, _, h2, rfl⟩ := forL_iff.1 h
  exact (against_unit h2).symm
/-- who waits for whom: from the requests R, that have F before them -/
def edgeF (H : HeldL) : LineL → LineL → List (Int × Int)
  | _, [] => []
  | F, r :: R => (forL H F r.1).map (fun v => (r.1.1, v)) ++ edgeF H (F ++ [r]) R
theorem edgeF_iff {H : HeldL} {u v : Int} : ∀ {R F : LineL}, (u, v) ∈ edgeF H F R ↔ ∃ A r B, R = A ++ r :: B ∧ r.1.1 = u ∧ v ∈ forL H (F ++ A) r.1
  | [], F => by simp [edgeF]
  | r0 :: R, F => by
    unfold edgeF
    rw [List.mem_append, edgeF_iff (R := R), List.mem_map]
    constructor
    · rintro (⟨v', h1, h2⟩ | ⟨A, r, B, h1, h2, h3⟩)
      · injection h2 with h2 h3
        subst h3
        exact ⟨[], r0, R, rfl, h2, by rwa [List.append_nil]⟩
      · exact ⟨r0 :: A, r, B, by rw [h1]; rfl, h2, by rwa [List.append_assoc] at h3⟩
    · rintro ⟨A, r, B, h1, h2, h3⟩
      cases A with
      | nil =>
        simp only [List.nil_append, List.cons.injEq] at h1
        obtain ⟨rfl, rfl⟩ := h1
        rw [List.append_nil] at h3
        exact .inl ⟨v, h3, by rw [h2]⟩
      | cons a A =>
        simp only [List.cons_append, List.cons.injEq] at h1
        obtain ⟨rfl, rfl⟩ := h1
        exact .inr ⟨A, r, B, rfl, h2, by rwa [List.append_assoc]⟩
/-- u waits for v -/
def Edge (H : HeldL) (L : LineL) (u v : Int) : Prop := ∃ A r B, L = A ++ r :: B ∧ r.1.1 = u ∧ v ∈ forL H A r.1
inductive Way2 (E : Int → Int → Prop) (u : Int) : Int → Prop
  | one {v : Int} : E u v → Way2 E u v
  | step {v w : Int} : Way2 E u v → E v w → Way2 E u w
theorem Way2.mono {E E' : Int → Int → Prop} (h : ∀ u v, E u v → E' u v) {u v : Int} (w : Way2 E u v) : Way2 E' u v := by
  induction w with
  | one h1 => exact .one (h _ _ h1)
  | step _ h2 ih => exact .step ih (h _ _ h2)
theorem Way2.first {E : Int → Int → Prop} {u v : Int} (w : Way2 E u v) : ∃ x, E u x := by
  induction w with
  | one h1 => exact ⟨_, h1⟩
  | step _ _ ih => exact ih
theorem Way2.last {E : Int → Int → Prop} {u v : Int} (w : Way2 E u v) : ∃ x, E x v := by
  cases w with
  | one h1 => exact ⟨_, h1⟩
  | step _ h2 => exact ⟨_, h2⟩
/-- a circle does not go through a number that leads nowhere -/
theorem Way2.avoid {E E' : Int → Int → Prop} {x : Int} (hx : ∀ v, ¬ E x v) (h : ∀ u v, E u v → v ≠ x → E' u v) {u v : Int} (w : Way2 E u v) (hv : v ≠ x) : Way2 E' u v := by
  induction w with
  | one h1 => exact .one (h _ _ h1 hv)
  | step w1 h2 ih =>
    rename_i a b
    have ha : a ≠ x := fun e => hx b (e ▸ h2)
    exact .step (ih ha) (h _ _ h2 hv)
theorem circle_less {E E' : Int → Int → Prop} {x : Int} (hx : ∀ v, ¬ E x v) (h : ∀ u v, E u v → v ≠ x → E' u v) {u : Int} (w : Way2 E u u) : Way2 E' u u := by
  have hu : u ≠ x := fun e => by
    obtain ⟨y, hy⟩ := w.first
    exact hx y (e ▸ hy)
  exact w.avoid hx h hu
/-- whether two are of one unit and one name -/
def keyN (a b : Gr) : Bool := decide (a.1 = b.1) && decide (a.2.1 = b.2.1)
/-- strings in their order -/
def ltB : List UInt8 → List UInt8 → Bool
  | [], [] => false
  | [], _ :: _ => true
  | _ :: _, [] => false
  | a :: l, b :: m => if a = b then ltB l m else decide (a < b)
def lessG (a b : Gr) : Bool := decide (a.1 < b.1) || (decide (a.1 = b.1) && ltB a.2.1.data.toList b.2.1.data.toList)
def insG : HeldL → Gr → HeldL
  | [], g => [(g, false)]
  | e :: H, g => if lessG e.1 g = true then e :: insG H g else (g, false) :: e :: H
theorem insG_mem {H : HeldL} {g : Gr} {x : Gr × Bool} : x ∈ insG H g ↔ x = (g, false) ∨ x ∈ H := by
  induction H with
  | nil => simp [insG]
  | cons e H ih =>
    unfold insG
    split
    · rw [List.mem_cons, ih, List.mem_cons]
      constructor
      · rintro (h | h | h)
        · exact .inr (.inl h)
        · exact .inl h
        · exact .inr (.inr h)
      · rintro (h | h | h)
        · exact .inr (.inl h)
        · exact .inl h
        · exact .inr (.inr h)
    · rw [List.mem_cons]
/-- the lock is there, or is stronger -/
def setG (H : HeldL) (g : Gr) : HeldL := if H.any (fun e => keyN e.1 g) = true then H.map (fun e => if keyN e.1 g = true then (g, false) else e) else insG H g
/-- who is to notice it -/
def noteG (H : HeldL) (g : Gr) : HeldL := if g.2.2 = 3 then H.map (fun e => if (decide (e.1.1 ≠ g.1) && decide (e.1.2.2 = 1) && touchN e.1.2.1 g.2.1) = true then (e.1, true) else e) else H
def giveG (H : HeldL) (g : Gr) : HeldL := noteG (setG H g) g
theorem setG_gr {H : HeldL} {g x : Gr} : (∃ b, (x, b) ∈ setG H g) ↔ x = g ∨ ((∃ b, (x, b) ∈ H) ∧ keyN x g = false) := by
  have hkk : keyN g g = true := by simp [keyN]
  unfold setG
  split
  · next hany =>
    constructor
    · rintro ⟨b, h⟩
      obtain ⟨e, he, h2⟩ := List.mem_map.1 h
      by_cases hk : keyN e.1 g = true
      · rw [if_pos hk] at h2
        injection h2 with h2 _
        exact .inl h2.symm
      · rw [if_neg hk] at h2
        subst h2
        exact .inr ⟨⟨b, he⟩, by simpa using hk⟩
    · rintro (rfl | ⟨⟨b, h⟩, hk⟩)
      · obtain ⟨e, he, hk⟩ := List.any_eq_true.1 hany
        exact ⟨false, List.mem_map.2 ⟨e, he, by rw [if_pos hk]⟩⟩
      · exact ⟨b, List.mem_map.2 ⟨(x, b), h, by rw [if_neg (by rw [hk]; decide)]⟩⟩
  · next hany =>
    have hno : ∀ e ∈ H, keyN e.1 g = false := fun e he => by
      cases hk : keyN e.1 g with
      | false => rfl
      | true => exact absurd (List.any_eq_true.2 ⟨e, he, hk⟩) hany
    constructor
    · rintro ⟨b, h⟩
      rcases insG_mem.1 h with h | h
      · injection h with h _
        exact .inl h
      · exact .inr ⟨⟨b, h⟩, hno _ h⟩
    · rintro (rfl | ⟨⟨b, h⟩, hk⟩)
      · exact ⟨false, insG_mem.2 (.inl rfl)⟩
      · exact ⟨b, insG_mem.2 (.inr h)⟩
theorem noteG_gr {H : HeldL} {g x : Gr} : (∃ b, (x, b) ∈ noteG H g) ↔ ∃ b, (x, b) ∈ H := by
  unfold noteG
  split
  · constructor
    · rintro ⟨b, h⟩
      obtain ⟨e, he, h2⟩ := List.mem_map.1 h
      split at h2
      · injection h2 with h2 _
        exact ⟨e.2, by rw [← h2]; exact he⟩
      · exact ⟨b, by rw [← h2]; exact he⟩
    · rintro ⟨b, h⟩
      by_cases hc : (decide (x.1 ≠ g.1) && decide (x.2.2 = 1) && touchN x.2.1 g.2.1) = true
      · exact ⟨true, List.mem_map.2 ⟨(x, b), h, by rw [if_pos hc]⟩⟩
      · exact ⟨b, List.mem_map.2 ⟨(x, b), h, by rw [if_neg hc]⟩⟩
  · exact Iff.rfl
theorem giveG_gr {H : HeldL} {g x : Gr} : (∃ b, (x, b) ∈ giveG H g) ↔ x = g ∨ ((∃ b, (x, b) ∈ H) ∧ keyN x g = false) := by
  unfold giveG
  rw [noteG_gr, setG_gr]
/-- held locks, told by grants -/
def hasG (H : HeldL) (x : Gr) : Prop := ∃ b, (x, b) ∈ H
theorem forL_has {H : HeldL} {F : LineL} {g : Gr} {v : Int} : v ∈ forL H F g ↔ ∃ x, (hasG H x ∨ hasG F x) ∧ against g x = true ∧ x.1 = v := by
  rw [forL_iff]
  constructor
  · rintro ⟨⟨x, b⟩, h1 | h1, h2, h3⟩
    · exact ⟨x, .inl ⟨b, h1⟩, h2, h3⟩
    · exact ⟨x, .inr ⟨b, h1⟩, h2, h3⟩
  · rintro ⟨x, ⟨b, h1⟩ | ⟨b, h1⟩, h2, h3⟩
    · exact ⟨(x, b), .inl h1, h2, h3⟩
    · exact ⟨(x, b), .inr h1, h2, h3⟩
end
section
set_option linter.unusedVariables false
set_option linter.unusedSimpArgs false

theorem hasG_app {A B : LineL} {x : Gr} : hasG (A ++ B) x ↔ hasG A x ∨ hasG B x := by
  unfold hasG
  constructor
  · rintro ⟨b, h⟩
    rcases List.mem_append.1 h with h | h
    · exact .inl ⟨b, h⟩
    · exact .inr ⟨b, h⟩
  · rintro (⟨b, h⟩ | ⟨b, h⟩)
    · exact ⟨b, List.mem_append_left _ h⟩
    · exact ⟨b, List.mem_append_right _ h⟩
/-- where an element of a list without one stands in the list -/
theorem split_off {α : Type} {A B A' B' : List α} {r r' : α} (h : A ++ B = A' ++ r' :: B') : ∃ C D, A ++ r :: B = C ++ r' :: D ∧ ∀ x, x ∈ A' → x ∈ C := by
  rcases List.append_eq_append_iff.1 h with ⟨xs, h1, h2⟩ | ⟨cs, h1, h2⟩
  · -- A' = A ++ xs, B = xs ++ r' :: B'
    refine ⟨A ++ r :: xs, B', by rw [h2]; simp, fun x hx => ?_⟩
    rw [h1] at hx
    rcases List.mem_append.1 hx with h | h
    · exact List.mem_append_left _ h
    · exact List.mem_append_right _ (List.mem_cons_of_mem _ h)
  · cases cs with
    | nil =>
      simp only [List.append_nil, List.nil_append] at h1 h2
      refine ⟨A ++ [r], B', by rw [← h2]; simp, fun x hx => ?_⟩
      rw [h1]
      exact List.mem_append_left _ hx
    | cons c cs =>
      simp only [List.cons_append, List.cons.injEq] at h2
      obtain ⟨rfl, h2⟩ := h2
      refine ⟨A', cs ++ r :: B, by rw [h1]; simp, fun x hx => hx⟩
theorem hasG_mono {A C : LineL} (h : ∀ x, x ∈ A → x ∈ C) {x : Gr} (hx : hasG A x) : hasG C x := by
  obtain ⟨b, hb⟩ := hx
  exact ⟨b, h _ hb⟩
/-- no request less, no lock more but one -/
theorem edge_give {H : HeldL} {A B : LineL} {r : Gr × Bool} {u v : Int} (h : Edge (giveG H r.1) (A ++ B) u v) (hv : v ≠ r.1.1) : Edge H (A ++ r :: B) u v := by
  obtain ⟨A', r', B', h1, h2, h3⟩ := h
  obtain ⟨C, D, h4, h5⟩ := split_off (r := r) h1
  refine ⟨C, r', D, h4, h2, ?_⟩
  obtain ⟨x, hx, ha, he⟩ := forL_has.1 h3
  refine forL_has.2 ⟨x, ?_, ha, he⟩
  rcases hx with hx | hx
  · rcases giveG_gr.1 hx with rfl | hx
    · exact absurd he.symm hv
    · exact .inl hx.1
  · exact .inr (hasG_mono h5 hx)
theorem edge_unit {H : HeldL} {L : LineL} {u v : Int} (h : Edge H L u v) : u ∈ L.map fun e => e.1.1 := by
  obtain ⟨A, r, B, h1, h2, _⟩ := h
  rw [h1, ← h2]
  simp
/-- units that wait, each once -/
def UnitsN (L : LineL) : Prop := (L.map fun e => e.1.1).Nodup
theorem units_less {A B : LineL} {r : Gr × Bool} (h : UnitsN (A ++ r :: B)) : UnitsN (A ++ B) ∧ r.1.1 ∉ (A ++ B).map fun e => e.1.1 := by
  unfold UnitsN at *
  rw [List.map_append, List.map_cons, List.nodup_append] at h
  obtain ⟨h1, h2, h3⟩ := h
  obtain ⟨h4, h5⟩ := List.nodup_cons.1 h2
  refine ⟨?_, ?_⟩
  · rw [List.map_append, List.nodup_append]
    exact ⟨h1, h5, fun a ha b hb => h3 a ha b (List.mem_cons_of_mem _ hb)⟩
  · rw [List.map_append, List.mem_append]
    rintro (h | h)
    · exact h3 _ h _ (List.mem_cons_self ..) rfl
    · exact h4 h
/-- the edges between some numbers -/
def EdgeQ (Q : Int → Prop) (E : Int → Int → Prop) (u v : Int) : Prop := E u v ∧ Q u ∧ Q v
theorem circle_give {H : HeldL} {A B : LineL} {r : Gr × Bool} (hu : UnitsN (A ++ r :: B)) {Q : Int → Prop} {x : Int} (w : Way2 (EdgeQ Q (Edge (giveG H r.1) (A ++ B))) x x) : Way2 (EdgeQ Q (Edge H (A ++ r :: B))) x x :=
  circle_less (x := r.1.1) (fun v h => (units_less hu).2 (edge_unit h.1)) (fun u v h hv => ⟨edge_give h.1 hv, h.2⟩) w
/-- no two locks of different units clash -/
def NoClash (H : HeldL) : Prop := ∀ x y, hasG H x → hasG H y → against x y = false
theorem noClash_give {H : HeldL} {F : LineL} {g : Gr} (h : NoClash H) (hf : forL H F g = []) : NoClash (giveG H g) := by
  have hg : ∀ x, hasG H x → against g x = false := fun x ⟨b, hx⟩ => forL_nil.1 hf (x, b) (.inl hx)
  have hgg : against g g = false := by
    cases e : against g g with
    | false => rfl
    | true => exact absurd rfl (against_unit e)
  intro x y hx hy
  rcases giveG_gr.1 hx with e1 | ⟨hx1, _⟩ <;> rcases giveG_gr.1 hy with e2 | ⟨hy1, _⟩
  · rw [e1, e2]; exact hgg
  · rw [e1]; exact hg y hy1
  · rw [e2, against_symm]; exact hg x hx1
  · exact h x y hx1 hy1
/-- on a name a unit has one lock -/
def KeyU (H : HeldL) : Prop := ∀ x y, hasG H x → hasG H y → keyN x y = true → x = y
theorem keyN_symm (a b : Gr) : keyN a b = keyN b a := by
  unfold keyN
  rw [show decide (a.1 = b.1) = decide (b.1 = a.1) from by rw [decide_eq_decide]; exact eq_comm, show decide (a.2.1 = b.2.1) = decide (b.2.1 = a.2.1) from by rw [decide_eq_decide]; exact eq_comm]
theorem keyU_give {H : HeldL} {g : Gr} (h : KeyU H) : KeyU (giveG H g) := fun x y hx hy hk => by
  rcases giveG_gr.1 hx with e1 | ⟨hx1, kx⟩ <;> rcases giveG_gr.1 hy with e2 | ⟨hy1, ky⟩
  · rw [e1, e2]
  · rw [e1, keyN_symm, ky] at hk; cases hk
  · rw [e2, kx] at hk; cases hk
  · exact h x y hx1 hy1 hk
/-- a sweep through the line: what is held, the requests that were passed, those that are left, what was given -/
def sweepL : HeldL → LineL → LineL → List Gr → HeldL × LineL × List Gr
  | H, F, [], out => (H, F, out)
  | H, F, r :: R, out => if forL H F r.1 = [] then sweepL (giveG H r.1) F R (out ++ [r.1]) else sweepL H (F ++ [r]) R out
/-- what a pass leaves alone -/
structure PassOk (H H' : HeldL) (L L' : LineL) : Prop where
  units : UnitsN L → UnitsN L'
  clash : NoClash H → NoClash H'
  keys : KeyU H → KeyU H'
  circ : UnitsN L → ∀ (Q : Int → Prop) (x : Int), Way2 (EdgeQ Q (Edge H' L')) x x → Way2 (EdgeQ Q (Edge H L)) x x
  sub : ∀ e, e ∈ L' → e ∈ L
  from_ : ∀ x, hasG H' x → hasG H x ∨ hasG L x
theorem PassOk.refl (H : HeldL) (L : LineL) : PassOk H H L L := ⟨id, id, id, fun _ _ _ w => w, fun _ h => h, fun x h => .inl h⟩
theorem PassOk.trans {H H1 H2 : HeldL} {L L1 L2 : LineL} (a : PassOk H H1 L L1) (b : PassOk H1 H2 L1 L2) : PassOk H H2 L L2 :=
  ⟨fun h => b.units (a.units h), fun h => b.clash (a.clash h), fun h => b.keys (a.keys h), fun hu Q x w => a.circ hu Q x (b.circ (a.units hu) Q x w), fun e h => a.sub e (b.sub e h), fun x h => by
    rcases b.from_ x h with h | ⟨c, hc⟩
    · exact a.from_ x h
    · exact .inr ⟨c, a.sub _ hc⟩⟩
theorem PassOk.give {H : HeldL} {A B : LineL} {r : Gr × Bool} (hf : forL H A r.1 = []) : PassOk H (giveG H r.1) (A ++ r :: B) (A ++ B) :=
  ⟨fun h => (units_less h).1, fun h => noClash_give h hf, keyU_give, fun hu Q x w => circle_give hu w, fun e h => by
    rcases List.mem_append.1 h with h | h
    · exact List.mem_append_left _ h
    · exact List.mem_append_right _ (List.mem_cons_of_mem _ h), fun x h => by
    rcases giveG_gr.1 h with rfl | h
    · exact .inr ⟨r.2, by simp⟩
    · exact .inl h.1⟩
theorem sweep_ok : ∀ (R : LineL) (H : HeldL) (F : LineL) (out : List Gr), PassOk H (sweepL H F R out).1 (F ++ R) (sweepL H F R out).2.1
  | [], H, F, out => by
    unfold sweepL
    rw [List.append_nil]
    exact PassOk.refl _ _
  | r :: R, H, F, out => by
    unfold sweepL
    by_cases h : forL H F r.1 = []
    · rw [if_pos h]
      exact (PassOk.give h).trans (sweep_ok R (giveG H r.1) F (out ++ [r.1]))
    · rw [if_neg h]
      have := sweep_ok R H (F ++ [r]) out
      rwa [List.append_assoc] at this
/-- a sweep tells what it gave behind what was given -/
theorem sweep_out : ∀ (R : LineL) (H : HeldL) (F : LineL) (out : List Gr), ∃ m, (sweepL H F R out).2.2 = out ++ m ∧ (sweepL H F R out).2.1.length + m.length = F.length + R.length ∧ (m = [] → (sweepL H F R out).1 = H ∧ (sweepL H F R out).2.1 = F ++ R ∧ ∀ A r B, R = A ++ r :: B → forL H (F ++ A) r.1 ≠ [])
  | [], H, F, out => ⟨[], by simp [sweepL], by simp [sweepL], fun _ => ⟨rfl, by simp [sweepL], fun A r B h => by simp at h⟩⟩
  | r :: R, H, F, out => by
    unfold sweepL
    by_cases h : forL H F r.1 = []
    · rw [if_pos h]
      obtain ⟨m, h1, h2, _⟩ := sweep_out R (giveG H r.1) F (out ++ [r.1])
      refine ⟨r.1 :: m, by rw [h1]; simp, by simp only [List.length_cons]; omega, fun e => by cases e⟩
    · rw [if_neg h]
      obtain ⟨m, h1, h2, h3⟩ := sweep_out R H (F ++ [r]) out
      refine ⟨m, h1, by simp only [List.length_append, List.length_cons, List.length_nil] at *; omega, fun e => ?_⟩
      obtain ⟨g1, g2, g3⟩ := h3 e
      refine ⟨g1, by rw [g2]; simp, fun A r' B hR => ?_⟩
      cases A with
      | nil =>
        simp only [List.nil_append, List.cons.injEq] at hR
        obtain ⟨rfl, rfl⟩ := hR
        rwa [List.append_nil]
      | cons a A =>
        simp only [List.cons_append, List.cons.injEq] at hR
        obtain ⟨rfl, rfl⟩ := hR
        have := g3 A r' B rfl
        rwa [List.append_assoc] at this
/-- passes through the line till nobody is given anything -/
def passL : Nat → HeldL → LineL → List Gr → HeldL × LineL × List Gr
  | 0, H, L, out => (H, L, out)
  | f + 1, H, L, out => if (sweepL H [] L []).2.2 = [] then (H, L, out) else passL f (sweepL H [] L []).1 (sweepL H [] L []).2.1 (out ++ (sweepL H [] L []).2.2)
/-- every request waits for somebody -/
def Blocked (H : HeldL) (L : LineL) : Prop := ∀ A r B, L = A ++ r :: B → forL H A r.1 ≠ []
theorem pass_ok : ∀ (f : Nat) (H : HeldL) (L : LineL) (out : List Gr), L.length < f → PassOk H (passL f H L out).1 L (passL f H L out).2.1 ∧ Blocked (passL f H L out).1 (passL f H L out).2.1
  | 0, _, _, _, h => by omega
  | f + 1, H, L, out, hf => by
    unfold passL
    obtain ⟨m, h1, h2, h3⟩ := sweep_out L H [] []
    simp only [List.nil_append] at h1 h3
    by_cases e : (sweepL H [] L []).2.2 = []
    · rw [if_pos e]
      refine ⟨PassOk.refl _ _, fun A r B hL => ?_⟩
      have := (h3 (by rw [← h1]; exact e)).2.2 A r B hL
      simpa using this
    · rw [if_neg e]
      have hm : m ≠ [] := fun hm => e (by rw [h1, hm])
      have hml := List.length_pos_iff.2 hm
      have h4 := sweep_ok L H [] []
      rw [List.nil_append] at h4
      obtain ⟨h5, h6⟩ := pass_ok f (sweepL H [] L []).1 (sweepL H [] L []).2.1 (out ++ (sweepL H [] L []).2.2) (by simp at h2; omega)
      exact ⟨h4.trans h5, h6⟩
/-- a request goes -/
theorem edge_less {H : HeldL} {A B : LineL} {r : Gr × Bool} {u v : Int} (e : Edge H (A ++ B) u v) : Edge H (A ++ r :: B) u v := by
  obtain ⟨A', r', B', h1, h2, h3⟩ := e
  obtain ⟨C, D, h4, h5⟩ := split_off (r := r) h1
  refine ⟨C, r', D, h4, h2, ?_⟩
  obtain ⟨x, hx, ha, he⟩ := forL_has.1 h3
  exact forL_has.2 ⟨x, hx.imp id (hasG_mono h5), ha, he⟩
theorem PassOk.less {H : HeldL} {A B : LineL} {r : Gr × Bool} : PassOk H H (A ++ r :: B) (A ++ B) :=
  ⟨fun h => (units_less h).1, id, id, fun hu Q x w => w.mono fun u v e => ⟨edge_less e.1, e.2⟩, fun e h => by
    rcases List.mem_append.1 h with h | h
    · exact List.mem_append_left _ h
    · exact List.mem_append_right _ (List.mem_cons_of_mem _ h), fun x h => .inl h⟩
theorem pass_len : ∀ (f : Nat) (H : HeldL) (L : LineL) (out : List Gr), (passL f H L out).2.1.length ≤ L.length
  | 0, _, _, _ => Nat.le_refl _
  | f + 1, H, L, out => by
    unfold passL
    split
    · exact Nat.le_refl _
    · obtain ⟨m, h1, h2, _⟩ := sweep_out L H [] []
      refine Nat.le_trans (pass_len f _ _ _) ?_
      simp at h2
      omega
end
section
set_option linter.unusedVariables false
set_option linter.unusedSimpArgs false

/-- ascending, each once -/
def addU : List Int → Int → List Int
  | [], n => [n]
  | x :: l, n => if x < n then x :: addU l n else if x = n then x :: l else n :: x :: l
def sortU (l : List Int) : List Int := l.foldl addU []
theorem addU_mem {l : List Int} {n v : Int} : v ∈ addU l n ↔ v = n ∨ v ∈ l := by
  induction l with
  | nil => simp [addU]
  | cons x l ih =>
    unfold addU
    split
    · rw [List.mem_cons, ih, List.mem_cons]
      constructor
      · rintro (h | h | h)
        · exact .inr (.inl h)
        · exact .inl h
        · exact .inr (.inr h)
      · rintro (h | h | h)
        · exact .inr (.inl h)
        · exact .inl h
        · exact .inr (.inr h)
    · split
      · next h => rw [List.mem_cons]; constructor
                  · exact .inr
                  · rintro (rfl | h2)
                    · exact .inl h.symm
                    · exact h2
      · rw [List.mem_cons]
theorem addU_sorted : ∀ {l : List Int} {n : Int}, l.Pairwise (· < ·) → (addU l n).Pairwise (· < ·)
  | [], n, _ => by simp [addU]
  | x :: l, n, h => by
    obtain ⟨h1, h2⟩ := List.pairwise_cons.1 h
    unfold addU
    split
    · next hx =>
      refine List.pairwise_cons.2 ⟨fun y hy => ?_, addU_sorted h2⟩
      rcases addU_mem.1 hy with rfl | hy
      · exact hx
      · exact h1 y hy
    · split
      · exact h
      · refine List.pairwise_cons.2 ⟨fun y hy => ?_, h⟩
        rcases List.mem_cons.1 hy with rfl | hy
        · omega
        · have := h1 y hy; omega
theorem foldU_mem : ∀ {m l : List Int} {v : Int}, v ∈ m.foldl addU l ↔ v ∈ m ∨ v ∈ l
  | [], l, v => by simp
  | x :: m, l, v => by
    rw [List.foldl_cons, foldU_mem, addU_mem, List.mem_cons]
    constructor
    · rintro (h | h | h)
      · exact .inl (.inr h)
      · exact .inl (.inl h)
      · exact .inr h
    · rintro ((h | h) | h)
      · exact .inr (.inl h)
      · exact .inl h
      · exact .inr (.inr h)
theorem foldU_sorted : ∀ {m l : List Int}, l.Pairwise (· < ·) → (m.foldl addU l).Pairwise (· < ·)
  | [], _, h => h
  | x :: m, l, h => by
    rw [List.foldl_cons]
    exact foldU_sorted (addU_sorted h)
theorem sortU_mem {l : List Int} {v : Int} : v ∈ sortU l ↔ v ∈ l := by
  unfold sortU
  rw [foldU_mem]
  simp
theorem sortU_sorted (l : List Int) : (sortU l).Pairwise (· < ·) := foldU_sorted List.Pairwise.nil
/-- ascending lists with the same numbers are one -/
theorem sorted_ext : ∀ {a b : List Int}, a.Pairwise (· < ·) → b.Pairwise (· < ·) → (∀ v, v ∈ a ↔ v ∈ b) → a = b
  | [], [], _, _, _ => rfl
  | [], y :: b, _, _, h => by have := (h y).2 (List.mem_cons_self ..); cases this
  | x :: a, [], _, _, h => by have := (h x).1 (List.mem_cons_self ..); cases this
  | x :: a, y :: b, ha, hb, h => by
    obtain ⟨a1, a2⟩ := List.pairwise_cons.1 ha
    obtain ⟨b1, b2⟩ := List.pairwise_cons.1 hb
    have e : x = y := by
      have h1 := (h x).1 (List.mem_cons_self ..)
      have h2 := (h y).2 (List.mem_cons_self ..)
      rcases List.mem_cons.1 h1 with h1 | h1
      · exact h1
      · rcases List.mem_cons.1 h2 with h2 | h2
        · exact h2.symm
        · have := b1 x h1; have := a1 y h2; omega
    subst e
    congr 1
    refine sorted_ext a2 b2 fun v => ?_
    constructor
    · intro hv
      rcases List.mem_cons.1 ((h v).1 (List.mem_cons_of_mem _ hv)) with e | hv'
      · subst e; have := a1 v hv; omega
      · exact hv'
    · intro hv
      rcases List.mem_cons.1 ((h v).2 (List.mem_cons_of_mem _ hv)) with e | hv'
      · subst e; have := b1 v hv; omega
      · exact hv'
/-- where edges lead to from a number -/
def nextU (E : List (Int × Int)) (u : Int) : List Int := sortU ((E.filter fun e => decide (e.1 = u)).map (·.2))
theorem nextU_iff (E : List (Int × Int)) (u v : Int) : v ∈ nextU E u ↔ (u, v) ∈ E := by
  unfold nextU
  rw [sortU_mem, List.mem_map]
  constructor
  · rintro ⟨e, h, rfl⟩
    rw [List.mem_filter, decide_eq_true_eq] at h
    obtain ⟨a, b⟩ := e
    simp only at h
    rw [← h.2]; exact h.1
  · intro h
    exact ⟨(u, v), List.mem_filter.2 ⟨h, decide_eq_true rfl⟩, rfl⟩
def circF (E : List (Int × Int)) (u : Int) : Option (List Int) := circP (nextU E) u (E.length + 1) [[u]] []
theorem circF_iff (E : List (Int × Int)) (u : Int) : circF E u = none ↔ ¬ Reach (nextU E) u u := circ_iff (nextU_iff E) (Nat.lt_succ_self _)
theorem circP_out {next : Int → List Int} {start : Int} : ∀ (f : Nat) (ws : List (List Int)) (met : List Int) (c : List Int), (∀ w ∈ ws, w ≠ [] ∧ ∀ x ∈ w, x ≠ endW w → next x ≠ []) → circP next start f ws met = some c → c ≠ [] ∧ ∀ x ∈ c, next x ≠ []
  | 0, _, _, _, _, h => by simp [circP] at h
  | f + 1, ws, met, c, hw, h => by
    unfold circP at h
    by_cases e : ws = []
    · rw [if_pos e] at h; cases h
    · rw [if_neg e] at h
      cases hb : backP next start ws with
      | some w =>
        rw [hb] at h
        injection h with h
        subst h
        have h1 := List.find?_some hb
        have h2 := List.mem_of_find?_eq_some hb
        have h1 : start ∈ next (endW w) := by simpa using h1
        refine ⟨(hw w h2).1, fun x hx => ?_⟩
        by_cases e2 : x = endW w
        · rw [e2]; intro h3; rw [h3] at h1; cases h1
        · exact (hw w h2).2 x hx e2
      | none =>
        rw [hb] at h
        refine circP_out f _ _ c (fun x hx => ?_) h
        obtain ⟨xs, w, bs, v, e1, rfl, h3, _⟩ := expP_iff.1 hx
        have hwm : w ∈ ws := by rw [e1]; simp
        refine ⟨by simp, fun y hy hne => ?_⟩
        rw [endW_app] at hne
        rcases List.mem_append.1 hy with hy | hy
        · by_cases e2 : y = endW w
          · rw [e2]; intro h4; rw [h4] at h3; cases h3
          · exact (hw w hwm).2 y hy e2
        · simp at hy; exact absurd hy hne
theorem circF_out {E : List (Int × Int)} {u : Int} {c : List Int} (h : circF E u = some c) : c ≠ [] ∧ ∀ x ∈ c, ∃ v, (x, v) ∈ E := by
  obtain ⟨h1, h2⟩ := circP_out _ _ _ _ (fun w hw => by simp at hw; subst hw; exact ⟨by simp, fun x hx hne => by simp at hx; subst hx; exact absurd rfl hne⟩) h
  refine ⟨h1, fun x hx => ?_⟩
  obtain ⟨v, hv⟩ := List.exists_mem_of_ne_nil _ (h2 x hx)
  exact ⟨v, (nextU_iff E x v).1 hv⟩
def maxI : List Int → Int
  | [] => 0
  | [x] => x
  | x :: y :: l => max x (maxI (y :: l))
theorem maxI_mem : ∀ {l : List Int}, l ≠ [] → maxI l ∈ l
  | [], h => absurd rfl h
  | [x], _ => by simp [maxI]
  | x :: y :: l, _ => by
    have := maxI_mem (l := y :: l) (by simp)
    unfold maxI
    by_cases h : x ≤ maxI (y :: l)
    · rw [Int.max_eq_right h]; exact List.mem_cons_of_mem _ this
    · rw [Int.max_eq_left (by omega)]; exact List.mem_cons_self ..
/-- where a unit waits -/
def waitsL (L : LineL) (u : Int) : Nat := L.findIdx fun e => decide (e.1.1 = u)
theorem waits_split {L : LineL} {u : Int} (h : u ∈ L.map fun e => e.1.1) : waitsL L u < L.length ∧ ∃ A r B, L = A ++ r :: B ∧ r.1.1 = u ∧ A.length = waitsL L u ∧ L.eraseIdx (waitsL L u) = A ++ B := by
  obtain ⟨e, he, heu⟩ := List.mem_map.1 h
  have hlt : waitsL L u < L.length := List.findIdx_lt_length_of_exists ⟨e, he, by simpa using heu⟩
  have hp := List.findIdx_getElem (p := fun e : Gr × Bool => decide (e.1.1 = u)) (w := hlt)
  refine ⟨hlt, L.take (waitsL L u), L[waitsL L u], L.drop (waitsL L u + 1), ?_, of_decide_eq_true hp, by simp; omega, List.eraseIdx_eq_take_drop_succ ..⟩
  rw [← List.drop_eq_getElem_cons hlt, List.take_append_drop]
theorem edgeF_edge {H : HeldL} {L : LineL} {u v : Int} : (u, v) ∈ edgeF H [] L ↔ Edge H L u v := by
  rw [edgeF_iff]
  unfold Edge
  constructor
  · rintro ⟨A, r, B, h1, h2, h3⟩; exact ⟨A, r, B, h1, h2, by simpa using h3⟩
  · rintro ⟨A, r, B, h1, h2, h3⟩; exact ⟨A, r, B, h1, h2, by simpa using h3⟩
theorem reach_way {H : HeldL} {L : LineL} {u v : Int} : Reach (nextU (edgeF H [] L)) u v ↔ Way2 (Edge H L) u v := by
  constructor
  · intro h
    induction h with
    | one h => exact .one (edgeF_edge.1 ((nextU_iff _ _ _).1 h))
    | step _ h ih => exact .step ih (edgeF_edge.1 ((nextU_iff _ _ _).1 h))
  · intro h
    induction h with
    | one h => exact .one ((nextU_iff _ _ _).2 (edgeF_edge.2 h))
    | step _ h ih => exact .step ih ((nextU_iff _ _ _).2 (edgeF_edge.2 h))
/-- what an asking tells: whether it is held, the victims, the grants to others -/
abbrev AskR := Bool × List Int × List Gr
def settleL : Nat → HeldL → LineL → Int → AskR → AskR × HeldL × LineL
  | 0, H, L, _, a => (a, H, L)
  | f + 1, H, L, u, a => if waitsL L u < L.length then
      match circF (edgeF H [] L) u with
      | none => (a, H, L)
      | some c =>
        let L1 := L.eraseIdx (waitsL L (maxI c))
        let p := passL (L1.length + 1) H L1 []
        settleL f p.1 p.2.1 u (a.1 || p.2.2.any (fun g => decide (g.1 = u)), a.2.1 ++ [maxI c], a.2.2 ++ p.2.2.filter fun g => decide (g.1 ≠ u))
    else (a, H, L)
/-- all circles go through a unit -/
def NotX (x u : Int) : Prop := u ≠ x
theorem way_trans {E : Int → Int → Prop} {a b c : Int} (h : Way2 E a b) (k : Way2 E b c) : Way2 E a c := by
  induction k with
  | one h1 => exact .step h h1
  | step _ h2 ih => exact .step ih h2
theorem way_but {E : Int → Int → Prop} {x a b : Int} (h : Way2 E a b) : Way2 (EdgeQ (NotX x) E) a b ∨ ((a = x ∨ Way2 E a x) ∧ (b = x ∨ Way2 E x b)) := by
  induction h with
  | one h1 =>
    rename_i b
    by_cases ha : a = x
    · exact .inr ⟨.inl ha, .inr (ha ▸ .one h1)⟩
    · by_cases hb : b = x
      · exact .inr ⟨.inr (hb ▸ .one h1), .inl hb⟩
      · exact .inl (.one ⟨h1, ha, hb⟩)
  | step h1 h2 ih =>
    rename_i b c
    rcases ih with ih | ⟨i1, i2⟩
    · by_cases hb : b = x
      · exact .inr ⟨.inr (hb ▸ h1), .inr (hb ▸ .one h2)⟩
      · by_cases hc : c = x
        · exact .inr ⟨.inr (hc ▸ .step h1 h2), .inl hc⟩
        · exact .inl (.step ih ⟨h2, hb, hc⟩)
    · refine .inr ⟨i1, .inr ?_⟩
      rcases i2 with rfl | i2
      · exact .one h2
      · exact .step i2 h2
/-- nobody waits in a circle -/
def Acyc (H : HeldL) (L : LineL) : Prop := ∀ u, ¬ Way2 (Edge H L) u u
/-- nobody waits in a circle that x is not in -/
def AcycBut (x : Int) (H : HeldL) (L : LineL) : Prop := ∀ u, ¬ Way2 (EdgeQ (NotX x) (Edge H L)) u u
theorem acyc_of_but {H : HeldL} {L : LineL} {x : Int} (h1 : AcycBut x H L) (h2 : ¬ Way2 (Edge H L) x x) : Acyc H L := fun u w => by
  rcases way_but (x := x) w with h | ⟨i1, i2⟩
  · exact h1 u h
  · rcases i1 with rfl | i1
    · exact h2 w
    · rcases i2 with rfl | i2
      · exact h2 w
      · exact h2 (way_trans i2 i1)
theorem PassOk.acyc {H H' : HeldL} {L L' : LineL} (h : PassOk H H' L L') (hu : UnitsN L) (ha : Acyc H L) : Acyc H' L' := fun u w =>
  ha u ((h.circ hu (fun _ => True) u (w.mono fun _ _ e => ⟨e, trivial, trivial⟩)).mono fun _ _ e => e.1)
theorem PassOk.but {H H' : HeldL} {L L' : LineL} (h : PassOk H H' L L') (hu : UnitsN L) {x : Int} (ha : AcycBut x H L) : AcycBut x H' L' := fun u w => ha u (h.circ hu _ u w)
/-- behind the settling -/
theorem settle_ok : ∀ (f : Nat) (H : HeldL) (L : LineL) (u : Int) (a : AskR), L.length < f → UnitsN L → NoClash H → KeyU H → Blocked H L → AcycBut u H L →
    UnitsN (settleL f H L u a).2.2 ∧ NoClash (settleL f H L u a).2.1 ∧ KeyU (settleL f H L u a).2.1 ∧ Blocked (settleL f H L u a).2.1 (settleL f H L u a).2.2 ∧ Acyc (settleL f H L u a).2.1 (settleL f H L u a).2.2 ∧ (∀ e, e ∈ (settleL f H L u a).2.2 → e ∈ L) ∧ ∀ x, hasG (settleL f H L u a).2.1 x → hasG H x ∨ hasG L x
  | 0, _, _, _, _, h, _, _, _, _, _ => by omega
  | f + 1, H, L, u, a, hf, hu, hc, hk, hb, hx => by
    unfold settleL
    by_cases hw : waitsL L u < L.length
    · rw [if_pos hw]
      cases hcirc : circF (edgeF H [] L) u with
      | none =>
        dsimp only
        refine ⟨hu, hc, hk, hb, acyc_of_but hx (fun w => (circF_iff _ _).1 hcirc (reach_way.2 w)), fun _ h => h, fun _ h => .inl h⟩
      | some c =>
        dsimp only
        obtain ⟨h1, h2⟩ := circF_out hcirc
        obtain ⟨v, hv⟩ := h2 (maxI c) (maxI_mem h1)
        obtain ⟨g1, A, r, B, g2, g3, g4, g5⟩ := waits_split (edge_unit (edgeF_edge.1 hv))
        have hP : PassOk H H L (L.eraseIdx (waitsL L (maxI c))) := by rw [g5]; conv => arg 3; rw [g2]
                                                                      exact PassOk.less
        obtain ⟨k1, k2⟩ := pass_ok ((L.eraseIdx (waitsL L (maxI c))).length + 1) H (L.eraseIdx (waitsL L (maxI c))) [] (Nat.lt_succ_self _)
        have hT := hP.trans k1
        have hlen : (L.eraseIdx (waitsL L (maxI c))).length + 1 = L.length := by rw [List.length_eraseIdx_of_lt g1]; omega
        obtain ⟨m, q1, q2⟩ : ∃ m, (passL ((L.eraseIdx (waitsL L (maxI c))).length + 1) H (L.eraseIdx (waitsL L (maxI c))) []).2.1.length ≤ m ∧ m = (L.eraseIdx (waitsL L (maxI c))).length := ⟨_, pass_len _ _ _ _, rfl⟩
        obtain ⟨r1, r2, r7, r3, r4, r5, r6⟩ := settle_ok f _ _ u (a.1 || (passL ((L.eraseIdx (waitsL L (maxI c))).length + 1) H (L.eraseIdx (waitsL L (maxI c))) []).2.2.any (fun g => decide (g.1 = u)), a.2.1 ++ [maxI c], a.2.2 ++ (passL ((L.eraseIdx (waitsL L (maxI c))).length + 1) H (L.eraseIdx (waitsL L (maxI c))) []).2.2.filter fun g => decide (g.1 ≠ u)) (by omega) (hT.units hu) (hT.clash hc) (hT.keys hk) k2 (hT.but hu hx)
        refine ⟨r1, r2, r7, r3, r4, fun e he => hT.sub e (r5 e he), fun x hx' => ?_⟩
        rcases r6 x hx' with h | ⟨b, h⟩
        · exact hT.from_ x h
        · exact .inr ⟨b, hT.sub _ h⟩
    · rw [if_neg hw]
      refine ⟨hu, hc, hk, hb, acyc_of_but hx (fun w => ?_), fun _ h => h, fun _ h => .inl h⟩
      obtain ⟨y, hy⟩ := w.first
      exact hw (waits_split (edge_unit hy)).1
end
end Go.Proofs.YtaciedooeeklpaaDoor
