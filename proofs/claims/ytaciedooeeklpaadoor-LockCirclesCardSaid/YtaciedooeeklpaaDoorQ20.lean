/- LmW (merged by group.py) -/
import Derived.Test.YtaciedooeeklpaaDoorQ19
namespace Go.Proofs.YtaciedooeeklpaaDoor
section
open Go.RowKit Go.Maps
set_option linter.unusedVariables false
set_option linter.unusedSimpArgs false
set_option linter.unusedSectionVars false
set_option maxRecDepth 100000

/-- the best way, as a value -/
def BestV (WL : World) (o : Option (List Int)) (v : Value) : Prop := match o with
  | none => v = .slice none 0 0
  | some b => ∃ g off c, v = .slice (some ⟨g, off, none⟩) b.length c ∧ SlI WL (some ⟨g, off, none⟩) c b
structure LvM (WL W : World) (B : Nat) (t : LvR) (v8 v9 v10 : Value) : Prop where
  best : BestV WL t.1 v8
  ex : ∃ rows : List WayV, OwnG csW 30 1 W B v9 rows ∧ rows.map (·.2.2) = t.2.1 ∧ (∀ x ∈ rows, SlI W x.1 x.2.1 x.2.2) ∧ (∀ g, v9.ownBlock = some g → ∀ x ∈ rows, Off (fun i => i = g) x.1 x.2.2) ∧ (∀ g, v10.ownBlock = some g → ∀ x ∈ rows, Off (fun i => i = g) x.1 x.2.2) ∧ ∀ x ∈ rows, Off (fun i => i < B) x.1 x.2.2
  fd : OwnI W B v10 t.2.2
theorem LvM.first (WL W : World) (B : Nat) : LvM WL W B (none, [], []) (.slice none 0 0) (.slice none 0 0) (.slice none 0 0) :=
  ⟨rfl, ⟨[], OwnG.nil _ _ _ _ _, rfl, (fun x hx => by cases hx), (fun g hg => by cases hg), (fun g hg => by cases hg), (fun x hx => by cases hx)⟩, OwnG.nil _ _ _ _ _⟩
theorem LvM.ext {WL W W' : World} {B : Nat} {t : LvR} {v8 v9 v10 : Value} (h : LvM WL W B t v8 v9 v10) (hx : Ext W W') : LvM WL W' B t v8 v9 v10 := by
  obtain ⟨rows, r1, r2, r3, r4, r5, r6⟩ := h.ex
  exact ⟨h.best, ⟨rows, r1.ext hx, r2, fun x hx' => (r3 x hx').ext hx, r4, r5, r6⟩, h.fd.ext hx⟩
theorem LvM.bestTo {WL W : World} {B : Nat} {t : LvR} {v8 v9 v10 : Value} (h : LvM WL W B t v8 v9 v10) {w : List Int} {g off c : Nat} (hs : SlI WL (some ⟨g, off, none⟩) c w) : LvM WL W B (some w, t.2) (.slice (some ⟨g, off, none⟩) w.length c) v9 v10 :=
  ⟨⟨g, off, c, rfl, hs⟩, h.ex, h.fd⟩
theorem own_types {W : World} {B B' : Nat} {v9 v10 : Value} {rows : List WayV} {l : List Int} (h9 : OwnG csW 30 1 W B v9 rows) (h10 : OwnI W B' v10 l) : ∀ g, v9.ownBlock = some g → v10.ownBlock ≠ some g := fun g hg => by
  rcases h9.2 with ⟨rfl, _⟩ | ⟨g', cap, cur, rfl, _, hb, _⟩
  · cases hg
  · simp only [Value.ownBlock, Option.some.injEq] at hg
    subst hg
    rcases h10.not_loop hb (fun c e => by injection e with _ e _; exact absurd e (by decide)) with h | h
    · rw [h]; simp
    · exact h
theorem off_upd {F : Nat → Prop} {W W' : World} {row : Option Nat} (hg : W.grownBy W' row) {P : Option Addr} {c : Nat} {l : List Int} (hs : SlI W P c l) (ho : ∀ g, row = some g → Off (fun i => i = g) P l) : SlI W' P c l := by
  refine hs.upd (UpdF.of_grown hg) ?_
  cases hr : row with
  | none => exact fun _ b off _ hb => by cases hb
  | some g => exact (ho g hr).mono (fun i hi => by injection hi with hi; exact hi.symm)
theorem LvM.push {WL W8 w9 w10 : World} {B to : Nat} {tv : Int} {t : LvR} {v8 v9 v10 v9' v10' : Value} {rows : List WayV} (hb : BestV WL t.1 v8) (r1 : OwnG csW 30 1 W8 B v9 rows) (r2 : rows.map (·.2.2) = t.2.1) (r3 : ∀ x ∈ rows, SlI W8 x.1 x.2.1 x.2.2)
    (r4 : ∀ g, v9.ownBlock = some g → ∀ x ∈ rows, Off (fun i => i = g) x.1 x.2.2) (r5 : ∀ g, v10.ownBlock = some g → ∀ x ∈ rows, Off (fun i => i = g) x.1 x.2.2) (r6 : ∀ x ∈ rows, Off (fun i => i < B) x.1 x.2.2) (hfd : OwnI W8 B v10 t.2.2)
    {x : WayV} (hs : SlI W8 x.1 x.2.1 x.2.2) (x4 : ∀ g, v9.ownBlock = some g → Off (fun i => i = g) x.1 x.2.2) (x5 : ∀ g, v10.ownBlock = some g → Off (fun i => i = g) x.1 x.2.2) (x6 : Off (fun i => i < B) x.1 x.2.2)
    (o1 o2 : Obj) (ho9 : OwnG csW 30 1 w9 B v9' (rows ++ [x])) (hg9 : (W8.alloc o1).grownBy w9 v9.ownBlock) (hob9 : v9'.ownBlock = v9.ownBlock ∨ v9'.ownBlock = some (W8.alloc o1).heap.size)
    (ho10 : OwnI w10 B v10' (t.2.2 ++ [tv])) (hg10 : (w9.alloc o2).grownBy w10 v10.ownBlock) (hob10 : v10'.ownBlock = v10.ownBlock ∨ v10'.ownBlock = some (w9.alloc o2).heap.size) :
    LvM WL w10 B (t.1, t.2.1 ++ [x.2.2], t.2.2 ++ [tv]) v8 v9' v10' := by
  have hall : ∀ y ∈ rows ++ [x], SlI W8 y.1 y.2.1 y.2.2 ∧ (∀ g, v9.ownBlock = some g → Off (fun i => i = g) y.1 y.2.2) ∧ (∀ g, v10.ownBlock = some g → Off (fun i => i = g) y.1 y.2.2) := by
    intro y hy
    rcases List.mem_append.1 hy with h1 | h1
    · exact ⟨r3 y h1, fun g hg => r4 g hg y h1, fun g hg => r5 g hg y h1⟩
    · obtain rfl := List.mem_singleton.1 h1
      exact ⟨hs, x4, x5⟩
  have htp := own_types r1 hfd
  have hlt10 : ∀ g, v10.ownBlock = some g → g < W8.heap.size := fun g hg => (own_lt hfd hg).2
  have h9 : ∀ y ∈ rows ++ [x], SlI w9 y.1 y.2.1 y.2.2 := fun y hy => off_upd (F := fun _ => True) hg9 ((hall y hy).1.ext ((Ext.refl W8).alloc o1)) (hall y hy).2.1
  have h10 : ∀ y ∈ rows ++ [x], SlI w10 y.1 y.2.1 y.2.2 := fun y hy => off_upd (F := fun _ => True) hg10 ((h9 y hy).ext ((Ext.refl w9).alloc o2)) (hall y hy).2.2
  refine ⟨hb, ⟨rows ++ [x], ?_, by rw [List.map_append, r2]; rfl, h10, fun g hg y hy => ?_, fun g hg y hy => ?_, fun y hy => ?_⟩, ho10⟩
  · refine (ho9.ext ((Ext.refl w9).alloc o2)).kept hg10 ?_
    cases hv : v9'.ownBlock with
    | none => exact .inl rfl
    | some g =>
      refine .inr (fun e => ?_)
      rcases hob9 with h | h
      · rw [h] at hv
        exact htp g hv e.symm
      · rw [h] at hv
        injection hv with hv
        have := hlt10 g e.symm
        rw [World.size_alloc] at hv
        omega
  · rcases hob9 with h | h
    · exact (hall y hy).2.1 g (by rw [← h]; exact hg)
    · rw [h] at hg
      injection hg with hg
      refine ((hall y hy).1.lt int_pos).mono (fun i hi => ?_)
      rw [World.size_alloc] at hg
      omega
  · rcases hob10 with h | h
    · exact (hall y hy).2.2 g (by rw [← h]; exact hg)
    · rw [h] at hg
      injection hg with hg
      refine ((h9 y hy).lt int_pos).mono (fun i hi => ?_)
      rw [World.size_alloc] at hg
      omega
  · rcases List.mem_append.1 hy with h1 | h1
    · exact r6 y h1
    · obtain rfl := List.mem_singleton.1 h1
      exact x6
theorem LvM.put {WL W8 : World} {B g9 n c i : Nat} {t : LvR} {v8 v10 : Value} {rows : List WayV} (hb : BestV WL t.1 v8) (r1 : OwnG csW 30 1 W8 B (.slice (some ⟨g9, 0, none⟩) n c) rows) (hn : n = rows.length) (r2 : rows.map (·.2.2) = t.2.1) (r3 : ∀ x ∈ rows, SlI W8 x.1 x.2.1 x.2.2)
    (r4 : ∀ x ∈ rows, Off (fun i => i = g9) x.1 x.2.2) (r5 : ∀ g, v10.ownBlock = some g → ∀ x ∈ rows, Off (fun i => i = g) x.1 x.2.2) (r6 : ∀ x ∈ rows, Off (fun i => i < B) x.1 x.2.2) (hfd : OwnI W8 B v10 t.2.2)
    {x y : WayV} (hi : rows[i]? = some y) (hs : SlI W8 x.1 x.2.1 x.2.2) (x4 : Off (fun i => i = g9) x.1 x.2.2) (x5 : ∀ g, v10.ownBlock = some g → Off (fun i => i = g) x.1 x.2.2) (x6 : Off (fun i => i < B) x.1 x.2.2) :
    LvM WL (W8.setCell ⟨g9, i, none⟩ (.slice x.1 x.2.2.length x.2.1)) B (t.1, t.2.1.set i x.2.2, t.2.2) v8 (.slice (some ⟨g9, 0, none⟩) n c) v10 := by
  have hu : UpdF (fun i => i = g9) W8 (W8.setCell ⟨g9, i, none⟩ (.slice x.1 x.2.2.length x.2.1)) := (UpdF.refl (fun i => i = g9) W8).setCell (p := ⟨g9, i, none⟩) (.inl rfl) _
  have htp := own_types r1 hfd
  have hmem : ∀ z ∈ rows.set i x, z ∈ rows ∨ z = x := fun z hz => List.mem_or_eq_of_mem_set hz
  refine ⟨hb, ⟨rows.set i x, ?_, by rw [List.map_set, r2], fun z hz => ?_, fun g hg z hz => ?_, fun g hg z hz => ?_, fun z hz => ?_⟩, ?_⟩
  · exact OwnG.set1 elemW.hk r1 hn i y x (.slice x.1 x.2.2.length x.2.1) hi rfl
  · rcases hmem z hz with h | rfl
    · exact (r3 z h).upd hu (r4 z h)
    · exact hs.upd hu x4
  · simp only [Value.ownBlock, Option.some.injEq] at hg
    subst hg
    rcases hmem z hz with h | rfl
    · exact r4 z h
    · exact x4
  · rcases hmem z hz with h | rfl
    · exact r5 g hg z h
    · exact x5 g hg
  · rcases hmem z hz with h | rfl
    · exact r6 z h
    · exact x6
  · exact hfd.upd hu (fun g hg e => htp g9 rfl (by rw [← e]; exact hg))
end
end Go.Proofs.YtaciedooeeklpaaDoor
