/- CaU; CaI; CaJ (merged by group.py) -/
import Derived.Test.YtcbinafokhekmaaDoorQ06
import Derived.Maps.AppendAt
namespace Go.Proofs.YtcbinafokhekmaaDoor
section
open Go.RowKit
set_option linter.unusedVariables false
set_option maxRecDepth 20000
set_option linter.unusedSimpArgs false
set_option linter.unusedSectionVars false
set_option maxRecDepth 100000

/-- only blocks of F have changed (and new blocks may be there) -/
structure UpdF (F : Nat → Prop) (w w' : World) : Prop where
  os : w'.os = w.os
  tape : w'.tape = w.tape
  output : w'.output = w.output
  size : w.heap.size ≤ w'.heap.size
  block : ∀ k, k < w.heap.size → ¬ F k → w'.heap[k]? = w.heap[k]?
theorem UpdF.refl (F : Nat → Prop) (w : World) : UpdF F w w := ⟨rfl, rfl, rfl, Nat.le_refl _, fun _ _ _ => rfl⟩
theorem UpdF.trans {F : Nat → Prop} {a b c : World} (h : UpdF F a b) (k : UpdF F b c) : UpdF F a c :=
  ⟨k.os.trans h.os, k.tape.trans h.tape, k.output.trans h.output, Nat.le_trans h.size k.size, fun i hi hf => (k.block i (Nat.lt_of_lt_of_le hi h.size) hf).trans (h.block i hi hf)⟩
/-- what changed behind may be new -/
theorem UpdF.trans_new {F G : Nat → Prop} {a b c : World} (h : UpdF F a b) (k : UpdF G b c) (hg : ∀ i, G i → F i ∨ a.heap.size ≤ i) : UpdF F a c :=
  ⟨k.os.trans h.os, k.tape.trans h.tape, k.output.trans h.output, Nat.le_trans h.size k.size, fun i hi hf => (k.block i (Nat.lt_of_lt_of_le hi h.size) (fun e => by
    rcases hg i e with h1 | h1
    · exact hf h1
    · omega)).trans (h.block i hi hf)⟩
theorem UpdF.mono {F G : Nat → Prop} {a b : World} (h : UpdF F a b) (hg : ∀ i, F i → G i) : UpdF G a b := ⟨h.os, h.tape, h.output, h.size, fun i hi hf => h.block i hi (fun e => hf (hg i e))⟩
theorem UpdF.of_ext {a b : World} (h : Ext a b) (F : Nat → Prop) : UpdF F a b := ⟨h.os, h.tape, h.output, h.size, fun i hi _ => h.block hi⟩
theorem UpdF.ext {F : Nat → Prop} {a b c : World} (h : Ext a b) (k : UpdF F b c) (hf : ∀ i, F i → a.heap.size ≤ i) : Ext a c := by
  have := UpdF.trans_new (UpdF.of_ext h (fun _ => False)) k (fun i hi => .inr (hf i hi))
  exact ⟨this.os, this.tape, this.output, this.size, fun i hi => this.block i hi (fun e => e)⟩
theorem UpdF.of_grown {a b : World} {row : Option Nat} (h : a.grownBy b row) : UpdF (fun i => row = some i) a b := ⟨h.os, h.tape, h.output, h.size, fun i hi hf => h.block i hi (fun e => hf e.symm)⟩
theorem UpdF.setCell {F : Nat → Prop} {a b : World} (h : UpdF F a b) {p : Addr} (hp : F p.block ∨ a.heap.size ≤ p.block) (v : Value) : UpdF F a (b.setCell p v) :=
  ⟨h.os, h.tape, h.output, by have := h.size; simp [World.setCell]; exact this, fun i hi hf => (Below.heap_setCell b p v i (fun e => by
    subst e
    rcases hp with h1 | h1
    · exact hf h1
    · omega)).trans (h.block i hi hf)⟩
theorem UpdF.alloc {F : Nat → Prop} {a b : World} (h : UpdF F a b) (o : Obj) : UpdF F a (b.alloc o) := h.trans (UpdF.of_ext ((Ext.refl b).alloc o) F)
theorem UpdF.drew {F : Nat → Prop} {a b : World} (h : UpdF F a b) : UpdF F a b.drew := h.trans (UpdF.of_ext (Ext.refl b).drew F)
theorem UpdF.drewN {F : Nat → Prop} {a b : World} (h : UpdF F a b) (n : Nat) : UpdF F a (b.drewN n) := h.trans (UpdF.of_ext ((Ext.refl b).drewN n) F)
theorem UpdF.heap {F : Nat → Prop} {a b : World} (h : UpdF F a b) {k : Nat} {o : Obj} (hk : a.heap[k]? = some o) (hf : ¬ F k) : b.heap[k]? = some o := by
  rw [h.block k (Array.getElem?_eq_some_iff.1 hk).1 hf]; exact hk
theorem UpdF.cell {F : Nat → Prop} {a b : World} (h : UpdF F a b) {p : Addr} {v : Value} (hc : a.cell? p = some v) (hf : ¬ F p.block) : b.cell? p = some v := by
  rw [World.cell?_of_block (h.block p.block (block_lt hc) hf)]; exact hc
theorem BoxN.upd {F : Nat → Prop} {a b : World} {B : Nat} {t : TypeId} {C : Array Value} (h : BoxN a B t C) (k : UpdF F a b) (hf : ¬ F B) : BoxN b B t C := k.heap h hf
theorem OwnG.upd {α : Type} {cs : α → List Value} {e : TypeId} {k : Nat} {F : Nat → Prop} {a b : World} {base : Nat} {v : Value} {l : List α} (h : OwnG cs e k a base v l) (hu : UpdF F a b) (hf : ∀ g, v.ownBlock = some g → ¬ F g) : OwnG cs e k b base v l := by
  refine ⟨h.1, ?_⟩
  rcases h.2 with h0 | ⟨g, cap, cur, hv, hb, hg, rest⟩
  · exact .inl h0
  · exact .inr ⟨g, cap, cur, hv, hb, hu.heap hg (hf g (by rw [hv]; rfl)), rest⟩
/-- a list's block is none of F (where it has elements) -/
def Off {α : Type} (F : Nat → Prop) (P : Option Addr) (l : List α) : Prop := l ≠ [] → ∀ b off, P = some ⟨b, off, none⟩ → ¬ F b
theorem Off.mono {α : Type} {F G : Nat → Prop} {P : Option Addr} {l : List α} (h : Off F P l) (hg : ∀ i, G i → F i) : Off G P l := fun hl b off e hb => h hl b off e (hg b hb)
theorem SlG.upd {α : Type} {cs : α → List Value} {F : Nat → Prop} {a b : World} {P : Option Addr} {c : Nat} {l : List α} (h : SlG cs a P c l) (hu : UpdF F a b) (hf : Off F P l) : SlG cs b P c l := by
  refine ⟨fun i x hi => ?_, h.le, h.cap⟩
  obtain ⟨g, off, e, h1⟩ := h.at_ i x hi
  have hne : l ≠ [] := fun e2 => by rw [e2] at hi; simp at hi
  exact ⟨g, off, e, fun j v hj => hu.cell (h1 j v hj) (hf hne g off e)⟩
theorem SlG.lt {α : Type} {cs : α → List Value} {w : World} {P : Option Addr} {c : Nat} {l : List α} (hk : ∀ x, 0 < (cs x).length) (h : SlG cs w P c l) : Off (fun i => w.heap.size ≤ i) P l := by
  intro hne b off e hb
  cases l with
  | nil => exact hne rfl
  | cons x l =>
    obtain ⟨g, o, e2, h1⟩ := h.at_ 0 x rfl
    rw [e] at e2
    injection e2 with e2
    injection e2 with e3 e4
    subst e3
    have := h1 0 _ (List.getElem?_eq_getElem (hk x))
    have := block_lt this
    simp only at this
    omega
theorem Off.or {α : Type} {F G : Nat → Prop} {P : Option Addr} {l : List α} (h : Off F P l) (k : Off G P l) : Off (fun i => F i ∨ G i) P l := fun hl b off e hb => by
  rcases hb with h1 | h1
  · exact h hl b off e h1
  · exact k hl b off e h1
theorem csHd_pos (x : HdR) : 0 < (csHd x).length := by simp [csHd]
theorem csBk_pos (x : BkR) : 0 < (csBk x).length := by simp [csBk]
theorem vl_pos (x : Vl) : 0 < (Vl.cells x).length := by simp [Vl.cells]
structure OffH (F : Nat → Prop) (P : Option Addr) (l : List HdR) : Prop where
  own : Off F P l
  row : ∀ x ∈ l, Off F x.1.1 x.1.2.2
structure OffB (F : Nat → Prop) (P : Option Addr) (l : List BkR) : Prop where
  own : Off F P l
  ent : ∀ x ∈ l, OffH F x.1.1 x.1.2.2
theorem OffH.mono {F G : Nat → Prop} {P : Option Addr} {l : List HdR} (h : OffH F P l) (hg : ∀ i, G i → F i) : OffH G P l := ⟨h.own.mono hg, fun x hx => (h.row x hx).mono hg⟩
theorem OffB.mono {F G : Nat → Prop} {P : Option Addr} {l : List BkR} (h : OffB F P l) (hg : ∀ i, G i → F i) : OffB G P l := ⟨h.own.mono hg, fun x hx => (h.ent x hx).mono hg⟩
theorem OffH.or {F G : Nat → Prop} {P : Option Addr} {l : List HdR} (h : OffH F P l) (k : OffH G P l) : OffH (fun i => F i ∨ G i) P l := ⟨h.own.or k.own, fun x hx => (h.row x hx).or (k.row x hx)⟩
theorem OffB.or {F G : Nat → Prop} {P : Option Addr} {l : List BkR} (h : OffB F P l) (k : OffB G P l) : OffB (fun i => F i ∨ G i) P l := ⟨h.own.or k.own, fun x hx => (h.ent x hx).or (k.ent x hx)⟩
theorem SlH.lt {w : World} {P : Option Addr} {c : Nat} {l : List HdR} (h : SlH w P c l) : OffH (fun i => w.heap.size ≤ i) P l := ⟨h.sl.lt csHd_pos, fun x hx => (h.row x hx).1.lt vl_pos⟩
theorem SlB.lt {w : World} {P : Option Addr} {c : Nat} {l : List BkR} (h : SlB w P c l) : OffB (fun i => w.heap.size ≤ i) P l := ⟨h.sl.lt csBk_pos, fun x hx => (h.ent x hx).lt⟩
theorem SlH.upd {F : Nat → Prop} {w w' : World} {P : Option Addr} {c : Nat} {l : List HdR} (h : SlH w P c l) (hu : UpdF F w w') (hf : OffH F P l) : SlH w' P c l :=
  ⟨h.sl.upd hu hf.own, h.nil, fun x hx => ⟨(h.row x hx).1.upd hu (hf.row x hx), (h.row x hx).2⟩⟩
theorem SlB.upd {F : Nat → Prop} {w w' : World} {P : Option Addr} {c : Nat} {l : List BkR} (h : SlB w P c l) (hu : UpdF F w w') (hf : OffB F P l) : SlB w' P c l :=
  ⟨h.sl.upd hu hf.own, h.nil, fun x hx => (h.ent x hx).upd hu (hf.ent x hx)⟩
/-- what lies off F lies off what F becomes, as long as that is new -/
theorem SlH.off_new {F G : Nat → Prop} {w : World} {P : Option Addr} {c : Nat} {l : List HdR} (h : SlH w P c l) (hf : OffH F P l) (hg : ∀ i, G i → F i ∨ w.heap.size ≤ i) : OffH G P l := (hf.or h.lt).mono hg
theorem SlB.off_new {F G : Nat → Prop} {w : World} {P : Option Addr} {c : Nat} {l : List BkR} (h : SlB w P c l) (hf : OffB F P l) (hg : ∀ i, G i → F i ∨ w.heap.size ≤ i) : OffB G P l := (hf.or h.lt).mono hg

section
variable {α : Type} {cs : α → List Value} {t e : TypeId} {k bytes : Nat} {w : World} {base : Nat}
theorem OwnG.append2 (E : ElemG cs t e k bytes) (ty : TypeId) {v : Value} {l m : List α} (h : OwnG cs e k w base v l) {P : Option Addr} {c : Nat} (hm : SlG cs w P c m) (hP : P = none → c = 0) (hle : (l.length + m.length) * bytes ≤ 140737488355328) (hlb : l.length + m.length ≤ 9223372036854775807) (hbase : base ≤ w.heap.size) :
    ∃ v' w', (Builtin.append_ #[t, t] ty #[v, .slice P m.length c]).run Tryd.prog w = .ok v' w' ∧ OwnG cs e k w' base v' (l ++ m) ∧ w.grownBy w' v.ownBlock ∧ Below base w w' ∧ (v'.ownBlock = v.ownBlock ∨ v'.ownBlock = some w.heap.size) := by
  have hbel : ∀ w', w.grownBy w' v.ownBlock → Below base w w' := fun w' hg => Below.grown (Below.refl _ _) hg hbase (fun g hg => h.base_ g hg)
  obtain ⟨i, z, hi, hz, hs, hby, hzs⟩ := E.info
  cases P with
  | none =>
    obtain rfl := hP rfl
    obtain rfl : m = [] := List.length_eq_zero_iff.1 (by have := hm.le; omega)
    refine ⟨v, w, run_append_owned_none w base t ty e i k E.ht hi v _ _ h, by rw [List.append_nil]; exact h, ⟨rfl, rfl, rfl, Nat.le_refl _, fun _ _ _ => rfl⟩, Below.refl _ _, .inl rfl⟩
  | some ad =>
    have hn : ∀ j u, (m.flatMap cs)[j]? = some u → w.cell? (ad.add j) = some u := by
      cases m with
      | nil => intro j u hj; simp at hj
      | cons y m =>
        obtain ⟨b, off, e, _⟩ := hm.at_ 0 y rfl
        injection e with e
        subst e
        exact hm.flat E.hk
    obtain ⟨v', w', hr, ho, hg, _, hob⟩ := run_append_own_at w base t ty e i z k bytes E.ht hi hz hs hby hzs E.k0 v l.length _ h ad m.length c (m.flatMap cs) (flat_len E.hk m) hn (fun u hu => by
      obtain ⟨x, _, hx⟩ := List.mem_flatMap.1 hu
      exact E.one x u hx) (by unfold maxLen; omega) hle hbase
    refine ⟨v', w', hr, ?_, hg, hbel _ hg, hob⟩
    unfold OwnG
    rw [List.length_append, List.flatMap_append]
    exact ho
variable {ops : Array Oper} {rest : List Oper} {o : Oper} {a : Act} {Q : Exit → Act → World → Prop}
/-- append(s, x...) for the walk, with what has changed -/
theorem wpList_app_U (w : World) (E : ElemG cs t e k bytes) (hgd : o.guard = none) (s x : Operand) (ho : o.op = .call { callee := .builtin .append, args := #[s, x], argTypes := #[t, t] }) {v : Value} {l : List α} (hs : a.eval s = v) (h : OwnG cs e k w base v l)
    {P : Option Addr} {c : Nat} {m : List α} (hx : a.eval x = .slice P m.length c) (hm : SlG cs w P c m) (hP : P = none → c = 0) (hle : (l.length + m.length) * bytes ≤ 140737488355328) (hlb : l.length + m.length ≤ 9223372036854775807) (hbase : base ≤ w.heap.size)
    (hn : ∀ v' w', OwnG cs e k w' base v' (l ++ m) → w.grownBy w' v.ownBlock → Below base w w' → (v'.ownBlock = v.ownBlock ∨ v'.ownBlock = some w.heap.size) → wpList Tryd.prog ops Q rest (a.put o.dst v') w') : wpList Tryd.prog ops Q (o :: rest) a w := by
  obtain ⟨v', w', hr, ho', hg, hb, hob⟩ := h.append2 E o.type hm hP hle hlb hbase
  exact Lib.wpList_append_run _ hgd s x _ _ ho _ _ hs hx _ _ hr (hn _ _ ho' hg hb hob)
end
theorem wpAppU_step {α : Type} {cs : α → List Value} {t e : TypeId} {k bytes : Nat} {w : World} {base : Nat} {ops : Array Oper} {o : Oper} {a : Act} {K : Act → World → Prop} {Q : Exit → Act → World → Prop}
    (E : ElemG cs t e k bytes) (s x : Operand) (ho : o.op = .call { callee := .builtin .append, args := #[s, x], argTypes := #[t, t] }) {v : Value} {l m : List α} (hs : a.eval s = v) (h : OwnG cs e k w base v l)
    {P : Option Addr} {c : Nat} (hx : a.eval x = .slice P m.length c) (hm : SlG cs w P c m) (hP : P = none → c = 0) (hle : (l.length + m.length) * bytes ≤ 140737488355328) (hlb : l.length + m.length ≤ 9223372036854775807) (hbase : base ≤ w.heap.size)
    (hn : ∀ v' w', OwnG cs e k w' base v' (l ++ m) → w.grownBy w' v.ownBlock → Below base w w' → (v'.ownBlock = v.ownBlock ∨ v'.ownBlock = some w.heap.size) → K (a.put o.dst v') w') : o.wp Tryd.prog a w K Q := by
  obtain ⟨v', w', hr, ho', hg, hb, hob⟩ := h.append2 E o.type hm hP hle hlb hbase
  exact wp_append_at s x t ho v _ hs hx hr (hn _ _ ho' hg hb hob)

/-- buckets in a block of the call's own, to be read as well -/
structure NewB (w : World) (base : Nat) (v : Value) (l : List BkR) : Prop where
  own : OwnG csBk 34 2 w base v l
  ent : ∀ x ∈ l, SlH w x.1.1 x.1.2.1 x.1.2.2
  sep : ∀ g, v.ownBlock = some g → ∀ x ∈ l, OffH (fun i => i = g) x.1.1 x.1.2.2
theorem NewB.nil (w : World) (base : Nat) : NewB w base (.slice none 0 0) [] := ⟨OwnG.nil _ _ _ _ _, fun x hm => by simp at hm, fun g hg => by cases hg⟩
theorem NewB.ext {w w' : World} {base : Nat} {v : Value} {l : List BkR} (h : NewB w base v l) (hx : Ext w w') : NewB w' base v l := ⟨h.own.ext hx, fun x hm => (h.ent x hm).ext hx, h.sep⟩
theorem NewB.sl {w : World} {base : Nat} {v : Value} {l : List BkR} (h : NewB w base v l) (hl : l.length ≤ 100000) : ∃ P c, v = .slice P l.length c ∧ SlB w P c l := by
  obtain ⟨P, c, e, hs, hn⟩ := h.own.read elemBk (by omega)
  exact ⟨P, c, e, hs, hn, h.ent⟩
theorem NewB.lower {w : World} {base base' : Nat} {v : Value} {l : List BkR} (h : NewB w base v l) (hb : base' ≤ base) : NewB w base' v l := ⟨h.own.lower hb, h.ent, h.sep⟩
theorem own_lt {α : Type} {cs : α → List Value} {e : TypeId} {k : Nat} {w : World} {base : Nat} {v : Value} {l : List α} (h : OwnG cs e k w base v l) {g : Nat} (hg : v.ownBlock = some g) : base ≤ g ∧ g < w.heap.size := by
  rcases h.2 with ⟨h0, _⟩ | ⟨g', cap, cur, hv, hb, hc, rest⟩
  · rw [h0] at hg; cases hg
  · rw [hv] at hg
    injection hg with hg
    subst hg
    exact ⟨hb, (Array.getElem?_eq_some_iff.1 hc).1⟩
theorem NewB.upd {F : Nat → Prop} {w w' : World} {base : Nat} {v : Value} {l : List BkR} (h : NewB w base v l) (hu : UpdF F w w') (h1 : ∀ g, v.ownBlock = some g → ¬ F g) (h2 : ∀ x ∈ l, OffH F x.1.1 x.1.2.2) : NewB w' base v l :=
  ⟨h.own.upd hu h1, fun x hx => (h.ent x hx).upd hu (h2 x hx), h.sep⟩
/-- a bucket more was appended -/
theorem NewB.append {w w' : World} {base : Nat} {v v' : Value} {l : List BkR} (h : NewB w base v l) {x : BkR} (hs : SlH w x.1.1 x.1.2.1 x.1.2.2) (hoff : ∀ g, v.ownBlock = some g → OffH (fun i => i = g) x.1.1 x.1.2.2)
    (ho : OwnG csBk 34 2 w' base v' (l ++ [x])) (hg : w.grownBy w' v.ownBlock) (hob : v'.ownBlock = v.ownBlock ∨ v'.ownBlock = some w.heap.size) : NewB w' base v' (l ++ [x]) := by
  have hu := UpdF.of_grown hg
  have hall : ∀ y ∈ l ++ [x], SlH w y.1.1 y.1.2.1 y.1.2.2 ∧ ∀ g, v.ownBlock = some g → OffH (fun i => i = g) y.1.1 y.1.2.2 := by
    intro y hy
    rcases List.mem_append.1 hy with h1 | h1
    · exact ⟨h.ent y h1, fun g hg => h.sep g hg y h1⟩
    · obtain rfl := List.mem_singleton.1 h1
      exact ⟨hs, hoff⟩
  refine ⟨ho, fun y hy => ?_, fun g hg' y hy => ?_⟩
  · obtain ⟨h1, h2⟩ := hall y hy
    refine h1.upd hu ?_
    cases hv : v.ownBlock with
    | none => exact ⟨(fun _ b off _ hb => by cases hb), (fun z hz _ b off _ hb => by cases hb)⟩
    | some g => exact (h2 g hv).mono (fun i hi => by injection hi with hi; exact hi.symm)
  · obtain ⟨h1, h2⟩ := hall y hy
    rcases hob with e | e
    · exact h2 g (e ▸ hg')
    · rw [e] at hg'
      injection hg' with hg'
      subst hg'
      exact h1.lt.mono (fun i hi => by subst hi; exact Nat.le_refl _)
end
section
open Go.RowKit
set_option linter.unusedVariables false
set_option maxRecDepth 20000
set_option linter.unusedSimpArgs false
set_option linter.unusedSectionVars false
set_option maxRecDepth 100000
attribute [local go_sem] Oper.semAt_some

theorem OwnG.lit0At {α : Type} {cs : α → List Value} {e : TypeId} {k : Nat} {w : World} {base B : Nat} (hb : base ≤ w.heap.size) (hB : w.heap.size = B) : OwnG cs e k (w.alloc (.cells #[] e)) base (.slice (some ⟨B, 0, none⟩) 0 0) [] := by
  subst hB; exact OwnG.lit0 hb
theorem absT_snoc {l l' : List BkR} {j : Nat} (h : j < l.length) (e : absT l' = (absT l).take j) {x : BkR} (hx : bkA x = bkA (nthBk l j)) : absT (l' ++ [x]) = (absT l).take (j + 1) := by
  rw [List.take_add_one, absT_some h, ← e, ← hx]
  simp [absT]
theorem absT_len_take {l l' : List BkR} {j : Nat} (h : j ≤ l.length) (e : absT l' = (absT l).take j) : l'.length = j := by
  have := congrArg List.length e
  rw [absT_len, List.length_take, absT_len] at this
  omega
/-- the buckets of l' have the entries of l, in blocks that are new -/
def Cop (w : World) (l l' : List BkR) : Prop := ∀ x ∈ l', Off (fun i => i < w.heap.size) x.1.1 x.1.2.2 ∧ ∃ y ∈ l, y.1.2.2 = x.1.2.2
theorem Cop.off {w W : World} {P : Option Addr} {c : Nat} {l l' : List BkR} (h : Cop W l l') (hs : SlB w P c l) : ∀ x ∈ l', OffH (fun i => w.heap.size ≤ i ∧ i < W.heap.size) x.1.1 x.1.2.2 := fun x hx => by
  obtain ⟨h1, y, hy, e⟩ := h x hx
  refine ⟨h1.mono (fun i hi => hi.2), fun z hz => ?_⟩
  rw [← e] at hz
  exact ((hs.ent y hy).lt.row z hz).mono (fun i hi => hi.1)
set_option maxHeartbeats 4000000 in
theorem rcopy_any (h r : Int) (P : Option Addr) (c : Nat) (l : List BkR) (w : World) (hs : SlB w P c l) (hl : l.length ≤ 100000) (he : ∀ x ∈ l, x.1.2.2.length ≤ 100000) :
    Calls Tryd.prog 32 #[Tb h r P l.length c] w fun e w' => (∃ v l', e = .returned (.agg #[.int .i64 h, .int .i64 r, v]) ∧ absT l' = absT l ∧ NewB w' w.heap.size v l' ∧ Cop w l l') ∧ Ext w w' := by
  unfold Tb
  have hx1 := (Ext.refl w).alloc (.cells #[.int .i64 h, .int .i64 r, .slice P l.length c] 42)
  have hx2 := hx1.alloc (.cells #[.int .i64 0, .int .i64 0, .slice none 0 0] 42)
  have hA := (BoxN.new w 42 #[.int .i64 h, .int .i64 r, .slice P l.length c]).ext ((Ext.refl _).alloc (.cells #[.int .i64 0, .int .i64 0, .slice none 0 0] 42))
  have hB := BoxN.new (w.alloc (.cells #[.int .i64 h, .int .i64 r, .slice P l.length c] 42)) 42 #[.int .i64 0, .int .i64 0, .slice none 0 0]
  rw [show (w.alloc (.cells #[.int .i64 h, .int .i64 r, .slice P l.length c] 42)).heap.size = w.heap.size + 1 from by simp] at hB
  have hsz : w.heap.size + 2 ≤ ((w.alloc (.cells #[.int .i64 h, .int .i64 r, .slice P l.length c] 42)).alloc (.cells #[.int .i64 0, .int .i64 0, .slice none 0 0] 42)).heap.size := by simp
  have hs2 := hs.ext hx2
  have y2 := hA.cell (i := 2) rfl
  go_enter Tryd.func32, Tryd.ntmps32
  go_wp2
  generalize ((w.alloc (.cells #[.int .i64 h, .int .i64 r, .slice P l.length c] 42)).alloc (.cells #[.int .i64 0, .int .i64 0, .slice none 0 0] 42)) = W at *
  clear hx1
  go_loopw [4, 3, 5] (fun i v _ wr => ∃ j : Nat, j ≤ l.length ∧ i = .int .i64 j ∧ (∃ l', absT l' = (absT l).take j ∧ NewB wr W.heap.size v l' ∧ Cop W l l') ∧ Ext W wr) (fun i _ _ _ => l.length - (intOf i).toNat)
  case atStart => exact ⟨0, by omega, rfl, ⟨[], rfl, NewB.nil _ _, fun x hm => by simp at hm⟩, Ext.refl _⟩
  case round =>
    obtain ⟨j, hj, rfl, ⟨l', hl', hN, hOF⟩, hx⟩ := hrel
    have y2 := hx.cell y2
    by_cases hlt : j < l.length
    · have cj : (j : Int) < l.length := by omega
      have d1 : IntKind.i64.wrap ((j : Int) + 1) = (j : Int) + 1 := IntWalk.i64_in _ ⟨by omega, by omega⟩
      obtain ⟨b, off, hP, g0, g1⟩ := (hs2.ext hx).at_ j hlt
      subst hP
      have hent := (hs2.ent _ (nthBk_mem hlt)).ext hx
      have HLJ := Lib.hid (absT_len_take hj hl')
      have HYM := Lib.hid (show ∃ y ∈ l, y.1.2.2 = (nthBk l j).1.2.2 from ⟨_, nthBk_mem hlt, rfl⟩)
      have HEL := Lib.hid ((hs.ent _ (nthBk_mem hlt)).lt.row)
      have HSN := fun x => Lib.hid (absT_snoc (x := x) hlt hl')
      have HEJ := Lib.hid (he _ (nthBk_mem hlt))
      have HN := Lib.hid hN
      have HOL := Lib.hid hOF
      clear hl' hN hOF he hs hs2
      generalize nthBk l j = B at *
      obtain ⟨⟨Pe, ce, le⟩, nx⟩ := B
      simp only at g0 g1 hent HEJ
      have hbx := BoxN.new wr 34 #[.slice Pe le.length ce, .int .i64 nx]
      have hxb := (Ext.refl wr).alloc (.cells #[.slice Pe le.length ce, .int .i64 nx] 34)
      have hxb1 := hxb.alloc (.cells #[] 36)
      go_wp2_with (at_builtin; refine wpList_app_G _ elemHd rfl _ _ rfl (base := wr.heap.size + 1) rfl (OwnG.lit0At (B := wr.heap.size + 1) ?c1 ?c2) (m := le) rfl ((hent.ext hxb1).sl) hent.nil ?c3 ?c4 ?c5 ?_)
      all_goals first
        | (simp; done)
        | (have := HEJ.out; simp; omega; done)
        | (have := HEJ.out; omega; done)
        | skip
      intro v7 w7 ho7 hb7
      replace ho7 : OwnG csHd 36 2 w7 (wr.heap.size + 1) v7 le := ho7
      have hx7 : Ext (wr.alloc (.cells #[.slice Pe le.length ce, .int .i64 nx] 34)) w7 := below_ext ((Ext.refl _).alloc (.cells #[] 36)) hb7 (by simp)
      have hbx7 := hbx.ext hx7
      have hA7 := hA.ext ((hx.trans hxb).trans hx7)
      have hrow7 : ∀ x ∈ le, SlV w7 x.1.1 x.1.2.1 x.1.2.2 ∧ (x.1.1 = none → x.1.2.1 = 0) := ((hent.ext hxb).ext hx7).row
      have hsz7 := hx7.size
      simp only [World.size_alloc] at hsz7
      obtain ⟨P7, c7, rfl, hs7⟩ := SlH.of_own ho7 HEJ.out hrow7
      have hP7 : Off (fun i => i < wr.heap.size + 1) P7 le := fun hne b off e hb => by
        subst e
        have := (own_lt ho7 (g := b) rfl).1
        omega
      have hRW : ∀ x ∈ le, Off (fun i => w.heap.size ≤ i) x.1.1 x.1.2.2 := HEL.out
      have hof7 : OffH (fun i => i = wr.heap.size) P7 le := ⟨hP7.mono (fun i hi => by omega), fun x hm => (hRW x hm).mono (fun i hi => by have := hx2.size; have := hx.size; omega)⟩
      have HO9 := Lib.hid (show Cop W l (l' ++ [((P7, c7, le), nx)]) from fun x hm => by
        rcases List.mem_append.1 hm with h1 | h1
        · exact HOL.out x h1
        · obtain rfl := List.mem_singleton.1 h1
          exact ⟨hP7.mono (fun i hi => by have := hx.size; omega), HYM.out⟩)
      have HOF := Lib.hid (show ∀ g, g < wr.heap.size → W.heap.size ≤ g → OffH (fun i => i = g) P7 le from fun g h1 h2 => ⟨hP7.mono (fun i hi => by omega), fun x hm => (hRW x hm).mono (fun i hi => by have := hx2.size; omega)⟩)
      clear ho7 hb7 hxb1 hrow7 hent g0 g1 hP7 hRW
      have f0 := hbx7.frozen 0
      have e0 := hbx7.cell (i := 0) rfl
      have e1 := hbx7.cell (i := 1) rfl
      have hx7w := hxb.trans hx7
      have hbx8 := hbx7.set 0 (.slice P7 le.length c7)
      have m0 := hbx8.cell (i := 0) (v := .slice P7 le.length c7) rfl
      have m1 := hbx8.cell (i := 1) (v := .int .i64 nx) rfl
      have hx8 : Ext wr (w7.setCell ⟨wr.heap.size, 0, none⟩ (.slice P7 le.length c7)) := hx7w.setCell (Nat.le_refl _) _
      have HX8 := Lib.hid hx8
      have HS9 := Lib.hid (((hs7.upd ((UpdF.refl (fun i => i = wr.heap.size) w7).setCell (p := ⟨wr.heap.size, 0, none⟩) (.inl rfl) (.slice P7 le.length c7)) hof7).ext ((Ext.refl _).alloc (.cells #[.slice P7 le.length c7, .int .i64 nx] 34))))
      go_wp2_with (at_builtin; refine wpList_app_U _ elemBk rfl _ _ rfl (base := W.heap.size) rfl ((HN.out.own.ext HX8.out).ext ((Ext.refl _).alloc _)) (m := [((P7, c7, le), nx)]) rfl (SlG.one elemBk.hk _ ?d1 ?d2) ?d3 ?d4 ?d5 ?d6 ?_)
      case d1 => rfl
      case d2 => simp
      case d3 => intro e; cases e
      case d4 => have := HLJ.out; simp; omega
      case d5 => have := HLJ.out; simp; omega
      case d6 => have := hx.size; simp; omega
      intro v9 w9 ho9 hg9 hb9 hob9
      have hx9 : Ext W w9 := below_ext ((hx.trans HX8.out).alloc _) hb9 (Nat.le_refl _)
      have HN9 := Lib.hid (((HN.out.ext HX8.out).ext ((Ext.refl _).alloc _)).append (x := ((P7, c7, le), nx)) HS9.out (fun g hg => HOF.out g (own_lt HN.out.own hg).2 (own_lt HN.out.own hg).1) ho9 hg9 (by simpa using hob9))
      clear ho9 hg9 hob9
      go_wp2
      go_roundw
      case rel => exact ⟨j + 1, by omega, by go_num, ⟨l' ++ [((P7, c7, le), nx)], (HSN ((P7, c7, le), nx)).out rfl, HN9.out, HO9.out⟩, hx9⟩
      case measure => simp [intOf]; omega
    · obtain rfl : j = l.length := by omega
      have hln := absT_len_take (Nat.le_refl _) hl'
      obtain ⟨P', c', rfl, hs'⟩ := hN.sl (by omega)
      have HE := Lib.hid (show absT l' = absT l from by rw [hl', List.take_of_length_le (by rw [absT_len]; omega)])
      have HN := Lib.hid hN
      have HCP := Lib.hid (show Cop w l l' from fun x hx8 => ⟨(hOF x hx8).1.mono (fun i hi => by have := hx2.size; omega), (hOF x hx8).2⟩)
      have HOL := Lib.hid (hOF.off hs)
      have HP := Lib.hid (show ∀ g, P' = some g → W.heap.size ≤ g.block from fun g hg => by subst hg; exact (own_lt hN.own rfl).1)
      have hA1 := hA.ext hx
      have hB1 := hB.ext hx
      have fA := hA1.frozen 2
      have hA2 := hA1.set 2 (.slice P' l'.length c')
      have hB2 := hB1.far (p := ⟨w.heap.size, 2, none⟩) (by simp) (.slice P' l'.length c')
      have a0 := hA2.cell (i := 0) (v := .int .i64 h) rfl
      have a1 := hA2.cell (i := 1) (v := .int .i64 r) rfl
      have a2 := hA2.cell (i := 2) (v := .slice P' l'.length c') rfl
      have q0 := hB2.frozen 0
      have q1 := hB2.frozen 1
      have q2 := hB2.frozen 2
      have b0 := hB2.cell (i := 0) rfl
      have b1 := hB2.cell (i := 1) rfl
      have b2 := hB2.cell (i := 2) rfl
      have hB3 := (((hB2.set 0 (.int .i64 h)).set 1 (.int .i64 r)).set 2 (.slice P' l'.length c'))
      have z0 := hB3.cell (i := 0) (v := .int .i64 h) rfl
      have z1 := hB3.cell (i := 1) (v := .int .i64 r) rfl
      have z2 := hB3.cell (i := 2) (v := .slice P' l'.length c') rfl
      have hu := ((((UpdF.refl (fun i => w.heap.size ≤ i ∧ i < W.heap.size) wr).setCell (p := ⟨w.heap.size, 2, none⟩) (.inl ⟨by simp, by simp; omega⟩) (.slice P' l'.length c')).setCell (p := ⟨w.heap.size + 1, 0, none⟩) (.inl ⟨by simp, by simp; omega⟩) (.int .i64 h)).setCell (p := ⟨w.heap.size + 1, 1, none⟩) (.inl ⟨by simp, by simp; omega⟩) (.int .i64 r)).setCell (p := ⟨w.heap.size + 1, 2, none⟩) (.inl ⟨by simp, by simp; omega⟩) (.slice P' l'.length c')
      have HU := Lib.hid hu
      clear hl' hN hOF hA hB hA1 hB1 hs' hln hu
      go_wp2
      exact bodyPost_ret (v := .agg #[.int .i64 h, .int .i64 r, .slice P' l'.length c']) (by simp [results, Tryd.results32, go_sem, z0, z1, z2]) rfl ⟨⟨_, l', rfl, HE.out, (HN.out.upd HU.out (fun g hg => by
        cases P' with
        | none => cases hg
        | some a =>
          have := HP.out a rfl
          injection hg with hg
          omega) HOL.out).lower (by omega), HCP.out⟩, HU.out.ext (hx2.trans hx) (fun i hi => hi.1)⟩
end
section
open Go.RowKit
set_option linter.unusedVariables false
set_option maxRecDepth 20000
set_option linter.unusedSimpArgs false
set_option linter.unusedSectionVars false
set_option maxRecDepth 100000

theorem flat_take {α : Type} {cs : α → List Value} {k : Nat} (hk : ∀ x, (cs x).length = k) : ∀ (l : List α) (m : Nat), m ≤ l.length → (l.flatMap cs).take (m * k) = (l.take m).flatMap cs
  | [], m, h => by
    obtain rfl : m = 0 := by simpa using h
    simp
  | x :: l, 0, _ => by simp
  | x :: l, m + 1, h => by
    rw [List.flatMap_cons, List.take_succ_cons, List.flatMap_cons, ← flat_take hk l m (by simpa using h), Nat.add_mul, Nat.one_mul, Nat.add_comm, ← hk x, List.take_length_add_append]
theorem OwnG.front {α : Type} {cs : α → List Value} {e : TypeId} {k : Nat} (hk : ∀ x, (cs x).length = k) {w : World} {base g n c : Nat} {l : List α} (h : OwnG cs e k w base (.slice (some ⟨g, 0, none⟩) n c) l) (hn : n = l.length) (m : Nat) (hm : m ≤ n) :
    OwnG cs e k w base (.slice (some ⟨g, 0, none⟩) m c) (l.take m) := by
  subst hn
  have hlen : (l.take m).length = m := by rw [List.length_take]; omega
  unfold OwnG
  rw [hlen]
  refine ⟨by rw [flat_len hk, hlen], ?_⟩
  rcases h.2 with ⟨h0, _⟩ | ⟨g', cap, cur, hv, hb, hg, hcl, hcm, hcs, htk⟩
  · cases h0
  · simp only [Value.slice.injEq, Option.some.injEq, Addr.mk.injEq, and_true, true_and] at hv
    obtain ⟨rfl, rfl⟩ := hv
    refine .inr ⟨g, c, cur, rfl, hb, hg, by omega, hcm, hcs, ?_⟩
    have := congrArg (List.take (m * k)) htk
    rw [List.take_take, Nat.min_eq_left (Nat.mul_le_mul_right k hm), flat_take hk l m hm] at this
    exact this
theorem absT_set (l : List BkR) (i : Nat) (x : BkR) : absT (l.set i x) = (absT l).set i (bkA x) := by
  unfold absT
  rw [List.map_set]
theorem absT_take (l : List BkR) (m : Nat) : absT (l.take m) = (absT l).take m := by
  unfold absT
  rw [List.map_take]
theorem absT_app (l : List BkR) (x : BkR) : absT (l ++ [x]) = absT l ++ [bkA x] := by simp [absT]
theorem set_mem {l : List BkR} {i : Nat} {x y : BkR} (h : y ∈ l.set i x) : y ∈ l ∨ y = x := by
  rcases List.mem_or_eq_of_mem_set h with h1 | h1
  · exact .inl h1
  · exact .inr h1
/-- the next bucket of one was stored -/
theorem NewB.setNext {w : World} {base g n c : Nat} {l : List BkR} (h : NewB w base (.slice (some ⟨g, 0, none⟩) n c) l) (hn : n = l.length) {i : Nat} (hi : i < l.length) (x : Int) :
    NewB (w.setCell ⟨g, i * 2 + 1, none⟩ (.int .i64 x)) base (.slice (some ⟨g, 0, none⟩) n c) (l.set i ((nthBk l i).1, x)) := by
  have hu := (UpdF.refl (fun j => j = g) w).setCell (p := ⟨g, i * 2 + 1, none⟩) (.inl rfl) (.int .i64 x)
  refine ⟨h.own.setCell elemBk.hk hn i 1 _ _ (.int .i64 x) (nthBk_some hi) rfl (by omega), fun y hy => ?_, fun g' hg' y hy => ?_⟩
  · have hs : SlH w y.1.1 y.1.2.1 y.1.2.2 ∧ OffH (fun j => j = g) y.1.1 y.1.2.2 := by
      rcases set_mem hy with h1 | rfl
      · exact ⟨h.ent y h1, h.sep g rfl y h1⟩
      · exact ⟨h.ent (nthBk l i) (nthBk_mem hi), h.sep g rfl (nthBk l i) (nthBk_mem hi)⟩
    exact hs.1.upd hu hs.2
  · rcases set_mem hy with h1 | rfl
    · exact h.sep g' hg' y h1
    · exact h.sep g' hg' (nthBk l i) (nthBk_mem hi)
/-- a whole bucket was stored -/
theorem NewB.setRow {w : World} {base g n c : Nat} {l : List BkR} (h : NewB w base (.slice (some ⟨g, 0, none⟩) n c) l) (hn : n = l.length) {i : Nat} (hi : i < l.length) (x : BkR) (hs : SlH w x.1.1 x.1.2.1 x.1.2.2) (hoff : OffH (fun j => j = g) x.1.1 x.1.2.2) :
    NewB ((w.setCell ⟨g, i * 2, none⟩ (.slice x.1.1 x.1.2.2.length x.1.2.1)).setCell ⟨g, i * 2 + 1, none⟩ (.int .i64 x.2)) base (.slice (some ⟨g, 0, none⟩) n c) (l.set i x) := by
  have hu := ((UpdF.refl (fun j => j = g) w).setCell (p := ⟨g, i * 2, none⟩) (.inl rfl) (.slice x.1.1 x.1.2.2.length x.1.2.1)).setCell (p := ⟨g, i * 2 + 1, none⟩) (.inl rfl) (.int .i64 x.2)
  have o1 := h.own.setCell elemBk.hk hn i 0 (nthBk l i) (x.1, (nthBk l i).2) (.slice x.1.1 x.1.2.2.length x.1.2.1) (nthBk_some hi) rfl (by omega)
  rw [Nat.add_zero] at o1
  have o2 := o1.setCell elemBk.hk (by rw [List.length_set]; exact hn) i 1 (x.1, (nthBk l i).2) x (.int .i64 x.2) (by rw [List.getElem?_set_self hi]) rfl (by omega)
  rw [set_set_same] at o2
  refine ⟨o2, fun y hy => ?_, fun g' hg' y hy => ?_⟩
  · have hs : SlH w y.1.1 y.1.2.1 y.1.2.2 ∧ OffH (fun j => j = g) y.1.1 y.1.2.2 := by
      rcases set_mem hy with h1 | rfl
      · exact ⟨h.ent y h1, h.sep g rfl y h1⟩
      · exact ⟨hs, hoff⟩
    exact hs.1.upd hu hs.2
  · rcases set_mem hy with h1 | rfl
    · exact h.sep g' hg' y h1
    · injection hg' with hg'
      subst hg'
      exact hoff
theorem NewB.front {w : World} {base g n c : Nat} {l : List BkR} (h : NewB w base (.slice (some ⟨g, 0, none⟩) n c) l) (hn : n = l.length) (m : Nat) (hm : m ≤ n) : NewB w base (.slice (some ⟨g, 0, none⟩) m c) (l.take m) :=
  ⟨h.own.front elemBk.hk hn m hm, fun x hx => h.ent x (List.mem_of_mem_take hx), fun g' hg' x hx => h.sep g' hg' x (List.mem_of_mem_take hx)⟩
/-- a list of the call's own that is not empty has a block -/
theorem NewB.block {w : World} {base : Nat} {v : Value} {l : List BkR} (h : NewB w base v l) (hl : 0 < l.length) : ∃ g c, v = .slice (some ⟨g, 0, none⟩) l.length c ∧ base ≤ g ∧ g < w.heap.size ∧ l.length ≤ c ∧ c ≤ 9223372036854775807 := h.own.tight hl
theorem NewB.cells {w : World} {base g n c : Nat} {l : List BkR} (h : NewB w base (.slice (some ⟨g, 0, none⟩) n c) l) (hn : n = l.length) {i : Nat} (hi : i < l.length) :
    w.cell? ⟨g, i * 2, none⟩ = some (.slice (nthBk l i).1.1 (nthBk l i).1.2.2.length (nthBk l i).1.2.1) ∧ w.cell? ⟨g, i * 2 + 1, none⟩ = some (.int .i64 (nthBk l i).2) :=
  ⟨h.own.cell elemBk.hk hn i _ (nthBk_some hi) 0 _ rfl, h.own.cell elemBk.hk hn i _ (nthBk_some hi) 1 _ rfl⟩
theorem NewB.frozen {w : World} {base g n c : Nat} {l : List BkR} (h : NewB w base (.slice (some ⟨g, 0, none⟩) n c) l) (hn : n = l.length) (j : Nat) : w.frozen? ⟨g, j, none⟩ = false := h.own.frozen hn j
/-- a path whose buckets lie in the table -/
def Within {α : Type} (T : List (Bkt α)) (p : List Nat) : Prop := ∀ b ∈ p, b < T.length
theorem growF_snoc {α : Type} (h : Nat) : ∀ (n : Nat) (T : List (Bkt α)) (p : List Nat), growF h (n + 1) T p =
    ((roomF (growF h n T p).1 (freeF h (growF h n T p).1)).set ((growF h n T p).2.getD ((growF h n T p).2.length - 1) 0) ((bkt (roomF (growF h n T p).1 (freeF h (growF h n T p).1)) ((growF h n T p).2.getD ((growF h n T p).2.length - 1) 0)).1, (freeF h (growF h n T p).1 : Int)), (growF h n T p).2 ++ [freeF h (growF h n T p).1])
  | 0, T, p => rfl
  | n + 1, T, p => by
    show growF h (n + 1) _ _ = _
    rw [growF_snoc h n]
    rfl
theorem growF_len {α : Type} (h : Nat) : ∀ (n : Nat) (T : List (Bkt α)) (p : List Nat), (growF h n T p).2.length = p.length + n
  | 0, T, p => rfl
  | n + 1, T, p => by
    show (growF h n _ _).2.length = _
    rw [growF_len h n]
    simp; omega
theorem roomF_le {α : Type} (T : List (Bkt α)) (f : Nat) : T.length ≤ (roomF T f).length := by
  unfold roomF
  split <;> simp
theorem growF_in {α : Type} {h : Nat} : ∀ (n : Nat) {T : List (Bkt α)} {p : List Nat}, h ≤ T.length → Within T p → h ≤ (growF h n T p).1.length ∧ Within (growF h n T p).1 (growF h n T p).2 ∧ (growF h n T p).1.length ≤ T.length + n
  | 0, T, p, h1, h2 => ⟨h1, h2, Nat.le_refl _⟩
  | n + 1, T, p, h1, h2 => by
    have hf := freeF_is (T := T) h1
    have hl := roomF_len T hf.2.1
    have hle := roomF_le T (freeF h T)
    have hle2 : (roomF T (freeF h T)).length ≤ T.length + 1 := by unfold roomF; split <;> simp
    obtain ⟨a, b, c⟩ := growF_in (h := h) n (T := (roomF T (freeF h T)).set (p.getD (p.length - 1) 0) ((bkt (roomF T (freeF h T)) (p.getD (p.length - 1) 0)).1, (freeF h T : Int))) (p := p ++ [freeF h T]) (by rw [List.length_set]; omega) (fun q hq => by
      rw [List.length_set]
      rcases List.mem_append.1 hq with h3 | h3
      · have := h2 q h3; omega
      · obtain rfl := List.mem_singleton.1 h3
        exact hl)
    refine ⟨a, b, ?_⟩
    rw [List.length_set] at c
    show (growF h n _ _).1.length ≤ _
    omega
end
end Go.Proofs.YtcbinafokhekmaaDoor
