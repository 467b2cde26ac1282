/- CaL; CaM; CaP; CaK; CaN; CaH (merged by group.py) -/
import Derived.Test.YtcbinafokhekmaaDoorQ07
import Derived.StillTailTactics
import Derived.Deep.LoopGhost
import Derived.Test.YtcbinafokhekmaaDoorQ05
namespace Go.Proofs.YtcbinafokhekmaaDoor
section
open Go.RowKit
set_option linter.unusedVariables false
set_option maxRecDepth 20000
set_option linter.unusedSimpArgs false
set_option linter.unusedSectionVars false
set_option maxRecDepth 100000

theorem slice_own {P : Option Addr} {n c g : Nat} (h : (Value.slice P n c).ownBlock = some g) : ∃ a, P = some a ∧ a.block = g := by
  cases P with
  | none => cases h
  | some a => exact ⟨a, rfl, by injection h⟩
theorem own_of {P : Option Addr} {n c : Nat} {a : Addr} (h : P = some a) : (Value.slice P n c).ownBlock = some a.block := by subst h; rfl
theorem Off.or2 {α : Type} {F G : Nat → Prop} {P : Option Addr} {l : List α} (h : Off F P l) (k : Off G P l) {K : Nat → Prop} (hk : ∀ i, K i → F i ∨ G i) : Off K P l := (h.or k).mono hk
theorem SlH.empty (w : World) : SlH w none 0 [] := SlH.nil_ w
theorem OffH.empty (F : Nat → Prop) : OffH F none [] := ⟨fun h => absurd rfl h, fun x h => by simp at h⟩
theorem NewB.slP {w : World} {base : Nat} {P : Option Addr} {c : Nat} {l : List BkR} (h : NewB w base (.slice P l.length c) l) (hl : l.length ≤ 100000) : SlB w P c l := by
  obtain ⟨P', c', e, hs⟩ := h.sl hl
  injection e with e1 _ e2
  subst e1 e2
  exact hs
variable {FF : Nat → Prop}
/-- the state of with: the table in its box, its buckets, the path, the entries that are to be laid -/
structure WI (FF : Nat → Prop) (w wr : World) (h r : Nat) (Q : Option Addr) (d : Nat) (m : List HdR) (T : List (Bkt Hd)) (q : List Nat) (vp : Value) (raw : List BkR) (P : Option Addr) (c : Nat) : Prop where
  abs : absT raw = T
  n : NewB wr (w.heap.size + 2) (.slice P raw.length c) raw
  box : BoxN wr w.heap.size 42 #[.int .i64 h, .int .i64 r, .slice P raw.length c]
  res : BoxN wr (w.heap.size + 1) 42 #[.int .i64 0, .int .i64 0, .slice none 0 0]
  pth : OwnI wr (w.heap.size + 2) vp (ints q)
  sep : ∀ g, vp.ownBlock = some g → (∀ a, P = some a → a.block ≠ g) ∧ ∀ x ∈ raw, OffH (fun i => i = g) x.1.1 x.1.2.2
  off : ∀ x ∈ raw, OffH (fun i => (w.heap.size ≤ i ∧ i < w.heap.size + 2) ∨ FF i) x.1.1 x.1.2.2
  inp : SlH wr Q d m
  inpo : OffH (fun i => w.heap.size ≤ i) Q m
  ext : Ext w wr
theorem WI.ext_ {w wr wr' : World} {h r : Nat} {Q : Option Addr} {d : Nat} {m : List HdR} {T : List (Bkt Hd)} {q : List Nat} {vp : Value} {raw : List BkR} {P : Option Addr} {c : Nat} (I : WI FF w wr h r Q d m T q vp raw P c) (hx : Ext wr wr') : WI FF w wr' h r Q d m T q vp raw P c :=
  ⟨I.abs, I.n.ext hx, I.box.ext hx, I.res.ext hx, OwnG.ext I.pth hx, I.sep, I.off, I.inp.ext hx, I.inpo, I.ext.trans hx⟩
theorem WI.len {w wr : World} {h r : Nat} {Q : Option Addr} {d : Nat} {m : List HdR} {T : List (Bkt Hd)} {q : List Nat} {vp : Value} {raw : List BkR} {P : Option Addr} {c : Nat} (I : WI FF w wr h r Q d m T q vp raw P c) : raw.length = T.length := by rw [← I.abs, absT_len]
/-- the path grows -/
theorem WI.path {w W1 w7 : World} {h r : Nat} {Q : Option Addr} {d : Nat} {m : List HdR} {T : List (Bkt Hd)} {q : List Nat} {vp v7 : Value} {raw : List BkR} {P : Option Addr} {c : Nat} (I : WI FF w W1 h r Q d m T q vp raw P c) {f : Nat}
    (ho : OwnI w7 (w.heap.size + 2) v7 (ints q ++ [(f : Int)])) (hg : W1.grownBy w7 vp.ownBlock) (hob : v7.ownBlock = vp.ownBlock ∨ v7.ownBlock = some W1.heap.size) : WI FF w w7 h r Q d m T (q ++ [f]) v7 raw P c := by
  have hu := UpdF.of_grown hg
  have hF : ∀ i, vp.ownBlock = some i → w.heap.size + 2 ≤ i ∧ i < W1.heap.size := fun i hi => own_lt I.pth hi
  have hent : ∀ x ∈ raw, OffH (fun i => vp.ownBlock = some i) x.1.1 x.1.2.2 := fun x hx => by
    cases hv : vp.ownBlock with
    | none => exact ⟨(fun _ b off _ hb => by cases hb), (fun z hz _ b off _ hb => by cases hb)⟩
    | some g => exact ((I.sep g hv).2 x hx).mono (fun i hi => by injection hi with hi; exact hi.symm)
  have hlt : ∀ x ∈ raw, OffH (fun i => W1.heap.size ≤ i) x.1.1 x.1.2.2 := fun x hx => (I.n.ent x hx).lt
  refine ⟨I.abs, I.n.upd hu (fun g hg' hf => ?_) hent, I.box.upd hu (fun hf => by have := hF _ hf; omega), I.res.upd hu (fun hf => by have := hF _ hf; omega), ?_, fun g hg' => ?_, I.off, I.inp.upd hu (I.inpo.mono (fun i hi => by have := hF _ hi; omega)), I.inpo, hu.ext I.ext (fun i hi => by have := hF _ hi; omega)⟩
  · obtain ⟨a, e, e2⟩ := slice_own hg'
    exact (I.sep g hf).1 a e e2
  · rw [show ints (q ++ [f]) = ints q ++ [(f : Int)] from by simp [ints]]
    exact ho
  · rcases hob with e | e
    · exact I.sep g (e ▸ hg')
    · rw [e] at hg'
      injection hg' with hg'
      subst hg'
      refine ⟨fun a ha e3 => ?_, fun x hx => (hlt x hx).mono (fun i hi => by subst hi; exact Nat.le_refl _)⟩
      have := (own_lt I.n.own (own_of ha)).2
      omega
/-- a next bucket is stored -/
theorem WI.next {w wr : World} {h r : Nat} {Q : Option Addr} {d : Nat} {m : List HdR} {T : List (Bkt Hd)} {q : List Nat} {vp : Value} {raw : List BkR} {g c : Nat} (I : WI FF w wr h r Q d m T q vp raw (some ⟨g, 0, none⟩) c) {i : Nat} (hi : i < raw.length) (x : Int) :
    WI FF w (wr.setCell ⟨g, i * 2 + 1, none⟩ (.int .i64 x)) h r Q d m (T.set i ((bkt T i).1, x)) q vp (raw.set i ((nthBk raw i).1, x)) (some ⟨g, 0, none⟩) c := by
  have hu := (UpdF.refl (fun j => j = g) wr).setCell (p := ⟨g, i * 2 + 1, none⟩) (.inl rfl) (.int .i64 x)
  have hg := own_lt I.n.own (g := g) rfl
  have hmem : ∀ (F : Nat → Prop), (∀ y ∈ raw, OffH F y.1.1 y.1.2.2) → ∀ y ∈ raw.set i ((nthBk raw i).1, x), OffH F y.1.1 y.1.2.2 := fun F hF y hy => by
    rcases set_mem hy with h1 | rfl
    · exact hF y h1
    · exact hF (nthBk raw i) (nthBk_mem hi)
  refine ⟨?_, ?_, ?_, I.res.upd hu (by omega), OwnG.upd I.pth hu (fun g' hg' e => (I.sep g' hg').1 _ rfl e.symm), fun g' hg' => ⟨(I.sep g' hg').1, hmem _ (I.sep g' hg').2⟩, hmem _ I.off, I.inp.upd hu (I.inpo.mono (fun j hj => by omega)), I.inpo, hu.ext I.ext (fun j hj => by omega)⟩
  · rw [absT_set, I.abs]
    congr 1
    rw [← I.abs, absT_bkt hi]
    rfl
  · rw [List.length_set]
    exact I.n.setNext rfl hi x
  · rw [List.length_set]
    exact I.box.upd hu (by omega)
/-- a whole bucket is stored -/
theorem WI.row {w wr : World} {h r : Nat} {Q : Option Addr} {d : Nat} {m : List HdR} {T : List (Bkt Hd)} {q : List Nat} {vp : Value} {raw : List BkR} {g c : Nat} (I : WI FF w wr h r Q d m T q vp raw (some ⟨g, 0, none⟩) c) {i : Nat} (hi : i < raw.length) (x : BkR)
    (hs : SlH wr x.1.1 x.1.2.1 x.1.2.2) (ho : OffH (fun j => j = g ∨ vp.ownBlock = some j ∨ (w.heap.size ≤ j ∧ j < w.heap.size + 2) ∨ FF j) x.1.1 x.1.2.2) :
    WI FF w ((wr.setCell ⟨g, i * 2, none⟩ (.slice x.1.1 x.1.2.2.length x.1.2.1)).setCell ⟨g, i * 2 + 1, none⟩ (.int .i64 x.2)) h r Q d m (T.set i (bkA x)) q vp (raw.set i x) (some ⟨g, 0, none⟩) c := by
  have hu := ((UpdF.refl (fun j => j = g) wr).setCell (p := ⟨g, i * 2, none⟩) (.inl rfl) (.slice x.1.1 x.1.2.2.length x.1.2.1)).setCell (p := ⟨g, i * 2 + 1, none⟩) (.inl rfl) (.int .i64 x.2)
  have hg := own_lt I.n.own (g := g) rfl
  have hmem : ∀ (F : Nat → Prop), (∀ y ∈ raw, OffH F y.1.1 y.1.2.2) → OffH F x.1.1 x.1.2.2 → ∀ y ∈ raw.set i x, OffH F y.1.1 y.1.2.2 := fun F hF hx y hy => by
    rcases set_mem hy with h1 | rfl
    · exact hF y h1
    · exact hx
  refine ⟨by rw [absT_set, I.abs], ?_, ?_, I.res.upd hu (by omega), OwnG.upd I.pth hu (fun g' hg' e => (I.sep g' hg').1 _ rfl e.symm), fun g' hg' => ⟨(I.sep g' hg').1, hmem _ (I.sep g' hg').2 (ho.mono (fun j hj => .inr (.inl (by subst hj; exact hg'))))⟩, hmem _ I.off (ho.mono (fun j hj => .inr (.inr hj))), I.inp.upd hu (I.inpo.mono (fun j hj => by omega)), I.inpo, hu.ext I.ext (fun j hj => by omega)⟩
  · rw [List.length_set]
    exact I.n.setRow rfl hi x hs (ho.mono (fun j hj => .inl hj))
  · rw [List.length_set]
    exact I.box.upd hu (by omega)
/-- the list of buckets is another one: it is stored in the box -/
theorem WI.store {w w7 : World} {h r : Nat} {Q : Option Addr} {d : Nat} {m : List HdR} {T : List (Bkt Hd)} {q : List Nat} {vp : Value} {raw : List BkR} {P7 : Option Addr} {c7 : Nat} {v0 : Value} (habs : absT raw = T)
    (hn : NewB w7 (w.heap.size + 2) (.slice P7 raw.length c7) raw) (hbox : BoxN w7 w.heap.size 42 #[.int .i64 h, .int .i64 r, v0]) (hres : BoxN w7 (w.heap.size + 1) 42 #[.int .i64 0, .int .i64 0, .slice none 0 0])
    (hp : OwnI w7 (w.heap.size + 2) vp (ints q)) (hsep : ∀ g, vp.ownBlock = some g → (∀ a, P7 = some a → a.block ≠ g) ∧ ∀ x ∈ raw, OffH (fun i => i = g) x.1.1 x.1.2.2) (hoff : ∀ x ∈ raw, OffH (fun i => (w.heap.size ≤ i ∧ i < w.heap.size + 2) ∨ FF i) x.1.1 x.1.2.2)
    (hin : SlH w7 Q d m) (hino : OffH (fun i => w.heap.size ≤ i) Q m) (hx : Ext w w7) : WI FF w (w7.setCell ⟨w.heap.size, 2, none⟩ (.slice P7 raw.length c7)) h r Q d m T q vp raw P7 c7 := by
  have hu := (UpdF.refl (fun i => i = w.heap.size) w7).setCell (p := ⟨w.heap.size, 2, none⟩) (.inl rfl) (.slice P7 raw.length c7)
  refine ⟨habs, hn.upd hu (fun g hg e => by have := (own_lt hn.own hg).1; omega) (fun x hx => (hoff x hx).mono (fun i hi => .inl (by omega))), hbox.set 2 _, hres.upd hu (by omega), OwnG.upd hp hu (fun g hg e => by have := (own_lt hp hg).1; omega), hsep, hoff, hin.upd hu (hino.mono (fun i hi => by omega)), hino, hu.ext hx (fun i hi => by omega)⟩
/-- a free bucket more -/
theorem WI.room {w W1 w7 : World} {h r : Nat} {Q : Option Addr} {d : Nat} {m : List HdR} {T : List (Bkt Hd)} {q : List Nat} {vp v7 : Value} {raw : List BkR} {P : Option Addr} {c : Nat} (I : WI FF w W1 h r Q d m T q vp raw P c)
    (ho : OwnG csBk 34 2 w7 (w.heap.size + 2) v7 (raw ++ [((none, 0, []), -1)])) (hg : W1.grownBy w7 (Value.slice P raw.length c).ownBlock) (hob : v7.ownBlock = (Value.slice P raw.length c).ownBlock ∨ v7.ownBlock = some W1.heap.size) (hl : raw.length ≤ 10000) :
    ∃ P7 c7, v7 = .slice P7 (raw.length + 1) c7 ∧ w7.cell? ⟨w.heap.size, 2, none⟩ = some (.slice P raw.length c) ∧ w7.frozen? ⟨w.heap.size, 2, none⟩ = false ∧ WI FF w (w7.setCell ⟨w.heap.size, 2, none⟩ (.slice P7 (raw.length + 1) c7)) h r Q d m (T ++ [([], -1)]) q vp (raw ++ [((none, 0, []), -1)]) P7 c7 := by
  have hu := UpdF.of_grown hg
  have hF : ∀ i, (Value.slice P raw.length c).ownBlock = some i → w.heap.size + 2 ≤ i ∧ i < W1.heap.size := fun i hi => own_lt I.n.own hi
  have hN := I.n.append (x := ((none, 0, []), -1)) (SlH.empty _) (fun g _ => OffH.empty _) ho hg hob
  obtain ⟨P7, c7, rfl, _⟩ := hN.sl (by simp; omega)
  have hlen : (raw ++ [((none, 0, []), -1)] : List BkR).length = raw.length + 1 := by simp
  rw [hlen] at hob hN ⊢
  have hmem : ∀ (F : Nat → Prop), (∀ y ∈ raw, OffH F y.1.1 y.1.2.2) → ∀ y ∈ raw ++ [((none, 0, []), -1)], OffH F y.1.1 y.1.2.2 := fun F hF y hy => by
    rcases List.mem_append.1 hy with h1 | h1
    · exact hF y h1
    · obtain rfl := List.mem_singleton.1 h1
      exact OffH.empty F
  have hb7 := I.box.upd hu (fun hf => by have := hF _ hf; omega)
  refine ⟨P7, c7, rfl, hb7.cell (i := 2) rfl, hb7.frozen 2, ?_⟩
  have := WI.store (w := w) (w7 := w7) (h := h) (r := r) (Q := Q) (d := d) (m := m) (T := T ++ [([], -1)]) (q := q) (vp := vp) (raw := raw ++ [((none, 0, []), -1)]) (P7 := P7) (c7 := c7) (v0 := .slice P raw.length c) (by rw [absT_app, I.abs]; rfl) (by rw [hlen]; exact hN)
    (I.box.upd hu (fun hf => by have := hF _ hf; omega)) (I.res.upd hu (fun hf => by have := hF _ hf; omega)) (OwnG.upd I.pth hu (fun g hg' hf => by
      obtain ⟨a, e, e2⟩ := slice_own hf
      exact (I.sep g hg').1 a e e2)) (fun g hg' => ⟨fun a ha e => ?_, hmem _ (I.sep g hg').2⟩) (hmem _ I.off) (I.inp.upd hu (I.inpo.mono (fun i hi => by have := hF _ hi; omega))) I.inpo (hu.ext I.ext (fun i hi => by have := hF _ hi; omega))
  · rw [hlen] at this
    exact this
  · have ho7 := own_of (n := raw.length + 1) (c := c7) ha
    rcases hob with e1 | e1
    · rw [ho7] at e1
      obtain ⟨a', e2, e3⟩ := slice_own e1.symm
      exact (I.sep g hg').1 a' e2 (by omega)
    · rw [ho7] at e1
      injection e1 with e1
      have := (own_lt I.pth hg').2
      omega
/-- the list of buckets is cut -/
theorem WI.cut {w wr : World} {h r : Nat} {Q : Option Addr} {d : Nat} {m : List HdR} {T : List (Bkt Hd)} {q : List Nat} {vp : Value} {raw : List BkR} {g c : Nat} (I : WI FF w wr h r Q d m T q vp raw (some ⟨g, 0, none⟩) c) (k : Nat) (hk : k ≤ raw.length) :
    WI FF w (wr.setCell ⟨w.heap.size, 2, none⟩ (.slice (some ⟨g, 0, none⟩) k c)) h r Q d m (T.take k) q vp (raw.take k) (some ⟨g, 0, none⟩) c := by
  have hlen : (raw.take k).length = k := by rw [List.length_take]; omega
  have hmem : ∀ (F : Nat → Prop), (∀ y ∈ raw, OffH F y.1.1 y.1.2.2) → ∀ y ∈ raw.take k, OffH F y.1.1 y.1.2.2 := fun F hF y hy => hF y (List.mem_of_mem_take hy)
  have := WI.store (w := w) (w7 := wr) (h := h) (r := r) (Q := Q) (d := d) (m := m) (T := T.take k) (q := q) (vp := vp) (raw := raw.take k) (P7 := some ⟨g, 0, none⟩) (c7 := c) (v0 := .slice (some ⟨g, 0, none⟩) raw.length c) (by rw [absT_take, I.abs]) (by rw [hlen]; exact I.n.front rfl k hk) I.box I.res I.pth (fun g' hg' => ⟨(I.sep g' hg').1, hmem _ (I.sep g' hg').2⟩) (hmem _ I.off) I.inp I.inpo I.ext
  rw [hlen] at this
  exact this
theorem WI.cells {w wr : World} {h r : Nat} {Q : Option Addr} {d : Nat} {m : List HdR} {T : List (Bkt Hd)} {q : List Nat} {vp : Value} {raw : List BkR} {P : Option Addr} {c : Nat} (I : WI FF w wr h r Q d m T q vp raw P c) :
    wr.cell? ⟨w.heap.size, 0, none⟩ = some (.int .i64 h) ∧ wr.cell? ⟨w.heap.size, 1, none⟩ = some (.int .i64 r) ∧ wr.cell? ⟨w.heap.size, 2, none⟩ = some (.slice P raw.length c) ∧ wr.frozen? ⟨w.heap.size, 2, none⟩ = false :=
  ⟨I.box.cell rfl, I.box.cell rfl, I.box.cell rfl, I.box.frozen 2⟩
/-- the path has a block, and its places are read -/
theorem WI.at_ {w wr : World} {h r : Nat} {Q : Option Addr} {d : Nat} {m : List HdR} {T : List (Bkt Hd)} {q : List Nat} {Pv : Option Addr} {nv cv : Nat} {raw : List BkR} {P : Option Addr} {c : Nat} (I : WI FF w wr h r Q d m T q (.slice Pv nv cv) raw P c) (hn : nv = q.length) {i : Nat} (hi : i < q.length) :
    ∃ g, Pv = some ⟨g, 0, none⟩ ∧ wr.cell? ⟨g, i, none⟩ = some (.int .i64 (q.getD i 0 : Nat)) := by
  have ho := I.pth
  obtain ⟨g, cap, e, _⟩ := ho.tight (by rw [ints_len]; omega)
  injection e with e1 e2 e3
  subst e1 e3
  refine ⟨g, rfl, ?_⟩
  have := OwnG.cell1 elemI.hk ho (by rw [hn, ints_len]) i ((q.getD i 0 : Nat) : Int) (.int .i64 (q.getD i 0 : Nat)) (by unfold ints; rw [List.getElem?_map, some_getD hi]; rfl) rfl
  exact this
end
section
open Go.RowKit
set_option linter.unusedVariables false
set_option maxRecDepth 20000
set_option linter.unusedSimpArgs false
set_option linter.unusedSectionVars false
set_option maxRecDepth 100000

theorem addr_add0 (a : Addr) : a.add 0 = a := by simp [Addr.add]
theorem part_value (Q : Option Addr) (n d lo hi k : Nat) (h1 : lo ≤ hi) (h2 : hi ≤ d) (T : TypeId) (hT : Tryd.prog.underlying T = some (.slice (Tryd.prog.elem T))) (hs : (Tryd.prog.info? (Tryd.prog.elem T)).map (·.size) = some k) :
    ∀ W, (Instr.slice T (.slice Q n d) (some (.int .i64 lo)) (some (.int .i64 hi)) none).run Tryd.prog W = .ok (.slice (if d = lo then Q else Q.map (·.add (lo * k))) (hi - lo) (d - lo)) W := by
  intro W
  rw [run_slice_lh (w := W) T Q n d hT .i64 .i64 lo hi (by omega) (by omega) (by omega)]
  cases hq : Tryd.prog.info? (Tryd.prog.elem T) with
  | none => simp [hq] at hs
  | some x =>
    have hx : x.size = k := by simpa [hq] using hs
    simp [sizeOf, typeInfo, hq, hx, sliced, Result.andThen]
theorem part_valueM (Q : Option Addr) (n d lo hi k : Nat) (h1 : lo ≤ hi) (h2 : hi ≤ d) (T : TypeId) (hT : Tryd.prog.underlying T = some (.slice (Tryd.prog.elem T))) (hs : (Tryd.prog.info? (Tryd.prog.elem T)).map (·.size) = some k) :
    ∀ W, (Instr.slice T (.slice Q n d) (some (.int .i64 lo)) (some (.int .i64 hi)) (some (.int .i64 hi))).run Tryd.prog W = .ok (.slice (if hi = lo then Q else Q.map (·.add (lo * k))) (hi - lo) (hi - lo)) W := by
  intro W
  rw [run_slice_lhm (w := W) T Q n d hT .i64 .i64 .i64 lo hi hi (by omega) (by omega) (by omega) (by omega)]
  cases hq : Tryd.prog.info? (Tryd.prog.elem T) with
  | none => simp [hq] at hs
  | some x =>
    have hx : x.size = k := by simpa [hq] using hs
    simp [sizeOf, typeInfo, hq, hx, sliced, Result.andThen]
theorem front_value (g n d m : Nat) (hm : m ≤ d) (k : Nat) (T : TypeId) (hT : Tryd.prog.underlying T = some (.slice (Tryd.prog.elem T))) (hs : (Tryd.prog.info? (Tryd.prog.elem T)).map (·.size) = some k) :
    ∀ W, (Instr.slice T (.slice (some ⟨g, 0, none⟩) n d) none (some (.int .i64 m)) none).run Tryd.prog W = .ok (.slice (some ⟨g, 0, none⟩) m d) W := by
  intro W
  rw [run_slice_h (w := W) T (some ⟨g, 0, none⟩) n d hT .i64 m (by omega) (by omega)]
  cases hq : Tryd.prog.info? (Tryd.prog.elem T) with
  | none => simp [hq] at hs
  | some x => simp [sizeOf, typeInfo, hq, sliced, Result.andThen, addr_add0]
/-- a part of a list, read -/
theorem SlG.part {α : Type} {cs : α → List Value} {k : Nat} (hk : ∀ x, (cs x).length = k) {w : World} {Q : Option Addr} {d : Nat} {m : List α} (h : SlG cs w Q d m) (lo hi : Nat) (h1 : lo ≤ hi) (h2 : hi ≤ m.length) (e d' : Nat) (hd : hi - lo ≤ d') (hd2 : d' ≤ 9223372036854775807) (he : e = lo → hi = lo) :
    SlG cs w (if e = lo then Q else Q.map (·.add (lo * k))) d' ((m.take hi).drop lo) := by
  have hlen : ((m.take hi).drop lo).length = hi - lo := by rw [List.length_drop, List.length_take]; omega
  refine ⟨fun i x hx => ?_, by rw [hlen]; exact hd, hd2⟩
  have hlt := (List.getElem?_eq_some_iff.1 hx).1
  rw [hlen] at hlt
  rw [List.getElem?_drop, List.getElem?_take, if_pos (by omega)] at hx
  obtain ⟨b, off, e1, h3⟩ := h.at_ (lo + i) x hx
  subst e1
  rw [if_neg (fun e2 => by have := he e2; omega)]
  refine ⟨b, off + lo * k, by rw [Option.map_some, add_flat], fun j v hj => ?_⟩
  have := h3 j v hj
  rw [hk] at this ⊢
  rw [← this, Nat.add_mul]
  congr 2
  omega
theorem part_nil {Q : Option Addr} {e lo k d' : Nat} (h : Q = none → d' = 0) : (if e = lo then Q else Q.map (·.add (lo * k))) = none → d' = 0 := by
  intro hq
  cases Q with
  | none => exact h rfl
  | some a => split at hq <;> cases hq
theorem SlH.part {w : World} {Q : Option Addr} {d : Nat} {m : List HdR} (h : SlH w Q d m) (lo hi : Nat) (h1 : lo ≤ hi) (h2 : hi ≤ m.length) (e d' : Nat) (hd : hi - lo ≤ d') (hd2 : d' ≤ d) (he : e = lo → hi = lo) :
    SlH w (if e = lo then Q else Q.map (·.add (lo * 2))) d' ((m.take hi).drop lo) :=
  ⟨h.sl.part elemHd.hk lo hi h1 h2 e d' hd (by have := h.sl.cap; omega) he, part_nil (fun hq => by have := h.nil hq; omega), fun x hx => h.row x (List.mem_of_mem_take (List.mem_of_mem_drop hx))⟩
/-- the bounds of a piece -/
theorem chunk_part {α : Type} (r i : Nat) (l : List α) : (l.take (min ((i + 1) * r) l.length)).drop (min (i * r) l.length) = chunk r i l := by
  unfold chunk
  rw [Nat.add_mul, Nat.one_mul]
  by_cases h : i * r ≤ l.length
  · rw [Nat.min_eq_left h]
    by_cases h2 : i * r + r ≤ l.length
    · rw [Nat.min_eq_left h2, List.drop_take]
      congr 1
      omega
    · rw [Nat.min_eq_right (by omega), List.take_length, List.take_of_length_le (by rw [List.length_drop]; omega)]
  · rw [Nat.min_eq_right (by omega), Nat.min_eq_right (by omega), List.take_length, List.drop_length, List.drop_of_length_le (by omega), List.take_nil]
theorem chunk_map {α β : Type} (f : α → β) (r i : Nat) (l : List α) : chunk r i (l.map f) = (chunk r i l).map f := by
  unfold chunk
  rw [List.map_take, List.map_drop]
end
section
open Go.RowKit
set_option linter.unusedVariables false
set_option maxRecDepth 20000
set_option linter.unusedSimpArgs false
set_option linter.unusedSectionVars false
set_option maxRecDepth 100000

/-- table t: its box, its buckets, the entries of each; F are the blocks that are the table's own -/
structure CtO (w : World) (F : Nat → Prop) (t h r : Nat) (P : Option Addr) (c : Nat) (raw : List BkR) : Prop where
  box : BoxN w t 69 #[.int .i64 h, .int .i64 r, .slice P raw.length c]
  own : OwnG csBk 34 2 w 0 (.slice P raw.length c) raw
  ents : ∀ (i : Nat) (x : BkR), raw[i]? = some x → OwnG csHd 36 2 w 0 (.slice x.1.1 x.1.2.2.length x.1.2.1) x.1.2.2
  rows : ∀ x ∈ raw, ∀ y ∈ x.1.2.2, SlV w y.1.1 y.1.2.1 y.1.2.2 ∧ (y.1.1 = none → y.1.2.1 = 0) ∧ Off F y.1.1 y.1.2.2
  Ft : F t
  FP : ∀ a, P = some a → F a.block ∧ a.block ≠ t
  Fe : ∀ (i : Nat) (x : BkR) (a : Addr), raw[i]? = some x → x.1.1 = some a → F a.block ∧ a.block ≠ t ∧ ∀ a', P = some a' → a'.block ≠ a.block
  Fd : ∀ (i j : Nat) (x y : BkR) (a b : Addr), raw[i]? = some x → raw[j]? = some y → x.1.1 = some a → y.1.1 = some b → a.block = b.block → i = j
  Flt : ∀ k, F k → k < w.heap.size
theorem CtO.ent {w : World} {F : Nat → Prop} {t h r : Nat} {P : Option Addr} {c : Nat} {raw : List BkR} (H : CtO w F t h r P c raw) (hl : ∀ x ∈ raw, x.1.2.2.length ≤ 100000) : ∀ x ∈ raw, SlH w x.1.1 x.1.2.1 x.1.2.2 := by
  intro x hx
  obtain ⟨i, hi⟩ := List.mem_iff_getElem?.1 hx
  obtain ⟨P', c', e, hs, hn⟩ := (H.ents i x hi).read elemHd (by have := hl x hx; omega)
  injection e with e1 _ e2
  subst e1 e2
  exact ⟨hs, hn, fun y hy => ⟨(H.rows x hx y hy).1, (H.rows x hx y hy).2.1⟩⟩
theorem CtO.sl {w : World} {F : Nat → Prop} {t h r : Nat} {P : Option Addr} {c : Nat} {raw : List BkR} (H : CtO w F t h r P c raw) (hn : raw.length ≤ 100000) (hl : ∀ x ∈ raw, x.1.2.2.length ≤ 100000) : SlB w P c raw := by
  obtain ⟨P', c', e, hs, hn⟩ := H.own.read elemBk (by omega)
  injection e with e1 _ e2
  subst e1 e2
  exact ⟨hs, hn, H.ent hl⟩
theorem CtO.ctr {w : World} {F : Nat → Prop} {t h r : Nat} {P : Option Addr} {c : Nat} {raw : List BkR} (H : CtO w F t h r P c raw) (hn : raw.length ≤ 100000) (hl : ∀ x ∈ raw, x.1.2.2.length ≤ 100000) : CtR w t h r P c raw := ⟨H.box, H.sl hn hl⟩
theorem CtO.ext {w w' : World} {F : Nat → Prop} {t h r : Nat} {P : Option Addr} {c : Nat} {raw : List BkR} (H : CtO w F t h r P c raw) (hx : Ext w w') : CtO w' F t h r P c raw :=
  ⟨H.box.ext hx, H.own.ext hx, fun i x hi => (H.ents i x hi).ext hx, fun x hx' y hy => ⟨(H.rows x hx' y hy).1.ext hx, (H.rows x hx' y hy).2⟩, H.Ft, H.FP, H.Fe, H.Fd, fun k hk => Nat.lt_of_lt_of_le (H.Flt k hk) hx.size⟩
/-- what changes elsewhere leaves the table -/
theorem CtO.upd {w w' : World} {F G : Nat → Prop} {t h r : Nat} {P : Option Addr} {c : Nat} {raw : List BkR} (H : CtO w F t h r P c raw) (hu : UpdF G w w') (hd : ∀ k, F k → ¬ G k) (hr : ∀ x ∈ raw, ∀ y ∈ x.1.2.2, Off G y.1.1 y.1.2.2) : CtO w' F t h r P c raw :=
  ⟨H.box.upd hu (hd _ H.Ft), H.own.upd hu (fun g hg => by
      obtain ⟨a, e, e2⟩ := slice_own hg
      exact e2 ▸ hd _ (H.FP a e).1), fun i x hi => (H.ents i x hi).upd hu (fun g hg => by
      obtain ⟨a, e, e2⟩ := slice_own hg
      exact e2 ▸ hd _ (H.Fe i x a hi e).1), fun x hx y hy => ⟨(H.rows x hx y hy).1.upd hu (hr x hx y hy), (H.rows x hx y hy).2⟩, H.Ft, H.FP, H.Fe, H.Fd, fun k hk => Nat.lt_of_lt_of_le (H.Flt k hk) hu.size⟩
theorem set_get {l : List BkR} {i : Nat} (hi : i < l.length) {x y : BkR} {j : Nat} (h : (l.set i x)[j]? = some y) : (j = i ∧ y = x) ∨ (j ≠ i ∧ l[j]? = some y) := by
  by_cases e : j = i
  · subst e
    rw [List.getElem?_set_self hi] at h
    exact .inl ⟨rfl, (Option.some.inj h).symm⟩
  · rw [List.getElem?_set_ne (fun e2 => e e2.symm)] at h
    exact .inr ⟨e, h⟩
/-- the next bucket of one is stored -/
theorem CtO.next {w : World} {F : Nat → Prop} {t h r g c : Nat} {raw : List BkR} (H : CtO w F t h r (some ⟨g, 0, none⟩) c raw) {i : Nat} (hi : i < raw.length) (x : Int) :
    CtO (w.setCell ⟨g, i * 2 + 1, none⟩ (.int .i64 x)) F t h r (some ⟨g, 0, none⟩) c (raw.set i ((nthBk raw i).1, x)) ∧ UpdF F w (w.setCell ⟨g, i * 2 + 1, none⟩ (.int .i64 x)) := by
  have hu := (UpdF.refl (fun j => j = g) w).setCell (p := ⟨g, i * 2 + 1, none⟩) (.inl rfl) (.int .i64 x)
  have hg := H.FP _ rfl
  have hget : ∀ (j : Nat) (y : BkR), (raw.set i ((nthBk raw i).1, x))[j]? = some y → ∃ z, raw[j]? = some z ∧ z.1 = y.1 := fun j y hj => by
    rcases set_get hi hj with ⟨rfl, rfl⟩ | ⟨_, h1⟩
    · exact ⟨_, nthBk_some hi, rfl⟩
    · exact ⟨y, h1, rfl⟩
  refine ⟨⟨?_, ?_, fun j y hj => ?_, fun y hy z hz => ?_, H.Ft, H.FP, fun j y a hj ha => ?_, fun j k y z a b hj hk ha hb hab => ?_, fun k hk => by have := H.Flt k hk; simpa [World.setCell] using this⟩, (UpdF.refl F w).setCell (p := ⟨g, i * 2 + 1, none⟩) (.inl hg.1) (.int .i64 x)⟩
  · rw [List.length_set]
    exact H.box.upd hu (fun e => hg.2 e.symm)
  · rw [List.length_set]
    exact H.own.setCell elemBk.hk rfl i 1 _ _ (.int .i64 x) (nthBk_some hi) rfl (by omega)
  · obtain ⟨z, h1, h2⟩ := hget j y hj
    rw [← h2]
    exact (H.ents j z h1).upd hu (fun k hk e => by
      obtain ⟨a, e1, e2⟩ := slice_own hk
      exact (H.Fe j z a h1 e1).2.2 _ rfl (by subst e; exact e2.symm))
  · obtain ⟨j, hj⟩ := List.mem_iff_getElem?.1 hy
    obtain ⟨y', h1, h2⟩ := hget j y hj
    rw [← h2] at hz
    have := H.rows y' (List.mem_of_getElem? h1) z hz
    exact ⟨this.1.upd hu (this.2.2.mono (fun k hk => by subst hk; exact hg.1)), this.2⟩
  · obtain ⟨z, h1, h2⟩ := hget j y hj
    rw [← h2] at ha
    exact H.Fe j z a h1 ha
  · obtain ⟨y', h1, h2⟩ := hget j y hj
    obtain ⟨z', h3, h4⟩ := hget k z hk
    rw [← h2] at ha
    rw [← h4] at hb
    exact H.Fd j k y' z' a b h1 h3 ha hb hab
/-- a free bucket more: it was appended, and the list is stored -/
theorem CtO.push {w w7 : World} {F : Nat → Prop} {t h r c : Nat} {P : Option Addr} {raw : List BkR} (H : CtO w F t h r P c raw) {v7 : Value}
    (ho : OwnG csBk 34 2 w7 0 v7 (raw ++ [((none, 0, []), -1)])) (hg : w.grownBy w7 (Value.slice P raw.length c).ownBlock) (hob : v7.ownBlock = (Value.slice P raw.length c).ownBlock ∨ v7.ownBlock = some w.heap.size) (hl : raw.length ≤ 10000) :
    ∃ P7 c7 F', v7 = .slice P7 (raw.length + 1) c7 ∧ w7.cell? ⟨t, 2, none⟩ = some (.slice P raw.length c) ∧ w7.frozen? ⟨t, 2, none⟩ = false ∧
      CtO (w7.setCell ⟨t, 2, none⟩ (.slice P7 (raw.length + 1) c7)) F' t h r P7 c7 (raw ++ [((none, 0, []), -1)]) ∧ (∀ k, F k → F' k) ∧ (∀ k, F' k → F k ∨ w.heap.size ≤ k) ∧ UpdF F w (w7.setCell ⟨t, 2, none⟩ (.slice P7 (raw.length + 1) c7)) := by
  have hu := UpdF.of_grown hg
  obtain ⟨P7, c7, rfl, _, _⟩ := ho.read elemBk (by simp; omega)
  have hlen : (raw ++ [((none, 0, []), -1)] : List BkR).length = raw.length + 1 := by simp
  rw [hlen] at ho hob ⊢
  have hPF : ∀ i, (Value.slice P raw.length c).ownBlock = some i → F i ∧ i ≠ t := fun i hi => by
    obtain ⟨a, e, e2⟩ := slice_own hi
    exact e2 ▸ H.FP a e
  have hb7 := H.box.upd hu (fun e => (hPF _ e).2 rfl)
  have hP7 : ∀ a, P7 = some a → (P = some a ∨ ∃ a', P = some a' ∧ a'.block = a.block) ∨ a.block = w.heap.size := fun a ha => by
    rcases hob with e | e
    · rw [own_of ha] at e
      obtain ⟨a', e1, e2⟩ := slice_own e.symm
      exact .inl (.inr ⟨a', e1, e2⟩)
    · rw [own_of ha] at e
      injection e with e
      exact .inr e
  have hP7F : ∀ a, P7 = some a → F a.block ∨ a.block = w.heap.size := fun a ha => by
    rcases hP7 a ha with (h1 | ⟨a', h1, h2⟩) | h1
    · exact .inl (H.FP a h1).1
    · exact .inl (h2 ▸ (H.FP a' h1).1)
    · exact .inr h1
  have ht := H.Flt t H.Ft
  have hP7t : ∀ a, P7 = some a → a.block ≠ t := fun a ha => by
    rcases hP7 a ha with (h1 | ⟨a', h1, h2⟩) | h1
    · exact (H.FP a h1).2
    · exact h2 ▸ (H.FP a' h1).2
    · omega
  have hget : ∀ (j : Nat) (y : BkR), (raw ++ [((none, 0, []), -1)])[j]? = some y → raw[j]? = some y ∨ y = ((none, 0, []), -1) := fun j y hj => by
    have hj1 := (List.getElem?_eq_some_iff.1 hj).1
    rw [hlen] at hj1
    by_cases h1 : j < raw.length
    · rw [List.getElem?_append_left h1] at hj
      exact .inl hj
    · obtain rfl : j = raw.length := by omega
      simp at hj
      exact .inr hj.symm
  have hu2 := (UpdF.refl (fun i => i = t) w7).setCell (p := ⟨t, 2, none⟩) (.inl rfl) (.slice P7 (raw.length + 1) c7)
  refine ⟨P7, c7, fun k => F k ∨ ∃ a, P7 = some a ∧ k = a.block, rfl, hb7.cell (i := 2) rfl, hb7.frozen 2, ⟨?_, ?_, fun j y hj => ?_, fun y hy z hz => ?_, .inl H.Ft, fun a ha => ⟨.inr ⟨a, ha, rfl⟩, hP7t a ha⟩, fun j y a hj ha => ?_, fun j k y z a b hj hk ha hb hab => ?_, fun k hk => ?_⟩, fun k hk => .inl hk, fun k hk => ?_, ?_⟩
  · rw [hlen]
    exact hb7.set 2 _
  · rw [hlen]
    exact ho.upd hu2 (fun g hg' e => by
      obtain ⟨a, e1, e2⟩ := slice_own hg'
      exact hP7t a e1 (by omega))
  · rcases hget j y hj with h1 | rfl
    · refine ((H.ents j y h1).upd hu (fun g hg' e => ?_)).upd hu2 (fun g hg' e => ?_)
      · obtain ⟨a, e1, e2⟩ := slice_own hg'
        obtain ⟨a', e3, e4⟩ := slice_own e
        exact (H.Fe j y a h1 e1).2.2 a' e3 (by omega)
      · obtain ⟨a, e1, e2⟩ := slice_own hg'
        exact (H.Fe j y a h1 e1).2.1 (by omega)
    · exact OwnG.nil _ _ _ _ _
  · obtain ⟨j, hj⟩ := List.mem_iff_getElem?.1 hy
    rcases hget j y hj with h1 | rfl
    · have := H.rows y (List.mem_of_getElem? h1) z hz
      refine ⟨(this.1.upd hu (this.2.2.mono (fun k hk => (hPF k hk).1))).upd hu2 (this.2.2.mono (fun k hk => by subst hk; exact H.Ft)), this.2.1, (this.2.2.or (this.1.lt vl_pos)).mono (fun k hk => ?_)⟩
      rcases hk with hk | ⟨a, ha, rfl⟩
      · exact .inl hk
      · rcases hP7F a ha with h2 | h2
        · exact .inl h2
        · exact .inr (by omega)
    · simp at hz
  · rcases hget j y hj with h1 | rfl
    · obtain ⟨f1, f2, f3⟩ := H.Fe j y a h1 ha
      refine ⟨.inl f1, f2, fun a' ha' e => ?_⟩
      rcases hP7 a' ha' with (h2 | ⟨a2, h2, h3⟩) | h2
      · exact f3 a' h2 e
      · exact f3 a2 h2 (by omega)
      · have := H.Flt _ f1
        omega
    · cases ha
  · rcases hget j y hj with h1 | rfl
    · rcases hget k z hk with h2 | rfl
      · exact H.Fd j k y z a b h1 h2 ha hb hab
      · cases hb
    · cases ha
  · rcases hk with hk | ⟨a, ha, rfl⟩
    · have := H.Flt k hk
      have := hu.size
      simp [World.setCell]; omega
    · have := (own_lt ho (own_of ha)).2
      simpa [World.setCell] using this
  · rcases hk with hk | ⟨a, ha, rfl⟩
    · exact .inl hk
    · rcases hP7F a ha with h2 | h2
      · exact .inl h2
      · exact .inr (by omega)
  · exact (hu.mono (fun i hi => (hPF i hi).1)).setCell (.inl H.Ft) _
/-- the entries of a bucket are others: they are stored -/
theorem CtO.setE {w w7 : World} {F G : Nat → Prop} {t h r g c : Nat} {raw : List BkR} (H : CtO w F t h r (some ⟨g, 0, none⟩) c raw) {i : Nat} (hi : i < raw.length) {P7 : Option Addr} {c7 : Nat} {es : List HdR}
    (ho : OwnG csHd 36 2 w7 0 (.slice P7 es.length c7) es) (hu : UpdF G w w7) (hG : ∀ k, G k → ∃ a, (nthBk raw i).1.1 = some a ∧ a.block = k)
    (hP7 : ∀ a, P7 = some a → (∃ a', (nthBk raw i).1.1 = some a' ∧ a'.block = a.block) ∨ w.heap.size ≤ a.block)
    (hrow : ∀ y ∈ es, SlV w7 y.1.1 y.1.2.1 y.1.2.2 ∧ (y.1.1 = none → y.1.2.1 = 0) ∧ Off (fun k => F k ∨ ∃ a, P7 = some a ∧ k = a.block) y.1.1 y.1.2.2) :
    w7.cell? ⟨g, i * 2, none⟩ = some (.slice (nthBk raw i).1.1 (nthBk raw i).1.2.2.length (nthBk raw i).1.2.1) ∧ w7.frozen? ⟨g, i * 2, none⟩ = false ∧
      CtO (w7.setCell ⟨g, i * 2, none⟩ (.slice P7 es.length c7)) (fun k => F k ∨ ∃ a, P7 = some a ∧ k = a.block) t h r (some ⟨g, 0, none⟩) c (raw.set i ((P7, c7, es), (nthBk raw i).2)) ∧ UpdF F w (w7.setCell ⟨g, i * 2, none⟩ (.slice P7 es.length c7)) := by
  have hgF := H.FP _ rfl
  have hold : ∀ k, G k → F k ∧ k ≠ t ∧ k ≠ g := fun k hk => by
    obtain ⟨a, e, e2⟩ := hG k hk
    obtain ⟨f1, f2, f3⟩ := H.Fe i _ a (nthBk_some hi) e
    subst e2
    exact ⟨f1, f2, fun e3 => f3 _ rfl e3.symm⟩
  have hown7 := H.own.upd hu (fun k hk e => by
    obtain ⟨a, e1, e2⟩ := slice_own hk
    injection e1 with e1
    subst e1
    exact (hold k e).2.2 e2.symm)
  have hu2 := (UpdF.refl (fun j => j = g) w7).setCell (p := ⟨g, i * 2, none⟩) (.inl rfl) (.slice P7 es.length c7)
  have hgs := (own_lt H.own (g := g) rfl).2
  have hP7g : ∀ a, P7 = some a → a.block ≠ g ∧ a.block ≠ t := fun a ha => by
    rcases hP7 a ha with ⟨a', e, e2⟩ | h1
    · obtain ⟨f1, f2, f3⟩ := H.Fe i _ a' (nthBk_some hi) e
      exact ⟨fun e3 => f3 _ rfl (show g = a'.block from by omega), by omega⟩
    · have := H.Flt t H.Ft
      exact ⟨by omega, by omega⟩
  have hother : ∀ (j : Nat) (y : BkR) (b : Addr), j ≠ i → raw[j]? = some y → y.1.1 = some b → ∀ a, P7 = some a → a.block ≠ b.block := fun j y b hne hj hb a ha e => by
    obtain ⟨f1, f2, f3⟩ := H.Fe j y b hj hb
    rcases hP7 a ha with ⟨a', e1, e2⟩ | h1
    · exact hne (H.Fd j i y _ b a' hj (nthBk_some hi) hb e1 (by omega))
    · have := H.Flt _ f1
      omega
  refine ⟨hown7.cell elemBk.hk rfl i _ (nthBk_some hi) 0 _ rfl, hown7.frozen rfl _, ⟨?_, ?_, fun j y hj => ?_, fun y hy z hz => ?_, .inl H.Ft, fun a ha => ⟨.inl (H.FP a ha).1, (H.FP a ha).2⟩, fun j y a hj ha => ?_, fun j k y z a b hj hk ha hb hab => ?_, fun k hk => ?_⟩, ?_⟩
  · rw [List.length_set]
    exact (H.box.upd hu (fun e => (hold _ e).2.1 rfl)).upd hu2 (fun e => hgF.2 e.symm)
  · rw [List.length_set]
    have := hown7.setCell elemBk.hk rfl i 0 _ ((P7, c7, es), (nthBk raw i).2) (.slice P7 es.length c7) (nthBk_some hi) rfl (by omega)
    simpa using this
  · rcases set_get hi hj with ⟨rfl, rfl⟩ | ⟨hne, h1⟩
    · exact ho.upd hu2 (fun k hk e => by
        obtain ⟨a, e1, e2⟩ := slice_own hk
        exact (hP7g a e1).1 (by omega))
    · refine ((H.ents j y h1).upd hu (fun k hk e => ?_)).upd hu2 (fun k hk e => ?_)
      · obtain ⟨b, e1, e2⟩ := slice_own hk
        obtain ⟨a', e3, e4⟩ := hG k e
        exact hne (H.Fd j i y _ b a' h1 (nthBk_some hi) e1 e3 (by omega))
      · obtain ⟨b, e1, e2⟩ := slice_own hk
        exact (H.Fe j y b h1 e1).2.2 _ rfl (by subst e; exact e2.symm)
  · obtain ⟨j, hj⟩ := List.mem_iff_getElem?.1 hy
    rcases set_get hi hj with ⟨rfl, rfl⟩ | ⟨hne, h1⟩
    · have := hrow z hz
      exact ⟨this.1.upd hu2 (this.2.2.mono (fun k hk => by subst hk; exact .inl hgF.1)), this.2⟩
    · have := H.rows y (List.mem_of_getElem? h1) z hz
      refine ⟨(this.1.upd hu (this.2.2.mono (fun k hk => (hold k hk).1))).upd hu2 (this.2.2.mono (fun k hk => by subst hk; exact hgF.1)), this.2.1, (this.2.2.or (this.1.lt vl_pos)).mono (fun k hk => ?_)⟩
      rcases hk with hk | ⟨a, ha, rfl⟩
      · exact .inl hk
      · rcases hP7 a ha with ⟨a', e1, e2⟩ | h2
        · exact .inl (e2 ▸ (H.Fe i _ a' (nthBk_some hi) e1).1)
        · exact .inr h2
  · rcases set_get hi hj with ⟨rfl, rfl⟩ | ⟨hne, h1⟩
    · exact ⟨.inr ⟨a, ha, rfl⟩, (hP7g a ha).2, fun a' ha' e => by
        injection ha' with ha'
        subst ha'
        exact (hP7g a ha).1 e.symm⟩
    · obtain ⟨f1, f2, f3⟩ := H.Fe j y a h1 ha
      exact ⟨.inl f1, f2, f3⟩
  · rcases set_get hi hj with ⟨rfl, rfl⟩ | ⟨hne, h1⟩
    · rcases set_get hi hk with ⟨rfl, rfl⟩ | ⟨hne2, h2⟩
      · rfl
      · exact absurd hab (hother k z b hne2 h2 hb a ha)
    · rcases set_get hi hk with ⟨rfl, rfl⟩ | ⟨hne2, h2⟩
      · exact absurd hab.symm (hother j y a hne h1 ha b hb)
      · exact H.Fd j k y z a b h1 h2 ha hb hab
  · rcases hk with hk | ⟨a, ha, rfl⟩
    · have := H.Flt k hk
      have := hu.size
      simp [World.setCell]; omega
    · have := (own_lt ho (own_of ha)).2
      simpa [World.setCell] using this
  · exact (hu.mono (fun k hk => (hold k hk).1)).setCell (p := ⟨g, i * 2, none⟩) (.inl hgF.1) (.slice P7 es.length c7)
/-- the list of buckets is cut -/
theorem CtO.cut {w : World} {F : Nat → Prop} {t h r g c : Nat} {raw : List BkR} (H : CtO w F t h r (some ⟨g, 0, none⟩) c raw) (k : Nat) (hk : k ≤ raw.length) :
    CtO (w.setCell ⟨t, 2, none⟩ (.slice (some ⟨g, 0, none⟩) k c)) F t h r (some ⟨g, 0, none⟩) c (raw.take k) ∧ UpdF F w (w.setCell ⟨t, 2, none⟩ (.slice (some ⟨g, 0, none⟩) k c)) := by
  have hlen : (raw.take k).length = k := by rw [List.length_take]; omega
  have hu := (UpdF.refl (fun j => j = t) w).setCell (p := ⟨t, 2, none⟩) (.inl rfl) (.slice (some ⟨g, 0, none⟩) k c)
  have hget : ∀ (j : Nat) (y : BkR), (raw.take k)[j]? = some y → raw[j]? = some y := fun j y hj => by
    rw [List.getElem?_take] at hj
    split at hj
    · exact hj
    · cases hj
  refine ⟨⟨?_, ?_, fun j y hj => ?_, fun y hy z hz => ?_, H.Ft, H.FP, fun j y a hj ha => H.Fe j y a (hget j y hj) ha, fun j k y z a b hj hk ha hb hab => H.Fd j k y z a b (hget j y hj) (hget k z hk) ha hb hab, fun k hk => by have := H.Flt k hk; simpa [World.setCell] using this⟩, (UpdF.refl F w).setCell (p := ⟨t, 2, none⟩) (.inl H.Ft) (.slice (some ⟨g, 0, none⟩) k c)⟩
  · rw [hlen]
    exact H.box.set 2 _
  · rw [hlen]
    exact (H.own.front elemBk.hk rfl k hk).upd hu (fun g' hg' e => by
      obtain ⟨a, e1, e2⟩ := slice_own hg'
      exact (H.FP a e1).2 (by omega))
  · exact (H.ents j y (hget j y hj)).upd hu (fun g' hg' e => by
      obtain ⟨a, e1, e2⟩ := slice_own hg'
      exact (H.Fe j y a (hget j y hj) e1).2.1 (by omega))
  · have := H.rows y (List.mem_of_mem_take hy) z hz
    exact ⟨this.1.upd hu (this.2.2.mono (fun j hj => by subst hj; exact H.Ft)), this.2⟩
end
section
open Go.RowKit
set_option linter.unusedVariables false
set_option maxRecDepth 20000
set_option linter.unusedSimpArgs false
set_option linter.unusedSectionVars false
set_option maxRecDepth 100000
attribute [local go_sem] Oper.semAt_some

/-- a table of the reference's that was made: its value, its buckets -/
def TabPost (FF : Nat → Prop) (h r : Nat) (T : List (Bkt Hd)) (w : World) (e : Ending) (w' : World) : Prop := ∃ v l', e = .returned (.agg #[.int .i64 h, .int .i64 r, v]) ∧ NewB w' w.heap.size v l' ∧ absT l' = T ∧ (∀ x ∈ l', OffH FF x.1.1 x.1.2.2) ∧ Ext w w'
end
section
open Go.RowKit
set_option linter.unusedVariables false
set_option maxRecDepth 20000
set_option linter.unusedSimpArgs false
set_option linter.unusedSectionVars false
set_option maxRecDepth 100000
attribute [local go_sem] Oper.semAt_some

def bk0 : BkR := ((none, 0, []), -1)
def repB (n : Nat) : List BkR := List.replicate n bk0
theorem repB_len (n : Nat) : (repB n).length = n := by simp [repB]
theorem repB_succ (n : Nat) : repB (n + 1) = repB n ++ [bk0] := by
  unfold repB
  exact List.replicate_succ'
theorem repB_abs (n : Nat) : absT (repB n) = emptyT n := by
  unfold absT repB emptyT
  rw [List.map_replicate]
  rfl
theorem repB_mem {n : Nat} {x : BkR} (h : x ∈ repB n) : x = bk0 := List.eq_of_mem_replicate h
theorem repB_new {w : World} {base n : Nat} {v : Value} (h : OwnG csBk 34 2 w base v (repB n)) : NewB w base v (repB n) :=
  ⟨h, fun x hx => by rw [repB_mem hx]; exact SlH.empty w, fun g _ x hx => by rw [repB_mem hx]; exact OffH.empty _⟩
end
section
open Go.RowKit
set_option linter.unusedVariables false
set_option maxRecDepth 20000
set_option linter.unusedSimpArgs false
set_option linter.unusedSectionVars false
set_option maxRecDepth 100000
attribute [local go_sem] Oper.semAt_some

theorem join2 (a b : List UInt8) (l : List (List UInt8)) (s : List UInt8) : Lib.join (a :: b :: l) s = a ++ s ++ Lib.join (b :: l) s := by
  simp [Lib.join, List.intercalate]
theorem join1 (a : List UInt8) (s : List UInt8) : Lib.join [a] s = a := by simp [Lib.join, List.intercalate]
theorem byteU_Nall (s : ByteArray) (i : Nat) : byteN s i = ((byteU s i).toNat : Int) := by
  by_cases h : i < s.size
  · exact byteU_N s i h
  · have e : byteU s i = 0 := by
      unfold byteU
      rw [List.getD_eq_getElem?_getD, List.getElem?_eq_none (by simpa using h)]
      rfl
    rw [e]
    unfold byteN
    rw [dif_neg h]
    rfl
def hstep (h : Int) (c : UInt8) : Int := IntKind.u64.wrap (bits .xor .u64 h (c.toNat : Int) * 1099511628211)
def hashN (s : ByteArray) : Nat → Int
  | 0 => 14695981039346656037
  | n + 1 => hstep (hashN s n) (byteU s n)
def hashF (s : ByteArray) : Int := hashN s s.size
theorem hash_any (s : ByteArray) (w : World) (hs : s.size ≤ 140737488355328) :
    Calls Tryd.prog 24 #[.string s] w fun e w' => e = .returned (.int .u64 (hashF s)) ∧ w = w' := by
  go_enter Tryd.func24, Tryd.ntmps24
  go_wp2
  go_loopw [7, 3, 4] (fun i v _ wr => ∃ k : Nat, k ≤ s.size ∧ i = .int .i64 k ∧ v = .int .u64 (hashN s k) ∧ w = wr) (fun i _ _ _ => s.size - (intOf i).toNat)
  case atStart => exact ⟨0, by omega, rfl, rfl, rfl⟩
  case round =>
    obtain ⟨k, hk, rfl, rfl, rfl⟩ := hrel
    by_cases hlt : k < s.size
    · have c1 : (k : Int) < s.size := by omega
      have d1 : IntKind.i64.wrap ((k : Int) + 1) = (k : Int) + 1 := IntWalk.i64_in _ ⟨by omega, by omega⟩
      have hi := fun W => str_index s k hlt W
      rw [byteU_Nall] at hi
      have HS := Lib.hid (show hashN s (k + 1) = hstep (hashN s k) (byteU s k) from rfl)
      unfold hstep at HS
      have hc := (byteU s k).toNat_lt
      have d2 : IntKind.u64.wrap ((byteU s k).toNat : Int) = ((byteU s k).toNat : Int) := by simp [IntKind.wrap, IntKind.bits, IntKind.signed]; omega
      generalize byteU s k = u at *
      generalize hashN s k = h at *
      go_wp2
      go_roundw
      case rel => exact ⟨k + 1, by omega, by go_num, by rw [HS.out], by first | trivial | rfl⟩
      case measure => simp [intOf]; omega
    · obtain rfl : k = s.size := by omega
      go_wp2
      go_ret
      exact ⟨rfl, rfl⟩
theorem rhash_any (s : ByteArray) (w : World) (hs : s.size ≤ 140737488355328) :
    Calls Tryd.prog 10 #[.string s] w fun e w' => e = .returned (.int .u64 (hashF s)) ∧ w = w' := by
  go_enter Tryd.func10, Tryd.ntmps10
  go_wp2
  go_loopw [4, 3] (fun i v wr => ∃ k : Nat, k ≤ s.size ∧ i = .int .i64 k ∧ v = .int .u64 (hashN s k) ∧ w = wr) (fun i _ _ => s.size - (intOf i).toNat)
  case atStart => exact ⟨0, by omega, rfl, rfl, rfl⟩
  case round =>
    obtain ⟨k, hk, rfl, rfl, rfl⟩ := hrel
    by_cases hlt : k < s.size
    · have c1 : (k : Int) < s.size := by omega
      have d1 : IntKind.i64.wrap ((k : Int) + 1) = (k : Int) + 1 := IntWalk.i64_in _ ⟨by omega, by omega⟩
      have hi := fun W => str_index s k hlt W
      rw [byteU_Nall] at hi
      have HS := Lib.hid (show hashN s (k + 1) = hstep (hashN s k) (byteU s k) from rfl)
      unfold hstep at HS
      have hc := (byteU s k).toNat_lt
      have d2 : IntKind.u64.wrap ((byteU s k).toNat : Int) = ((byteU s k).toNat : Int) := by simp [IntKind.wrap, IntKind.bits, IntKind.signed]; omega
      generalize byteU s k = u at *
      generalize hashN s k = h at *
      go_wp2
      go_roundw
      case rel => exact ⟨k + 1, by omega, by go_num, by rw [HS.out], by first | trivial | rfl⟩
      case measure => simp [intOf]; omega
    · obtain rfl : k = s.size := by omega
      go_wp2
      go_ret
      exact ⟨rfl, rfl⟩
end
end Go.Proofs.YtcbinafokhekmaaDoor
