/- LkT; LkU; RangeM (merged by group.py) -/
import Derived.Test.YtaciedooeeklpaaDoorQ08
import Derived.Test.YtaciedooeeklpaaDoorQ05
namespace Go.Proofs.YtaciedooeeklpaaDoor
section
open Go.RowKit
set_option linter.unusedVariables false
set_option linter.unusedSimpArgs false
set_option linter.unusedSectionVars false
set_option maxRecDepth 100000
attribute [local go_sem] Oper.semAt_some

abbrev Rq := Gr × Bool
def Rq.cells (x : Rq) : List Value := [.int .i64 x.1.1, .string x.1.2.1, .int .i64 x.1.2.2, .bool x.2]
def Rq.v (x : Rq) : Value := .agg #[.int .i64 x.1.1, .string x.1.2.1, .int .i64 x.1.2.2, .bool x.2]
abbrev SlR (w : World) (P : Option Addr) (c : Nat) (l : List Rq) : Prop := SlG Rq.cells w P c l
theorem elemR : ElemG Rq.cells 66 75 4 40 where
  ht := Tryd.underlying66
  info := by
    have h : (Tryd.prog.info? 75).map (fun i => (i.zero, i.size, i.bytes)) = some (some (.agg #[.int .i64 0, .string ⟨#[]⟩, .int .i64 0, .bool false]), 4, 40) := by kernel_rfl
    cases hq : Tryd.prog.info? 75 with
    | none => simp [hq] at h
    | some i => simp [hq] at h; exact ⟨i, _, rfl, h.1, h.2.1, h.2.2, rfl⟩
  k0 := by omega
  hk := fun _ => rfl
  one := fun x u hu => by
    simp [Rq.cells] at hu
    rcases hu with rfl | rfl | rfl | rfl <;> rfl
theorem SlR.at4 {w : World} {P : Option Addr} {c : Nat} {l : List Rq} (h : SlR w P c l) (i : Nat) (x : Rq) (hx : l[i]? = some x) : ∃ b off, P = some ⟨b, off, none⟩ ∧ w.cell? ⟨b, off + i * 4, none⟩ = some (.int .i64 x.1.1) ∧ w.cell? ⟨b, off + i * 4 + 1, none⟩ = some (.string x.1.2.1) ∧ w.cell? ⟨b, off + i * 4 + 2, none⟩ = some (.int .i64 x.1.2.2) ∧ w.cell? ⟨b, off + i * 4 + 3, none⟩ = some (.bool x.2) := by
  obtain ⟨b, off, e, hc⟩ := h.at_ i x hx
  refine ⟨b, off, e, ?_, ?_, ?_, ?_⟩
  · simpa [Rq.cells] using hc 0 _ rfl
  · simpa [Rq.cells] using hc 1 _ rfl
  · simpa [Rq.cells] using hc 2 _ rfl
  · simpa [Rq.cells] using hc 3 _ rfl
/-- where the first one is that f tells, or -1 -/
def idxR (f : Rq → Bool) (l : List Rq) : Int := if l.findIdx f < l.length then (l.findIdx f : Int) else -1
theorem idxR_at {f : Rq → Bool} {l : List Rq} {k : Nat} {x : Rq} (hx : l[k]? = some x) (hall : ∀ (j : Nat) (y : Rq), j < k → l[j]? = some y → f y = false) (h : f x = true) : idxR f l = k := by
  have hk : k < l.length := (List.getElem?_eq_some_iff.1 hx).1
  have e : l.findIdx f = k := by
    rw [List.findIdx_eq hk]
    refine ⟨by rw [(List.getElem?_eq_some_iff.1 hx).2]; exact h, fun j hj => ?_⟩
    exact hall j _ hj (List.getElem?_eq_getElem (by omega))
  unfold idxR
  rw [e, if_pos hk]
theorem idxR_no {f : Rq → Bool} {l : List Rq} (hall : ∀ (j : Nat) (y : Rq), l[j]? = some y → f y = false) : idxR f l = -1 := by
  have e : l.findIdx f = l.length := by
    rw [List.findIdx_eq_length]
    intro x hx
    obtain ⟨j, hj, rfl⟩ := List.mem_iff_getElem.1 hx
    exact hall j _ (List.getElem?_eq_getElem hj)
  unfold idxR
  rw [e, if_neg (by omega)]
theorem askf_any (x : Rq) (w : World) : Calls Tryd.prog 38 #[x.v] w fun e w' => e = .returned (.bool (!x.2)) ∧ Ext w w' := by
  unfold Rq.v
  go_enter Tryd.func38, Tryd.ntmps38
  go_wp2
  go_ret
  exact ⟨rfl, (Ext.refl w).alloc _⟩
theorem waitf_any (x : Rq) (u : Int) (c : Nat) (w : World) (hc : w.cell? ⟨c, 0, none⟩ = some (.int .i64 u)) : Calls Tryd.prog 69 #[x.v, .pointer (some ⟨c, 0, none⟩)] w fun e w' => e = .returned (.bool (decide (x.1.1 = u))) ∧ Ext w w' := by
  have hlt := block_lt hc
  simp only at hlt
  obtain ⟨⟨a, n, m⟩, z⟩ := x
  show Calls _ _ #[.agg #[.int .i64 a, .string n, .int .i64 m, .bool z], .pointer (some ⟨c, 0, none⟩)] _ _
  have HB := Lib.hid (show decide (a = u) = (a == u) from by
    by_cases h : a = u
    · subst h; simp
    · rw [decide_eq_false h]
      symm
      rw [beq_eq_false_iff_ne]
      exact h)
  simp only
  rw [HB.out]
  go_enter Tryd.func69, Tryd.ntmps69
  go_wp2
  go_ret
  exact ⟨rfl, (Ext.refl w).alloc _⟩
set_option maxHeartbeats 4000000 in
theorem idxask_any (P : Option Addr) (cap : Nat) (l : List Rq) (w : World) (h : SlR w P cap l) :
    Calls Tryd.prog 37 #[.slice P l.length cap, .func (.func 38) #[] #[]] w fun e w' => e = .returned (.int .i64 (idxR (fun y : Rq => !y.2) l)) ∧ Ext w w' := by
  have hlen := h.len
  go_enter Tryd.func37, Tryd.ntmps37
  go_wp2
  go_loopw [8, 5] (fun i _ wr => ∃ k : Nat, k ≤ l.length ∧ i = .int .i64 k ∧ Hid (∀ (j : Nat) (y : Rq), j < k → l[j]? = some y → (fun y : Rq => !y.2) y = false) ∧ Ext w wr) (fun i _ _ => l.length - (intOf i).toNat)
  case atStart => exact ⟨0, by omega, rfl, Lib.hid (by intro j y hj; omega), Ext.refl w⟩
  case round =>
    obtain ⟨k, hk, rfl, hall, hx⟩ := hrel
    by_cases hlt : k < l.length
    · obtain ⟨x, hs⟩ : ∃ x, l[k]? = some x := ⟨_, List.getElem?_eq_getElem hlt⟩
      obtain ⟨b, off, hP, g0, g1, g2, g3⟩ := h.at4 k x hs
      subst hP
      replace g0 := hx.cell g0
      replace g1 := hx.cell g1
      replace g2 := hx.cell g2
      replace g3 := hx.cell g3
      have c1 : (k : Int) < l.length := by omega
      have d1 : IntKind.i64.wrap ((k : Int) + 1) = (k : Int) + 1 := IntWalk.i64_in _ ⟨by omega, by omega⟩
      have hV := askf_any x wr
      unfold Rq.v at hV
      cases he : (fun y : Rq => !y.2) x with
      | true =>
        have Hn := Lib.hid (idxR_at (f := (fun y : Rq => !y.2)) hs hall.out he)
        simp only at he
        rw [he] at hV
        clear hall hs he
        go_wp2_with (go_at_call 38; refine hV.mono ?_; rintro e w1 ⟨rfl, hx1⟩)
        go_ret
        exact ⟨by rw [Hn.out]; rfl, hx.trans hx1⟩
      | false =>
        have Hy := Lib.hid (show ∀ (j : Nat) (y : Rq), j < k + 1 → l[j]? = some y → (fun y : Rq => !y.2) y = false from fun j y hj hy => by
          by_cases hjk : j = k
          · subst hjk; rw [hs] at hy; injection hy with hy; subst hy; exact he
          · exact hall.out j y (by omega) hy)
        simp only at he
        rw [he] at hV
        clear hall hs he
        go_wp2_with (go_at_call 38; refine hV.mono ?_; rintro e w1 ⟨rfl, hx1⟩)
        go_roundw
        case rel => exact ⟨k + 1, by omega, by go_num, Hy, hx.trans hx1⟩
        case measure => simp [intOf]; omega
    · obtain rfl : k = l.length := by omega
      have Hn := Lib.hid (idxR_no (f := (fun y : Rq => !y.2)) (l := l) (fun j y hy => hall.out j y (List.getElem?_eq_some_iff.1 hy).1 hy))
      clear hall
      go_wp2
      go_ret
      exact ⟨by rw [Hn.out]; rfl, hx⟩
set_option maxHeartbeats 4000000 in
theorem idxwait_any (P : Option Addr) (cap : Nat) (l : List Rq) (u : Int) (c : Nat) (w : World) (hc : w.cell? ⟨c, 0, none⟩ = some (.int .i64 u)) (h : SlR w P cap l) :
    Calls Tryd.prog 37 #[.slice P l.length cap, .func (.func 69) #[] #[.pointer (some ⟨c, 0, none⟩)]] w fun e w' => e = .returned (.int .i64 (idxR (fun y : Rq => decide (y.1.1 = u)) l)) ∧ Ext w w' := by
  have hlen := h.len
  go_enter Tryd.func37, Tryd.ntmps37
  go_wp2
  go_loopw [8, 5] (fun i _ wr => ∃ k : Nat, k ≤ l.length ∧ i = .int .i64 k ∧ Hid (∀ (j : Nat) (y : Rq), j < k → l[j]? = some y → (fun y : Rq => decide (y.1.1 = u)) y = false) ∧ Ext w wr) (fun i _ _ => l.length - (intOf i).toNat)
  case atStart => exact ⟨0, by omega, rfl, Lib.hid (by intro j y hj; omega), Ext.refl w⟩
  case round =>
    obtain ⟨k, hk, rfl, hall, hx⟩ := hrel
    by_cases hlt : k < l.length
    · obtain ⟨x, hs⟩ : ∃ x, l[k]? = some x := ⟨_, List.getElem?_eq_getElem hlt⟩
      obtain ⟨b, off, hP, g0, g1, g2, g3⟩ := h.at4 k x hs
      subst hP
      replace g0 := hx.cell g0
      replace g1 := hx.cell g1
      replace g2 := hx.cell g2
      replace g3 := hx.cell g3
      have c1 : (k : Int) < l.length := by omega
      have d1 : IntKind.i64.wrap ((k : Int) + 1) = (k : Int) + 1 := IntWalk.i64_in _ ⟨by omega, by omega⟩
      have hV := waitf_any x u c wr (hx.cell hc)
      unfold Rq.v at hV
      cases he : (fun y : Rq => decide (y.1.1 = u)) x with
      | true =>
        have Hn := Lib.hid (idxR_at (f := (fun y : Rq => decide (y.1.1 = u))) hs hall.out he)
        simp only at he
        rw [he] at hV
        clear hall hs he
        go_wp2_with (go_at_call 69; refine hV.mono ?_; rintro e w1 ⟨rfl, hx1⟩)
        go_ret
        exact ⟨by rw [Hn.out]; rfl, hx.trans hx1⟩
      | false =>
        have Hy := Lib.hid (show ∀ (j : Nat) (y : Rq), j < k + 1 → l[j]? = some y → (fun y : Rq => decide (y.1.1 = u)) y = false from fun j y hj hy => by
          by_cases hjk : j = k
          · subst hjk; rw [hs] at hy; injection hy with hy; subst hy; exact he
          · exact hall.out j y (by omega) hy)
        simp only at he
        rw [he] at hV
        clear hall hs he
        go_wp2_with (go_at_call 69; refine hV.mono ?_; rintro e w1 ⟨rfl, hx1⟩)
        go_roundw
        case rel => exact ⟨k + 1, by omega, by go_num, Hy, hx.trans hx1⟩
        case measure => simp [intOf]; omega
    · obtain rfl : k = l.length := by omega
      have Hn := Lib.hid (idxR_no (f := (fun y : Rq => decide (y.1.1 = u))) (l := l) (fun j y hy => hall.out j y (List.getElem?_eq_some_iff.1 hy).1 hy))
      clear hall
      go_wp2
      go_ret
      exact ⟨by rw [Hn.out]; rfl, hx⟩
end
section
open Go.RowKit Go.Maps
set_option linter.unusedVariables false
set_option linter.unusedSimpArgs false
set_option linter.unusedSectionVars false
set_option maxRecDepth 100000
attribute [local go_sem] Oper.semAt_some

/-- block B holds the values C, all of them free to be written -/
def BoxN (W : World) (B : Nat) (t : TypeId) (C : Array Value) : Prop := W.heap[B]? = some (.cells C t (0, 0))
theorem BoxN.lt {W : World} {B : Nat} {t : TypeId} {C : Array Value} (h : BoxN W B t C) : B < W.heap.size := (Array.getElem?_eq_some_iff.1 h).1
theorem BoxN.cell {W : World} {B : Nat} {t : TypeId} {C : Array Value} (h : BoxN W B t C) {i : Nat} {v : Value} (hv : C[i]? = some v) : W.cell? ⟨B, i, none⟩ = some v := by
  unfold World.cell?
  simp only [show W.heap[B]? = _ from h]
  exact hv
theorem BoxN.frozen {W : World} {B : Nat} {t : TypeId} {C : Array Value} (h : BoxN W B t C) (i : Nat) : W.frozen? ⟨B, i, none⟩ = false := by
  unfold World.frozen?
  simp only [show W.heap[B]? = _ from h]
  simp
theorem BoxN.new (W : World) (t : TypeId) (C : Array Value) : BoxN (W.alloc (.cells C t)) W.heap.size t C := World.alloc_heap_new W _
theorem BoxN.ext {W W' : World} {B : Nat} {t : TypeId} {C : Array Value} (h : BoxN W B t C) (hx : Ext W W') : BoxN W' B t C := hx.heap h
theorem BoxN.set {W : World} {B : Nat} {t : TypeId} {C : Array Value} (h : BoxN W B t C) (i : Nat) (v : Value) : BoxN (W.setCell ⟨B, i, none⟩ v) B t (C.setIfInBounds i v) := by
  obtain ⟨hlt, hk⟩ := Array.getElem?_eq_some_iff.1 h
  show (W.heap.modify B _)[B]? = _
  rw [Array.getElem?_eq_getElem (by rw [Array.size_modify]; exact hlt), Array.getElem_modify_self, hk]
  rfl
/-- only blocks of F have changed (and new blocks may be there) -/
structure UpdF (F : Nat → Prop) (w w' : World) : Prop where
  os : w'.os = w.os
  tape : w'.tape = w.tape
  output : w'.output = w.output
  size : w.heap.size ≤ w'.heap.size
  block : ∀ k, k < w.heap.size → ¬ F k → w'.heap[k]? = w.heap[k]?
theorem UpdF.refl (F : Nat → Prop) (w : World) : UpdF F w w := ⟨rfl, rfl, rfl, Nat.le_refl _, fun _ _ _ => rfl⟩
theorem UpdF.trans {F : Nat → Prop} {a b c : World} (h : UpdF F a b) (k : UpdF F b c) : UpdF F a c :=
  ⟨k.os.trans h.os, k.tape.trans h.tape, k.output.trans h.output, Nat.le_trans h.size k.size, fun i hi hf => (k.block i (Nat.lt_of_lt_of_le hi h.size) hf).trans (h.block i hi hf)⟩
/-- what changed behind may be new -/
theorem UpdF.trans_new {F G : Nat → Prop} {a b c : World} (h : UpdF F a b) (k : UpdF G b c) (hg : ∀ i, G i → F i ∨ a.heap.size ≤ i) : UpdF F a c :=
  ⟨k.os.trans h.os, k.tape.trans h.tape, k.output.trans h.output, Nat.le_trans h.size k.size, fun i hi hf => (k.block i (Nat.lt_of_lt_of_le hi h.size) (fun e => by
    rcases hg i e with h1 | h1
    · exact hf h1
    · omega)).trans (h.block i hi hf)⟩
theorem UpdF.mono {F G : Nat → Prop} {a b : World} (h : UpdF F a b) (hg : ∀ i, F i → G i) : UpdF G a b := ⟨h.os, h.tape, h.output, h.size, fun i hi hf => h.block i hi (fun e => hf (hg i e))⟩
theorem UpdF.of_ext {a b : World} (h : Ext a b) (F : Nat → Prop) : UpdF F a b := ⟨h.os, h.tape, h.output, h.size, fun i hi _ => h.block hi⟩
theorem UpdF.ext {F : Nat → Prop} {a b c : World} (h : Ext a b) (k : UpdF F b c) (hf : ∀ i, F i → a.heap.size ≤ i) : Ext a c := by
  have := UpdF.trans_new (UpdF.of_ext h (fun _ => False)) k (fun i hi => .inr (hf i hi))
  exact ⟨this.os, this.tape, this.output, this.size, fun i hi => this.block i hi (fun e => e)⟩
theorem UpdF.of_grown {a b : World} {row : Option Nat} (h : a.grownBy b row) : UpdF (fun i => row = some i) a b := ⟨h.os, h.tape, h.output, h.size, fun i hi hf => h.block i hi (fun e => hf e.symm)⟩
theorem UpdF.setCell {F : Nat → Prop} {a b : World} (h : UpdF F a b) {p : Addr} (hp : F p.block ∨ a.heap.size ≤ p.block) (v : Value) : UpdF F a (b.setCell p v) :=
  ⟨h.os, h.tape, h.output, by have := h.size; simp [World.setCell]; exact this, fun i hi hf => (Below.heap_setCell b p v i (fun e => by
    subst e
    rcases hp with h1 | h1
    · exact hf h1
    · omega)).trans (h.block i hi hf)⟩
theorem UpdF.alloc {F : Nat → Prop} {a b : World} (h : UpdF F a b) (o : Obj) : UpdF F a (b.alloc o) := h.trans (UpdF.of_ext ((Ext.refl b).alloc o) F)
theorem UpdF.drew {F : Nat → Prop} {a b : World} (h : UpdF F a b) : UpdF F a b.drew := h.trans (UpdF.of_ext (Ext.refl b).drew F)
theorem UpdF.drewN {F : Nat → Prop} {a b : World} (h : UpdF F a b) (n : Nat) : UpdF F a (b.drewN n) := h.trans (UpdF.of_ext ((Ext.refl b).drewN n) F)
theorem UpdF.heap {F : Nat → Prop} {a b : World} (h : UpdF F a b) {k : Nat} {o : Obj} (hk : a.heap[k]? = some o) (hf : ¬ F k) : b.heap[k]? = some o := by
  rw [h.block k (Array.getElem?_eq_some_iff.1 hk).1 hf]; exact hk
theorem UpdF.cell {F : Nat → Prop} {a b : World} (h : UpdF F a b) {p : Addr} {v : Value} (hc : a.cell? p = some v) (hf : ¬ F p.block) : b.cell? p = some v := by
  rw [World.cell?_of_block (h.block p.block (block_lt hc) hf)]; exact hc
theorem BoxN.upd {F : Nat → Prop} {a b : World} {B : Nat} {t : TypeId} {C : Array Value} (h : BoxN a B t C) (k : UpdF F a b) (hf : ¬ F B) : BoxN b B t C := k.heap h hf
theorem OwnG.upd {α : Type} {cs : α → List Value} {e : TypeId} {k : Nat} {F : Nat → Prop} {a b : World} {base : Nat} {v : Value} {l : List α} (h : OwnG cs e k a base v l) (hu : UpdF F a b) (hf : ∀ g, v.ownBlock = some g → ¬ F g) : OwnG cs e k b base v l := by
  refine ⟨h.1, ?_⟩
  rcases h.2 with h0 | ⟨g, cap, cur, hv, hb, hg, rest⟩
  · exact .inl h0
  · exact .inr ⟨g, cap, cur, hv, hb, hu.heap hg (hf g (by rw [hv]; rfl)), rest⟩
theorem UpdF.of_upd {w w' : World} {g : Nat} (h : Upd w g w') : UpdF (fun i => i = g) w w' := (UpdF.of_grown h).mono (fun i hi => by injection hi with hi; exact hi.symm)
theorem Boxed.upd {F : Nat → Prop} {w w' : World} {b : Nat} {T : TypeId} {v : Value} (h : Boxed w b T v) (hu : UpdF F w w') (hf : ¬ F b) : Boxed w' b T v := hu.heap h hf
theorem MapA.updF {β : Type} {dv : β → DataW Unit} {e : TypeId} {w w' : World} {b : Nat} {l : List (Plc × β)} {F : Nat → Prop} (h : MapA dv e w b l) (hu : UpdF F w w') (hf : ¬ F b) : MapA dv e w' b l := h.same (hu.block b h.lt hf)

def dvI (x : Int) : DataW Unit := .lit (.int .i64 x)
def dvB (x : Bool) : DataW Unit := .lit (.bool x)
def heldA (H : HeldL) : List (Plc × Int) := H.map fun e => ((e.1.1, e.1.2.1), e.1.2.2)
def notedA (H : HeldL) : List (Plc × Bool) := (H.filter fun e => e.2).map fun e => ((e.1.1, e.1.2.1), true)
/-- the locks at block b + 2, their maps at b and b + 1, their line behind; F: what they may change -/
structure LockS (w : World) (F : Nat → Prop) (b : Nat) (v : Value) (S : LkSt) : Prop where
  box : BoxN w (b + 2) 68 #[.map (some b), .map (some (b + 1)), v]
  held : MapA dvI 3 w b (heldA S.H)
  noted : MapA dvB 4 w (b + 1) (notedA S.H)
  line : OwnG Rq.cells 75 4 w (b + 3) v S.L
  f0 : F b
  f1 : F (b + 1)
  f2 : F (b + 2)
  fl : ∀ g, v.ownBlock = some g → F g
  low : ∀ k, F k → b ≤ k
theorem LockS.ext {w w' : World} {F : Nat → Prop} {b : Nat} {v : Value} {S : LkSt} (h : LockS w F b v S) (hx : Ext w w') : LockS w' F b v S :=
  ⟨h.box.ext hx, h.held.ext hx, h.noted.ext hx, h.line.ext hx, h.f0, h.f1, h.f2, h.fl, h.low⟩
theorem LockS.upd {w w' : World} {F G : Nat → Prop} {b : Nat} {v : Value} {S : LkSt} (h : LockS w F b v S) (hu : UpdF G w w') (hd : ∀ k, F k → ¬ G k) : LockS w' F b v S :=
  ⟨h.box.upd hu (hd _ h.f2), h.held.updF hu (hd _ h.f0), h.noted.updF hu (hd _ h.f1), h.line.upd hu (fun g hg => hd _ (h.fl g hg)), h.f0, h.f1, h.f2, h.fl, h.low⟩
theorem lnew_any (w : World) : Calls Tryd.prog 15 #[] w fun e w' => e = .returned (.pointer (some ⟨w.heap.size + 2, 0, none⟩)) ∧ LockS w' (fun k => w.heap.size ≤ k ∧ k < w.heap.size + 3) w.heap.size (.slice none 0 0) ⟨[], []⟩ ∧ Ext w w' := by
  have hmm := @run_makeMap Tryd.prog
  go_enter Tryd.func15, Tryd.ntmps15
  go_wp2

  go_ret
  refine ⟨rfl, ⟨?_, ?_, ?_, OwnG.nil _ _ _ _ _, by omega, by omega, by omega, fun g hg => (by cases hg), fun k hk => hk.1⟩, (((Ext.refl w).alloc _).alloc _).alloc _⟩
  · have := BoxN.new ((w.alloc (.map #[] 0)).alloc (.map #[] 0)) 68 #[.map (some w.heap.size), .map (some (w.heap.size + 1)), .slice none 0 0]
    rw [World.size_alloc, World.size_alloc] at this
    exact this
  · exact ((MapA.made w).ext (((Ext.refl _).alloc _).alloc _))
  · have := (MapA.made (dv := dvB) (e := 4) (w.alloc (.map #[] 0))).ext ((Ext.refl _).alloc (.cells #[.map (some w.heap.size), .map (some (w.heap.size + 1)), .slice none 0 0] 68))
    rw [World.size_alloc] at this
    exact this
theorem lwaits_any (u : Int) (w : World) {F : Nat → Prop} {b : Nat} {v : Value} {S : LkSt} (h : LockS w F b v S) (hL : S.L.length ≤ 1000000) :
    Calls Tryd.prog 52 #[.pointer (some ⟨b + 2, 0, none⟩), .int .i64 u] w fun e w' => e = .returned (.int .i64 (idxR (fun y : Rq => decide (y.1.1 = u)) S.L)) ∧ Ext w w' := by
  obtain ⟨P, cap, rfl, hsl⟩ := OwnG.slG elemR h.line (by omega)
  have hmf : ∀ (fn : Fn) (first cap : Array Value) (w : World), (Instr.makeFunc fn first cap).run Tryd.prog w = .ok (.func fn first cap) w := fun _ _ _ _ => rfl
  have hI := idxwait_any P cap S.L u w.heap.size (w.alloc (.cells #[.int .i64 u] 3)) (Boxed.new w 3 (.int .i64 u)).cell (hsl.ext ((Ext.refl w).alloc _))
  have hlt := h.box.lt
  have k2 := (h.box.ext ((Ext.refl w).alloc (.cells #[.int .i64 u] 3))).cell (i := 2) rfl
  have k2' := h.box.cell (i := 2) rfl
  generalize idxR (fun y : Rq => decide (y.1.1 = u)) S.L = z at *
  clear hsl h
  go_enter Tryd.func52, Tryd.ntmps52
  go_wp2_with (go_at_call 37; refine hI.mono ?_; rintro e w1 ⟨rfl, hx1⟩)
  go_ret
  exact ⟨rfl, ((Ext.refl w).alloc _).trans hx1⟩
theorem lbusy_any (u : Int) (w : World) {F : Nat → Prop} {b : Nat} {v : Value} {S : LkSt} (h : LockS w F b v S) (hL : S.L.length ≤ 1000000) :
    Calls Tryd.prog 36 #[.pointer (some ⟨b + 2, 0, none⟩), .int .i64 u] w fun e w' => e = .returned (.int .i64 (if waitsB S.L u = true then 9 else 0)) ∧ Ext w w' := by
  have hW := lwaits_any u w h hL
  have hz : (0 ≤ idxR (fun y : Rq => decide (y.1.1 = u)) S.L) ↔ waitsB S.L u = true := by
    have e : S.L.findIdx (fun y : Rq => decide (y.1.1 = u)) = waitsL S.L u := rfl
    unfold waitsB idxR
    rw [decide_eq_true_eq, e]
    split <;> omega
  by_cases hb : waitsB S.L u = true
  · have hz1 := hz.2 hb
    rw [if_pos hb]
    clear hz hb h
    generalize idxR (fun y : Rq => decide (y.1.1 = u)) S.L = z at *
    have hd : decide (0 ≤ z) = true := decide_eq_true hz1
    go_enter Tryd.func36, Tryd.ntmps36
    go_wp2_with (go_at_call 52; refine hW.mono ?_; rintro e w1 ⟨rfl, hx1⟩)
    go_ret
    exact ⟨rfl, hx1⟩
  · have hz1 : ¬ (0 ≤ idxR (fun y : Rq => decide (y.1.1 = u)) S.L) := fun e => hb (hz.1 e)
    rw [if_neg hb]
    clear hz hb h
    generalize idxR (fun y : Rq => decide (y.1.1 = u)) S.L = z at *
    have hd : decide (0 ≤ z) = false := decide_eq_false hz1
    go_enter Tryd.func36, Tryd.ntmps36
    go_wp2_with (go_at_call 52; refine hW.mono ?_; rintro e w1 ⟨rfl, hx1⟩)
    go_ret
    exact ⟨rfl, hx1⟩
def askedE (u : Int) (n : ByteArray) : Int := if nameN n = false then 1 else if unitN u = false then 7 else 0
theorem lasked_any (B : Nat) (u : Int) (n : ByteArray) (w : World) (hn : n.size ≤ 1000000) :
    Calls Tryd.prog 35 #[.pointer (some ⟨B, 0, none⟩), .int .i64 u, .string n] w fun e w' => e = .returned (.int .i64 (askedE u n)) ∧ Ext w w' := by
  have hN := fun W => lname_any n W hn
  cases h : nameN n with
  | false =>
    have HE := Lib.hid (show askedE u n = 1 from by unfold askedE; rw [if_pos h])
    rw [h] at hN
    clear h
    go_enter Tryd.func35, Tryd.ntmps35
    go_wp2_with (go_at_call 8; refine (hN _).mono ?_; rintro e w1 ⟨rfl, hx1⟩)
    go_ret
    exact ⟨by rw [HE.out]; rfl, hx1⟩
  | true =>
    by_cases h1 : u < 1
    · have HE := Lib.hid (show askedE u n = 7 from by unfold askedE unitN; rw [if_neg (by rw [h]; simp), if_pos (by rw [decide_eq_false_iff_not]; omega)])
      rw [h] at hN
      clear h
      go_enter Tryd.func35, Tryd.ntmps35
      go_wp2_with (go_at_call 8; refine (hN _).mono ?_; rintro e w1 ⟨rfl, hx1⟩)
      go_ret
      exact ⟨by rw [HE.out]; rfl, hx1⟩
    · by_cases h2 : 1000 < u
      · have HE := Lib.hid (show askedE u n = 7 from by unfold askedE unitN; rw [if_neg (by rw [h]; simp), if_pos (by rw [decide_eq_false_iff_not]; omega)])
        rw [h] at hN
        clear h
        go_enter Tryd.func35, Tryd.ntmps35
        go_wp2_with (go_at_call 8; refine (hN _).mono ?_; rintro e w1 ⟨rfl, hx1⟩)
        go_ret
        exact ⟨by rw [HE.out]; rfl, hx1⟩
      · have HE := Lib.hid (show askedE u n = 0 from by unfold askedE unitN; rw [if_neg (by rw [h]; simp), if_neg (by rw [decide_eq_false_iff_not]; omega)])
        rw [h] at hN
        clear h
        go_enter Tryd.func35, Tryd.ntmps35
        go_wp2_with (go_at_call 8; refine (hN _).mono ?_; rintro e w1 ⟨rfl, hx1⟩)
        go_ret
        exact ⟨by rw [HE.out]; rfl, hx1⟩
end
section
open Go.RowKit
set_option linter.unusedVariables false
set_option linter.unusedSectionVars false
/-- Of an iterator that goes from s to s' by yielding e where 'R s e s'', begins at s0 and ends where 'fin' holds. -/
def SeqM {σ : Type} (P : Program) (g : Nat) (lb : Array Value) (R : σ → Array Value → σ → Prop) (s0 : σ) (fin : σ → Prop) (K : World → Prop) : Prop :=
  ∀ (l : Nat) (J : σ → World → Prop) (Jx : World → Prop) (Jp : List PanicEntry → World → Prop) (W : World),
    (∀ s A B, J s A → Ext A B → J s B) → (∀ s A B, J s A → W.heap.size < A.heap.size → Upd A W.heap.size B → J s B) → (∀ A B, Jx A → Ext A B → Jx B) → (∀ s A, J s A → K A) →
    (∀ s enc s' A o, J s A → R s enc s' → A.heap[W.heap.size]? = some o → YieldAt Fence.wide 0 P l enc A fun e W' =>
      (e = .returned (.bool true) ∧ J s' W' ∧ W'.heap[W.heap.size]? = some o) ∨ (e = .returned (.bool false) ∧ Jx W') ∨ ∃ ch, e = .panicked ch ∧ Jp ch W') →
    J s0 W →
    CallsIn Fence.wide 0 P g (#[.func (.yield l) #[] #[]] ++ lb) W fun e W' =>
      ((∃ v, e = .returned v) ∧ ((∃ s, fin s ∧ J s W') ∨ Jx W')) ∨ ∃ ch, e = .panicked ch ∧ Jp ch W'
/-- how a round ends -/
def postM (B : Nat) (I : World → Prop) (Ix : Code → World → Prop) (Ip : List PanicEntry → World → Prop) (W : World) : Exit → Act → World → Prop
  | .normal, _, W' => W'.heap[B]? = W.heap[B]? ∧ W'.heap[B + 1]? = W.heap[B + 1]? ∧ W'.heap[B + 2]? = W.heap[B + 2]? ∧ I W'
  | .ret, _, W' => W'.heap[B]? = W.heap[B]? ∧ W'.heap[B + 1]? = W.heap[B + 1]? ∧ Ix .ret W'
  | .exit id, _, W' => W'.heap[B]? = W.heap[B]? ∧ W'.heap[B + 1]? = W.heap[B + 1]? ∧ Ix (.exit id) W'
  | .goto t, _, W' => W'.heap[B]? = W.heap[B]? ∧ W'.heap[B + 1]? = W.heap[B + 1]? ∧ Ix (.goto t) W'
  | .panic ch, a, W' => W'.heap[B]? = W.heap[B]? ∧ a.defers = [] ∧ Ip ch W'
  | .outgrown, _, _ => False
section
variable {P : Program} {Q : Exit → Act → World → Prop} {a : Act} {w : World} {f : FuncId} {σ : Type}

/-- The statement: a range over a function that has its contract. -/
theorem wpAt_rangeFuncM {g : Operand} {ps : Array Tmp} {assign body : Code} {fn : Func} (hf : P.funcs[f]? = some fn) {gf : Nat} {lb : Array Value}
    (hg : a.eval g = .func (.func gf) #[] lb) (eg : ∀ args w, (callFunc gf args).run P w = .ok (.enter gf args) w)
    {R : σ → Array Value → σ → Prop} {s0 : σ} {done : σ → Prop} {K : World → Prop} (hseq : SeqM P gf lb R s0 done K) (hps : ∀ s e s', R s e s' → e.size = ps.size)
    (I : σ → World → Prop) (Ix : Code → World → Prop) (Ip : List PanicEntry → World → Prop)
    (hIe : ∀ i A B, I i A → Ext A B → I i B) (hIr : ∀ i A B, I i A → w.heap.size + 2 < A.heap.size → Upd A (w.heap.size + 2) B → I i B) (hIxe : ∀ c A B, Ix c A → Ext A B → Ix c B)
    (hIu : ∀ i A r r', I i A → A.heap[w.heap.size + 1]? = some (.loop r) → I i (A.putObj (w.heap.size + 1) (.loop r'))) (hIxu : ∀ c A r r', Ix c A → A.heap[w.heap.size + 1]? = some (.loop r) → Ix c (A.putObj (w.heap.size + 1) (.loop r')))
    (hKA : ∀ i A, I i A → K A) (h0 : I s0 w)
    (hround : ∀ s e s' W r, I s W → w.heap.size + 2 < W.heap.size → W.heap[w.heap.size]? = some (.deferred (some [])) → W.heap[w.heap.size + 1]? = some (.loop r) → R s e s' →
      assign.wpIn (Fence.wide.inRound (w.heap.size + 1)) 0 P (Exit.then (fun a' W' => W'.heap[w.heap.size]? = W.heap[w.heap.size]? ∧ W'.heap[w.heap.size + 1]? = W.heap[w.heap.size + 1]? ∧ W'.heap[w.heap.size + 2]? = W.heap[w.heap.size + 2]? ∧
        ∀ W'' r', W'' = W'.putObj (w.heap.size + 1) (.loop r') → body.wpIn (Fence.wide.inRound (w.heap.size + 1)) 0 P (postM w.heap.size (I s') Ix Ip W'') a' W'') (fun _ _ _ => False))
        { tmps := (ps.zip e).foldl (fun t (p, v) => t.setIfInBounds p v) a.tmps, defers := [] } W)
    (hdone : ∀ s W, done s → I s W → W.heap[w.heap.size]? = some (.deferred (some [])) → Q .normal { a with defers := { target := .collected w.heap.size, args := #[] } :: a.defers } W)
    (hstop : ∀ c W, Ix c W → W.heap[w.heap.size]? = some (.deferred (some [])) → c.wp P Q { a with defers := { target := .collected w.heap.size, args := #[] } :: a.defers } W)
    (hpanic : ∀ ch W, Ip ch W → W.heap[w.heap.size]? = some (.deferred (some [])) → Q (.panic ch) { a with defers := { target := .collected w.heap.size, args := #[] } :: a.defers } W) :
    wpAt f P (Code.rangeFunc g ps assign body) Q a w := by
  intro b k cs hro hb
  obtain ⟨rec, hrec⟩ : ∃ rec : LoopState → Option Code → Loop, rec = fun st pe => { state := st, pending := pe, fn := b.fn, tmps := a.tmps, params := ps, assign, body, defers := w.heap.size } := ⟨_, rfl⟩
  obtain ⟨W1, hW1⟩ : ∃ W1, (w.alloc (.deferred (some []))).alloc (.loop (rec .ready none)) = W1 := ⟨_, rfl⟩
  have hL1 : W1.heap[w.heap.size + 1]? = some (.loop (rec .ready none)) := by
    rw [← hW1]; have := World.alloc_heap_new (w.alloc (.deferred (some []))) (.loop (rec .ready none)); rwa [World.size_alloc] at this
  have hK1 : W1.heap[w.heap.size]? = some (.deferred (some [])) := by
    rw [← hW1]; exact (Below.heap_alloc _ _ _ (by simp)).trans (World.alloc_heap_new w _)
  have hE1 : Ext w W1 := by rw [← hW1]; exact ((Ext.refl w).alloc _).alloc _
  have hI1 : I s0 W1 := hIe _ _ _ h0 hE1
  have hz1 : W1.heap.size = w.heap.size + 2 := by rw [← hW1]; simp only [World.size_alloc]
  have he : (Instr.enterLoop b.fn a.tmps ps assign body b.roundOf).run P w = .ok (w.heap.size + 1, [{ target := .collected w.heap.size, args := #[] }]) W1 := by
    rw [hro, ← hW1, hrec]; exact run_enterLoop_outer _ _ _ _ _
  have hres : (resolve a.eval (rangeCall g (w.heap.size + 1)) 0).run P W1 = .ok { target := .fn (.func gf) lb, args := #[.func (.yield (w.heap.size + 1)) #[] #[]] } W1 := by
    simp only [resolve, hg]
    simp [go_sem]
  have hinv : (invoke (Target.fn (.func gf) lb) #[.func (.yield (w.heap.size + 1)) #[] #[]]).run P W1 = .ok (.enter gf (#[.func (.yield (w.heap.size + 1)) #[] #[]] ++ lb)) W1 := by
    simp [invoke, go_sem, eg]
  have h0' : (lone (b.atR a (.code (.rangeFunc g ps assign body) :: k)) cs w).fenced P Fence.wide :=
    fenced_lone (.inl trivial) (fun _ _ => trivial) (room_wide _)
  have henter := stepR_rangeFunc (P := P) (b := b) (a := a) (k := k) (cs := cs) (w := w) he hres hinv
  have hcall := hseq (w.heap.size + 1)
    (fun i W => I i W ∧ W.heap[w.heap.size + 1]? = some (.loop (rec .ready none)) ∧ W.heap[w.heap.size]? = some (.deferred (some [])))
    (fun W => ∃ c, Ix c W ∧ W.heap[w.heap.size + 1]? = some (.loop (rec .done (some c))) ∧ W.heap[w.heap.size]? = some (.deferred (some [])))
    (fun ch W => Ip ch W ∧ W.heap[w.heap.size]? = some (.deferred (some [])))
    W1
    (fun i A B ⟨h1, h2, h3⟩ hx => ⟨hIe i A B h1 hx, hx.heap h2, hx.heap h3⟩)
    (fun i A B ⟨h1, h2, h3⟩ hs hx => by
      rw [hz1] at hs hx
      exact ⟨hIr i A B h1 hs hx, hx.heap h2 (by omega), hx.heap h3 (by omega)⟩)
    (fun A B ⟨c, h1, h2, h3⟩ hx => ⟨c, hIxe c A B h1 hx, hx.heap h2, hx.heap h3⟩)
    (fun i A h => hKA i A h.1)
    ?_ ⟨hI1, hL1, hK1⟩
  · have hroom : Fence.wide.room ((b.atR { a with defers := [{ target := .collected w.heap.size, args := #[] }] ++ a.defers } (.inRangeFunc (w.heap.size + 1) :: k) :: cs).length + 1 + 0) := room_wide _
    obtain ⟨e, w₃, fr, hR, hsteps, hfn, hleave⟩ := hcall.2 (b.atR { a with defers := [{ target := .collected w.heap.size, args := #[] }] ++ a.defers } (.inRangeFunc (w.heap.size + 1) :: k) :: cs) hroom
    rcases hR with ⟨⟨v, rfl⟩, hR⟩ | ⟨ch, rfl, hp, hD⟩
    · have hl : (lone fr (b.atR { a with defers := [{ target := .collected w.heap.size, args := #[] }] ++ a.defers } (.inRangeFunc (w.heap.size + 1) :: k) :: cs) w₃).fenced P Fence.wide := fenced_leaving trivial hroom hleave
      have fin : ∀ (jump : Option Code) (st : LoopState), st ≠ .busy → w₃.heap[w.heap.size + 1]? = some (.loop (rec st jump)) →
          StepsIn (Machine.fenced P Fence.wide) P (lone (b.atR a (.code (.rangeFunc g ps assign body) :: k)) cs w)
            (lone (b.atR { a with defers := [{ target := .collected w.heap.size, args := #[] }] ++ a.defers } ((jump.map Item.code).toList ++ k)) cs (w₃.putObj (w.heap.size + 1) (.loop (rec .exhausted jump)))) := by
        intro jump st hst hl3
        have hend := run_endLoop (P := P) hl3 (by rw [hrec]; exact hst)
        rw [hrec] at hend
        refine .head h0' henter (StepsIn.trans hsteps (.head hl ?_ (.one (fenced_calm (fr := b.atR { a with defers := [{ target := .collected w.heap.size, args := #[] }] ++ a.defers } (.endRangeFunc (w.heap.size + 1) :: k)) trivial (n := 0) (room_wide _) rfl) (stepR_endRangeFunc (by rw [hrec]; exact hend)))))
        rw [← finish_atR_inRangeFunc (w.heap.size + 1) v]; exact step_leave_returned hleave
      rcases hR with ⟨s, hs, hi, hL, hD⟩ | ⟨c, hi, hL, hD⟩
      · exact ⟨.normal, _, _, hdone s _ hs (hIu _ _ _ _ hi hL) ((World.putObj_heap_other (by omega)).trans hD), fin none _ (by simp) hL⟩
      · obtain ⟨e', a'', w₅, hq, harr⟩ := (wpIn_wide (n := 0)).2 (hstop c _ (hIxu _ _ _ (rec .exhausted (some c)) hi hL) ((World.putObj_heap_other (by omega)).trans hD)) b k cs hro trivial (room_wide _)
        exact ⟨e', a'', w₅, hq, .of_steps (fin (some c) _ (by simp) hL) harr⟩
    · have hl : (lone fr (b.atR { a with defers := [{ target := .collected w.heap.size, args := #[] }] ++ a.defers } (.inRangeFunc (w.heap.size + 1) :: k) :: cs) w₃).fenced P Fence.wide := fenced_leaving trivial hroom hleave
      refine ⟨.panic ch, _, w₃, hpanic ch w₃ hp hD, .inRangeFunc (w.heap.size + 1) :: k, .head h0' henter (StepsIn.trans hsteps (.one hl ?_))⟩
      rw [List.singleton_append, ← Frame.raise_atR]; exact step_leave_panicked hleave
  · rintro i enc i' W o ⟨hi, hl, hD⟩ hlt ho
    rw [hz1] at ho
    have hsz : w.heap.size + 1 < W.heap.size := (Array.getElem?_eq_some_iff.1 hl).1
    have hy := run_yield (P := P) (args := enc) hl (by rw [hrec]; exact hps _ _ _ hlt)
    rw [hrec] at hy
    refine ⟨b.fn, _, assign, body, hy, roundIn_panics (by rw [hb]; exact hf) (wpIn_mono (hround i enc i' W _ hi (Array.getElem?_eq_some_iff.1 ho).1 hD hl hlt) ?_)⟩
    rintro e a' W' hp
    cases e with
    | exit id => exact hp.elim
    | goto t => exact hp.elim
    | ret => exact hp.elim
    | panic ch => exact hp.elim
    | outgrown => exact hp.elim
    | normal =>
      obtain ⟨hD', hl', ho', hbody⟩ := hp
      rw [ho] at ho'
      rw [hl] at hl'
      rw [hD] at hD'
      have hsz' : w.heap.size + 1 < W'.heap.size := (Array.getElem?_eq_some_iff.1 hl').1
      refine ⟨_, run_beginRound hl' (by rw [hrec]), wpIn_mono (hbody _ _ rfl) ?_⟩
      have hl2 : (W'.putObj (w.heap.size + 1) (.loop { rec .ready none with state := .busy })).heap[w.heap.size + 1]? = some (.loop { rec .ready none with state := .busy }) := World.putObj_heap_same hsz'
      have hD2 : (W'.putObj (w.heap.size + 1) (.loop { rec .ready none with state := .busy })).heap[w.heap.size]? = some (.deferred (some [])) := (World.putObj_heap_other (by omega)).trans hD'
      have ho2 : (W'.putObj (w.heap.size + 1) (.loop { rec .ready none with state := .busy })).heap[w.heap.size + 2]? = some o := (World.putObj_heap_other (by omega)).trans ho'
      generalize W'.putObj (w.heap.size + 1) (.loop { rec .ready none with state := .busy }) = W2 at hl2 hD2 ho2
      have fin : ∀ (jump : Option Code) (W3 : World), W3.heap[w.heap.size]? = W2.heap[w.heap.size]? → W3.heap[w.heap.size + 1]? = W2.heap[w.heap.size + 1]? →
          (Instr.endRound (w.heap.size + 1) jump).run P W3 = .ok (.bool jump.isNone) (W3.putObj (w.heap.size + 1) (.loop (rec (if jump.isNone then .ready else .done) jump))) ∧
          (W3.putObj (w.heap.size + 1) (.loop (rec (if jump.isNone then .ready else .done) jump))).heap[w.heap.size + 1]? = some (.loop (rec (if jump.isNone then .ready else .done) jump)) ∧
          (W3.putObj (w.heap.size + 1) (.loop (rec (if jump.isNone then .ready else .done) jump))).heap[w.heap.size]? = some (.deferred (some [])) := fun jump W3 hd3 hl3 => by
        rw [hl2] at hl3
        rw [hD2] at hd3
        have := run_endRound (P := P) jump hl3
        rw [hrec] at this hl3 ⊢
        exact ⟨this, World.putObj_heap_same (Array.getElem?_eq_some_iff.1 hl3).1, (World.putObj_heap_other (by omega)).trans hd3⟩
      rintro e a3 W3 hp
      cases e with
      | normal =>
        obtain ⟨hd3, hk3, ho3, hi3⟩ := hp
        obtain ⟨hr, hl4, hk4⟩ := fin none W3 hd3 hk3
        exact ⟨_, _, hr, .inl ⟨rfl, ⟨hIu _ _ _ _ hi3 (hk3.trans hl2), hl4, hk4⟩, by rw [hz1]; exact (World.putObj_heap_other (by omega)).trans (ho3.trans ho2)⟩⟩
      | ret =>
        obtain ⟨hd3, hk3, hi3⟩ := hp
        obtain ⟨hr, hl4, hk4⟩ := fin (some .ret) W3 hd3 hk3
        exact ⟨_, _, hr, .inr (.inl ⟨rfl, .ret, hIxu _ _ _ _ hi3 (hk3.trans hl2), hl4, hk4⟩)⟩
      | exit id =>
        obtain ⟨hd3, hk3, hi3⟩ := hp
        obtain ⟨hr, hl4, hk4⟩ := fin (some (.exit id)) W3 hd3 hk3
        exact ⟨_, _, hr, .inr (.inl ⟨rfl, .exit id, hIxu _ _ _ _ hi3 (hk3.trans hl2), hl4, hk4⟩)⟩
      | goto t =>
        obtain ⟨hd3, hk3, hi3⟩ := hp
        obtain ⟨hr, hl4, hk4⟩ := fin (some (.goto t)) W3 hd3 hk3
        exact ⟨_, _, hr, .inr (.inl ⟨rfl, .goto t, hIxu _ _ _ _ hi3 (hk3.trans hl2), hl4, hk4⟩)⟩
      | panic ch =>
        obtain ⟨hd3, ha3, hi3⟩ := hp
        exact ⟨ha3, .inr (.inr ⟨ch, rfl, hi3, by rw [hd3]; exact hD2⟩)⟩
      | outgrown => exact hp.elim
end
end
end Go.Proofs.YtaciedooeeklpaaDoor
