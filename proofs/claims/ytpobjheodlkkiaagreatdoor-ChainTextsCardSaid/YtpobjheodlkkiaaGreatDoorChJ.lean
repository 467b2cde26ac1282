/- slices.AppendSeq, Collect over an iterator of numbers. -/
import Derived.Test.YtpobjheodlkkiaaGreatDoorRangeL
import Derived.Test.YtpobjheodlkkiaaGreatDoorGen
import Derived.Shelf.Abstract
import Derived.WalkSmall
import Derived.Maps.AppendAt
namespace Go.Proofs.YtpobjheodlkkiaaGreatDoor
open Go.RowKit
set_option linter.unusedVariables false
set_option maxRecDepth 20000
set_option linter.unusedSimpArgs false
set_option linter.unusedSectionVars false
set_option maxRecDepth 100000
attribute [local go_sem] Oper.semAt_some

theorem OwnG.kept {α : Type} {cs : α → List Value} {e : TypeId} {k : Nat} {w w' : World} {base : Nat} {v : Value} {l : List α} {row : Option Nat} (h : OwnG cs e k w base v l) (hg : w.grownBy w' row) (hne : v.ownBlock = none ∨ v.ownBlock ≠ row) : OwnG cs e k w' base v l := World.ownsRow.kept h hg hne
theorem OwnG.not_loop {α : Type} {cs : α → List Value} {e : TypeId} {k : Nat} {w : World} {base : Nat} {v : Value} {l : List α} (h : OwnG cs e k w base v l) {S : Nat} {o : Obj} (hS : w.heap[S]? = some o) (ho : ∀ c, o ≠ .cells c e (0, 0)) : v.ownBlock = none ∨ v.ownBlock ≠ some S := by
  rcases h.2 with ⟨rfl, _⟩ | ⟨g, cap, cur, rfl, _, hg, _⟩
  · exact .inl rfl
  · refine .inr fun e => ?_
    simp only [Value.ownBlock, Option.some.injEq] at e
    subst e
    rw [hS] at hg
    injection hg with hg
    exact ho _ hg
theorem OwnG.loop {α : Type} {cs : α → List Value} {e : TypeId} {k : Nat} {w : World} {base : Nat} {v : Value} {l : List α} (h : OwnG cs e k w base v l) {S : Nat} {r r' : Loop} (hS : w.heap[S]? = some (.loop r)) : OwnG cs e k (w.putObj S (.loop r')) base v l :=
  h.kept (grownBy_putObj' _ _ _) (h.not_loop hS (fun c e => by cases e))
theorem OwnG.down {α : Type} {cs : α → List Value} {e : TypeId} {k : Nat} {w : World} {base b' : Nat} {v : Value} {l : List α} (h : OwnG cs e k w base v l) (hb : b' ≤ base) : OwnG cs e k w b' v l := by
  refine ⟨h.1, ?_⟩
  rcases h.2 with h0 | ⟨g, cap, cur, h1, h2, h3⟩
  · exact .inl h0
  · exact .inr ⟨g, cap, cur, h1, Nat.le_trans hb h2, h3⟩
theorem range_map_succ {α : Type} (f : Nat → α) (i : Nat) : (List.range (i + 1)).map f = (List.range i).map f ++ [f i] := by rw [List.range_succ, List.map_append]; rfl
set_option maxHeartbeats 4000000 in
theorem appendseq_any (g : Nat) (lb : Array Value) (f : Nat → Int) (N : Nat) (Kp : World → Prop) (hseq : SeqP Tryz.prog g lb (fun i => #[.int .i64 (f i)]) N Kp) (eg : ∀ args w, (callFunc g args).run Tryz.prog w = .ok (.enter g args) w) (hN : N ≤ 100000)
    (w : World) (hK : Kp w) (hKB : ∀ A B, Below w.heap.size A B → Kp A → Kp B) :
    Calls Tryz.prog 72 #[.slice none 0 0, .func (.func g) #[] lb] w fun e w' => (∃ v, e = .returned v ∧ OwnI w' w.heap.size v ((List.range N).map f)) ∧ Ext w w' := by
  refine calls_of_wpAt Tryz.func72 rfl ?_
  simp only [Tryz.ntmps72, List.size_toArray, List.length_cons, List.length_nil, Nat.reduceAdd, Nat.reduceSub, Array.replicate_succ, Array.replicate_zero, List.push_toArray, List.append_toArray, List.nil_append, List.cons_append]
  refine wpAt_seq_k (fun K hK => ?_)
  go_wp2
  obtain ⟨W0, hW0⟩ : ∃ W0, w.alloc (.cells #[.slice none 0 0] 31) = W0 := ⟨_, rfl⟩
  have hx0 : Ext w W0 := hW0 ▸ (Ext.refl w).alloc _
  have hs0 : W0.heap.size = w.heap.size + 1 := by rw [← hW0]; simp
  have hb0 : Boxed W0 w.heap.size 31 (.slice none 0 0) := hW0 ▸ Boxed.new _ _ _
  have hk0 : Kp W0 := hKB _ _ hx0 hK
  try rw [hW0]
  clear hW0
  generalize hcc : w.heap.size = c at *
  have HC := Lib.hid hcc
  clear hcc
  refine wpAt_seq ?_
  refine wpAt_seq_k (fun K hK => ?_)
  go_wp2
  refine wpAt_block ?_
  refine wpAt_rangeFunc2 (hf := Tryz.func72) (gf := g) (lb := lb) rfl eg hseq (fun _ => rfl)
    (fun i W => (∃ v, Boxed W c 31 v ∧ OwnI W (c + 1) v ((List.range i).map f)) ∧ Ext w W ∧ Kp W)
    (fun _ _ _ => False)
    (fun i ch W => False)
    (fun i A B ⟨⟨v, h1, h2⟩, h3, h4⟩ hx => ⟨⟨v, hx.heap h1, h2.ext hx⟩, h3.trans hx, hKB _ _ (Below.mono hx (by have := h3.size; have := HC.out; omega)) h4⟩)
    (fun _ _ _ _ h _ => h)
    (fun i A r r' ⟨⟨v, h1, h2⟩, h3, h4⟩ hl => ⟨⟨v, (World.putObj_heap_other (by omega)).trans h1, h2.loop hl⟩, Upd.ext h3 (grownBy_putObj' _ _ _) (by have := HC.out; omega), hKB _ _ (Below.grown (Below.refl _ _) (grownBy_putObj' _ _ _) (by have := h3.size; have := HC.out; omega) (fun k hk => by cases hk; have := HC.out; omega)) h4⟩)
    (fun _ _ _ _ _ h _ => h)
    (fun i A h => h.2.2)
    ⟨⟨_, hb0, OwnG.nil _ _ _ _ _⟩, hx0, hk0⟩ ?round ?done (fun _ _ _ _ h _ => h.elim) (fun _ _ _ _ h _ => h.elim)
  case round =>
    rintro i W r ⟨⟨v, h1, h2⟩, h3, h4⟩ hW hD hL hi
    gi_wp2
    refine ⟨trivial, trivial, ?_⟩
    rintro W5 r' hW5
    have hL5 : W5.heap[W0.heap.size + 1]? = some (.loop r') := by rw [hW5]; exact World.putObj_heap_same (by omega)
    have hD5 : W5.heap[W0.heap.size]? = some (.deferred (some [])) := by rw [hW5, World.putObj_heap_other (by omega)]; exact hD
    replace h4 : Kp W5 := by rw [hW5]; exact hKB _ _ (Below.grown (Below.refl _ _) (grownBy_putObj' _ _ _) (by have := h3.size; have := HC.out; omega) (fun k hk => by cases hk; have := HC.out; omega)) h4
    replace h2 : OwnI W5 (c + 1) v ((List.range i).map f) := hW5 ▸ h2.loop hL
    replace h1 : Boxed W5 c 31 v := by rw [hW5]; exact (World.putObj_heap_other (by omega)).trans h1
    replace h3 : Ext w W5 := by rw [hW5]; exact Upd.ext h3 (grownBy_putObj' _ _ _) (by have := HC.out; omega)
    have hc5 := h1.cell
    clear hW5 hD hL
    have hsz := h3.size
    obtain ⟨i0, hi0, hz0, hz1, hz2⟩ := int_zero
    have hc5w := h1.lt
    have hsw5 : W5.heap[W0.heap.size + 1]? = some (.loop r') := hL5
    have hDs : W0.heap.size < W5.heap.size := (Array.getElem?_eq_some_iff.1 hD5).1
    have hLs : W0.heap.size + 1 < W5.heap.size := (Array.getElem?_eq_some_iff.1 hL5).1
    have hn1 := h2.not_loop hL5 (fun c e => by cases e)
    have hn2 := h2.not_loop hD5 (fun c e => by cases e)
    have hn3 : v.ownBlock ≠ some c := fun e => by have := h2.base_ c e; omega
    have hrow : (W5.alloc (.cells #[.int .i64 (f i)] 3)).ownsRow (c + 1) 3 1 v i (((List.range i).map f).flatMap fun x => [Value.int .i64 x]) := by
      have := h2.ext ((Ext.refl W5).alloc (.cells #[.int .i64 (f i)] 3))
      unfold OwnG at this
      simpa using this
    gi_wp2_with (gi_at_builtin; refine wpListIn_append_own _ rfl _ _ 31 rfl (c + 1) 3 i0 (.int .i64 0) 1 8 Tryz.underlying31 hi0 hz0 hz1 hz2 rfl (by decide) _ _ _ rfl hrow ⟨W5.heap.size, 0, none⟩ 1 1 [.int .i64 (f i)] rfl rfl (cell_one_new _ _ _) ?s1 ?s2 ?s3 ?s4 ?_)
    case s1 => intro u hu; simp at hu; subst hu; rfl
    case s2 => unfold maxLen; omega
    case s3 => omega
    case s4 => simp; omega
    intro v' w6 hown' hg6 _
    have hb6 : Boxed w6 c 31 v := (h1.alloc _).kept hg6 (fun e => hn3 e.symm)
    have hc6 := hb6.cell
    have hf6 := hb6.frozen
    have hD6 : w6.heap[W0.heap.size]? = some (.deferred (some [])) := (hg6.block _ (by simp; omega) (fun e => by rcases hn2 with h | h <;> rw [← e] at h; cases h; exact h rfl)).trans ((Below.heap_alloc _ _ _ hDs).trans hD5)
    have hL6 : w6.heap[W0.heap.size + 1]? = some (.loop r') := (hg6.block _ (by simp; omega) (fun e => by rcases hn1 with h | h <;> rw [← e] at h; cases h; exact h rfl)).trans ((Below.heap_alloc _ _ _ hLs).trans hL5)
    have hbl : Below (c + 1) W5 w6 := (Below.alloc (Below.refl _ W5) (by omega) _).trans (Below.grown (Below.refl _ _) hg6 (by simp; omega) (fun k hk => h2.base_ k hk))
    have h36 : Ext w w6 := below_ext h3 hbl (by have := HC.out; omega)
    have h46 : Kp w6 := hKB _ _ (Below.mono hbl (by omega)) h4
    have hcs : c < w6.heap.size := hb6.lt
    have h0 : OwnI w6 (c + 1) v' ((List.range (i + 1)).map f) := by
      rw [range_map_succ]
      unfold OwnI OwnG
      simpa using hown'
    obtain ⟨g', cap', rfl, _⟩ := h0.tight (by simp)
    gi_wp2
    refine ⟨?_, ?_, ⟨_, hb6.set _, ?_⟩, h36.setCell (by have := HC.out; simp; omega) _, hKB _ _ (Below.setCell (Below.refl _ _) (by simp) _) h46⟩
    · exact (Below.heap_setCell _ _ _ _ (by simp; omega)).trans (hD6.trans hD5.symm)
    · exact (Below.heap_setCell _ _ _ _ (by simp; omega)).trans (hL6.trans hL5.symm)
    · rw [List.length_map, List.length_range] at h0
      exact h0.kept (row := some c) (Upd.setCell w6 c 0 _) (.inr (fun e => by have := h0.base_ c e; omega))
  case done =>
    rintro W ⟨⟨v, h1, h2⟩, h3, h4⟩ hD
    have hc := h1.cell
    rw [hs0] at hD
    refine wpAt_of_wp ?_
    go_wp2
    refine ⟨by simp, .inl ⟨_, _, rfl, run_takeDeferred hD, ?_⟩⟩
    refine ⟨_, results_tmp rfl _ _ _, ⟨_, rfl, ?_⟩, ?_⟩
    · refine OwnG.down (base := c + 1) (h2.kept (row := some (c + 1)) (grownBy_putObj' _ _ _) (h2.not_loop hD (fun c e => by cases e))) (by have := HC.out; omega)
    · exact Upd.ext h3 (grownBy_putObj' _ _ _) (by have := HC.out; omega)
theorem collect_any (g : Nat) (lb : Array Value) (f : Nat → Int) (N : Nat) (Kp : World → Prop) (hseq : SeqP Tryz.prog g lb (fun i => #[.int .i64 (f i)]) N Kp) (eg : ∀ args w, (callFunc g args).run Tryz.prog w = .ok (.enter g args) w) (hN : N ≤ 100000)
    (w : World) (hK : Kp w) (hKB : ∀ A B, Below w.heap.size A B → Kp A → Kp B) :
    Calls Tryz.prog 55 #[.func (.func g) #[] lb] w fun e w' => (∃ v, e = .returned v ∧ OwnI w' w.heap.size v ((List.range N).map f)) ∧ Ext w w' := by
  have hA := appendseq_any g lb f N Kp hseq eg hN w hK hKB
  go_enter Tryz.func55, Tryz.ntmps55
  go_wp2_with (go_at_call 72; refine hA.mono ?_; rintro e w1 ⟨⟨v, rfl, ho⟩, hx⟩)
  go_ret
  exact ⟨⟨_, rfl, ho⟩, hx⟩
end Go.Proofs.YtpobjheodlkkiaaGreatDoor
