/- LmS; LmT; LmU; LmV (merged by group.py) -/
import Derived.Test.YtaciedooeeklpaaDoorQ18
import Derived.Shelf.Abstract
namespace Go.Proofs.YtaciedooeeklpaaDoor
section
open Go.RowKit Go.Sort Go.Maps
set_option linter.unusedVariables false
set_option linter.unusedSimpArgs false
set_option linter.unusedSectionVars false
set_option maxRecDepth 100000
attribute [local go_sem] Oper.semAt_some

def nthI (l : List Int) (i : Nat) : Int := l.getD i 0
theorem range_nth (l : List Int) : (List.range l.length).map (nthI l) = l := by
  apply List.ext_getElem
  · simp
  · intro i h1 h2
    simp [nthI, List.getD_eq_getElem?_getD, h2]
theorem range_map_succ {α : Type} (f : Nat → α) (i : Nat) : (List.range (i + 1)).map f = (List.range i).map f ++ [f i] := by rw [List.range_succ, List.map_append]; rfl
set_option maxHeartbeats 4000000 in
theorem appendseq_any (g : Nat) (lb : Array Value) (f : Nat → Int) (N : Nat) (Kp : World → Prop) (hseq : SeqP Tryd.prog g lb (fun i => #[.int .i64 (f i)]) N Kp) (eg : ∀ args w, (callFunc g args).run Tryd.prog w = .ok (.enter g args) w) (hN : N ≤ 100000)
    (w : World) (hK : Kp w) (hKB : ∀ A B, Below w.heap.size A B → Kp A → Kp B) :
    Calls Tryd.prog 66 #[.slice none 0 0, .func (.func g) #[] lb] w fun e w' => (∃ v, e = .returned v ∧ OwnI w' w.heap.size v ((List.range N).map f)) ∧ Ext w w' := by
  refine calls_of_wpAt Tryd.func66 rfl ?_
  simp only [Tryd.ntmps66, List.size_toArray, List.length_cons, List.length_nil, Nat.reduceAdd, Nat.reduceSub, Array.replicate_succ, Array.replicate_zero, List.push_toArray, List.append_toArray, List.nil_append, List.cons_append]
  refine wpAt_seq_k (fun K hK => ?_)
  go_wp2
  obtain ⟨W0, hW0⟩ : ∃ W0, w.alloc (.cells #[.slice none 0 0] 30) = W0 := ⟨_, rfl⟩
  have hx0 : Ext w W0 := hW0 ▸ (Ext.refl w).alloc _
  have hs0 : W0.heap.size = w.heap.size + 1 := by rw [← hW0]; simp
  have hb0 : Boxed W0 w.heap.size 30 (.slice none 0 0) := hW0 ▸ Boxed.new _ _ _
  have hk0 : Kp W0 := hKB _ _ hx0 hK
  try rw [hW0]
  clear hW0
  generalize hcc : w.heap.size = c at *
  have HC := Lib.hid hcc
  clear hcc
  refine wpAt_seq ?_
  refine wpAt_seq_k (fun K hK => ?_)
  go_wp2
  refine wpAt_block ?_
  refine wpAt_rangeFunc2 (hf := Tryd.func66) (gf := g) (lb := lb) rfl eg hseq (fun _ => rfl)
    (fun i W => (∃ v, Boxed W c 30 v ∧ OwnI W (c + 1) v ((List.range i).map f)) ∧ Ext w W ∧ Kp W)
    (fun _ _ _ => False)
    (fun i ch W => False)
    (fun i A B ⟨⟨v, h1, h2⟩, h3, h4⟩ hx => ⟨⟨v, hx.heap h1, h2.ext hx⟩, h3.trans hx, hKB _ _ (Below.mono hx (by have := h3.size; have := HC.out; omega)) h4⟩)
    (fun _ _ _ _ h _ => h)
    (fun i A r r' ⟨⟨v, h1, h2⟩, h3, h4⟩ hl => ⟨⟨v, (World.putObj_heap_other (by omega)).trans h1, h2.loop hl⟩, Upd.ext h3 (grownBy_putObj' _ _ _) (by have := HC.out; omega), hKB _ _ (Below.grown (Below.refl _ _) (grownBy_putObj' _ _ _) (by have := h3.size; have := HC.out; omega) (fun k hk => by cases hk; have := HC.out; omega)) h4⟩)
    (fun _ _ _ _ _ h _ => h)
    (fun i A h => h.2.2)
    ⟨⟨_, hb0, OwnG.nil _ _ _ _ _⟩, hx0, hk0⟩ ?round ?done (fun _ _ _ _ h _ => h.elim) (fun _ _ _ _ h _ => h.elim)
  case round =>
    rintro i W r ⟨⟨v, h1, h2⟩, h3, h4⟩ hW hD hL hi
    gi_wp2
    refine ⟨trivial, trivial, ?_⟩
    rintro W5 r' hW5
    have hL5 : W5.heap[W0.heap.size + 1]? = some (.loop r') := by rw [hW5]; exact World.putObj_heap_same (by omega)
    have hD5 : W5.heap[W0.heap.size]? = some (.deferred (some [])) := by rw [hW5, World.putObj_heap_other (by omega)]; exact hD
    replace h4 : Kp W5 := by rw [hW5]; exact hKB _ _ (Below.grown (Below.refl _ _) (grownBy_putObj' _ _ _) (by have := h3.size; have := HC.out; omega) (fun k hk => by cases hk; have := HC.out; omega)) h4
    replace h2 : OwnI W5 (c + 1) v ((List.range i).map f) := hW5 ▸ h2.loop hL
    replace h1 : Boxed W5 c 30 v := by rw [hW5]; exact (World.putObj_heap_other (by omega)).trans h1
    replace h3 : Ext w W5 := by rw [hW5]; exact Upd.ext h3 (grownBy_putObj' _ _ _) (by have := HC.out; omega)
    have hc5 := h1.cell
    clear hW5 hD hL
    have hsz := h3.size
    obtain ⟨i0, hi0, hz0, hz1, hz2⟩ := int_zero
    have hc5w := h1.lt
    have hsw5 : W5.heap[W0.heap.size + 1]? = some (.loop r') := hL5
    have hDs : W0.heap.size < W5.heap.size := (Array.getElem?_eq_some_iff.1 hD5).1
    have hLs : W0.heap.size + 1 < W5.heap.size := (Array.getElem?_eq_some_iff.1 hL5).1
    have hn1 := h2.not_loop hL5 (fun c e => by cases e)
    have hn2 := h2.not_loop hD5 (fun c e => by cases e)
    have hn3 : v.ownBlock ≠ some c := fun e => by have := h2.base_ c e; omega
    have hrow : (W5.alloc (.cells #[.int .i64 (f i)] 3)).ownsRow (c + 1) 3 1 v i (((List.range i).map f).flatMap fun x => [Value.int .i64 x]) := by
      have := h2.ext ((Ext.refl W5).alloc (.cells #[.int .i64 (f i)] 3))
      unfold OwnG at this
      simpa using this
    gi_wp2_with (gi_at_builtin; refine wpListIn_append_own _ rfl _ _ 30 rfl (c + 1) 3 i0 (.int .i64 0) 1 8 Tryd.underlying30 hi0 hz0 hz1 hz2 rfl (by decide) _ _ _ rfl hrow ⟨W5.heap.size, 0, none⟩ 1 1 [.int .i64 (f i)] rfl rfl (cell_one_new _ _ _) ?s1 ?s2 ?s3 ?s4 ?_)
    case s1 => intro u hu; simp at hu; subst hu; rfl
    case s2 => unfold maxLen; omega
    case s3 => omega
    case s4 => simp; omega
    intro v' w6 hown' hg6 _
    have hb6 : Boxed w6 c 30 v := (h1.alloc _).kept hg6 (fun e => hn3 e.symm)
    have hc6 := hb6.cell
    have hf6 := hb6.frozen
    have hD6 : w6.heap[W0.heap.size]? = some (.deferred (some [])) := (hg6.block _ (by simp; omega) (fun e => by rcases hn2 with h | h <;> rw [← e] at h; cases h; exact h rfl)).trans ((Below.heap_alloc _ _ _ hDs).trans hD5)
    have hL6 : w6.heap[W0.heap.size + 1]? = some (.loop r') := (hg6.block _ (by simp; omega) (fun e => by rcases hn1 with h | h <;> rw [← e] at h; cases h; exact h rfl)).trans ((Below.heap_alloc _ _ _ hLs).trans hL5)
    have hbl : Below (c + 1) W5 w6 := (Below.alloc (Below.refl _ W5) (by omega) _).trans (Below.grown (Below.refl _ _) hg6 (by simp; omega) (fun k hk => h2.base_ k hk))
    have h36 : Ext w w6 := below_ext h3 hbl (by have := HC.out; omega)
    have h46 : Kp w6 := hKB _ _ (Below.mono hbl (by omega)) h4
    have hcs : c < w6.heap.size := hb6.lt
    have h0 : OwnI w6 (c + 1) v' ((List.range (i + 1)).map f) := by
      rw [range_map_succ]
      unfold OwnI OwnG
      simpa using hown'
    obtain ⟨g', cap', rfl, _⟩ := h0.tight (by simp)
    gi_wp2
    refine ⟨?_, ?_, ⟨_, hb6.set _, ?_⟩, h36.setCell (by have := HC.out; simp; omega) _, hKB _ _ (Below.setCell (Below.refl _ _) (by simp) _) h46⟩
    · exact (Below.heap_setCell _ _ _ _ (by simp; omega)).trans (hD6.trans hD5.symm)
    · exact (Below.heap_setCell _ _ _ _ (by simp; omega)).trans (hL6.trans hL5.symm)
    · rw [List.length_map, List.length_range] at h0
      exact h0.kept (row := some c) (Upd.setCell w6 c 0 _) (.inr (fun e => by have := h0.base_ c e; omega))
  case done =>
    rintro W ⟨⟨v, h1, h2⟩, h3, h4⟩ hD
    have hc := h1.cell
    rw [hs0] at hD
    refine wpAt_of_wp ?_
    go_wp2
    refine ⟨by simp, .inl ⟨_, _, rfl, run_takeDeferred hD, ?_⟩⟩
    refine ⟨_, results_tmp rfl _ _ _, ⟨_, rfl, ?_⟩, ?_⟩
    · refine OwnG.down (base := c + 1) (h2.kept (row := some (c + 1)) (grownBy_putObj' _ _ _) (h2.not_loop hD (fun c e => by cases e))) (by have := HC.out; omega)
    · exact Upd.ext h3 (grownBy_putObj' _ _ _) (by have := HC.out; omega)
theorem collect_any (g : Nat) (lb : Array Value) (f : Nat → Int) (N : Nat) (Kp : World → Prop) (hseq : SeqP Tryd.prog g lb (fun i => #[.int .i64 (f i)]) N Kp) (eg : ∀ args w, (callFunc g args).run Tryd.prog w = .ok (.enter g args) w) (hN : N ≤ 100000)
    (w : World) (hK : Kp w) (hKB : ∀ A B, Below w.heap.size A B → Kp A → Kp B) :
    Calls Tryd.prog 48 #[.func (.func g) #[] lb] w fun e w' => (∃ v, e = .returned v ∧ OwnI w' w.heap.size v ((List.range N).map f)) ∧ Ext w w' := by
  have hA := appendseq_any g lb f N Kp hseq eg hN w hK hKB
  go_enter Tryd.func48, Tryd.ntmps48
  go_wp2_with (go_at_call 66; refine hA.mono ?_; rintro e w1 ⟨⟨v, rfl, ho⟩, hx⟩)
  go_ret
  exact ⟨⟨_, rfl, ho⟩, hx⟩
theorem sorted_any (g : Nat) (lb : Array Value) (f : Nat → Int) (N : Nat) (Kp : World → Prop) (hseq : SeqP Tryd.prog g lb (fun i => #[.int .i64 (f i)]) N Kp) (eg : ∀ args w, (callFunc g args).run Tryd.prog w = .ok (.enter g args) w) (hN : N ≤ 100000)
    (w : World) (hK : Kp w) (hKB : ∀ A B, Below w.heap.size A B → Kp A → Kp B) :
    Calls Tryd.prog 32 #[.func (.func g) #[] lb] w fun e w' => (∃ v, e = .returned v ∧ OwnI w' w.heap.size v (sortI ((List.range N).map f))) ∧ Ext w w' := by
  have hA := collect_any g lb f N Kp hseq eg hN w hK hKB
  have hl : ((List.range N).map f).length ≤ 100000 := by simpa using hN
  generalize (List.range N).map f = zs at *
  go_enter Tryd.func32, Tryd.ntmps32
  go_wp2_with (go_at_call 48; refine hA.mono ?_; rintro e w1 ⟨⟨v, rfl, ho⟩, hx⟩)
  rcases ho.2 with ⟨rfl, hz⟩ | ⟨gb, cap, cur, rfl, hbase, hgb, r1, r2, r3, r4⟩
  · obtain rfl : zs = [] := List.length_eq_zero_iff.1 hz
    go_wp2_with (go_at_call 49; refine (Tryd.slices_Sort_int_none none 0 _).mono ?_; rintro e w2 ⟨rfl, rfl⟩)
    go_ret
    exact ⟨⟨_, rfl, by unfold sortI; rw [List.mergeSort_nil]; exact OwnG.nil _ _ _ _ _⟩, hx⟩
  · rw [flat_ints] at r4
    have hH : Holds encZ w1 gb 0 zs.toArray := holds_of_block_i hgb (by simpa using r4)
    have hgl : gb < w1.heap.size := (Array.getElem?_eq_some_iff.1 hgb).1
    have hS := Tryd.slices_Sort_int gb 0 cap zs w1 hH hgl (by omega)
    go_wp2_with (go_at_call 49; refine hS.mono ?_; rintro e w2 ⟨rfl, n2, os, rfl⟩)
    go_ret
    refine ⟨⟨_, rfl, ?_⟩, Below.grown hx (grownBy_sorted_i _) hx.size (fun k hk => by cases hk; exact hbase)⟩
    have := ownsRow_sorted_i (w := w1) (n := n2) (os := os) (ss := zs) (ts := sortI zs) (sortI_len zs) hbase hgb r1 r2 r3
    unfold OwnI OwnG
    rw [flat_ints, sortI_len]
    exact this
theorem values_any (P : Option Addr) (n cap : Nat) (w : World) :
    Calls Tryd.prog 33 #[.slice P n cap] w fun e w' => e = .returned (.func (.func 50) #[] #[.pointer (some ⟨w.heap.size, 0, none⟩)]) ∧ w' = w.alloc (.cells #[.slice P n cap] 30) := by
  go_enter Tryd.func33, Tryd.ntmps33
  go_wp2
  go_ret
  exact ⟨rfl, rfl⟩
theorem yield_cases {e : Ending} {A B : Prop} {C : List PanicEntry → Prop} (h : (e = .returned (.bool true) ∧ A) ∨ (e = .returned (.bool false) ∧ B) ∨ ∃ ch, e = .panicked ch ∧ C ch) :
    (∃ ch, e = .panicked ch ∧ C ch) ∨ ∃ t, e = .returned (.bool t) ∧ (t = true ∧ A ∨ t = false ∧ B) := by
  rcases h with ⟨h, a⟩ | ⟨h, b⟩ | h
  · exact .inr ⟨true, h, .inl ⟨rfl, a⟩⟩
  · exact .inr ⟨false, h, .inr ⟨rfl, b⟩⟩
  · exact .inl h
set_option maxHeartbeats 4000000 in
theorem values_seq (P : Option Addr) (cap : Nat) (l : List Int) (c : Nat) (hl : l.length ≤ 100000) :
    SeqP Tryd.prog 50 #[.pointer (some ⟨c, 0, none⟩)] (fun i => #[.int .i64 (nthI l i)]) l.length (fun A => A.cell? ⟨c, 0, none⟩ = some (.slice P l.length cap) ∧ SlI A P cap l) := by
  intro lq J Jx Jp W hJ hJx hK hY h0
  obtain ⟨hc0, hs0⟩ := hK 0 W h0
  refine callsIn_of_wp Tryd.func50 rfl trivial ?_ rfl
  simp only [Tryd.ntmps50, List.size_toArray, List.length_cons, List.length_nil, Nat.reduceAdd, Nat.reduceSub, Array.replicate_succ, Array.replicate_zero, List.push_toArray, List.append_toArray, List.nil_append, List.cons_append]
  gi_wp2
  gi_loopw [7, 4] (fun i _ wr => ∃ k : Nat, k ≤ l.length ∧ i = .int .i64 k ∧ J k wr) (fun i _ _ => l.length - (intOf i).toNat)
  case atStart => exact ⟨0, by omega, rfl, h0⟩
  case round =>
    obtain ⟨k, hk, rfl, hj⟩ := hrel
    by_cases hlt : k < l.length
    · obtain ⟨hc, hs⟩ := hK _ _ hj
      obtain ⟨b, off, hP, g0⟩ := hs.intAt k hlt
      rw [show l.getD k 0 = nthI l k from rfl] at g0
      subst hP
      have c1 : (k : Int) < l.length := by omega
      have hw2 : IntKind.i64.wrap ((k : Int) + 1) = k + 1 := IntWalk.i64_in _ ⟨by omega, by omega⟩
      obtain ⟨fn, tmps, assign, body, hy, hR⟩ := hY k wr hj hlt
      gi_wp2_with (refine ⟨rfl, ?_⟩; refine hR.mono ?_; intro e W3 h3; rcases yield_cases h3 with ⟨ch, rfl, hp3⟩ | ⟨t, rfl, h4⟩; exact ⟨rfl, .inr ⟨k, ch, hlt, rfl, hp3⟩⟩; clear h3; rcases h4 with ⟨rfl, hj3⟩ | ⟨rfl, hx3⟩)
      all_goals first
        | (go_roundw
           case rel => exact ⟨k + 1, by omega, by go_num, hj3⟩
           case measure => simp [intOf, hw2]; omega)
        | (refine bodyPost_ret (results_none rfl _ _ _) rfl ?_
           exact .inl ⟨⟨_, rfl⟩, .inr ⟨k, hlt, hx3⟩⟩)
    · obtain rfl : k = l.length := by omega
      gi_wp2
      go_end0
      exact .inl ⟨⟨_, rfl⟩, .inl hj⟩
theorem SlG.below {α : Type} {cs : α → List Value} {w A B : World} {P : Option Addr} {cap n : Nat} {l : List α} (h : SlG cs w P cap l) (hA : SlG cs A P cap l) (hb : Below n A B) (hn : w.heap.size ≤ n) : SlG cs B P cap l := by
  refine ⟨fun i x hi => ?_, h.le, h.cap⟩
  obtain ⟨b, off, e, h1⟩ := hA.at_ i x hi
  obtain ⟨b', off', e', h2⟩ := h.at_ i x hi
  rw [e] at e'
  injection e' with e'
  injection e' with e1 e2
  subst e1 e2
  refine ⟨b, off, e, fun j v hj => ?_⟩
  have hlt := block_lt (h2 j v hj)
  simp only at hlt
  rw [Below.cell hb (by show b < n; omega)]
  exact h1 j v hj
set_option maxHeartbeats 2000000 in
theorem circf_any (n : Int) (hn : -9223372036854775808 ≤ n ∧ n ≤ 9223372036854775807) (c : Nat) (w : World) {base m : Nat} {es : List Ed} (h : EdM w base m es) (hb : w.cell? ⟨c, 0, none⟩ = some (.map (some m))) (hl : es.length ≤ 100000) :
    Calls Tryd.prog 30 #[.int .i64 n, .pointer (some ⟨c, 0, none⟩)] w fun e w' => (∃ v', e = .returned v' ∧ OwnI w' w.heap.size v' (nextU es n)) ∧ Ext w w' := by
  have hkey := key_i hn.1 hn.2
  obtain ⟨v, hr, ho, _⟩ := h.look hkey
  have hol := outE_len es n
  obtain ⟨P, cap, rfl, hs⟩ := ho.slG elemI (by omega)
  have hV := values_any P (outE es n).length cap w
  have hx1 : Ext w (w.alloc (.cells #[.slice P (outE es n).length cap] 30)) := (Ext.refl w).alloc _
  have hseq := values_seq P cap (outE es n) w.heap.size (by omega)
  have hSo := sorted_any 50 #[.pointer (some ⟨w.heap.size, 0, none⟩)] (nthI (outE es n)) (outE es n).length _ hseq (enters_of Tryd.func50 (by kernel_rfl) rfl) (by omega) (w.alloc (.cells #[.slice P (outE es n).length cap] 30))
    ⟨(Boxed.new w 30 (.slice P (outE es n).length cap)).cell, hs.ext hx1⟩ (fun A B hx hK => by
      rw [World.size_alloc] at hx
      exact ⟨(World.cell?_of_block (hx.block w.heap.size (by omega))).trans hK.1, SlG.below hs hK.2 hx (by omega)⟩)
  rw [range_nth] at hSo
  have hCm := fun W v (h : OwnI W (w.heap.size + 1) v (sortI (outE es n))) => lcompact_any (sortI (outE es n)) v (w.heap.size + 1) W h (by rw [sortI_len]; omega)
  rw [compact_sortU (s := outE es n) (m := outE es n) (fun x => Iff.rfl), ← nextU_out] at hCm
  rw [World.size_alloc] at hSo
  generalize outE es n = L at *
  generalize nextU es n = N at *
  clear hseq hs h ho
  go_enter Tryd.func30, Tryd.ntmps30
  go_wp2_with (first
    | (go_at_call 33; refine hV.mono ?_; rintro e w1 ⟨rfl, h1⟩; subst w1)
    | (go_at_call 32; refine hSo.mono ?_; rintro e w2 ⟨⟨v2, rfl, ho2⟩, hx2⟩)
    | (go_at_call 31; refine (hCm w2 v2 ho2).mono ?_; rintro e w3 ⟨v3, rfl, ho3, hg3⟩))
  go_ret
  refine ⟨⟨_, rfl, OwnG.down ho3 (by omega)⟩, ?_⟩
  have hb2 := ho2.base_
  exact Below.grown (hx1.trans hx2) hg3 (hx1.trans hx2).size (fun k hk => by have := hb2 k hk; omega)
end
section
open Go.RowKit Go.Maps
set_option linter.unusedVariables false
set_option linter.unusedSimpArgs false
set_option linter.unusedSectionVars false
set_option maxRecDepth 100000
attribute [local go_sem] Oper.semAt_some

abbrev Ok64 (x : Int) : Prop := -9223372036854775808 ≤ x ∧ x ≤ 9223372036854775807
/-- whether a circle cannot be asked for -/
def badC (l : List Ed) (s : Int) : Bool := decide (s < 0) || l.any negE
theorem lCircle_bad (P : Option Addr) (cap : Nat) (l : List Ed) (s : Int) (w : World) (h : SlE w P cap l) (hb : badC l s = true) :
    Calls Tryd.prog 12 #[.slice P l.length cap, .int .i64 s] w fun e w' => e = .returned (.tuple #[.slice none 0 0, .bool false, .int .i64 7]) ∧ Ext w w' := by
  have hC := containsneg_any P cap l w h
  unfold badC at hb
  by_cases hs : s < 0
  · have d : decide (s < 0) = true := decide_eq_true hs
    go_enter Tryd.func12, Tryd.ntmps12
    go_wp2_with (first | (refine ⟨trivial, ?_⟩) | (with_reducible refine And.intro (fun _ hf => (by cases hf)) ?_))
    go_ret3
    exact ⟨rfl, Ext.refl _⟩
  · have d : decide (s < 0) = false := decide_eq_false hs
    rw [d, Bool.false_or] at hb
    rw [hb] at hC
    go_enter Tryd.func12, Tryd.ntmps12
    go_wp2_with (first
      | (go_at_call 27; refine hC.mono ?_; rintro e w1 ⟨rfl, hx1⟩)
      | (refine ⟨trivial, ?_⟩) | (with_reducible refine And.intro (fun _ hf => (by cases hf)) ?_))
    go_ret3
    exact ⟨rfl, hx1⟩
set_option maxHeartbeats 8000000 in
theorem lCircle_ok (P : Option Addr) (cap : Nat) (l : List Ed) (s : Int) (w : World) (h : SlE w P cap l) (hb : badC l s = false) (hl : l.length ≤ 1000) (hs : Ok64 s) (hr : ∀ e ∈ l, Ok64 e.1 ∧ Ok64 e.2) :
    Calls Tryd.prog 12 #[.slice P l.length cap, .int .i64 s] w fun e w' => (∃ P' c', e = .returned (.tuple #[.slice P' ((circF l s).getD []).length c', .bool (circF l s).isSome, .int .i64 0]) ∧ SlI w' P' c' ((circF l s).getD [])) ∧ Ext w w' := by
  have hC := containsneg_any P cap l w h
  unfold badC at hb
  rw [Bool.or_eq_false_iff] at hb
  obtain ⟨hb1, hb2⟩ := hb
  rw [hb2] at hC
  have hsn : ¬ s < 0 := by simpa using hb1
  have hcap := h.cap
  have hlec := h.le
  have hmm := @run_makeMap Tryd.prog
  have c4 : ¬ (1000 : Int) < l.length := by omega
  have HH := Lib.hid (And.intro h (And.intro hs hr))
  clear h hr hb2 hs
  go_enter Tryd.func12, Tryd.ntmps12
  go_wp2_with (first
    | (go_at_call 27; refine hC.mono ?_; rintro e w1 ⟨rfl, hx1⟩)
    | (refine ⟨trivial, ?_⟩) | (with_reducible refine And.intro (fun _ hf => (by cases hf)) ?_))
  obtain ⟨W0, hW0⟩ : ∃ W0, (w1.alloc (.map #[] 0)).alloc (.cells #[.map (some w1.heap.size)] 54) = W0 := ⟨_, rfl⟩
  have hE0 : EdM W0 (w1.heap.size + 2) w1.heap.size [] := by rw [← hW0]; exact (EdM.made w1 _).ext ((Ext.refl _).alloc _)
  have hB0 : Boxed W0 (w1.heap.size + 1) 54 (.map (some w1.heap.size)) := by
    have := Boxed.new (w1.alloc (.map #[] 0)) 54 (.map (some w1.heap.size))
    rw [World.size_alloc] at this
    rw [← hW0]
    exact this
  have hx0 : Ext w W0 := by rw [← hW0]; exact (hx1.alloc _).alloc _
  have hz0 : W0.heap.size = w1.heap.size + 2 := by rw [← hW0]; simp only [World.size_alloc]
  try rw [hW0]
  have hw1 := hx1.size
  clear hW0 hmm hC
  go_loopw [23] (fun i W => ∃ j : Nat, j ≤ l.length ∧ i = .int .i64 j ∧ EdM W (w1.heap.size + 2) w1.heap.size (l.take j) ∧ Boxed W (w1.heap.size + 1) 54 (.map (some w1.heap.size)) ∧ Ext w W ∧ w1.heap.size + 2 ≤ W.heap.size) (fun i _ => l.length - (intOf i).toNat)
  case atStart => exact ⟨0, by omega, rfl, hE0, hB0, hx0, by omega⟩
  case round =>
    obtain ⟨j, hj, rfl, hE, hB, hx, hsz⟩ := hrel
    by_cases hlt : j < l.length
    · obtain ⟨e, hs⟩ : ∃ e, l[j]? = some e := ⟨_, List.getElem?_eq_getElem hlt⟩
      obtain ⟨bb, off, hP, g0, g1⟩ := SlE.at2 (HH.out.1.ext hx) j e hs
      subst hP
      have cj : (j : Int) < l.length := by omega
      have d1 : IntKind.i64.wrap ((j : Int) + 1) = (j : Int) + 1 := IntWalk.i64_in _ ⟨by omega, by omega⟩
      have hre := HH.out.2.2 e (List.mem_of_getElem? hs)
      have hkey := key_i hre.1.1 hre.1.2
      have HT := Lib.hid (show l.take (j + 1) = l.take j ++ [e] from by rw [List.take_add_one, hs, Option.toList_some])
      obtain ⟨W8, hW8⟩ : ∃ W8, wr.alloc (.cells #[.int .i64 e.1, .int .i64 e.2] 52) = W8 := ⟨_, rfl⟩
      have hx8 : Ext wr W8 := by rw [← hW8]; exact (Ext.refl _).alloc _
      have hB8 : BoxN W8 wr.heap.size 52 #[.int .i64 e.1, .int .i64 e.2] := by rw [← hW8]; exact BoxN.new wr 52 _
      have hz8 : W8.heap.size = wr.heap.size + 1 := by rw [← hW8, World.size_alloc]
      have hE8 := (hE.ext hx8).ext (Ext.refl W8).drew
      have hBo8 : Boxed W8.drew (w1.heap.size + 1) 54 (.map (some w1.heap.size)) := (hx8.trans (Ext.refl W8).drew).heap hB
      obtain ⟨v, v', w9, w10, hr1, hr2, hr3, hr4, hE10, hu10, hu9, hsv, hov, hvm⟩ := hE8.step e hkey (by rw [List.length_take]; omega) (by show _ ≤ W8.heap.size; omega) 30
      have s0 : W8.drew.cell? ⟨w1.heap.size + 1, 0, none⟩ = some (.map (some w1.heap.size)) := hBo8.cell
      have s1 : W8.drew.cell? ⟨wr.heap.size, 0, none⟩ = some (.int .i64 e.1) := hB8.cell (i := 0) rfl
      have s2 : W8.drew.cell? ⟨wr.heap.size, 1, none⟩ = some (.int .i64 e.2) := hB8.cell (i := 1) rfl
      have HFIN := Lib.hid (show EdM w10 (w1.heap.size + 2) w1.heap.size (l.take (j + 1)) ∧ Boxed w10 (w1.heap.size + 1) 54 (.map (some w1.heap.size)) ∧ Ext w w10 ∧ w1.heap.size + 2 ≤ w10.heap.size from by
        refine ⟨by rw [HT.out]; exact hE10, Boxed.upd (T := 54) (v := .map (some w1.heap.size)) hBo8 hu10 (by omega), UpdF.ext ((hx.trans hx8).drew) hu10 (fun i hi => by omega), ?_⟩
        have := hu10.size
        have : W8.drew.heap.size = W8.heap.size := rfl
        omega)
      have HZ8 := Lib.hid hz8
      have hvb : v.ownBlock ≠ some wr.heap.size := by
        rcases hov.not_loop (S := wr.heap.size) (o := .cells #[.int .i64 e.1, .int .i64 e.2] 52 (0, 0)) hB8 (fun c e => by injection e with _ e _; exact absurd e (by decide)) with h | h
        · rw [h]; simp
        · exact h
      have hvc : v.ownBlock ≠ some (w1.heap.size + 1) := fun e => by have := hov.base_ _ e; omega
      have HVB := Lib.hid (And.intro hvb (And.intro hvc hvm))
      clear hE hB hE8 hBo8 hE10 hu10 hB8 hs hz8 hov hvb hvc hvm
      go_wp2_with (fail)
      refine wp_region_noPanic ?_
      refine wp_region_F (fun w' => w'.cell? ⟨w1.heap.size + 1, 0, none⟩ = some (.map (some w1.heap.size)) ∧ w'.cell? ⟨wr.heap.size, 0, none⟩ = some (.int .i64 e.1) ∧ w'.cell? ⟨wr.heap.size, 1, none⟩ = some (.int .i64 e.2) ∧ (Instr.lookup 54 (.map (some w1.heap.size)) (.int .i64 e.1) false).run Tryd.prog w' = .ok v w') 11 (by kernel_rfl) ?_
      refine wpAnyF_take (i := 0) (v := .map (some w1.heap.size)) (fuel := 11) rfl (by kernel_rfl) (by kernel_rfl) (by kernel_rfl) (by kernel_rfl) (by kernel_rfl) rfl (fun _ _ _ h => h) (.inl ⟨rfl, fun W hS => by obtain ⟨e2, e3, e4, e5⟩ := hS; go_simp⟩) ⟨s0, s1, s2, hr2 _ rfl⟩ ?_
      refine wpAnyF_take (i := 1) (v := .pointer (some ⟨wr.heap.size, 0, none⟩)) (fuel := 10) rfl (by kernel_rfl) (by kernel_rfl) (by kernel_rfl) (by kernel_rfl) (by kernel_rfl) rfl (fun _ _ _ h => h) (.inl ⟨rfl, fun W hS => by obtain ⟨e2, e3, e4, e5⟩ := hS; go_simp⟩) ⟨s0, s1, s2, hr2 _ rfl⟩ ?_
      refine wpAnyF_take (i := 2) (v := .int .i64 e.1) (fuel := 9) rfl (by kernel_rfl) (by kernel_rfl) (by kernel_rfl) (by kernel_rfl) (by kernel_rfl) rfl (fun _ _ _ h => h) (.inl ⟨rfl, fun W hS => by obtain ⟨e2, e3, e4, e5⟩ := hS; go_simp⟩) ⟨s0, s1, s2, hr2 _ rfl⟩ ?_
      refine wpAnyF_take (i := 3) (v := .map (some w1.heap.size)) (fuel := 8) rfl (by kernel_rfl) (by kernel_rfl) (by kernel_rfl) (by kernel_rfl) (by kernel_rfl) rfl (fun _ _ _ h => h) (.inl ⟨rfl, fun W hS => by obtain ⟨e2, e3, e4, e5⟩ := hS; go_simp⟩) ⟨s0, s1, s2, hr2 _ rfl⟩ ?_
      refine wpAnyF_take (i := 4) (v := .pointer (some ⟨wr.heap.size, 0, none⟩)) (fuel := 7) rfl (by kernel_rfl) (by kernel_rfl) (by kernel_rfl) (by kernel_rfl) (by kernel_rfl) rfl (fun _ _ _ h => h) (.inl ⟨rfl, fun W hS => by obtain ⟨e2, e3, e4, e5⟩ := hS; go_simp⟩) ⟨s0, s1, s2, hr2 _ rfl⟩ ?_
      refine wpAnyF_take (i := 5) (v := .int .i64 e.1) (fuel := 6) rfl (by kernel_rfl) (by kernel_rfl) (by kernel_rfl) (by kernel_rfl) (by kernel_rfl) rfl (fun _ _ _ h => h) (.inl ⟨rfl, fun W hS => by obtain ⟨e2, e3, e4, e5⟩ := hS; go_simp⟩) ⟨s0, s1, s2, hr2 _ rfl⟩ ?_
      refine wpAnyF_take (i := 6) (v := v) (fuel := 5) rfl (by kernel_rfl) (by kernel_rfl) (by kernel_rfl) (by kernel_rfl) (by kernel_rfl) rfl (fun _ _ _ h => h) (.inl ⟨rfl, fun W hS => by obtain ⟨e2, e3, e4, e5⟩ := hS; go_simp⟩) ⟨s0, s1, s2, hr2 _ rfl⟩ ?_
      refine wpAnyF_take (i := 7) (v := .pointer (some ⟨wr.heap.size, 1, none⟩)) (fuel := 4) rfl (by kernel_rfl) (by kernel_rfl) (by kernel_rfl) (by kernel_rfl) (by kernel_rfl) rfl (fun _ _ _ h => h) (.inl ⟨rfl, fun W hS => by obtain ⟨e2, e3, e4, e5⟩ := hS; go_simp⟩) ⟨s0, s1, s2, hr2 _ rfl⟩ ?_
      refine wpAnyF_take (i := 8) (v := .int .i64 e.2) (fuel := 3) rfl (by kernel_rfl) (by kernel_rfl) (by kernel_rfl) (by kernel_rfl) (by kernel_rfl) rfl (fun _ _ _ h => h) (.inl ⟨rfl, fun W hS => by obtain ⟨e2, e3, e4, e5⟩ := hS; go_simp⟩) ⟨s0, s1, s2, hr2 _ rfl⟩ ?_
      have ha1 : (w1.heap.size + 1) < W8.heap.size := by have := HZ8.out; omega
      have hxa : Ext W8.drew (W8.drew.alloc (.cells #[.int .i64 e.2] 3)) := (Ext.refl _).alloc _
      have t0 := hxa.cell s0
      have t1 := hxa.cell s1
      have t2 := hxa.cell s2
      have t3 := hr2 (W8.drew.alloc (.cells #[.int .i64 e.2] 3)) (hxa.block (by show _ < W8.heap.size; omega))
      refine wpAnyF_one (i := 9) (fuel := 2) rfl (by kernel_rfl) rfl fun K' hK => ?_
      go_simp
      refine hK _ _ (fun _ => ⟨t0, t1, t2, t3⟩) ?_
      clear hK K'
      refine wpAnyF_one (i := 10) (fuel := 1) rfl (by kernel_rfl) rfl fun K' hK => ?_
      refine wp_append_at (.tmp 33) (.tmp 36) 30 rfl v (.slice (some ⟨W8.drew.heap.size, 0, none⟩) 1 1) rfl rfl hr3 ?_
      refine hK _ _ (fun _ => ?_) ?_
      · exact ⟨hu9.cell t0 HVB.out.2.1, hu9.cell t1 HVB.out.1, hu9.cell t2 HVB.out.1, hr2 _ ((hu9.block _ (by rw [World.size_alloc]; show _ < W8.heap.size + 1; omega) HVB.out.2.2).trans (hxa.block (by show _ < W8.heap.size; omega)))⟩
      clear hK K'
      refine wpAnyF_one (i := 11) (fuel := 0) rfl (by kernel_rfl) rfl fun K' hK => ?_
      go_simp
      refine hK _ _ (fun h => by simp at h) ?_
      clear hK K'
      refine wpAnyF_done (by kernel_rfl) ?_ 0
      refine NoPanic.normal ?_
      clear s0 s1 s2 t0 t1 t2 t3 hr1 hr2 hr3 hr4
      go_wp2_with (fail)
      go_roundw
      case rel => exact ⟨j + 1, by omega, by go_num, HFIN.out⟩
      case measure => simp [intOf, d1]; omega
    · obtain rfl : j = l.length := by omega
      rw [List.take_length] at hE
      have hSh := shortest_cc l s (w1.heap.size + 1) wr (by omega) (fun e he => (HH.out.2.2 e he).2) HH.out.2.1 (fun W n hxW hn => circf_any n hn (w1.heap.size + 1) W (hE.ext hxW) ((Boxed.cell (t := 54) hB) |> hxW.cell) (by omega))
      have hmf : ∀ (fn : Fn) (first cap : Array Value) (w : World), (Instr.makeFunc fn first cap).run Tryd.prog w = .ok (.func fn first cap) w := fun _ _ _ _ => rfl
      have HPOS := Lib.hid (show decide (0 < ((circF l s).getD []).length) = (circF l s).isSome from by
        cases hc : circF l s with
        | none => rfl
        | some c =>
          have := (circF_out hc).1
          have hlc : 0 < c.length := List.length_pos_iff.2 this
          rw [Option.getD_some, decide_eq_true (by omega)]
          rfl)
      obtain ⟨R, hR⟩ : ∃ R, circF l s = R := ⟨_, rfl⟩
      rw [hR] at hSh HPOS
      have HR := Lib.hid hR
      clear hE hB hR
      go_wp2_with (go_at_call 29; refine hSh.mono ?_; rintro e w5 ⟨⟨P5, c5, rfl, hs5, hP5⟩, hx5⟩)
      go_ret3
      exact ⟨⟨P5, c5, by rw [HR.out]; exact congrArg (fun b => Ending.returned (.tuple #[.slice P5 (R.getD []).length c5, .bool b, .int .i64 0])) HPOS.out, by rw [HR.out]; exact hs5⟩, hx.trans hx5⟩
end
section
set_option linter.unusedVariables false
set_option linter.unusedSimpArgs false

/-- the candidates of a way among the first k edges -/
def candK (E : List Ed) (w : List Int) (k : Nat) : List (List Int × Int) := ((E.take k).filter fun e => decide (e.1 = endW w)).map fun e => (w, e.2)
theorem candK_succ {E : List Ed} {w : List Int} {k : Nat} {e : Ed} (h : E[k]? = some e) : candK E w (k + 1) = candK E w k ++ (if e.1 = endW w then [(w, e.2)] else []) := by
  unfold candK
  rw [List.take_add_one, h, Option.toList_some, List.filter_append, List.map_append]
  congr 1
  by_cases hv : e.1 = endW w
  · rw [if_pos hv]; simp [hv]
  · rw [if_neg hv]; simp [hv]
theorem candR_succ {E : List Ed} {ws : List (List Int)} {i : Nat} {w : List Int} (h : ws[i]? = some w) : candR E (ws.take (i + 1)) = candR E (ws.take i) ++ candK E w E.length := by
  unfold candR candK candW
  rw [List.take_add_one, h, Option.toList_some, List.flatMap_append, List.take_length]
  simp
/-- the state behind some candidates -/
def stR (s : Int) (met : List Int) (C : List (List Int × Int)) : LvR := C.foldl (stepR s met) (none, [], [])
theorem stR_snoc (s : Int) (met : List Int) (C : List (List Int × Int)) (c : List Int × Int) : stR s met (C ++ [c]) = stepR s met (stR s met C) c := by
  unfold stR
  rw [List.foldl_append]
  rfl
theorem stepR_fd {s : Int} {met : List Int} {t : LvR} {c : List Int × Int} (h : t.2.2 = t.2.1.map endW) : (stepR s met t c).2.2 = (stepR s met t c).2.1.map endW := by
  unfold stepR
  split
  · split
    · exact h
    · split <;> exact h
  · split
    · exact h
    · split
      · simp only [List.map_append, h, List.map_cons, List.map_nil, endW_app]
      · next i hi =>
        split
        · obtain ⟨h1, h2⟩ := (haveR_spec t.2.1 c.2).2 i hi
          simp only [h]
          apply List.ext_getElem
          · simp
          · intro j a1 a2
            simp only [List.getElem_map, List.getElem_set]
            split
            · next hij =>
              subst hij
              rw [endW_app, ← h2, List.getD_eq_getElem?_getD, List.getElem?_eq_getElem h1]
              rfl
            · rfl
        · exact h
theorem stR_fd (s : Int) (met : List Int) (C : List (List Int × Int)) : (stR s met C).2.2 = (stR s met C).2.1.map endW := by
  induction C using snoc_ind with
  | h0 => rfl
  | h1 C c ih => rw [stR_snoc]; exact stepR_fd ih
theorem nodup_sub_len : ∀ {l m : List Int}, l.Nodup → (∀ x ∈ l, x ∈ m) → l.length ≤ m.length
  | [], _, _, _ => by simp
  | x :: l, m, hn, h => by
    obtain ⟨h1, h2⟩ := List.nodup_cons.1 hn
    have hx := h x (List.mem_cons_self ..)
    have ih := nodup_sub_len (m := m.erase x) h2 (fun y hy => (List.mem_erase_of_ne (a := y) (b := x) (fun e => h1 (by rw [← e]; exact hy))).2 (h y (List.mem_cons_of_mem _ hy)))
    rw [List.length_erase_of_mem hx] at ih
    have : 0 < m.length := List.length_pos_of_mem hx
    simp only [List.length_cons]
    omega
/-- what is known of the state -/
structure StF (E : List Ed) (s : Int) (met : List Int) (n : Nat) (t : LvR) : Prop where
  best : ∀ b, t.1 = some b → b.length = n
  len : ∀ x ∈ t.2.1, x.length = n + 1
  fd : t.2.2 = t.2.1.map endW
  nodup : t.2.2.Nodup
  out : ∀ v ∈ t.2.2, v ∉ met ∧ ∃ u, (u, v) ∈ E
  le : t.2.1.length ≤ E.length
theorem stF {E : List Ed} {s : Int} {met : List Int} {n : Nat} {C : List (List Int × Int)} (hC : ∀ c ∈ C, c.1.length = n ∧ ∃ u, (u, c.2) ∈ E) : StF E s met n (stR s met C) := by
  have L : LvOk s met n C (stR s met C) := lv_ok s met n C (fun c hc => (hC c hc).1)
  have hfd := stR_fd s met C
  have hnd : (stR s met C).2.2.Nodup := by
    rw [hfd]
    refine List.pairwise_iff_getElem.2 (fun i j hi hj hij e => ?_)
    simp only [List.getElem_map, List.length_map] at e hi hj
    have := L.uniq i j _ _ (List.getElem?_eq_getElem hi) (List.getElem?_eq_getElem hj) e
    omega
  have hout : ∀ v ∈ (stR s met C).2.2, v ∉ met ∧ ∃ u, (u, v) ∈ E := fun v hv => by
    obtain ⟨x, hx, rfl⟩ := (L.fd v).1 hv
    obtain ⟨w, v, rfl, h2, h3, h4, _⟩ := L.good x hx
    rw [endW_app]
    exact ⟨h4, (hC _ h2).2⟩
  refine ⟨fun b hb => (hC _ (L.best b hb).1).1, fun x hx => ?_, hfd, hnd, hout, ?_⟩
  · obtain ⟨w, v, rfl, h2, _⟩ := L.good x hx
    rw [List.length_append, (hC _ h2).1]
    rfl
  · have h1 := nodup_sub_len (m := E.map (·.2)) hnd (fun v hv => by
      obtain ⟨_, u, hu⟩ := hout v hv
      exact List.mem_map.2 ⟨(u, v), hu, rfl⟩)
    rw [hfd, List.length_map, List.length_map] at h1
    exact h1
theorem cand_ok {E : List Ed} {ws : List (List Int)} {n : Nat} (hl : ∀ w ∈ ws, w.length = n) {i k : Nat} {w : List Int} (hw : w ∈ ws) : ∀ c ∈ candR E (ws.take i) ++ candK E w k, c.1.length = n ∧ ∃ u, (u, c.2) ∈ E := fun c hc => by
  rcases List.mem_append.1 hc with hc | hc
  · have h1 := cand_iff.1 (show (c.1, c.2) ∈ candR E (ws.take i) from hc)
    exact ⟨hl _ (List.mem_of_mem_take h1.1), _, h1.2⟩
  · unfold candK at hc
    obtain ⟨e, he, rfl⟩ := List.mem_map.1 hc
    have h1 := (List.mem_filter.1 he).1
    exact ⟨hl _ hw, e.1, List.mem_of_mem_take h1⟩
theorem cand_ok0 {E : List Ed} {ws : List (List Int)} {n : Nat} (hl : ∀ w ∈ ws, w.length = n) {i : Nat} : ∀ c ∈ candR E (ws.take i), c.1.length = n ∧ ∃ u, (u, c.2) ∈ E := fun c hc => by
  have h1 := cand_iff.1 (show (c.1, c.2) ∈ candR E (ws.take i) from hc)
  exact ⟨hl _ (List.mem_of_mem_take h1.1), _, h1.2⟩
/-- a level of the reference's search -/
structure LvQ (E : List Ed) (s : Int) (f n : Nat) (ws : List (List Int)) (met : List Int) : Prop where
  eq : circR E s f ws met = circF E s
  fuel : ws = [] ∨ unmet E met < f
  len : ∀ w ∈ ws, w.length = n
  pos : 1 ≤ n
  fn : n + f ≤ E.length + 2
  wl : ws.length ≤ E.length + 1
  ml : met.length + unmet E met ≤ E.length + 1
theorem LvQ.first (E : List Ed) (s : Int) : LvQ E s (E.length + 1) 1 [[s]] [s] :=
  ⟨circ_same (nextU_iff E) (fun u => sortU_sorted _) _ 1 [[s]] [[s]] [] [s] (LvRel.first s), .inr (by have := unmet_le E [s]; omega), by simp, Nat.le_refl _, by omega, by simp, by have := unmet_le E [s]; simp; omega⟩
theorem LvQ.no {E : List Ed} {s : Int} {f n : Nat} {met : List Int} (h : LvQ E s f n [] met) : circF E s = none := by
  rw [← h.eq]
  cases f <;> simp [circR]
theorem LvQ.found {E : List Ed} {s : Int} {f n : Nat} {ws : List (List Int)} {met b : List Int} (h : LvQ E s f n ws met) (hne : ws ≠ []) (hb : (stR s met (candR E ws)).1 = some b) : circF E s = some b := by
  rw [← h.eq]
  cases f with
  | zero =>
    rcases h.fuel with h1 | h1
    · exact absurd h1 hne
    · omega
  | succ f =>
    unfold circR
    rw [if_neg hne]
    have hb' : (levR E s met ws).1 = some b := hb
    rw [hb']
theorem LvQ.step {E : List Ed} {s : Int} {f n : Nat} {ws : List (List Int)} {met : List Int} (h : LvQ E s f n ws met) (hne : ws ≠ []) (hb : (stR s met (candR E ws)).1 = none) : ∃ f', f = f' + 1 ∧ LvQ E s f' (n + 1) (stR s met (candR E ws)).2.1 (met ++ (stR s met (candR E ws)).2.2) := by
  have hu : unmet E met < f := by
    rcases h.fuel with h1 | h1
    · exact absurd h1 hne
    · exact h1
  have hF : StF E s met n (stR s met (candR E ws)) := stF (by have := cand_ok0 (E := E) h.len (i := ws.length); rwa [List.take_length] at this)
  have hun := unmet_new (E := E) (stR s met (candR E ws)).2.2 met hF.nodup hF.out
  cases f with
  | zero => omega
  | succ f =>
    refine ⟨f, rfl, ?_, ?_, hF.len, by have := h.pos; omega, by have := h.fn; omega, by have := hF.le; omega, ?_⟩
    · rw [← h.eq]
      conv => rhs; unfold circR
      have hb' : (levR E s met ws).1 = none := hb
      rw [if_neg hne, hb']
      rfl
    · by_cases he : (stR s met (candR E ws)).2.1 = []
      · exact .inl he
      · have : 0 < (stR s met (candR E ws)).2.2.length := by
          rw [hF.fd, List.length_map]
          exact List.length_pos_iff.2 he
        exact .inr (by omega)
    · rw [List.length_append]
      have := h.ml
      omega
end
section
open Go.RowKit Go.Maps
set_option linter.unusedVariables false
set_option linter.unusedSimpArgs false
set_option linter.unusedSectionVars false
set_option maxRecDepth 100000
attribute [local go_sem] Oper.semAt_some

theorem ltL_at {a b : List Int} {k : Nat} (ha : k < a.length) (hb : k < b.length) (hp : ∀ i, i < k → nthI a i = nthI b i) (hne : nthI a k ≠ nthI b k) : ltL a b = decide (nthI a k < nthI b k) := by
  have e1 : a = a.take k ++ nthI a k :: a.drop (k + 1) := by
    have : nthI a k = a[k] := by simp [nthI, List.getD_eq_getElem?_getD, ha]
    rw [this, ← List.drop_eq_getElem_cons ha, List.take_append_drop]
  have e2 : b = b.take k ++ nthI b k :: b.drop (k + 1) := by
    have : nthI b k = b[k] := by simp [nthI, List.getD_eq_getElem?_getD, hb]
    rw [this, ← List.drop_eq_getElem_cons hb, List.take_append_drop]
  have e3 : a.take k = b.take k := by
    apply List.ext_getElem
    · rw [List.length_take, List.length_take]; omega
    · intro i h1 h2
      rw [List.length_take] at h1
      have := hp i (by omega)
      simp only [List.getElem_take]
      simpa [nthI, List.getD_eq_getElem?_getD, show i < a.length from by omega, show i < b.length from by omega] using this
  generalize hx : nthI a k = x at *
  generalize hy : nthI b k = y at *
  rw [e1, e2, e3, ltL_same]
  unfold ltL
  rw [if_neg hne]
theorem ltL_eq {a b : List Int} (hl : a.length = b.length) (hp : ∀ i, i < a.length → nthI a i = nthI b i) : ltL a b = false := by
  have : a = b := by
    apply List.ext_getElem hl
    intro i h1 h2
    have := hp i h1
    simpa [nthI, List.getD_eq_getElem?_getD, h1, h2] using this
  rw [this, ltL_irr]
set_option maxHeartbeats 2000000 in
theorem rsmaller_any {Pa Pb : Option Addr} {ca cb : Nat} {a b : List Int} (w : World) (ha : SlI w Pa ca a) (hb : SlI w Pb cb b) (hl : a.length = b.length) (hlen : a.length ≤ 1000000000000) :
    Calls Tryd.prog 51 #[.slice Pa a.length ca, .slice Pb b.length cb] w fun e w' => e = .returned (.bool (ltL a b)) ∧ Ext w w' := by
  have hca := ha.cap
  have hcb := hb.cap
  have hla := ha.le
  have hlb := hb.le
  go_enter Tryd.func51, Tryd.ntmps51
  go_wp2_with (fail)
  go_loopw [5] (fun i W => ∃ k : Nat, k ≤ a.length ∧ i = .int .i64 k ∧ Hid (∀ i, i < k → nthI a i = nthI b i) ∧ Ext w W) (fun i _ => a.length - (intOf i).toNat)
  case atStart => exact ⟨0, by omega, rfl, Lib.hid (by intro i hi; omega), Ext.refl w⟩
  case round =>
    obtain ⟨k, hk, rfl, hall, hx⟩ := hrel
    by_cases hlt : k < a.length
    · obtain ⟨ba, oa, hPa, g0⟩ := (ha.ext hx).intAt k hlt
      obtain ⟨bb, ob, hPb, g1⟩ := (hb.ext hx).intAt k (by omega)
      subst hPa hPb
      have c1 : (k : Int) < a.length := by omega
      have c2 : (k : Int) < b.length := by omega
      have d1 : IntKind.i64.wrap ((k : Int) + 1) = (k : Int) + 1 := IntWalk.i64_in _ ⟨by omega, by omega⟩
      rw [show a.getD k 0 = nthI a k from rfl] at g0
      rw [show b.getD k 0 = nthI b k from rfl] at g1
      by_cases hne : nthI a k = nthI b k
      · have HY := Lib.hid (show ∀ i, i < k + 1 → nthI a i = nthI b i from fun i hi => by
          by_cases e : i = k
          · subst e; exact hne
          · exact hall.out i (by omega))
        have e1 : (nthI a k != nthI b k) = false := by rw [hne]; simp
        have e2 : (nthI a k == nthI b k) = true := by rw [hne]; simp
        generalize nthI a k = x at *
        generalize nthI b k = y at *
        clear hne hall
        go_wp2_with (fail)
        go_quiet (fail)
        go_wp2_with (fail)
        go_roundw
        case rel => exact ⟨k + 1, by omega, by go_num, HY, hx.drewN _⟩
        case measure => simp [intOf, d1]; omega
      · have HN := Lib.hid (ltL_at hlt (by omega) hall.out hne)
        have e1 : (nthI a k != nthI b k) = true := by simpa using hne
        have e2 : (nthI a k == nthI b k) = false := by simpa using hne
        generalize hx0 : nthI a k = x at *
        generalize hy0 : nthI b k = y at *
        clear hne hall hx0 hy0
        go_wp2_with (fail)
        go_quiet (fail)
        go_wp2_with (fail)
        go_quiet (fail)
        go_wp2_with (fail)
        go_ret
        exact ⟨by rw [HN.out]; rfl, (hx.drewN _).drewN _⟩
    · obtain rfl : k = a.length := by omega
      have HN := Lib.hid (ltL_eq hl hall.out)
      clear hall
      go_wp2_with (fail)
      go_ret
      exact ⟨by rw [HN.out]; rfl, hx⟩
end
end Go.Proofs.YtaciedooeeklpaaDoor
