/- CaO; CaQ; ChJ; CaR; Map (merged by group.py) -/
import Derived.Test.YtcbinafokhekmaaDoorQ08
import Derived.Test.YtcbinafokhekmaaDoorQ09
import Derived.Test.YtcbinafokhekmaaDoorQ03
import Derived.Stop.RegionWithIn
import Derived.Sort.QuietIn
import Derived.Sort.LoopGhostIn
import Derived.Test.YtcbinafokhekmaaDoorQ06
import Derived.Shelf.Abstract
import Derived.WalkSmall
import Derived.Maps.AppendAt
import Derived.Test.YtcbinafokhekmaaDoorQ00
import Derived.Maps.OwnSet
namespace Go.Proofs.YtcbinafokhekmaaDoor
section
open Go.RowKit
set_option linter.unusedVariables false
set_option maxRecDepth 20000
set_option linter.unusedSimpArgs false
set_option linter.unusedSectionVars false
set_option maxRecDepth 100000
attribute [local go_sem] Oper.semAt_some

def txB (l : List Vl) : ByteArray := ⟨(textL l).toArray⟩
theorem textL_le (l : List Vl) : (textL l).length ≤ 2000 := by
  unfold textL
  split
  · rename_i hr
    unfold rowB at hr
    rw [Bool.and_eq_true, List.all_eq_true] at hr
    have h8 := of_decide_eq_true hr.2
    have := textK_le hr.1 l.length (Nat.le_refl _)
    have e : textK l l.length = Lib.join (l.map wrL) [44] := by
      unfold textK
      rw [List.take_length]
    rw [e] at this
    omega
  · simp
theorem txB_size (l : List Vl) : (txB l).size ≤ 2000 := by
  have := textL_le l
  show (textL l).toArray.size ≤ 2000
  simpa using this
theorem hashN_in (s : ByteArray) : ∀ n, 0 ≤ hashN s n ∧ hashN s n ≤ 18446744073709551615
  | 0 => by
    unfold hashN
    omega
  | n + 1 => by
    show 0 ≤ hstep _ _ ∧ hstep _ _ ≤ _
    unfold hstep
    generalize bits .xor .u64 (hashN s n) ((byteU s n).toNat : Int) * 1099511628211 = z
    simp [IntKind.wrap, IntKind.bits, IntKind.signed]
    omega
def homeV (row : List Vl) : Nat := (hashF (txB row)).toNat
theorem homeV_hash (row : List Vl) : (hashF (txB row)) = (homeV row : Int) := by
  unfold homeV
  have := (hashN_in (txB row) (txB row).size).1
  unfold hashF
  omega
theorem homeV_le (row : List Vl) : homeV row ≤ 18446744073709551615 := by
  unfold homeV hashF
  have := hashN_in (txB row) (txB row).size
  omega
/-- an entry's hash; an entry that may be -/
def hdH (x : Hd) : Nat := homeV x.1
def hdV (x : Hd) : Prop := rowB x.1 = true ∧ keyB x.2 = true
theorem mod_wrap (v h : Nat) (h1 : 1 ≤ h) (h2 : h ≤ 100) : wrap64 ((v : Int) % h) = ((v % h : Nat) : Int) := by
  have h3 := Nat.mod_lt v (show 0 < h by omega)
  rw [← Int.natCast_emod]
  exact IntWalk.wrap64_in _ ⟨by omega, by omega⟩
theorem rhome_any (P : Option Addr) (c : Nat) (row : List Vl) (h : Nat) (w : World) (hs : SlV w P c row) (hr : rowB row = true) (h1 : 1 ≤ h) (h2 : h ≤ 100) :
    Calls Tryd.prog 8 #[.slice P row.length c, .int .i64 h] w fun e w' => e = .returned (.tuple #[.int .i64 (homeV row % h : Nat), .int .i64 0]) ∧ Ext w w' := by
  have hV := rrow_any P c row w hs
  rw [hr] at hV
  have hT := fun W (hx : Ext w W) => rtext_any P c row W (hs.ext hx)
  have hH := fun W => rhash_any (txB row) W (by have := txB_size row; omega)
  rw [homeV_hash] at hH
  have hle := homeV_le row
  have c1 : (1 : Int) ≤ h := by omega
  have c2 : (h : Int) ≤ 100 := by omega
  have c3 : ¬ (h : Int) < 1 := by omega
  have c4 : ¬ (100 : Int) < h := by omega
  change ∀ W, Ext w W → Calls _ _ _ W fun e w' => e = .returned (.string (txB row)) ∧ Ext W w' at hT
  generalize txB row = X at *
  generalize homeV row = v at *
  have c5 : (v : Int) ≤ 18446744073709551615 := by omega
  go_enter Tryd.func8, Tryd.ntmps8
  go_wp2_with (first
    | (go_at_call 22; refine hV.mono ?_; rintro e w1 ⟨rfl, hx1⟩)
    | (go_at_call 23; refine (hT _ hx1).mono ?_; rintro e w2 ⟨rfl, hx2⟩)
    | (go_at_call 10; refine (hH _).mono ?_; rintro e w3 ⟨rfl, rfl⟩))
  go_ret2
  exact ⟨by rw [← mod_wrap v h h1 h2]; first | rfl | (simp; done) | (congr 1), hx1.trans hx2⟩
end
section
open Go.RowKit Go.Sort
set_option linter.unusedVariables false
set_option maxRecDepth 20000
set_option linter.unusedSimpArgs false
set_option linter.unusedSectionVars false
set_option maxRecDepth 100000
attribute [local go_sem] Oper.semAt_some

/-- place i of a path -/
def atP (p : List Nat) (i : Nat) : Nat := p.getD i 0
theorem atP_some {p : List Nat} {i : Nat} (h : i < p.length) : p[i]? = some (atP p i) := some_getD h
theorem stepF_at {p : List Nat} {i : Nat} (h : i < p.length) : stepF p i = (atP p i : Nat) := stepF_in h
theorem run_any (t : Nat) (n : Int) (w : World) :
    Calls Tryd.prog 58 #[.pointer (some ⟨t, 0, none⟩), .int .i64 n] w fun e w' => e = .returned (.func (.func 74) #[] #[.pointer (some ⟨w.heap.size + 1, 0, none⟩), .pointer (some ⟨w.heap.size, 0, none⟩)]) ∧ w' = (w.alloc (.cells #[.pointer (some ⟨t, 0, none⟩)] 38)).alloc (.cells #[.int .i64 n] 3) := by
  go_enter Tryd.func58, Tryd.ntmps58
  go_wp2
  go_ret
  exact ⟨rfl, rfl⟩
/-- what the iterator reads -/
structure RunK (c1 c2 t : Nat) (n h r : Int) (P : Option Addr) (c : Nat) (l : List BkR) (A : World) : Prop where
  hm : A.cell? ⟨c1, 0, none⟩ = some (.int .i64 n)
  tb : A.cell? ⟨c2, 0, none⟩ = some (.pointer (some ⟨t, 0, none⟩))
  ct : CtR A t h r P c l
theorem RunK.ext {c1 c2 t : Nat} {n h r : Int} {P : Option Addr} {c : Nat} {l : List BkR} {A B : World} (H : RunK c1 c2 t n h r P c l A) (hx : Ext A B) : RunK c1 c2 t n h r P c l B := ⟨hx.cell H.hm, hx.cell H.tb, H.ct.ext hx⟩
set_option maxHeartbeats 4000000 in
theorem run_seq (c1 c2 t : Nat) (n h r : Int) (P : Option Addr) (c : Nat) (l : List BkR) (p : List Nat) (hw : Way (absT l) n p) :
    SeqP Tryd.prog 74 #[.pointer (some ⟨c1, 0, none⟩), .pointer (some ⟨c2, 0, none⟩)] (fun i => #[.int .i64 (atP p i : Nat)]) p.length (RunK c1 c2 t n h r P c l) := by
  intro lq J Jx Jp W hJ hJx hK hY h0
  have hc0 := (hK 0 W h0).hm
  have HW := Lib.hid hw
  have HLT := Lib.hid (way_lt hw)
  have hn0 := way_first hw
  rw [hn0] at hc0
  clear hw hn0
  refine callsIn_of_wp Tryd.func74 rfl trivial ?_ rfl
  simp only [Tryd.ntmps74, List.size_toArray, List.length_cons, List.length_nil, Nat.reduceAdd, Nat.reduceSub, Array.replicate_succ, Array.replicate_zero, List.push_toArray, List.append_toArray, List.nil_append, List.cons_append]
  gi_wp2
  gi_loopg [4] p.length (fun k i wr => ∃ j : Nat, k + j = p.length ∧ i = .int .i64 (stepF p j) ∧ J j wr)
  case atStart => exact ⟨0, by omega, rfl, h0⟩
  case round =>
    obtain ⟨j, hk, rfl, hj⟩ := hrel
    by_cases hlt : j < p.length
    · rw [stepF_at hlt]
      obtain ⟨gp, rfl⟩ : ∃ gp, gk = gp + 1 := ⟨gk - 1, by omega⟩
      have HGK := Lib.hid hk
      have hbl : atP p j < l.length := by
        have := HLT.out (atP p j) (List.mem_of_getElem? (atP_some hlt))
        rwa [absT_len] at this
      have HST := Lib.hid (show (nthBk l (atP p j)).2 = stepF p (j + 1) from by
        have := way_step HW.out j hlt
        rw [show p.getD j 0 = atP p j from rfl] at this
        rw [absT_bkt hbl] at this
        exact this)
      have HBL := Lib.hid hbl
      obtain ⟨fn, tmps, assign, body, hy, hR⟩ := hY j wr hj hlt
      clear hk hbl
      generalize atP p j = q at *
      have hne : ((q : Int) != -1) = true := by first | (simp; done) | (simp; omega)
      gi_wp2_with (refine ⟨rfl, ?_⟩; refine hR.mono ?_; intro e W3 h3; rcases yield_cases h3 with ⟨ch, rfl, hp3⟩ | ⟨tt, rfl, h4⟩; exact ⟨rfl, .inr ⟨j, ch, hlt, rfl, hp3⟩⟩; clear h3; rcases h4 with ⟨rfl, hj3⟩ | ⟨rfl, hx3⟩; (have hk3 := hK _ _ hj3; obtain ⟨b, off, hP, g0, g1⟩ := hk3.ct.sl.at_ q HBL.out; subst hP; rw [HST.out] at g1; have k1 := hk3.tb; have k2 := hk3.ct.box.cell (i := 2) rfl; have hql : (q : Int) < l.length := (by have := HBL.out; omega); have hq0 : (0 : Int) ≤ (q : Int) := (by omega); skip))
      all_goals first
        | (refine bodyPost_ret (results_none rfl _ _ _) rfl ?_
           exact .inl ⟨⟨_, rfl⟩, .inr ⟨j, hlt, hx3⟩⟩)
        | skip
      gi_roundg gp
      case measure => omega
      case rel => exact ⟨j + 1, by have := HGK.out; omega, rfl, hj3⟩
    · obtain rfl : j = p.length := by omega
      rw [stepF_end (Nat.le_refl _)]
      gi_wp2
      go_end0
      exact .inl ⟨⟨_, rfl⟩, .inl hj⟩
end
section
open Go.RowKit
set_option linter.unusedVariables false
set_option maxRecDepth 20000
set_option linter.unusedSimpArgs false
set_option linter.unusedSectionVars false
set_option maxRecDepth 100000
attribute [local go_sem] Oper.semAt_some

theorem OwnG.kept {α : Type} {cs : α → List Value} {e : TypeId} {k : Nat} {w w' : World} {base : Nat} {v : Value} {l : List α} {row : Option Nat} (h : OwnG cs e k w base v l) (hg : w.grownBy w' row) (hne : v.ownBlock = none ∨ v.ownBlock ≠ row) : OwnG cs e k w' base v l := World.ownsRow.kept h hg hne
theorem OwnG.not_loop {α : Type} {cs : α → List Value} {e : TypeId} {k : Nat} {w : World} {base : Nat} {v : Value} {l : List α} (h : OwnG cs e k w base v l) {S : Nat} {o : Obj} (hS : w.heap[S]? = some o) (ho : ∀ c, o ≠ .cells c e (0, 0)) : v.ownBlock = none ∨ v.ownBlock ≠ some S := by
  rcases h.2 with ⟨rfl, _⟩ | ⟨g, cap, cur, rfl, _, hg, _⟩
  · exact .inl rfl
  · refine .inr fun e => ?_
    simp only [Value.ownBlock, Option.some.injEq] at e
    subst e
    rw [hS] at hg
    injection hg with hg
    exact ho _ hg
theorem OwnG.loop {α : Type} {cs : α → List Value} {e : TypeId} {k : Nat} {w : World} {base : Nat} {v : Value} {l : List α} (h : OwnG cs e k w base v l) {S : Nat} {r r' : Loop} (hS : w.heap[S]? = some (.loop r)) : OwnG cs e k (w.putObj S (.loop r')) base v l :=
  h.kept (grownBy_putObj' _ _ _) (h.not_loop hS (fun c e => by cases e))
theorem OwnG.down {α : Type} {cs : α → List Value} {e : TypeId} {k : Nat} {w : World} {base b' : Nat} {v : Value} {l : List α} (h : OwnG cs e k w base v l) (hb : b' ≤ base) : OwnG cs e k w b' v l := by
  refine ⟨h.1, ?_⟩
  rcases h.2 with h0 | ⟨g, cap, cur, h1, h2, h3⟩
  · exact .inl h0
  · exact .inr ⟨g, cap, cur, h1, Nat.le_trans hb h2, h3⟩
theorem range_map_succ {α : Type} (f : Nat → α) (i : Nat) : (List.range (i + 1)).map f = (List.range i).map f ++ [f i] := by rw [List.range_succ, List.map_append]; rfl
set_option maxHeartbeats 4000000 in
theorem appendseq_any (g : Nat) (lb : Array Value) (f : Nat → Int) (N : Nat) (Kp : World → Prop) (hseq : SeqP Tryd.prog g lb (fun i => #[.int .i64 (f i)]) N Kp) (eg : ∀ args w, (callFunc g args).run Tryd.prog w = .ok (.enter g args) w) (hN : N ≤ 100000)
    (w : World) (hK : Kp w) (hKB : ∀ A B, Below w.heap.size A B → Kp A → Kp B) :
    Calls Tryd.prog 75 #[.slice none 0 0, .func (.func g) #[] lb] w fun e w' => (∃ v, e = .returned v ∧ OwnI w' w.heap.size v ((List.range N).map f)) ∧ Ext w w' := by
  refine calls_of_wpAt Tryd.func75 rfl ?_
  simp only [Tryd.ntmps75, List.size_toArray, List.length_cons, List.length_nil, Nat.reduceAdd, Nat.reduceSub, Array.replicate_succ, Array.replicate_zero, List.push_toArray, List.append_toArray, List.nil_append, List.cons_append]
  refine wpAt_seq_k (fun K hK => ?_)
  go_wp2
  obtain ⟨W0, hW0⟩ : ∃ W0, w.alloc (.cells #[.slice none 0 0] 59) = W0 := ⟨_, rfl⟩
  have hx0 : Ext w W0 := hW0 ▸ (Ext.refl w).alloc _
  have hs0 : W0.heap.size = w.heap.size + 1 := by rw [← hW0]; simp
  have hb0 : Boxed W0 w.heap.size 59 (.slice none 0 0) := hW0 ▸ Boxed.new _ _ _
  have hk0 : Kp W0 := hKB _ _ hx0 hK
  try rw [hW0]
  clear hW0
  generalize hcc : w.heap.size = c at *
  have HC := Lib.hid hcc
  clear hcc
  refine wpAt_seq ?_
  refine wpAt_seq_k (fun K hK => ?_)
  go_wp2
  refine wpAt_block ?_
  refine wpAt_rangeFunc2 (hf := Tryd.func75) (gf := g) (lb := lb) rfl eg hseq (fun _ => rfl)
    (fun i W => (∃ v, Boxed W c 59 v ∧ OwnI W (c + 1) v ((List.range i).map f)) ∧ Ext w W ∧ Kp W)
    (fun _ _ _ => False)
    (fun i ch W => False)
    (fun i A B ⟨⟨v, h1, h2⟩, h3, h4⟩ hx => ⟨⟨v, hx.heap h1, h2.ext hx⟩, h3.trans hx, hKB _ _ (Below.mono hx (by have := h3.size; have := HC.out; omega)) h4⟩)
    (fun _ _ _ _ h _ => h)
    (fun i A r r' ⟨⟨v, h1, h2⟩, h3, h4⟩ hl => ⟨⟨v, (World.putObj_heap_other (by omega)).trans h1, h2.loop hl⟩, Upd.ext h3 (grownBy_putObj' _ _ _) (by have := HC.out; omega), hKB _ _ (Below.grown (Below.refl _ _) (grownBy_putObj' _ _ _) (by have := h3.size; have := HC.out; omega) (fun k hk => by cases hk; have := HC.out; omega)) h4⟩)
    (fun _ _ _ _ _ h _ => h)
    (fun i A h => h.2.2)
    ⟨⟨_, hb0, OwnG.nil _ _ _ _ _⟩, hx0, hk0⟩ ?round ?done (fun _ _ _ _ h _ => h.elim) (fun _ _ _ _ h _ => h.elim)
  case round =>
    rintro i W r ⟨⟨v, h1, h2⟩, h3, h4⟩ hW hD hL hi
    gi_wp2
    refine ⟨trivial, trivial, ?_⟩
    rintro W5 r' hW5
    have hL5 : W5.heap[W0.heap.size + 1]? = some (.loop r') := by rw [hW5]; exact World.putObj_heap_same (by omega)
    have hD5 : W5.heap[W0.heap.size]? = some (.deferred (some [])) := by rw [hW5, World.putObj_heap_other (by omega)]; exact hD
    replace h4 : Kp W5 := by rw [hW5]; exact hKB _ _ (Below.grown (Below.refl _ _) (grownBy_putObj' _ _ _) (by have := h3.size; have := HC.out; omega) (fun k hk => by cases hk; have := HC.out; omega)) h4
    replace h2 : OwnI W5 (c + 1) v ((List.range i).map f) := hW5 ▸ h2.loop hL
    replace h1 : Boxed W5 c 59 v := by rw [hW5]; exact (World.putObj_heap_other (by omega)).trans h1
    replace h3 : Ext w W5 := by rw [hW5]; exact Upd.ext h3 (grownBy_putObj' _ _ _) (by have := HC.out; omega)
    have hc5 := h1.cell
    clear hW5 hD hL
    have hsz := h3.size
    obtain ⟨i0, hi0, hz0, hz1, hz2⟩ := int_zero
    have hc5w := h1.lt
    have hsw5 : W5.heap[W0.heap.size + 1]? = some (.loop r') := hL5
    have hDs : W0.heap.size < W5.heap.size := (Array.getElem?_eq_some_iff.1 hD5).1
    have hLs : W0.heap.size + 1 < W5.heap.size := (Array.getElem?_eq_some_iff.1 hL5).1
    have hn1 := h2.not_loop hL5 (fun c e => by cases e)
    have hn2 := h2.not_loop hD5 (fun c e => by cases e)
    have hn3 : v.ownBlock ≠ some c := fun e => by have := h2.base_ c e; omega
    have hrow : (W5.alloc (.cells #[.int .i64 (f i)] 3)).ownsRow (c + 1) 3 1 v i (((List.range i).map f).flatMap fun x => [Value.int .i64 x]) := by
      have := h2.ext ((Ext.refl W5).alloc (.cells #[.int .i64 (f i)] 3))
      unfold OwnG at this
      simpa using this
    gi_wp2_with (gi_at_builtin; refine wpListIn_append_own _ rfl _ _ 59 rfl (c + 1) 3 i0 (.int .i64 0) 1 8 Tryd.underlying59 hi0 hz0 hz1 hz2 rfl (by decide) _ _ _ rfl hrow ⟨W5.heap.size, 0, none⟩ 1 1 [.int .i64 (f i)] rfl rfl (cell_one_new _ _ _) ?s1 ?s2 ?s3 ?s4 ?_)
    case s1 => intro u hu; simp at hu; subst hu; rfl
    case s2 => unfold maxLen; omega
    case s3 => omega
    case s4 => simp; omega
    intro v' w6 hown' hg6 _
    have hb6 : Boxed w6 c 59 v := (h1.alloc _).kept hg6 (fun e => hn3 e.symm)
    have hc6 := hb6.cell
    have hf6 := hb6.frozen
    have hD6 : w6.heap[W0.heap.size]? = some (.deferred (some [])) := (hg6.block _ (by simp; omega) (fun e => by rcases hn2 with h | h <;> rw [← e] at h; cases h; exact h rfl)).trans ((Below.heap_alloc _ _ _ hDs).trans hD5)
    have hL6 : w6.heap[W0.heap.size + 1]? = some (.loop r') := (hg6.block _ (by simp; omega) (fun e => by rcases hn1 with h | h <;> rw [← e] at h; cases h; exact h rfl)).trans ((Below.heap_alloc _ _ _ hLs).trans hL5)
    have hbl : Below (c + 1) W5 w6 := (Below.alloc (Below.refl _ W5) (by omega) _).trans (Below.grown (Below.refl _ _) hg6 (by simp; omega) (fun k hk => h2.base_ k hk))
    have h36 : Ext w w6 := below_ext h3 hbl (by have := HC.out; omega)
    have h46 : Kp w6 := hKB _ _ (Below.mono hbl (by omega)) h4
    have hcs : c < w6.heap.size := hb6.lt
    have h0 : OwnI w6 (c + 1) v' ((List.range (i + 1)).map f) := by
      rw [range_map_succ]
      unfold OwnI OwnG
      simpa using hown'
    obtain ⟨g', cap', rfl, _⟩ := h0.tight (by simp)
    gi_wp2
    refine ⟨?_, ?_, ⟨_, hb6.set _, ?_⟩, h36.setCell (by have := HC.out; simp; omega) _, hKB _ _ (Below.setCell (Below.refl _ _) (by simp) _) h46⟩
    · exact (Below.heap_setCell _ _ _ _ (by simp; omega)).trans (hD6.trans hD5.symm)
    · exact (Below.heap_setCell _ _ _ _ (by simp; omega)).trans (hL6.trans hL5.symm)
    · rw [List.length_map, List.length_range] at h0
      exact h0.kept (row := some c) (Upd.setCell w6 c 0 _) (.inr (fun e => by have := h0.base_ c e; omega))
  case done =>
    rintro W ⟨⟨v, h1, h2⟩, h3, h4⟩ hD
    have hc := h1.cell
    rw [hs0] at hD
    refine wpAt_of_wp ?_
    go_wp2
    refine ⟨by simp, .inl ⟨_, _, rfl, run_takeDeferred hD, ?_⟩⟩
    refine ⟨_, results_tmp rfl _ _ _, ⟨_, rfl, ?_⟩, ?_⟩
    · refine OwnG.down (base := c + 1) (h2.kept (row := some (c + 1)) (grownBy_putObj' _ _ _) (h2.not_loop hD (fun c e => by cases e))) (by have := HC.out; omega)
    · exact Upd.ext h3 (grownBy_putObj' _ _ _) (by have := HC.out; omega)
theorem collect_any (g : Nat) (lb : Array Value) (f : Nat → Int) (N : Nat) (Kp : World → Prop) (hseq : SeqP Tryd.prog g lb (fun i => #[.int .i64 (f i)]) N Kp) (eg : ∀ args w, (callFunc g args).run Tryd.prog w = .ok (.enter g args) w) (hN : N ≤ 100000)
    (w : World) (hK : Kp w) (hKB : ∀ A B, Below w.heap.size A B → Kp A → Kp B) :
    Calls Tryd.prog 60 #[.func (.func g) #[] lb] w fun e w' => (∃ v, e = .returned v ∧ OwnI w' w.heap.size v ((List.range N).map f)) ∧ Ext w w' := by
  have hA := appendseq_any g lb f N Kp hseq eg hN w hK hKB
  go_enter Tryd.func60, Tryd.ntmps60
  go_wp2_with (go_at_call 75; refine hA.mono ?_; rintro e w1 ⟨⟨v, rfl, ho⟩, hx⟩)
  go_ret
  exact ⟨⟨_, rfl, ho⟩, hx⟩
end
section
open Go.RowKit
set_option linter.unusedVariables false
set_option maxRecDepth 20000
set_option linter.unusedSimpArgs false
set_option linter.unusedSectionVars false
set_option maxRecDepth 100000
attribute [local go_sem] Oper.semAt_some

theorem UpdF.of_upd {w w' : World} {g : Nat} (h : Upd w g w') : UpdF (fun i => i = g) w w' := (UpdF.of_grown h).mono (fun i hi => by injection hi with hi; exact hi.symm)
theorem CtR.upd {F : Nat → Prop} {w w' : World} {t : Nat} {h r : Int} {P : Option Addr} {c : Nat} {l : List BkR} (H : CtR w t h r P c l) (hu : UpdF F w w') (ht : ¬ F t) (ho : OffB F P l) : CtR w' t h r P c l := ⟨H.box.upd hu ht, H.sl.upd hu ho⟩
theorem RunK.upd {F : Nat → Prop} {w w' : World} {c1 c2 t : Nat} {n h r : Int} {P : Option Addr} {c : Nat} {l : List BkR} (H : RunK c1 c2 t n h r P c l w) (hu : UpdF F w w') (h1 : ¬ F c1) (h2 : ¬ F c2) (ht : ¬ F t) (ho : OffB F P l) : RunK c1 c2 t n h r P c l w' :=
  ⟨hu.cell H.hm h1, hu.cell H.tb h2, H.ct.upd hu ht ho⟩
theorem Boxed.upd {F : Nat → Prop} {w w' : World} {b : Nat} {T : TypeId} {v : Value} (h : Boxed w b T v) (hu : UpdF F w w') (hf : ¬ F b) : Boxed w' b T v := hu.heap h hf
theorem seqP_of {P : Program} {g : Nat} {lb : Array Value} {encs : Nat → Array Value} {N : Nat} {Kp Kq : World → Prop} (h : SeqP P g lb encs N Kp) (hk : ∀ A, Kq A → Kp A) : SeqP P g lb encs N Kq :=
  fun l J Jx Jp W h1 h2 h3 h4 h5 => h l J Jx Jp W h1 h2 (fun i A hA => hk A (h3 i A hA)) h4 h5
/-- the buckets of a run, in order -/
theorem runlist_any (t : Nat) (n h r : Int) (P : Option Addr) (c : Nat) (l : List BkR) (p : List Nat) (c1 c2 : Nat) (hw : Way (absT l) n p) (hp : p.length ≤ 1000) (w : World) (hK : RunK c1 c2 t n h r P c l w) :
    Calls Tryd.prog 60 #[.func (.func 74) #[] #[.pointer (some ⟨c1, 0, none⟩), .pointer (some ⟨c2, 0, none⟩)]] w fun e w' => (∃ v, e = .returned v ∧ OwnI w' w.heap.size v (ints p)) ∧ Ext w w' := by
  have hS := run_seq c1 c2 t n h r P c l p hw
  have := collect_any _ _ (fun i => ((atP p i : Nat) : Int)) p.length (fun A => Ext w A) (seqP_of hS (fun A hA => hK.ext hA)) (enters_of Tryd.func74 (by kernel_rfl) rfl) (by omega) w (Ext.refl w) (fun A B hb hA => Below.trans hA hb)
  have e : (List.range p.length).map (fun i => ((atP p i : Nat) : Int)) = ints p := by
    refine List.ext_getElem? fun i => ?_
    unfold ints
    by_cases hi : i < p.length
    · simp [hi, atP, List.getD_eq_getElem?_getD]
    · rw [List.getElem?_eq_none (by simp; omega), List.getElem?_eq_none (by simp; omega)]
  rw [e] at this
  exact this
set_option maxHeartbeats 4000000 in
theorem entries_any (t : Nat) (n h r : Int) (P : Option Addr) (c : Nat) (l : List BkR) (p : List Nat) (w : World) (H : CtR w t h r P c l) (hw : Way (absT l) n p) (hp : p.length ≤ 1000) (he : (entR l p).length ≤ 100000) :
    Calls Tryd.prog 53 #[.pointer (some ⟨t, 0, none⟩), .int .i64 n] w fun e w' => (∃ v, e = .returned v ∧ OwnG csHd 36 2 w' w.heap.size v (entR l p)) ∧ Ext w w' := by
  have HLT := Lib.hid (way_lt hw)
  have hS := run_seq (w.heap.size + 3) (w.heap.size + 2) t n h r P c l p hw
  have hoff := H.sl.lt
  have htlt := H.box.lt
  refine calls_of_wpAt Tryd.func53 rfl ?_
  simp only [Tryd.ntmps53, List.size_toArray, List.length_cons, List.length_nil, Nat.reduceAdd, Nat.reduceSub, Array.replicate_succ, Array.replicate_zero, List.push_toArray, List.append_toArray, List.nil_append, List.cons_append]
  refine wpAt_seq_k (fun K hK => ?_)
  go_wp2
  refine wpAt_seq_k (fun K hK => ?_)
  go_wp2
  obtain ⟨W0, hW0⟩ : ∃ W0, (w.alloc (.cells #[.pointer (some ⟨t, 0, none⟩)] 38)).alloc (.cells #[.slice none 0 0] 32) = W0 := ⟨_, rfl⟩
  have hx0 : Ext w W0 := hW0 ▸ ((Ext.refl w).alloc _).alloc _
  have hs0 : W0.heap.size = w.heap.size + 2 := by rw [← hW0]; simp
  have bt0 : Boxed W0 w.heap.size 38 (.pointer (some ⟨t, 0, none⟩)) := hW0 ▸ (Boxed.new _ _ _).alloc _
  have bo0 : Boxed W0 (w.heap.size + 1) 32 (.slice none 0 0) := by
    have := Boxed.new (w.alloc (.cells #[.pointer (some ⟨t, 0, none⟩)] 38)) 32 (.slice none 0 0)
    rw [World.size_alloc] at this
    exact hW0 ▸ this
  try rw [hW0]
  clear hW0
  have k0 := bt0.cell
  refine wpAt_seq ?_
  refine wpAt_seq_k (fun K hK => ?_)
  go_wp2_with (go_at_call 58; refine (run_any t n _).mono ?_; rintro e W2 ⟨rfl, rfl⟩)
  obtain ⟨W2, hW2⟩ : ∃ W2, (W0.alloc (.cells #[.pointer (some ⟨t, 0, none⟩)] 38)).alloc (.cells #[.int .i64 n] 3) = W2 := ⟨_, rfl⟩
  have hx2 : Ext W0 W2 := hW2 ▸ ((Ext.refl W0).alloc _).alloc _
  have hs2 : W2.heap.size = w.heap.size + 4 := by rw [← hW2]; simp [hs0]
  have b2 : Boxed W2 (w.heap.size + 2) 38 (.pointer (some ⟨t, 0, none⟩)) := by
    have := (Boxed.new W0 38 (.pointer (some ⟨t, 0, none⟩))).alloc (.cells #[.int .i64 n] 3)
    rw [hs0] at this
    exact hW2 ▸ this
  have b3 : Boxed W2 (w.heap.size + 3) 3 (.int .i64 n) := by
    have := Boxed.new (W0.alloc (.cells #[.pointer (some ⟨t, 0, none⟩)] 38)) 3 (.int .i64 n)
    rw [World.size_alloc, hs0] at this
    exact hW2 ▸ this
  have hR2 : RunK (w.heap.size + 3) (w.heap.size + 2) t n h r P c l W2 := ⟨b3.cell, b2.cell, H.ext (hx0.trans hx2)⟩
  replace bt0 : Boxed W2 _ _ _ := hx2.heap bt0
  replace bo0 : Boxed W2 _ _ _ := hx2.heap bo0
  rw [hW2]
  have hxw := hx0.trans hx2
  clear hW2 hx2 b2 b3 hx0 hs0 k0
  have HR2 := Lib.hid hs2
  refine wpAt_block ?_
  refine wpAt_rangeFunc2 (hf := Tryd.func53) (gf := 74) (lb := #[.pointer (some ⟨w.heap.size + 2 + 1, 0, none⟩), .pointer (some ⟨w.heap.size + 2, 0, none⟩)]) rfl (enters_of Tryd.func74 (by kernel_rfl) rfl) hS (fun _ => rfl)
    (fun i W => (∃ v, Boxed W (w.heap.size + 1) 32 v ∧ OwnG csHd 36 2 W (w.heap.size + 4) v (entR l (p.take i))) ∧ Boxed W w.heap.size 38 (.pointer (some ⟨t, 0, none⟩)) ∧ Ext w W ∧ RunK (w.heap.size + 3) (w.heap.size + 2) t n h r P c l W)
    (fun _ _ _ => False)
    (fun i ch W => False)
    (fun i A B ⟨⟨v, h1, h2⟩, h3, h4, h5⟩ hx => ⟨⟨v, hx.heap h1, h2.ext hx⟩, hx.heap h3, h4.trans hx, h5.ext hx⟩)
    (fun _ _ _ _ h _ => h)
    (fun i A r r' ⟨⟨v, h1, h2⟩, h3, h4, h5⟩ hl => ⟨⟨v, (World.putObj_heap_other (by have := HR2.out; omega)).trans h1, h2.loop hl⟩, (World.putObj_heap_other (by have := HR2.out; omega)).trans h3, Upd.ext h4 (grownBy_putObj' _ _ _) (by have := HR2.out; omega), h5.upd (UpdF.of_upd (grownBy_putObj' _ _ _)) (by have := HR2.out; omega) (by have := HR2.out; omega) (by have := HR2.out; omega) (hoff.mono (fun i hi => by have := HR2.out; omega))⟩)
    (fun _ _ _ _ _ h _ => h)
    (fun i A h => h.2.2.2)
    ⟨⟨_, bo0, OwnG.nil _ _ _ _ _⟩, bt0, hxw, hR2⟩ ?round ?done (fun _ _ _ _ h _ => h.elim) (fun _ _ _ _ h _ => h.elim)
  case round =>
    rintro i W r0 ⟨⟨v, h1, h2⟩, h3, h4, h5⟩ hW hD hL hi
    have hr2 := HR2.out
    gi_wp2
    refine ⟨trivial, trivial, ?_⟩
    rintro W5 r' hW5
    have hL5 : W5.heap[W2.heap.size + 1]? = some (.loop r') := by rw [hW5]; exact World.putObj_heap_same (by omega)
    have hD5 : W5.heap[W2.heap.size]? = some (.deferred (some [])) := by rw [hW5, World.putObj_heap_other (by omega)]; exact hD
    replace h5 : RunK (w.heap.size + 3) (w.heap.size + 2) t n h r P c l W5 := by rw [hW5]; exact h5.upd (UpdF.of_upd (grownBy_putObj' _ _ _)) (by omega) (by omega) (by omega) (hoff.mono (fun i hi => by omega))
    replace h2 : OwnG csHd 36 2 W5 (w.heap.size + 4) v (entR l (p.take i)) := hW5 ▸ h2.loop hL
    replace h1 : Boxed W5 (w.heap.size + 1) 32 v := by rw [hW5]; exact (World.putObj_heap_other (by omega)).trans h1
    replace h3 : Boxed W5 w.heap.size 38 (.pointer (some ⟨t, 0, none⟩)) := by rw [hW5]; exact (World.putObj_heap_other (by omega)).trans h3
    replace h4 : Ext w W5 := by rw [hW5]; exact Upd.ext h4 (grownBy_putObj' _ _ _) (by omega)
    clear hW5 hD hL
    have hbl : atP p i < l.length := by
      have := HLT.out (atP p i) (List.mem_of_getElem? (atP_some hi))
      rwa [absT_len] at this
    have hent := h5.ct.sl.ent _ (nthBk_mem hbl)
    obtain ⟨b, off, hP, g0, g1⟩ := h5.ct.sl.at_ (atP p i) hbl
    subst hP
    have HTK := Lib.hid (show entR l (p.take (i + 1)) = entR l (p.take i) ++ (nthBk l (atP p i)).1.2.2 from entR_snoc l hi)
    have HTL := Lib.hid (show (entR l (p.take i)).length + (nthBk l (atP p i)).1.2.2.length ≤ 100000 from by
      have := entR_le l p (i + 1)
      rw [show entR l (p.take (i + 1)) = entR l (p.take i) ++ (nthBk l (atP p i)).1.2.2 from entR_snoc l hi, List.length_append] at this
      omega)
    have hofe := hoff.ent _ (nthBk_mem hbl)
    generalize atP p i = q at *
    generalize nthBk l q = B at *
    obtain ⟨⟨Pe, ce, le⟩, nx⟩ := B
    simp only at g0 hent HTL HTK hofe
    have cq1 : (q : Int) < l.length := by omega
    have cq0 : (0 : Int) ≤ (q : Int) := by omega
    have s1 : W5.drew.cell? ⟨w.heap.size + 1, 0, none⟩ = some v := h1.cell
    have s2 : W5.drew.cell? ⟨w.heap.size, 0, none⟩ = some (.pointer (some ⟨t, 0, none⟩)) := h3.cell
    have s3 : W5.drew.cell? ⟨t, 2, none⟩ = some (.slice (some ⟨b, off, none⟩) l.length c) := h5.ct.box.cell (i := 2) rfl
    have s4 : W5.drew.cell? ⟨b, off + q * 2, none⟩ = some (.slice Pe le.length ce) := g0
    clear g0 g1
    gi_wp2
    refine wpIn_round_held (fun W' => W'.cell? ⟨w.heap.size, 0, none⟩ = some (.pointer (some ⟨t, 0, none⟩)) ∧ W'.cell? ⟨t, 2, none⟩ = some (.slice (some ⟨b, off, none⟩) l.length c) ∧ W'.cell? ⟨b, off + q * 2, none⟩ = some (.slice Pe le.length ce)) (by kernel_rfl) (by rintro ⟨a, w, h⟩; exact h) (by kernel_rfl) ?_
    refine wpAnyH_take (i := 1) (v := .pointer (some ⟨t, 0, none⟩)) (fuel := 10) rfl (by kernel_rfl) (by kernel_rfl) (by kernel_rfl) (fun _ _ _ h => h) (.inl ⟨rfl, fun W hS => by obtain ⟨e2, e3, e4⟩ := hS; go_simp⟩) ⟨s2, s3, s4⟩ ?_
    refine wpAnyH_take (i := 2) (v := .pointer (some ⟨t, 0, none⟩)) (fuel := 9) rfl (by kernel_rfl) (by kernel_rfl) (by kernel_rfl) (fun _ _ _ h => h) (.inl ⟨rfl, fun W hS => by obtain ⟨e2, e3, e4⟩ := hS; go_simp⟩) ⟨s2, s3, s4⟩ ?_
    refine wpAnyH_take (i := 3) (v := .pointer (some ⟨t, 2, none⟩)) (fuel := 8) rfl (by kernel_rfl) (by kernel_rfl) (by kernel_rfl) (fun _ _ _ h => h) (.inl ⟨rfl, fun W hS => by obtain ⟨e2, e3, e4⟩ := hS; go_simp⟩) ⟨s2, s3, s4⟩ ?_
    refine wpAnyH_take (i := 4) (v := .slice (some ⟨b, off, none⟩) l.length c) (fuel := 7) rfl (by kernel_rfl) (by kernel_rfl) (by kernel_rfl) (fun _ _ _ h => h) (.inl ⟨rfl, fun W hS => by obtain ⟨e2, e3, e4⟩ := hS; go_simp⟩) ⟨s2, s3, s4⟩ ?_
    refine wpAnyH_take (i := 5) (v := .int .i64 (q : Nat)) (fuel := 6) rfl (by kernel_rfl) (by kernel_rfl) (by kernel_rfl) (fun _ _ _ h => h) (.inl ⟨rfl, fun W hS => by obtain ⟨e2, e3, e4⟩ := hS; go_simp⟩) ⟨s2, s3, s4⟩ ?_
    refine wpAnyH_take (i := 6) (v := .pointer (some ⟨b, off + q * 2, none⟩)) (fuel := 5) rfl (by kernel_rfl) (by kernel_rfl) (by kernel_rfl) (fun _ _ _ h => h) (.inl ⟨rfl, fun W hS => by obtain ⟨e2, e3, e4⟩ := hS; go_simp⟩) ⟨s2, s3, s4⟩ ?_
    refine wpAnyH_take (i := 7) (v := .pointer (some ⟨b, off + q * 2, none⟩)) (fuel := 4) rfl (by kernel_rfl) (by kernel_rfl) (by kernel_rfl) (fun _ _ _ h => h) (.inl ⟨rfl, fun W hS => by obtain ⟨e2, e3, e4⟩ := hS; go_simp⟩) ⟨s2, s3, s4⟩ ?_
    refine wpAnyH_take (i := 8) (v := .slice Pe le.length ce) (fuel := 3) rfl (by kernel_rfl) (by kernel_rfl) (by kernel_rfl) (fun _ _ _ h => h) (.inl ⟨rfl, fun W hS => by obtain ⟨e2, e3, e4⟩ := hS; go_simp⟩) ⟨s2, s3, s4⟩ ?_
    refine wpAnyH_one (i := 0) (fuel := 2) rfl (by kernel_rfl) rfl fun K' hK => ?_
    go_simp
    refine hK _ _ ⟨s2, s3, s4⟩ ?_
    clear hK K'
    have hb0 := hoff.own (fun e => by rw [e] at hbl; simp at hbl) b off rfl
    have hD1 := h2.not_loop hD5 (fun c e => by cases e)
    have hL1 := h2.not_loop hL5 (fun c e => by cases e)
    have hown : ∀ g, v.ownBlock = some g → w.heap.size + 4 ≤ g := fun g hg => (own_lt h2 hg).1
    have hszW := h4.size
    have hD5l := (Array.getElem?_eq_some_iff.1 hD5).1
    have hL5l := (Array.getElem?_eq_some_iff.1 hL5).1
    refine wpAnyH_one (i := 9) (fuel := 1) rfl (by kernel_rfl) rfl fun K' hK => ?_
    refine wpAppU_step (ops := #[]) elemHd (.tmp 11) (.tmp 19) rfl (v := v) (base := w.heap.size + 4) rfl (h2.ext (Ext.refl _).drew) (m := le) rfl (hent.sl.ext (Ext.refl _).drew) hent.nil (by have := HTL.out; omega) (by have := HTL.out; omega) (by show w.heap.size + 4 ≤ W5.heap.size; omega) ?_
    intro v7 w7 ho7 hg7 hb7 hob7
    have hu7 : UpdF (fun i => v.ownBlock = some i) W5.drew w7 := UpdF.of_grown hg7
    have hx7 : Ext w w7 := hu7.ext h4.drew (fun i hi => by have := hown i hi; omega)
    have t2 := hu7.cell s2 (fun e => by have := hown _ e; simp only at this; omega)
    have t3 := hu7.cell s3 (fun e => by have := hown _ e; simp only at this; omega)
    have t4 := hu7.cell s4 (fun e => by have := hown _ e; simp only at this; omega)
    have hR7 := (h5.ext (Ext.refl _).drew).upd hu7 (fun e => by have := hown _ e; omega) (fun e => by have := hown _ e; omega) (fun e => by have := hown _ e; omega) (hoff.mono (fun i hi => by have := hown i hi; omega))
    have k1 : Boxed w7 (w.heap.size + 1) 32 v := hu7.heap h1 (fun e => by have := hown _ e; omega)
    have k3 : Boxed w7 w.heap.size 38 (.pointer (some ⟨t, 0, none⟩)) := hu7.heap h3 (fun e => by have := hown _ e; omega)
    have hD7 : w7.heap[W2.heap.size]? = some (.deferred (some [])) := hu7.heap hD5 (fun e => hD1.elim (fun h => by rw [h] at e; cases e) (fun h => h e))
    have hL7 : w7.heap[W2.heap.size + 1]? = some (.loop r') := hu7.heap hL5 (fun e => hL1.elim (fun h => by rw [h] at e; cases e) (fun h => h e))
    refine hK _ _ ⟨t2, t3, t4⟩ ?_
    clear hK K'
    have q7 := k1.cell
    have f7 := k1.frozen
    obtain ⟨P7, c7, rfl, _⟩ := ho7.read elemHd (by have := HTL.out; simp; omega)
    have HTL2 := Lib.hid (show (entR l (p.take i) ++ le).length ≤ 100000 from by rw [List.length_append]; exact HTL.out)
    generalize (entR l (p.take i) ++ le).length = n7 at *
    refine wpAnyH_one (i := 10) (fuel := 0) rfl (by kernel_rfl) rfl fun K' hK => ?_
    go_simp
    have hu8 : UpdF (fun i => i = w.heap.size + 1) w7 (w7.setCell ⟨w.heap.size + 1, 0, none⟩ (.slice P7 n7 c7)) := (UpdF.refl (fun i => i = w.heap.size + 1) w7).setCell (p := ⟨w.heap.size + 1, 0, none⟩) (.inl rfl) (.slice P7 n7 c7)
    refine hK _ _ ⟨hu8.cell t2 (by simp), hu8.cell t3 (by simp only; omega), hu8.cell t4 (by simp only; omega)⟩ ?_
    clear hK K'
    refine wpAnyH_done (by kernel_rfl) ?_ 0
    refine ⟨(hu8.heap hD7 (by omega)).trans hD5.symm, (hu8.heap hL7 (by omega)).trans hL5.symm, ⟨_, k1.set _, ?_⟩, hu8.heap k3 (by omega), hu8.ext hx7 (fun i hi => by omega), hR7.upd hu8 (by omega) (by omega) (by omega) (hoff.mono (fun i hi => by omega))⟩
    rw [HTK.out]
    exact ho7.upd hu8 (fun g hg e => by have := (own_lt ho7 hg).1; omega)
  case done =>
    rintro W ⟨⟨v, h1, h2⟩, h3, h4, h5⟩ hD
    have hc := h1.cell
    rw [HR2.out] at hD
    rw [List.take_length] at h2
    refine wpAt_of_wp ?_
    go_wp2
    refine ⟨by simp, .inl ⟨_, _, rfl, run_takeDeferred hD, ?_⟩⟩
    refine ⟨_, results_tmp rfl _ _ _, ⟨_, rfl, ?_⟩, ?_⟩
    · refine OwnG.down (base := w.heap.size + 4) (h2.kept (row := some (w.heap.size + 4)) (grownBy_putObj' _ _ _) (h2.not_loop hD (fun c e => by cases e))) (by omega)
    · exact Upd.ext h4 (grownBy_putObj' _ _ _) (by omega)
end
section
open Go.RowKit Go.Maps
set_option linter.unusedVariables false
set_option maxRecDepth 20000

/-- block b is a map of bools in which just the keys l are true, and no others are -/
def MetG {α : Type} [DecidableEq α] (mk : α → Lit) (P : Program) (k e : TypeId) (w : World) (b : Nat) (l : List α) : Prop :=
  ∃ (D : DataW Unit) (n : Nat), n ≤ l.length ∧ w.ownsMap P k (plainElem P e) b n D ∧ (∀ x, has D (mk x) = decide (x ∈ l)) ∧ (∀ x, x ∈ l → ∀ z, D.atKey (mk x) z = .lit (.bool true)) ∧ (l.Nodup → size D = l.length)
section
variable {α : Type} [DecidableEq α] {mk : α → Lit} {P : Program} {k e : TypeId} {w : World} {b : Nat} {l : List α}
theorem MetG.made (w : World) : MetG mk P k e (w.alloc (.map #[] 0)) w.heap.size [] :=
  ⟨.map [], 0, by simp, World.ownsMap_made _ _ _ _, fun x => by simp [has], fun x h => by simp at h, fun _ => rfl⟩
theorem MetG.lt (h : MetG mk P k e w b l) : b < w.heap.size := by obtain ⟨D, n, _, h, _⟩ := h; exact h.lt
theorem MetG.kept {w' : World} {row : Option Nat} (h : MetG mk P k e w b l) (hg : w.grownBy w' row) (hne : some b ≠ row) : MetG mk P k e w' b l := by
  obtain ⟨D, n, hn, h, r⟩ := h
  exact ⟨D, n, hn, h.kept hg hne, r⟩
theorem MetG.same {w' : World} (h : MetG mk P k e w b l) (he : w'.heap[b]? = w.heap[b]?) : MetG mk P k e w' b l := by
  obtain ⟨D, n, hn, ⟨es, clock, hb, r'⟩, r⟩ := h
  exact ⟨D, n, hn, ⟨es, clock, he.trans hb, r'⟩, r⟩
theorem MetG.ext {w' : World} (h : MetG mk P k e w b l) (he : Ext w w') : MetG mk P k e w' b l := h.same (he.block h.lt)

theorem MetG.look (h : MetG mk P k e w b l) (K : Keyed P k) {t : TypeId} (ht : P.underlying t = some (.map k e)) (he : P.underlying e = some .bool) (hz : (zeroValue e).run P w = .ok (.bool false) w) {key : Value} {x : α} (hkey : keyOf P k key = some (mk x)) :
    (Instr.lookup t (.map (some b)) key false).run P w = .ok (.bool (decide (x ∈ l))) w := by
  obtain ⟨D, n, hn, hown, hh, ht', hs⟩ := h
  obtain ⟨v, ps, hrun, hv⟩ := hown.lookup K ht hz (plainElem_bool he false) hkey
  have hd : D.atKey (mk x) (.lit (.bool false)) = .lit (.bool (decide (x ∈ l))) := by
    by_cases hx : x ∈ l
    · rw [ht' x hx, decide_eq_true hx]
    · rw [atKey_of_not_has (by rw [hh x, decide_eq_false hx]), decide_eq_false hx]
  rw [hd] at hv
  unfold plainElem at hv
  rw [he] at hv
  cases v <;> simp at hv
  rw [hrun, hv.1]
theorem MetG.len (h : MetG mk P k e w b l) {t : TypeId} (ht : P.underlying t = some (.map k e)) (hl : l.Nodup) (ty : TypeId) : (Builtin.len_ #[t] ty #[.map (some b)]).run P w = .ok (.int .i64 l.length) w := by
  obtain ⟨D, n, hn, hown, hh, ht', hs⟩ := h
  rw [hown.len ht ty, hs hl]
theorem MetG.store (h : MetG mk P k e w b l) (K : Keyed P k) {t : TypeId} (ht : P.underlying t = some (.map k e)) (he : P.underlying e = some .bool) (hn : l.length < 9223372036854775807) (hm : ∀ x y, mk x = mk y → x = y) {key : Value} {x : α} (hk : WideAt.IsKeyLit (mk x)) (hkey : keyOf P k key = some (mk x)) :
    ∃ w', (Instr.mapUpdate t (.map (some b)) key (.bool true)).run P w = .ok () w' ∧ MetG mk P k e w' b (l ++ [x]) ∧ w.grownBy w' (some b) := by
  obtain ⟨D, n, hnl, hown, hh, ht', hs⟩ := h
  have hT := hown.tidy K
  obtain ⟨w', hrun, hown', hg⟩ := hown.update K ht (Nat.lt_of_le_of_lt hnl hn) hkey (plainElem_bool he true)
  refine ⟨w', hrun, ⟨_, n + 1, by simp; omega, hown', fun y => ?_, fun y hy z => ?_, fun hd => ?_⟩, hg⟩
  · by_cases hy : y = x
    · subst hy; rw [has_put_same hT.isMap hk]; simp
    · rw [has_put_other (fun e => hy (hm _ _ e)), hh]; simp [hy]
  · by_cases hyx : y = x
    · subst hyx; exact atKey_put_same hT.isMap hk _ _
    · rw [atKey_put_other (fun e => hyx (hm _ _ e))]
      exact ht' y (by simpa [hyx] using hy) z
  · have hd' := List.nodup_append.1 hd
    have hx : x ∉ l := fun hx => hd'.2.2 x hx x (by simp) rfl
    rw [size_put hT, hh, decide_eq_false hx, hs hd'.1]
    simp
/-- the look-up at the operation -/
theorem wpList_look_met {w : World} {ops : Array Oper} {rest : List Oper} {o : Oper} {a : Act} {Q : Exit → Act → World → Prop} (hg : o.guard = none) (m x : Operand) (t : TypeId) (hop : o.op = Op.lookup t m x false)
    {b : Nat} {l : List α} (hM : MetG mk P k e w b l) (K : Keyed P k) (ht : P.underlying t = some (.map k e)) (he : P.underlying e = some .bool) (hz : ∀ w, (zeroValue e).run P w = .ok (.bool false) w) (hm : a.eval m = .map (some b)) (key : Value) (y : α) (hx : a.eval x = key) (hkey : keyOf P k key = some (mk y))
    (r : Bool) (hr : decide (y ∈ l) = r) (hK : wpList P ops Q rest (a.put o.dst (.bool r)) w) : wpList P ops Q (o :: rest) a w := by
  refine wpList_plain hg fun K' hK' => ?_
  have hrun := hM.look K ht he (hz w) hkey
  rw [hr] at hrun
  unfold Oper.wp
  simp [execOp, hop, hm, hx, hrun, Result.andThen]
  exact hK' _ _ hK
/-- the store at the operation -/
theorem wpList_store_met {w : World} {ops : Array Oper} {rest : List Oper} {o : Oper} {a : Act} {Q : Exit → Act → World → Prop} (hg : o.guard = none) (m x v : Operand) (t : TypeId) (hop : o.op = Op.mapUpdate t m x v)
    {b : Nat} {l : List α} (hM : MetG mk P k e w b l) (K : Keyed P k) (ht : P.underlying t = some (.map k e)) (he : P.underlying e = some .bool) (hn : l.length < 9223372036854775807) (hinj : ∀ x y, mk x = mk y → x = y) (hm : a.eval m = .map (some b)) (key : Value) (y : α) (hx : a.eval x = key) (hv : a.eval v = .bool true) (hk : WideAt.IsKeyLit (mk y)) (hkey : keyOf P k key = some (mk y))
    (hK : ∀ w', MetG mk P k e w' b (l ++ [y]) → w.grownBy w' (some b) → wpList P ops Q rest (a.put o.dst undef) w') : wpList P ops Q (o :: rest) a w := by
  refine wpList_plain hg fun K' hK' => ?_
  obtain ⟨w', hrun, h1, h2⟩ := hM.store K ht he hn hinj hk hkey
  unfold Oper.wp
  simp [execOp, hop, hm, hx, hv, hrun, Result.andThen]
  exact hK' _ _ (hK w' h1 h2)
end
end
end Go.Proofs.YtcbinafokhekmaaDoor
