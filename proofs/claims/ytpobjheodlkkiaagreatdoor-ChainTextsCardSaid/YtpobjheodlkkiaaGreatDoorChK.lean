/- slices.Values, slices.Sorted; the members of a ring, an iterator. -/
import Derived.Test.YtpobjheodlkkiaaGreatDoorChJ
import Derived.Test.YtpobjheodlkkiaaGreatDoorChE
import Derived.Test.YtpobjheodlkkiaaGreatDoorShelf
import Derived.Lib.SlKeysI
import Derived.Stop.RegionWithIn
import Derived.Sort.QuietIn
namespace Go.Proofs.YtpobjheodlkkiaaGreatDoor
open Go.RowKit Go.Sort
set_option linter.unusedVariables false
set_option maxRecDepth 20000
set_option linter.unusedSimpArgs false
set_option linter.unusedSectionVars false
set_option maxRecDepth 100000
attribute [local go_sem] Oper.semAt_some

theorem flat_ints (l : List Int) : (l.flatMap fun x => [Value.int .i64 x]) = l.map (Value.int .i64) := by
  induction l with
  | nil => rfl
  | cons x l ih => rw [List.flatMap_cons, ih]; rfl
theorem sorted_any (g : Nat) (lb : Array Value) (f : Nat → Int) (N : Nat) (Kp : World → Prop) (hseq : SeqP Tryz.prog g lb (fun i => #[.int .i64 (f i)]) N Kp) (eg : ∀ args w, (callFunc g args).run Tryz.prog w = .ok (.enter g args) w) (hN : N ≤ 100000)
    (w : World) (hK : Kp w) (hKB : ∀ A B, Below w.heap.size A B → Kp A → Kp B) :
    Calls Tryz.prog 37 #[.func (.func g) #[] lb] w fun e w' => (∃ v, e = .returned v ∧ OwnI w' w.heap.size v (sortI ((List.range N).map f))) ∧ Ext w w' := by
  have hA := collect_any g lb f N Kp hseq eg hN w hK hKB
  have hl : ((List.range N).map f).length ≤ 100000 := by simpa using hN
  generalize (List.range N).map f = zs at *
  go_enter Tryz.func37, Tryz.ntmps37
  go_wp2_with (go_at_call 55; refine hA.mono ?_; rintro e w1 ⟨⟨v, rfl, ho⟩, hx⟩)
  rcases ho.2 with ⟨rfl, hz⟩ | ⟨gb, cap, cur, rfl, hbase, hgb, r1, r2, r3, r4⟩
  · obtain rfl : zs = [] := List.length_eq_zero_iff.1 hz
    go_wp2_with (go_at_call 56; refine (Tryz.slices_Sort_int_none none 0 _).mono ?_; rintro e w2 ⟨rfl, rfl⟩)
    go_ret
    exact ⟨⟨_, rfl, by unfold sortI; rw [List.mergeSort_nil]; exact OwnG.nil _ _ _ _ _⟩, hx⟩
  · rw [flat_ints] at r4
    have hH : Holds encZ w1 gb 0 zs.toArray := holds_of_block_i hgb (by simpa using r4)
    have hgl : gb < w1.heap.size := (Array.getElem?_eq_some_iff.1 hgb).1
    have hS := Tryz.slices_Sort_int gb 0 cap zs w1 hH hgl (by omega)
    go_wp2_with (go_at_call 56; refine hS.mono ?_; rintro e w2 ⟨rfl, n2, os, rfl⟩)
    go_ret
    refine ⟨⟨_, rfl, ?_⟩, Below.grown hx (grownBy_sorted_i _) hx.size (fun k hk => by cases hk; exact hbase)⟩
    have := ownsRow_sorted_i (w := w1) (n := n2) (os := os) (ss := zs) (ts := sortI zs) (sortI_len zs) hbase hgb r1 r2 r3
    unfold OwnI OwnG
    rw [flat_ints, sortI_len]
    exact this
theorem values_any (P : Option Addr) (n cap : Nat) (w : World) :
    Calls Tryz.prog 38 #[.slice P n cap] w fun e w' => e = .returned (.func (.func 57) #[] #[.pointer (some ⟨w.heap.size, 0, none⟩)]) ∧ w' = w.alloc (.cells #[.slice P n cap] 31) := by
  go_enter Tryz.func38, Tryz.ntmps38
  go_wp2
  go_ret
  exact ⟨rfl, rfl⟩
theorem yield_cases {e : Ending} {A B : Prop} {C : List PanicEntry → Prop} (h : (e = .returned (.bool true) ∧ A) ∨ (e = .returned (.bool false) ∧ B) ∨ ∃ ch, e = .panicked ch ∧ C ch) :
    (∃ ch, e = .panicked ch ∧ C ch) ∨ ∃ t, e = .returned (.bool t) ∧ (t = true ∧ A ∨ t = false ∧ B) := by
  rcases h with ⟨h, a⟩ | ⟨h, b⟩ | h
  · exact .inr ⟨true, h, .inl ⟨rfl, a⟩⟩
  · exact .inr ⟨false, h, .inr ⟨rfl, b⟩⟩
  · exact .inl h
set_option maxHeartbeats 4000000 in
theorem values_seq (P : Option Addr) (cap : Nat) (l : List Int) (c : Nat) (hl : l.length ≤ 100000) :
    SeqP Tryz.prog 57 #[.pointer (some ⟨c, 0, none⟩)] (fun i => #[.int .i64 (nthI l i)]) l.length (fun A => A.cell? ⟨c, 0, none⟩ = some (.slice P l.length cap) ∧ SlI A P cap l) := by
  intro lq J Jx Jp W hJ hJx hK hY h0
  obtain ⟨hc0, hs0⟩ := hK 0 W h0
  refine callsIn_of_wp Tryz.func57 rfl trivial ?_ rfl
  simp only [Tryz.ntmps57, List.size_toArray, List.length_cons, List.length_nil, Nat.reduceAdd, Nat.reduceSub, Array.replicate_succ, Array.replicate_zero, List.push_toArray, List.append_toArray, List.nil_append, List.cons_append]
  gi_wp2
  gi_loopw [7, 4] (fun i _ wr => ∃ k : Nat, k ≤ l.length ∧ i = .int .i64 k ∧ J k wr) (fun i _ _ => l.length - (intOf i).toNat)
  case atStart => exact ⟨0, by omega, rfl, h0⟩
  case round =>
    obtain ⟨k, hk, rfl, hj⟩ := hrel
    by_cases hlt : k < l.length
    · obtain ⟨hc, hs⟩ := hK _ _ hj
      obtain ⟨b, off, hP, g0⟩ := hs.intAt k hlt
      rw [show l.getD k 0 = nthI l k from rfl] at g0
      subst hP
      have c1 : (k : Int) < l.length := by omega
      have hw2 : IntKind.i64.wrap ((k : Int) + 1) = k + 1 := IntWalk.i64_in _ ⟨by omega, by omega⟩
      obtain ⟨fn, tmps, assign, body, hy, hR⟩ := hY k wr hj hlt
      gi_wp2_with (refine ⟨rfl, ?_⟩; refine hR.mono ?_; intro e W3 h3; rcases yield_cases h3 with ⟨ch, rfl, hp3⟩ | ⟨t, rfl, h4⟩; exact ⟨rfl, .inr ⟨k, ch, hlt, rfl, hp3⟩⟩; clear h3; rcases h4 with ⟨rfl, hj3⟩ | ⟨rfl, hx3⟩)
      all_goals first
        | (go_roundw
           case rel => exact ⟨k + 1, by omega, by go_num, hj3⟩
           case measure => simp [intOf, hw2]; omega)
        | (refine bodyPost_ret (results_none rfl _ _ _) rfl ?_
           exact .inl ⟨⟨_, rfl⟩, .inr ⟨k, hlt, hx3⟩⟩)
    · obtain rfl : k = l.length := by omega
      gi_wp2
      go_end0
      exact .inl ⟨⟨_, rfl⟩, .inl hj⟩
theorem SlG.below {α : Type} {cs : α → List Value} {w A B : World} {P : Option Addr} {cap n : Nat} {l : List α} (h : SlG cs w P cap l) (hA : SlG cs A P cap l) (hb : Below n A B) (hn : w.heap.size ≤ n) : SlG cs B P cap l := by
  refine ⟨fun i x hi => ?_, h.le, h.cap⟩
  obtain ⟨b, off, e, h1⟩ := hA.at_ i x hi
  obtain ⟨b', off', e', h2⟩ := h.at_ i x hi
  rw [e] at e'
  injection e' with e'
  injection e' with e1 e2
  subst e1 e2
  refine ⟨b, off, e, fun j v hj => ?_⟩
  have hlt := block_lt (h2 j v hj)
  simp only at hlt
  rw [Below.cell hb (by show b < n; omega)]
  exact h1 j v hj
/-- the numbers of a slice, sorted -/
theorem sorted_values (P : Option Addr) (cap : Nat) (l : List Int) (w : World) (h : SlI w P cap l) (hl : l.length ≤ 100000) (W : World) (hW : W = w.alloc (.cells #[.slice P l.length cap] 31)) :
    Calls Tryz.prog 37 #[.func (.func 57) #[] #[.pointer (some ⟨w.heap.size, 0, none⟩)]] W fun e w' => (∃ v, e = .returned v ∧ OwnI w' w.heap.size v (sortI l)) ∧ Ext W w' := by
  subst hW
  have h0 := sorted_any 57 #[.pointer (some ⟨w.heap.size, 0, none⟩)] (nthI l) l.length _ (values_seq P cap l w.heap.size hl) (enters_of Tryz.func57 (by kernel_rfl) rfl) hl (w.alloc (.cells #[.slice P l.length cap] 31))
    ⟨(World.cell?_alloc_mark _ _ _ _ 0).trans rfl, h.ext ((Ext.refl w).alloc _)⟩ (fun A B hb hA => by
      have hb' : Below (w.heap.size + 1) A B := by simpa using hb
      exact ⟨(Below.cell hb' (by show w.heap.size < _; omega)).trans hA.1, h.below hA.2 hb' (by omega)⟩)
  have e : (List.range l.length).map (nthI l) = l := by
    apply ext_nthI
    · simp
    · intro i hi
      simp at hi
      unfold nthI
      simp [List.getD_eq_getElem?_getD, hi]
  rw [e] at h0
  refine h0.mono ?_
  rintro e w' ⟨⟨v, rfl, ho⟩, hx⟩
  exact ⟨⟨v, rfl, ho.down (by simp)⟩, hx⟩
end Go.Proofs.YtpobjheodlkkiaaGreatDoor
