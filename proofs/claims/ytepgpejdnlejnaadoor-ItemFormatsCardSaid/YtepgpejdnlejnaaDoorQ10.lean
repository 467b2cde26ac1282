/- ItXG; ItPA; OwnG; GenB (merged by group.py) -/
import Derived.Test.YtepgpejdnlejnaaDoorQ09
import Derived.Recover
import Derived.Laws.Pointers
import Derived.Test.YtepgpejdnlejnaaDoorQ07
import Derived.Test.YtepgpejdnlejnaaDoorQ06
import Derived.Lib.AppendZeros
import Derived.Test.YtepgpejdnlejnaaDoorQ01
import Derived.Deep.RegionHeld3
namespace Go.Proofs.YtepgpejdnlejnaaDoor
section
open Go.RowKit
set_option linter.unusedVariables false
set_option linter.unusedSimpArgs false
set_option linter.unusedSectionVars false
set_option maxRecDepth 100000
attribute [local go_sem] Oper.semAt_some

theorem assert_is (v : Value) (w : World) : (Instr.typeAssert (.iface 82 v) 20 82 true).run Tryd.prog w = .ok (.tuple #[v, .bool true]) w := by kernel_rfl
theorem assert_nil (w : World) : (Instr.typeAssert .nilIface 20 82 true).run Tryd.prog w = .ok (.tuple #[.agg #[], .bool false]) w := by kernel_rfl
theorem catch_panicking (c : Nat) (x : Value) (y : Int) (older : List PanicEntry) (w : World) (h1 : Boxed w c 23 x) (h2 : Boxed w (c + 1) 43 (.int .i64 y)) :
    CallsD Tryd.prog 78 #[.pointer (some ⟨c, 0, none⟩), .pointer (some ⟨c + 1, 0, none⟩)] (.panicking ({ v := stopV, recovered := false } :: older)) w fun e u' w' =>
      e = .returned (.tuple #[]) ∧ u' = .panicking ({ v := stopV, recovered := true } :: older) ∧ Boxed w' c 23 (.slice none 0 0) ∧ Boxed w' (c + 1) 43 (.int .i64 2) ∧ Below c w w' := by
  refine callsD_of_wpS Tryd.func78 rfl fun c₀ cs hu => ?_
  simp only [Tryd.ntmps78, List.size_toArray, List.length_cons, List.length_nil, Nat.reduceAdd, Nat.reduceSub, Array.replicate_succ, Array.replicate_zero, List.push_toArray, List.append_toArray, List.nil_append, List.cons_append]
  apply wpS_seq
  apply wpS_region
  simp [wpOpsS, go_sem, recoverD, hu, stopV, Exit.thenS, assert_is]
  refine wpS_of_wp ?_
  have hlt := h2.lt
  have k1 := h1.alloc (.cells #[] 82)
  have k2 := h2.alloc (.cells #[] 82)
  have hx : Below c w (w.alloc (.cells #[] 82)) := (Below.refl c w).alloc (by omega) _
  generalize w.alloc (.cells #[] 82) = w1 at *
  have q1 := k1.cell
  have q2 := k2.cell
  have f1 := k1.frozen
  have f2 := k2.frozen
  clear h1 h2
  go_wp2
  refine ⟨rfl, _, rfl, _, results_none rfl _ _ _, rfl, rfl, ?_, ?_, ?_⟩
  · exact (k1.set _).other (by omega) _
  · exact (k2.other (by omega) _).set _
  · exact (hx.setCell (Nat.le_refl _) _).setCell (Nat.le_succ _) _
theorem catch_idle (c : Nat) (w : World) :
    CallsD Tryd.prog 78 #[.pointer (some ⟨c, 0, none⟩), .pointer (some ⟨c + 1, 0, none⟩)] .returning w fun e u' w' => e = .returned (.tuple #[]) ∧ u' = .returning ∧ Ext w w' := by
  refine callsD_of_wpS Tryd.func78 rfl fun c₀ cs hu => ?_
  simp only [Tryd.ntmps78, List.size_toArray, List.length_cons, List.length_nil, Nat.reduceAdd, Nat.reduceSub, Array.replicate_succ, Array.replicate_zero, List.push_toArray, List.append_toArray, List.nil_append, List.cons_append]
  apply wpS_seq
  apply wpS_region
  simp [wpOpsS, go_sem, recoverD, hu, Exit.thenS, assert_nil]
  refine wpS_of_wp ?_
  go_wp2
  cases c₀
  simp_all [bodyPostS, results, Tryd.results78]
  exact (Ext.refl w).alloc _
theorem parse_leaves (w W : World) (a : Act) (x : Value) (y : Int) (R : Ending → World → Prop) (h1 : Boxed W w.heap.size 23 x) (h2 : Boxed W (w.heap.size + 1) 43 (.int .i64 y)) (hx : Ext w W)
    (ht2 : a.tmps.getD 2 undef = .pointer (some ⟨w.heap.size, 0, none⟩)) (ht3 : a.tmps.getD 3 undef = .pointer (some ⟨w.heap.size + 1, 0, none⟩))
    (hd : a.defers = [{ target := .fn (.func 78) #[.pointer (some ⟨w.heap.size, 0, none⟩), .pointer (some ⟨w.heap.size + 1, 0, none⟩)], args := #[] }])
    (hR : ∀ w', Ext w w' → R (.returned (.tuple #[.slice none 0 0, .int .i64 2])) w') :
    bodyPostD Tryd.prog Tryd.f46 R (.panic [{ v := stopV, recovered := false }]) a W := by
  show Leaves _ _ a.tmps _ a.defers _ W
  rw [hd]
  refine leaves_cons (f := 78) (args := #[.pointer (some ⟨w.heap.size, 0, none⟩), .pointer (some ⟨w.heap.size + 1, 0, none⟩)]) (by simp) (by simp [go_sem]) ?_
  refine (catch_panicking w.heap.size x y [] W h1 h2).mono ?_
  rintro e u' w' ⟨rfl, rfl, k1, k2, hb⟩
  have c1 := k1.cell
  have c2 := k2.cell
  have hx' : Ext w w' := Below.trans hx hb
  simp [Leaves, settle, results, Tryd.results46, go_sem]
  simp at ht2 ht3
  simp [ht2, ht3, go_sem, c1, c2]
  exact hR w' hx'
theorem parse_returns (w W : World) (a : Act) (P : Option Addr) (n c : Nat) (y : Int) (R : Ending → World → Prop) (h1 : Boxed W w.heap.size 23 (.slice P n c)) (h2 : Boxed W (w.heap.size + 1) 43 (.int .i64 y))
    (ht2 : a.tmps.getD 2 undef = .pointer (some ⟨w.heap.size, 0, none⟩)) (ht3 : a.tmps.getD 3 undef = .pointer (some ⟨w.heap.size + 1, 0, none⟩))
    (hd : a.defers = [{ target := .fn (.func 78) #[.pointer (some ⟨w.heap.size, 0, none⟩), .pointer (some ⟨w.heap.size + 1, 0, none⟩)], args := #[] }])
    (hR : ∀ w', Ext W w' → R (.returned (.tuple #[.slice P n c, .int .i64 y])) w') :
    bodyPostD Tryd.prog Tryd.f46 R .ret a W := by
  show Leaves _ _ a.tmps _ a.defers _ W
  rw [hd]
  refine leaves_cons (f := 78) (args := #[.pointer (some ⟨w.heap.size, 0, none⟩), .pointer (some ⟨w.heap.size + 1, 0, none⟩)]) (by simp) (by simp [go_sem]) ?_
  refine (catch_idle w.heap.size W).mono ?_
  rintro e u' w' ⟨rfl, rfl, hb⟩
  have c1 := hb.cell h1.cell
  have c2 := hb.cell h2.cell
  simp [Leaves, settle, results, Tryd.results46, go_sem]
  simp at ht2 ht3
  simp [ht2, ht3, go_sem, c1, c2]
  exact hR w' hb
/-- what has been read so far -/
def PaRel (s : ByteArray) (l : List Vl) (p : Nat) : Prop := ∃ f, s.size + 1 ≤ f + p ∧ p ≤ s.size ∧ l.length ≤ p ∧ readAll (s.size + 1) s.data.toList = (readAll f (s.data.toList.drop p)).map fun z => l.map toP ++ z
theorem PaRel.start (s : ByteArray) : PaRel s [] 0 := ⟨s.size + 1, by omega, by omega, by simp, by
  rw [List.drop_zero]
  cases readAll (s.size + 1) s.data.toList <;> simp⟩
theorem PaRel.fuel {s : ByteArray} {l : List Vl} {p : Nat} (h : PaRel s l p) : ∃ f, s.size ≤ f + p ∧ p ≤ s.size ∧ l.length ≤ p ∧ readAll (s.size + 1) s.data.toList = (readAll (f + 1) (s.data.toList.drop p)).map fun z => l.map toP ++ z := by
  obtain ⟨f, h1, h2, h3, h4⟩ := h
  obtain ⟨f, rfl⟩ : ∃ g, f = g + 1 := ⟨f - 1, by omega⟩
  exact ⟨f, by omega, h2, h3, h4⟩
theorem PaRel.stop {s : ByteArray} {l : List Vl} {p : Nat} (h : PaRel s l p) (hr : readVl (s.data.toList.drop p) = none) : readAll (s.size + 1) s.data.toList = none := by
  obtain ⟨f, _, _, _, h4⟩ := h.fuel
  rw [h4, readAll, hr]
  rfl
theorem PaRel.last {s : ByteArray} {l : List Vl} {p n' : Nat} {v : VlP} (h : PaRel s l p) (hr : readVl (s.data.toList.drop p) = some (v, s.data.toList.drop n')) (hn : n' = s.size) : readAll (s.size + 1) s.data.toList = some ((l ++ [ofP v]).map toP) := by
  obtain ⟨f, _, _, _, h4⟩ := h.fuel
  subst hn
  rw [drop_out s s.size (by omega)] at hr
  rw [h4, readAll, hr]
  simp [toP_ofP]
theorem PaRel.bad {s : ByteArray} {l : List Vl} {p n' : Nat} {v : VlP} (h : PaRel s l p) (hr : readVl (s.data.toList.drop p) = some (v, s.data.toList.drop n')) (hn : n' < s.size) (hc : byteU s n' ≠ 44) : readAll (s.size + 1) s.data.toList = none := by
  obtain ⟨f, _, _, _, h4⟩ := h.fuel
  rw [byteU_drop s n' hn] at hr
  rw [h4, readAll, hr]
  simp [hc]
theorem readTx_len : ∀ (f : Nat) (t d r : List UInt8), readTx f t = some (d, r) → r.length ≤ t.length
  | 0, t, d, r, h => by cases h
  | f + 1, [], d, r, h => by cases h
  | f + 1, c :: q, d, r, h => by
    rw [readTx_cons] at h
    split at h
    · injection h with h
      injection h with _ h
      subst h
      simp
    · cases hx : (if c = 92 then escD q else some (c, q)) with
      | none => rw [hx] at h; cases h
      | some z =>
        obtain ⟨d', r'⟩ := z
        rw [hx] at h
        simp only at h
        cases hr : readTx f r' with
        | none => rw [hr] at h; cases h
        | some z =>
          rw [hr] at h
          injection h with h
          injection h with _ h
          have ih := readTx_len f r' z.1 z.2 hr
          have hlen : r'.length ≤ q.length := by
            split at hx
            · exact escD_len hx
            · injection hx with hx
              injection hx with _ hx
              subst hx
              exact Nat.le_refl _
          rw [← h]
          simp only [List.length_cons]
          omega
theorem readVl_len {t r : List UInt8} {v : VlP} (h : readVl t = some (v, r)) : r.length ≤ t.length := by
  unfold readVl at h
  split at h
  · cases hx : readTx t.length t.tail with
    | none => rw [hx] at h; cases h
    | some z =>
      rw [hx] at h
      injection h with h
      injection h with _ h
      have := readTx_len _ _ z.1 z.2 hx
      rw [← h]
      simp only [List.length_tail] at this
      omega
  · cases hx : numP (t.takeWhile fun c => c != 44) with
    | none => rw [hx] at h; cases h
    | some z =>
      rw [hx] at h
      injection h with h
      injection h with _ h
      rw [← h]
      exact List.IsSuffix.length_le (List.dropWhile_suffix _)
theorem hex2_suf : ∀ {t r' : List UInt8} {d : UInt8}, hex2 t = some (d, r') → ∃ q, t = q ++ r'
  | [], _, _, h => by cases h
  | [a], _, _, h => by cases h
  | a :: b :: r, r', d, h => by
    rw [hex2] at h
    cases ha : hexD a with
    | none => rw [ha] at h; cases h
    | some x =>
      cases hb : hexD b with
      | none => rw [ha, hb] at h; cases h
      | some y =>
        rw [ha, hb] at h
        injection h with h
        injection h with _ h
        subst h
        exact ⟨[a, b], rfl⟩
theorem escD_suf : ∀ {t r' : List UInt8} {d : UInt8}, escD t = some (d, r') → ∃ q, t = q ++ r'
  | [], _, _, h => by cases h
  | c :: r, r', d, h => by
    rw [escD] at h
    split at h
    · obtain ⟨q, rfl⟩ := hex2_suf h
      exact ⟨c :: q, rfl⟩
    · injection h with h
      injection h with _ h
      subst h
      exact ⟨[c], rfl⟩
theorem readTx_suf : ∀ (f : Nat) (t d r : List UInt8), readTx f t = some (d, r) → ∃ q, t = q ++ r
  | 0, t, d, r, h => by cases h
  | f + 1, [], d, r, h => by cases h
  | f + 1, c :: q, d, r, h => by
    rw [readTx_cons] at h
    split at h
    · injection h with h
      injection h with _ h
      subst h
      exact ⟨[c], rfl⟩
    · cases hx : (if c = 92 then escD q else some (c, q)) with
      | none => rw [hx] at h; cases h
      | some z =>
        obtain ⟨d', r'⟩ := z
        rw [hx] at h
        simp only at h
        cases hr : readTx f r' with
        | none => rw [hr] at h; cases h
        | some z =>
          rw [hr] at h
          injection h with h
          injection h with _ h
          obtain ⟨q2, h2⟩ := readTx_suf f r' z.1 z.2 hr
          have hq : ∃ q1, q = q1 ++ r' := by
            split at hx
            · exact escD_suf hx
            · injection hx with hx
              injection hx with _ hx
              subst hx
              exact ⟨[], rfl⟩
          obtain ⟨q1, rfl⟩ := hq
          rw [← h, h2]
          exact ⟨c :: (q1 ++ q2), by simp⟩
theorem readVl_suf {t r : List UInt8} {v : VlP} (h : readVl t = some (v, r)) : ∃ q, t = q ++ r := by
  unfold readVl at h
  split at h
  · rename_i hh
    cases hx : readTx t.length t.tail with
    | none => rw [hx] at h; cases h
    | some z =>
      rw [hx] at h
      injection h with h
      injection h with _ h
      obtain ⟨q, hq⟩ := readTx_suf _ _ z.1 z.2 hx
      cases t with
      | nil => simp at hh
      | cons c t =>
        rw [← h]
        refine ⟨c :: q, ?_⟩
        rw [List.tail_cons] at hq
        rw [hq]
        rfl
  · cases hx : numP (t.takeWhile fun c => c != 44) with
    | none => rw [hx] at h; cases h
    | some z =>
      rw [hx] at h
      injection h with h
      injection h with _ h
      rw [← h]
      exact ⟨_, (List.takeWhile_append_dropWhile (p := fun c => c != 44) (l := t)).symm⟩
theorem read_on {s : ByteArray} {p n' : Nat} {v : VlP} (hn : n' ≤ s.size) (hp : p ≤ s.size) (hr : readVl (s.data.toList.drop p) = some (v, s.data.toList.drop n')) : p ≤ n' := by
  have := readVl_len hr
  have e : s.data.toList.length = s.size := by simp
  rw [List.length_drop, List.length_drop, e] at this
  omega
theorem PaRel.more {s : ByteArray} {l : List Vl} {p n' : Nat} {v : VlP} (h : PaRel s l p) (hr : readVl (s.data.toList.drop p) = some (v, s.data.toList.drop n')) (hn : n' < s.size) (hc : byteU s n' = 44) : PaRel s (l ++ [ofP v]) (n' + 1) := by
  obtain ⟨f, h1, h2, h3, h4⟩ := h.fuel
  have hpn := read_on (by omega) h2 hr
  refine ⟨f, by omega, by omega, by simp; omega, ?_⟩
  rw [byteU_drop s n' hn] at hr
  rw [h4, readAll, hr]
  simp only
  rw [if_pos hc]
  cases readAll f (s.data.toList.drop (n' + 1)) <;> simp [toP_ofP]
end
section
open Go.RowKit
set_option linter.unusedVariables false
set_option linter.unusedSimpArgs false
set_option linter.unusedSectionVars false
set_option maxRecDepth 20000
attribute [local go_sem] Oper.semAt_some

theorem flat_at {α : Type} {cs : α → List Value} {k : Nat} (hk : ∀ x, (cs x).length = k) : ∀ (l : List α) (i j : Nat) (x : α) (u : Value), l[i]? = some x → (cs x)[j]? = some u → (l.flatMap cs)[i * k + j]? = some u
  | [], i, j, x, u, h, _ => by simp at h
  | y :: l, 0, j, x, u, h, hu => by
    simp at h
    subst h
    rw [List.flatMap_cons, Nat.zero_mul, Nat.zero_add, List.getElem?_append_left (List.getElem?_eq_some_iff.1 hu).1]
    exact hu
  | y :: l, i + 1, j, x, u, h, hu => by
    have := flat_at hk l i j x u (by simpa using h) hu
    rw [List.flatMap_cons, List.getElem?_append_right (by rw [hk, Nat.add_mul]; omega), hk]
    rw [show (i + 1) * k + j - k = i * k + j from by rw [Nat.add_mul]; omega]
    exact this
/-- a row of the call's own, read -/
theorem own_slG {α : Type} {cs : α → List Value} {k : Nat} (hk : ∀ x, (cs x).length = k) {w : World} {base : Nat} {e : TypeId} {v : Value} {l : List α} (h : w.ownsRow base e k v l.length (l.flatMap cs)) (hl : l.length ≤ 9223372036854775807) :
    ∃ P cap, v = .slice P l.length cap ∧ SlG cs w P cap l := by
  rcases h.2 with ⟨rfl, h0⟩ | ⟨g, cap, cur, rfl, hb, hg, hcl, hcm, hcs, htk⟩
  · obtain rfl := List.length_eq_zero_iff.1 h0
    exact ⟨none, 0, rfl, SlG.nil _ _⟩
  · refine ⟨_, cap, rfl, ⟨fun i x hi => ⟨g, 0, rfl, fun j u hj => ?_⟩, hcl, by unfold maxLen at hcm; exact hcm⟩⟩
    have := h.cells (g := g) rfl (i * k + j) u (flat_at hk l i j x u hi hj)
    rw [hk]
    rw [← this]
    congr 1
    cases hn : i * k + j with
    | zero => simp [Addr.add]; omega
    | succ n => simp [Addr.add]; omega

theorem placef_any (x : It) (s : ByteArray) (c : Nat) (w : World) (hc : w.cell? ⟨c, 0, none⟩ = some (.string s)) :
    Calls Tryd.prog 97 #[x.v, .pointer (some ⟨c, 0, none⟩)] w fun e w' => e = .returned (.bool (decide (x.1 = s))) ∧ Ext w w' := by
  have hlt := block_lt hc
  simp only at hlt
  obtain ⟨n, k, lo, hi, len⟩ := x
  show Calls _ _ #[.agg #[.string n, .int .i64 k, .int .i64 lo, .int .i64 hi, .int .i64 len], .pointer (some ⟨c, 0, none⟩)] _ _
  have HB := Lib.hid (show decide (n = s) = (n.toList == s.toList) from by
    rw [Lib.toList_data, Lib.toList_data]
    by_cases h : n = s
    · subst h; simp
    · rw [decide_eq_false h]
      symm
      rw [beq_eq_false_iff_ne]
      intro e
      exact h (ByteArray.ext (Array.ext' e)))
  simp only
  rw [HB.out]
  go_enter Tryd.func97, Tryd.ntmps97
  go_wp2
  go_ret
  exact ⟨rfl, (Ext.refl w).alloc _⟩
theorem indexf_any (P : Option Addr) (cap : Nat) (l : List It) (s : ByteArray) (c : Nat) (w : World) (h : SlT w P cap l) (hc : w.cell? ⟨c, 0, none⟩ = some (.string s)) :
    Calls Tryd.prog 96 #[.slice P l.length cap, .func (.func 97) #[] #[.pointer (some ⟨c, 0, none⟩)]] w fun e w' => e = .returned (.int .i64 (idxF l s)) ∧ Ext w w' := by
  have hlen := h.len
  go_enter Tryd.func96, Tryd.ntmps96
  go_wp2
  go_loopw [8, 5] (fun i _ wr => ∃ k : Nat, k ≤ l.length ∧ i = .int .i64 k ∧ (∀ (j : Nat) (y : It), j < k → l[j]? = some y → y.1 ≠ s) ∧ Ext w wr) (fun i _ _ => l.length - (intOf i).toNat)
  case atStart => exact ⟨0, by omega, rfl, by intro j y hj; omega, Ext.refl w⟩
  case round =>
    obtain ⟨k, hk, rfl, hall, hx⟩ := hrel
    by_cases hlt : k < l.length
    · obtain ⟨b, off, hP, g0, g1, g2, g3, g4⟩ := h.itemAt k hlt
      subst hP
      have g0 := hx.cell g0
      have g1 := hx.cell g1
      have g2 := hx.cell g2
      have g3 := hx.cell g3
      have g4 := hx.cell g4
      have c1 : (k : Int) < l.length := by omega
      have d1 : IntKind.i64.wrap ((k : Int) + 1) = (k : Int) + 1 := IntWalk.i64_in _ ⟨by omega, by omega⟩
      have hs := nthT_some hlt
      have hV := placef_any (nthT l k) s c wr (hx.cell hc)
      unfold It.v at hV
      by_cases he : (nthT l k).1 = s
      · have Hn : Hid (idxF l s = k) := Lib.hid (idxF_at l s k _ hs hall he)
        rw [decide_eq_true he] at hV
        generalize nthT l k = x at *
        clear hall hs he
        go_wp2_with (go_at_call 97; refine hV.mono ?_; rintro e w1 ⟨rfl, hx1⟩)
        go_ret
        exact ⟨by rw [Hn.out]; rfl, hx.trans hx1⟩
      · have Hy : Hid (∀ (j : Nat) (y : It), j < k + 1 → l[j]? = some y → y.1 ≠ s) := Lib.hid (fun j y hj hy => by
          by_cases hjk : j = k
          · subst hjk; rw [hs] at hy; injection hy with hy; subst hy; exact he
          · exact hall j y (by omega) hy)
        rw [decide_eq_false he] at hV
        generalize nthT l k = x at *
        clear hall hs he
        go_wp2_with (go_at_call 97; refine hV.mono ?_; rintro e w1 ⟨rfl, hx1⟩)
        go_roundw
        case rel => exact ⟨k + 1, by omega, by go_num, Hy.out, hx.trans hx1⟩
        case measure => simp [intOf]; omega
    · obtain rfl : k = l.length := by omega
      have Hn : Hid (idxF l s = -1) := Lib.hid (idxF_no l s (fun j y hy => hall j y (List.getElem?_eq_some_iff.1 hy).1 hy))
      clear hall
      go_wp2
      go_ret
      exact ⟨by rw [Hn.out]; rfl, hx⟩
theorem place_any (P : Option Addr) (cap : Nat) (l : List It) (s : ByteArray) (w : World) (h : SlT w P cap l) :
    Calls Tryd.prog 71 #[.slice P l.length cap, .string s] w fun e w' => e = .returned (.int .i64 (idxF l s)) ∧ Ext w w' := by
  have hI := fun t => indexf_any P cap l s w.heap.size (w.alloc (.cells #[.string s] t)) (h.ext ((Ext.refl w).alloc _)) ((World.cell?_alloc_mark _ _ _ _ 0).trans rfl)
  generalize idxF l s = z at *
  go_enter Tryd.func71, Tryd.ntmps71
  go_wp2_with (go_at_call 96; refine (hI _).mono ?_; rintro e w1 ⟨rfl, hx1⟩)
  go_ret
  exact ⟨rfl, ((Ext.refl w).alloc _).trans hx1⟩
/-- Find: the place and the error -/
def findF (l : List It) (s : ByteArray) : Int × Int := if itemsB l = true then (if 0 ≤ idxF l s then (idxF l s, 0) else (0, 5)) else (0, 1)
set_option maxHeartbeats 4000000 in
theorem find_any (P : Option Addr) (cap : Nat) (l : List It) (s : ByteArray) (w : World) (h : SlT w P cap l) :
    Calls Tryd.prog 38 #[.slice P l.length cap, .string s] w fun e w' => e = .returned (.tuple #[.int .i64 (findF l s).1, .int .i64 (findF l s).2]) ∧ Ext w w' := by
  have hI := items_any P cap l w h
  have hP := fun W hx => place_any P cap l s W (h.ext hx)
  cases hv : itemsB l with
  | false =>
    have HB := Lib.hid (show findF l s = (0, 1) from by simp [findF, hv])
    rw [hv] at hI
    rw [HB.out]
    go_enter Tryd.func38, Tryd.ntmps38
    go_wp2_with (go_at_call 20; refine hI.mono ?_; rintro e w1 ⟨rfl, hx1⟩)
    go_ret2
    exact ⟨rfl, hx1⟩
  | true =>
    rw [hv] at hI
    by_cases hz : 0 ≤ idxF l s
    · have HB := Lib.hid (show findF l s = (idxF l s, 0) from by simp [findF, hv, hz])
      rw [HB.out]
      generalize idxF l s = z at *
      go_enter Tryd.func38, Tryd.ntmps38
      go_wp2_with (first
        | (go_at_call 20; refine hI.mono ?_; rintro e w1 ⟨rfl, hx1⟩)
        | (go_at_call 71; refine (hP _ hx1).mono ?_; rintro e w2 ⟨rfl, hx2⟩))
      go_ret2
      exact ⟨rfl, hx1.trans hx2⟩
    · have HB := Lib.hid (show findF l s = (0, 5) from by simp [findF, hv, hz])
      have hz1 : decide (0 ≤ idxF l s) = false := decide_eq_false hz
      rw [HB.out]
      generalize idxF l s = z at *
      clear hz
      go_enter Tryd.func38, Tryd.ntmps38
      go_wp2_with (first
        | (go_at_call 20; refine hI.mono ?_; rintro e w1 ⟨rfl, hx1⟩)
        | (go_at_call 71; refine (hP _ hx1).mono ?_; rintro e w2 ⟨rfl, hx2⟩))
      go_ret2
      exact ⟨rfl, hx1.trans hx2⟩
set_option maxHeartbeats 4000000 in
theorem rfind_any (P : Option Addr) (cap : Nat) (l : List It) (s : ByteArray) (w : World) (h : SlT w P cap l) :
    Calls Tryd.prog 39 #[.slice P l.length cap, .string s] w fun e w' => e = .returned (.tuple #[.int .i64 (findF l s).1, .int .i64 (findF l s).2]) ∧ Ext w w' := by
  have hI := ritems_any P cap l w h
  have hP := fun W hx => rindex_any P cap l s W (h.ext hx)
  cases hv : itemsB l with
  | false =>
    have HB := Lib.hid (show findF l s = (0, 1) from by simp [findF, hv])
    rw [hv] at hI
    rw [HB.out]
    go_enter Tryd.func39, Tryd.ntmps39
    go_wp2_with (go_at_call 21; refine hI.mono ?_; rintro e w1 ⟨rfl, hx1⟩)
    go_ret2
    exact ⟨rfl, hx1⟩
  | true =>
    rw [hv] at hI
    by_cases hz : idxF l s < 0
    · have HB := Lib.hid (show findF l s = (0, 5) from by simp only [findF, hv, if_true]; rw [if_neg (by omega)])
      rw [HB.out]
      generalize idxF l s = z at *
      go_enter Tryd.func39, Tryd.ntmps39
      go_wp2_with (first
        | (go_at_call 21; refine hI.mono ?_; rintro e w1 ⟨rfl, hx1⟩)
        | (go_at_call 72; refine (hP _ hx1).mono ?_; rintro e w2 ⟨rfl, rfl⟩))
      go_ret2
      exact ⟨rfl, hx1⟩
    · have HB := Lib.hid (show findF l s = (idxF l s, 0) from by simp only [findF, hv, if_true]; rw [if_pos (by omega)])
      have hz1 : decide (idxF l s < 0) = false := decide_eq_false hz
      rw [HB.out]
      generalize idxF l s = z at *
      clear hz
      go_enter Tryd.func39, Tryd.ntmps39
      go_wp2_with (first
        | (go_at_call 21; refine hI.mono ?_; rintro e w1 ⟨rfl, hx1⟩)
        | (go_at_call 72; refine (hP _ hx1).mono ?_; rintro e w2 ⟨rfl, rfl⟩))
      go_ret2
      exact ⟨rfl, hx1⟩
end
section
open Go.RowKit
set_option linter.unusedVariables false
set_option linter.unusedSimpArgs false
set_option linter.unusedSectionVars false
set_option maxRecDepth 20000

/-- what is known of the elements of a slice type -/
structure ElemG {α : Type} (cs : α → List Value) (t e : TypeId) (k bytes : Nat) : Prop where
  ht : Tryd.prog.underlying t = some (.slice e)
  info : ∃ i z, Tryd.prog.info? e = some i ∧ i.zero = some z ∧ i.size = k ∧ i.bytes = bytes ∧ z.cells.size = k
  k0 : 0 < k
  hk : ∀ x, (cs x).length = k
  one : ∀ x, ∀ u ∈ cs x, u.oneCell' = true
/-- a list in a block of the call's own (from 'base' on) -/
def OwnG {α : Type} (cs : α → List Value) (e : TypeId) (k : Nat) (w : World) (base : Nat) (v : Value) (l : List α) : Prop := w.ownsRow base e k v l.length (l.flatMap cs)
theorem flat_of {α : Type} {cs : α → List Value} {k : Nat} (hk : ∀ x, (cs x).length = k) : ∀ (l : List α) (j : Nat) (u : Value), (l.flatMap cs)[j]? = some u → ∃ i q x, j = i * k + q ∧ l[i]? = some x ∧ (cs x)[q]? = some u
  | [], j, u, h => by simp at h
  | y :: l, j, u, h => by
    rw [List.flatMap_cons] at h
    by_cases hj : j < k
    · rw [List.getElem?_append_left (by rw [hk]; exact hj)] at h
      exact ⟨0, j, y, by omega, rfl, h⟩
    · rw [List.getElem?_append_right (by rw [hk]; omega), hk] at h
      obtain ⟨i, q, x, e, h1, h2⟩ := flat_of hk l (j - k) u h
      exact ⟨i + 1, q, x, by rw [Nat.add_mul]; omega, by simpa using h1, h2⟩
theorem flat_len {α : Type} {cs : α → List Value} {k : Nat} (hk : ∀ x, (cs x).length = k) (l : List α) : (l.flatMap cs).length = l.length * k := by
  induction l with
  | nil => simp
  | cons y l ih => rw [List.flatMap_cons, List.length_append, hk, ih, List.length_cons, Nat.add_mul]; omega
theorem flat_set {α : Type} {cs : α → List Value} {k : Nat} (hk : ∀ x, (cs x).length = k) : ∀ (l : List α) (i : Nat) (y : α), i < l.length → (l.set i y).flatMap cs = (l.flatMap cs).take (i * k) ++ cs y ++ (l.flatMap cs).drop (i * k + k)
  | [], i, y, h => by simp at h
  | x :: l, 0, y, h => by
    rw [List.set_cons_zero, List.flatMap_cons, List.flatMap_cons, Nat.zero_mul, Nat.zero_add, List.take_zero, List.nil_append, List.drop_append_of_le_length (by rw [hk]; exact Nat.le_refl _), List.drop_of_length_le (by rw [hk]; exact Nat.le_refl _), List.nil_append]
  | x :: l, i + 1, y, h => by
    rw [List.set_cons_succ, List.flatMap_cons, flat_set hk l i y (by simpa using h), List.flatMap_cons, show (i + 1) * k = k + i * k from by rw [Nat.add_mul]; omega]
    rw [show k + i * k + k = (cs x).length + (i * k + k) from by rw [hk]; omega, show k + i * k = (cs x).length + i * k from by rw [hk]]
    rw [List.drop_length_add_append, List.take_length_add_append]
    simp only [List.append_assoc]

theorem add_flat (b off n : Nat) : (⟨b, off, none⟩ : Addr).add n = ⟨b, off + n, none⟩ := by
  cases n with
  | zero => simp [Addr.add]
  | succ n => simp [Addr.add]
section
variable {α : Type} {cs : α → List Value} {t e : TypeId} {k bytes : Nat} {w : World} {base : Nat}
theorem SlG.flat {b off cap : Nat} {m : List α} (hk : ∀ x, (cs x).length = k) (h : SlG cs w (some ⟨b, off, none⟩) cap m) : ∀ j u, (m.flatMap cs)[j]? = some u → w.cell? ((⟨b, off, none⟩ : Addr).add j) = some u := by
  intro j u hj
  obtain ⟨i, q, x, rfl, h1, h2⟩ := flat_of hk m j u hj
  obtain ⟨b', off', e, h3⟩ := h.at_ i x h1
  injection e with e
  injection e with e1 e2
  subst e1 e2
  have := h3 q u h2
  rw [hk] at this
  rw [add_flat, ← this]
  congr 2
  omega
theorem OwnG.nil (cs : α → List Value) (e : TypeId) (k : Nat) (w : World) (base : Nat) : OwnG cs e k w base (.slice none 0 0) [] := World.ownsRow_nil _ _ _ _
theorem OwnG.ext {w' : World} {v : Value} {l : List α} (h : OwnG cs e k w base v l) (hx : Ext w w') : OwnG cs e k w' base v l := own_ext h hx
theorem OwnG.slG (E : ElemG cs t e k bytes) {v : Value} {l : List α} (h : OwnG cs e k w base v l) (hl : l.length ≤ 9223372036854775807) : ∃ P cap, v = .slice P l.length cap ∧ SlG cs w P cap l := own_slG E.hk h hl
theorem OwnG.base_ {v : Value} {l : List α} (h : OwnG cs e k w base v l) : ∀ g, v.ownBlock = some g → base ≤ g := fun g hg => (World.ownsRow.lt h g hg).1
/-- an empty literal, ready to be appended to -/
theorem OwnG.lit0 (hb : base ≤ w.heap.size) : OwnG cs e k (w.alloc (.cells #[] e)) base (.slice (some ⟨w.heap.size, 0, none⟩) 0 0) [] := World.ownsRow_lit w #[] 0 hb (by unfold maxLen; omega) (by simp)
/-- one element in a block of its own, read -/
theorem SlG.one (hk : ∀ x, (cs x).length = k) (x : α) {t0 : TypeId} {C : Array Value} {b : Nat} (hC : C = (cs x).toArray) (hb : b = w.heap.size) : SlG cs (w.alloc (.cells C t0)) (some ⟨b, 0, none⟩) 1 [x] := by
  subst hC hb
  refine ⟨fun i y hi => ⟨w.heap.size, 0, rfl, fun j u hj => ?_⟩, by simp, by omega⟩
  match i, hi with
  | 0, hi =>
    simp at hi
    subst hi
    rw [show (0 : Nat) + 0 * (cs x).length + j = j from by omega]
    exact (World.cell?_alloc_mark _ _ _ _ j).trans (by simpa using hj)
  | i + 1, hi => simp at hi
theorem OwnG.append (E : ElemG cs t e k bytes) (ty : TypeId) {v : Value} {l m : List α} (h : OwnG cs e k w base v l) {P : Option Addr} {c : Nat} (hm : SlG cs w P c m) (hP : P = none → c = 0) (hle : (l.length + m.length) * bytes ≤ 140737488355328) (hlb : l.length + m.length ≤ 9223372036854775807) (hbase : base ≤ w.heap.size) :
    ∃ v' w', (Builtin.append_ #[t, t] ty #[v, .slice P m.length c]).run Tryd.prog w = .ok v' w' ∧ OwnG cs e k w' base v' (l ++ m) ∧ w.grownBy w' v.ownBlock ∧ Below base w w' := by
  have hbel : ∀ w', w.grownBy w' v.ownBlock → Below base w w' := fun w' hg => Below.grown (Below.refl _ _) hg hbase (fun g hg => h.base_ g hg)
  obtain ⟨i, z, hi, hz, hs, hby, hzs⟩ := E.info
  cases P with
  | none =>
    obtain rfl := hP rfl
    obtain rfl : m = [] := List.length_eq_zero_iff.1 (by have := hm.le; omega)
    refine ⟨v, w, run_append_owned_none w base t ty e i k E.ht hi v _ _ h, by rw [List.append_nil]; exact h, ⟨rfl, rfl, rfl, Nat.le_refl _, fun _ _ _ => rfl⟩, Below.refl _ _⟩
  | some ad =>
    have hn : ∀ j u, (m.flatMap cs)[j]? = some u → w.cell? (ad.add j) = some u := by
      cases m with
      | nil => intro j u hj; simp at hj
      | cons y m =>
        obtain ⟨b, off, e, _⟩ := hm.at_ 0 y rfl
        injection e with e
        subst e
        exact hm.flat E.hk
    obtain ⟨v', w', hr, ho, hg, _⟩ := run_append_own w base t ty e i z k bytes E.ht hi hz hs hby hzs E.k0 v l.length _ h ad m.length c (m.flatMap cs) (flat_len E.hk m) hn (fun u hu => by
      obtain ⟨x, _, hx⟩ := List.mem_flatMap.1 hu
      exact E.one x u hx) (by unfold maxLen; omega) hle hbase
    refine ⟨v', w', hr, ?_, hg, hbel _ hg⟩
    unfold OwnG
    rw [List.length_append, List.flatMap_append]
    exact ho
end
section
variable {α : Type} {cs : α → List Value} {t e : TypeId} {k bytes : Nat} {w : World} {base : Nat} {ops : Array Oper} {rest : List Oper} {o : Oper} {a : Act} {Q : Exit → Act → World → Prop}
/-- append(s, x...) for the walk -/
theorem wpList_app_G (w : World) (E : ElemG cs t e k bytes) (hgd : o.guard = none) (s x : Operand) (ho : o.op = .call { callee := .builtin .append, args := #[s, x], argTypes := #[t, t] }) {v : Value} {l : List α} (hs : a.eval s = v) (h : OwnG cs e k w base v l)
    {P : Option Addr} {c : Nat} {m : List α} (hx : a.eval x = .slice P m.length c) (hm : SlG cs w P c m) (hP : P = none → c = 0) (hle : (l.length + m.length) * bytes ≤ 140737488355328) (hlb : l.length + m.length ≤ 9223372036854775807) (hbase : base ≤ w.heap.size)
    (hn : ∀ v' w', OwnG cs e k w' base v' (l ++ m) → Below base w w' → wpList Tryd.prog ops Q rest (a.put o.dst v') w') : wpList Tryd.prog ops Q (o :: rest) a w := by
  obtain ⟨v', w', hr, ho', _, hb⟩ := h.append E o.type hm hP hle hlb hbase
  exact Lib.wpList_append_run _ hgd s x _ _ ho _ _ hs hx _ _ hr (hn _ _ ho' hb)
end
theorem below_ext {a b c : World} {base : Nat} (h : Ext a b) (k : Below base b c) (hb : a.heap.size ≤ base) : Ext a c := Below.trans h (Below.mono k hb)
/-- one cell stored -/
theorem flat_set_cell {α : Type} {cs : α → List Value} {k : Nat} (hk : ∀ x, (cs x).length = k) : ∀ (l : List α) (i j : Nat) (x y : α) (u : Value), l[i]? = some x → cs y = (cs x).set j u → j < k → (l.set i y).flatMap cs = (l.flatMap cs).set (i * k + j) u
  | [], i, j, x, y, u, h, _, _ => by simp at h
  | z :: l, 0, j, x, y, u, h, hy, hj => by
    simp at h
    subst h
    rw [List.set_cons_zero, List.flatMap_cons, List.flatMap_cons, hy, Nat.zero_mul, Nat.zero_add, List.set_append_left _ _ (by rw [hk]; exact hj)]
  | z :: l, i + 1, j, x, y, u, h, hy, hj => by
    rw [List.set_cons_succ, List.flatMap_cons, List.flatMap_cons, flat_set_cell hk l i j x y u (by simpa using h) hy hj, List.set_append_right _ _ (by rw [hk, Nat.add_mul]; omega), hk]
    rw [show (i + 1) * k + j - k = i * k + j from by rw [Nat.add_mul]; omega]
theorem OwnG.setCell {α : Type} {cs : α → List Value} {e : TypeId} {k : Nat} (hk : ∀ x, (cs x).length = k) {w : World} {base g n cap : Nat} {l : List α} (h : OwnG cs e k w base (.slice (some ⟨g, 0, none⟩) n cap) l) (hn : n = l.length) (i j : Nat) (x y : α) (u : Value) (hi : l[i]? = some x) (hy : cs y = (cs x).set j u) (hj : j < k) :
    OwnG cs e k (w.setCell ⟨g, i * k + j, none⟩ u) base (.slice (some ⟨g, 0, none⟩) n cap) (l.set i y) := by
  subst hn
  unfold OwnG
  rw [List.length_set, flat_set_cell hk l i j x y u hi hy hj]
  exact (World.ownsRow.stored h _ u).1
theorem set_set_same {α : Type} (l : List α) (i : Nat) (x y : α) : (l.set i x).set i y = l.set i y := by simp
theorem OwnG.setV {e : TypeId} {w : World} {base g n cap : Nat} {l : List Vl} (h : OwnG Vl.cells e 3 w base (.slice (some ⟨g, 0, none⟩) n cap) l) (hn : n = l.length) (i : Nat) (hi : i < l.length) (x : Vl) :
    OwnG Vl.cells e 3 (((w.setCell ⟨g, i * 3, none⟩ (.int .i64 x.1)).setCell ⟨g, i * 3 + 1, none⟩ (.int .i64 x.2.1)).setCell ⟨g, i * 3 + 2, none⟩ (.string x.2.2)) base (.slice (some ⟨g, 0, none⟩) n cap) (l.set i x) := by
  have hk : ∀ x, (Vl.cells x).length = 3 := fun _ => rfl
  have h1 := OwnG.setCell hk h hn i 0 (nthV l i) (x.1, (nthV l i).2) (.int .i64 x.1) (nthV_some hi) rfl (by omega)
  have h2 := OwnG.setCell hk h1 (by simp [hn]) i 1 (x.1, (nthV l i).2) (x.1, x.2.1, (nthV l i).2.2) (.int .i64 x.2.1) (by simp [hi]) rfl (by omega)
  have h3 := OwnG.setCell hk h2 (by simp [hn]) i 2 (x.1, x.2.1, (nthV l i).2.2) (x.1, x.2.1, x.2.2) (.string x.2.2) (by simp [hi]) rfl (by omega)
  rw [set_set_same, set_set_same] at h3
  exact h3
/-- a list of the call's own that is not empty -/
theorem OwnG.tight {α : Type} {cs : α → List Value} {e : TypeId} {k : Nat} {w : World} {base : Nat} {v : Value} {l : List α} (h : OwnG cs e k w base v l) (hl : 0 < l.length) : ∃ g cap, v = .slice (some ⟨g, 0, none⟩) l.length cap ∧ base ≤ g ∧ g < w.heap.size ∧ l.length ≤ cap ∧ cap ≤ 9223372036854775807 := by
  rcases h.2 with ⟨rfl, h0⟩ | ⟨g, cap, cur, rfl, hb, hg, hcl, hcm, hcs, htk⟩
  · omega
  · refine ⟨g, cap, rfl, hb, ?_, hcl, by unfold maxLen at hcm; exact hcm⟩
    rcases Nat.lt_or_ge g w.heap.size with hlt | hge
    · exact hlt
    · rw [Array.getElem?_eq_none hge] at hg; cases hg
theorem OwnG.frozen {α : Type} {cs : α → List Value} {e : TypeId} {k : Nat} {w : World} {base g n cap : Nat} {l : List α} (h : OwnG cs e k w base (.slice (some ⟨g, 0, none⟩) n cap) l) (hn : n = l.length) (j : Nat) : w.frozen? ⟨g, j, none⟩ = false := by
  subst hn
  exact World.ownsRow.frozenAt h j
theorem OwnG.cell {α : Type} {cs : α → List Value} {e : TypeId} {k : Nat} (hk : ∀ x, (cs x).length = k) {w : World} {base g n cap : Nat} {l : List α} (h : OwnG cs e k w base (.slice (some ⟨g, 0, none⟩) n cap) l) (hn : n = l.length) (i : Nat) (x : α) (hi : l[i]? = some x) (j : Nat) (u : Value) (hu : (cs x)[j]? = some u) : w.cell? ⟨g, i * k + j, none⟩ = some u := by
  subst hn
  rw [World.ownsRow.cellAt h (i * k + j) ?_]
  · exact flat_at hk l i j x u hi hu
  · have h1 := (List.getElem?_eq_some_iff.1 hi).1
    have h2 := (List.getElem?_eq_some_iff.1 hu).1
    rw [hk] at h2
    have := Nat.mul_le_mul_right k (show i + 1 ≤ l.length from h1)
    rw [Nat.add_mul] at this
    omega
theorem elemV : ElemG Vl.cells 23 29 3 32 where
  ht := Tryd.underlying23
  info := by
    have h : (Tryd.prog.info? 29).map (fun i => (i.zero, i.size, i.bytes)) = some (some (.agg #[.int .i64 0, .int .i64 0, .string ⟨#[]⟩]), 3, 32) := by kernel_rfl
    cases hq : Tryd.prog.info? 29 with
    | none => simp [hq] at h
    | some i => simp [hq] at h; exact ⟨i, _, rfl, h.1, h.2.1, h.2.2, rfl⟩
  k0 := by omega
  hk := fun _ => rfl
  one := fun x u hu => by
    simp [Vl.cells] at hu
    rcases hu with rfl | rfl | rfl <;> rfl
theorem elemT : ElemG It.cells 22 32 5 48 where
  ht := Tryd.underlying22
  info := by
    have h : (Tryd.prog.info? 32).map (fun i => (i.zero, i.size, i.bytes)) = some (some (.agg #[.string ⟨#[]⟩, .int .i64 0, .int .i64 0, .int .i64 0, .int .i64 0]), 5, 48) := by kernel_rfl
    cases hq : Tryd.prog.info? 32 with
    | none => simp [hq] at h
    | some i => simp [hq] at h; exact ⟨i, _, rfl, h.1, h.2.1, h.2.2, rfl⟩
  k0 := by omega
  hk := fun _ => rfl
  one := fun x u hu => by
    simp [It.cells] at hu
    rcases hu with rfl | rfl | rfl | rfl | rfl <;> rfl
end
section
open Go.RowKit
set_option linter.unusedVariables false
set_option linter.unusedSimpArgs false
set_option linter.unusedSectionVars false
set_option maxRecDepth 20000

theorem alloc_at (W : World) (o : Obj) (E : Nat) (h : W.heap.size = E) : (W.alloc o).heap[E]? = some o := by subst h; exact World.alloc_heap_new _ _
theorem grown_heap {w w' : World} {row : Option Nat} (h : w.grownBy w' row) {N : Nat} {o : Obj} (hN : w.heap[N]? = some o) (hne : row ≠ some N) : w'.heap[N]? = some o :=
  (h.block N (Array.getElem?_eq_some_iff.1 hN).1 (fun e => hne e.symm)).trans hN
/-- an empty row -/
theorem own0G {α : Type} {cs : α → List Value} {e : TypeId} {k : Nat} {W : World} {base E : Nat} (hE : W.heap[E]? = some (.cells #[] e (0, 0))) (hb : base ≤ E) : OwnG cs e k W base (.slice (some ⟨E, 0, none⟩) 0 0) [] :=
  ⟨by simp, .inr ⟨E, 0, #[], rfl, hb, hE, by simp, by simp [maxLen], by simp, by simp⟩⟩
section
variable {α : Type} {cs : α → List Value} {t e : TypeId} {k bytes : Nat} {w : World} {ops : Array Oper} {o : Oper} {a : Act} {K : Act → World → Prop} {Q : Exit → Act → World → Prop} {F : Prop}
/-- an append of a list, at a step of a region that draws -/
theorem step_app_G (w0 : World) (E : ElemG cs t e k bytes) (hgd : o.guard = none) (s x : Operand) (ho : o.op = .call { callee := .builtin .append, args := #[s, x], argTypes := #[t, t] }) (v : Value) (l m : List α) (n : Nat) (P : Option Addr) (cap : Nat)
    (hs : a.eval s = v) (hx : a.eval x = .slice P n cap) (hn : m.length = n) (hown : OwnG cs e k w w0.heap.size v l) (hm : SlG cs w P cap m) (hP : P = none → cap = 0) (hl : (l.length + n) * bytes ≤ 140737488355328) (hlb : l.length + n ≤ 9223372036854775807) (hx0 : Ext w0 w)
    (h : ∀ v' w', OwnG cs e k w' w0.heap.size v' (l ++ m) → Ext w0 w' → w.grownBy w' v.ownBlock → K (a.put o.dst v') w') : if Region.wanted o (yielded ops a.tmps) = true then Oper.wp Tryd.prog o a w K Q else F := by
  rw [if_pos (by simp [Region.wanted, hgd])]
  subst hn
  obtain ⟨v', w', hr, h1, h2, h3⟩ := hown.append E o.type hm hP hl hlb hx0.size
  exact wp_append_at s x t ho v _ hs hx hr (h v' w' h1 (below_ext hx0 h3 (Nat.le_refl _)) h2)
/-- an append of a list to a new empty row, at a step of a region that draws -/
theorem step_app_freshG (w0 : World) (E : ElemG cs t e k bytes) (hgd : o.guard = none) (s x : Operand) (ho : o.op = .call { callee := .builtin .append, args := #[s, x], argTypes := #[t, t] }) (B : Nat) (m : List α) (n : Nat) (P : Option Addr) (cap : Nat)
    (hs : a.eval s = .slice (some ⟨B, 0, none⟩) 0 0) (hx : a.eval x = .slice P n cap) (hn : m.length = n) (hB : w.heap[B]? = some (.cells #[] e (0, 0))) (hbB : w0.heap.size ≤ B) (hm : SlG cs w P cap m) (hP : P = none → cap = 0) (hl : n * bytes ≤ 140737488355328) (hlb : n ≤ 9223372036854775807) (hx0 : Ext w0 w)
    (h : ∀ v' w', OwnG cs e k w' w0.heap.size v' m → Ext w0 w' → w.grownBy w' (some B) → K (a.put o.dst v') w') : if Region.wanted o (yielded ops a.tmps) = true then Oper.wp Tryd.prog o a w K Q else F :=
  step_app_G w0 E hgd s x ho _ [] m n P cap hs hx hn (own0G hB hbB) hm hP (by simpa using hl) (by simpa using hlb) hx0 (fun v' w' h1 h2 h3 => h v' w' (by simpa using h1) h2 h3)
theorem SlG.block1 (hk : ∀ x, (cs x).length = k) {g : Nat} (x : α) {C : Array Value} (hC : C = (cs x).toArray) (h : w.heap[g]? = some (.cells C e (0, 0))) : SlG cs w (some ⟨g, 0, none⟩) 1 [x] := by
  subst hC
  refine ⟨fun i y hi => ⟨g, 0, rfl, fun j u hj => ?_⟩, by simp, by omega⟩
  match i, hi with
  | 0, hi =>
    simp at hi
    subst hi
    rw [show (0 : Nat) + 0 * (cs x).length + j = j from by omega]
    unfold World.cell?
    simp only [h]
    simpa using hj
  | i + 1, hi => simp at hi
theorem SlG.takes {P : Option Addr} {c : Nat} {l : List α} (h : SlG cs w P c l) (n : Nat) : SlG cs w P c (l.take n) := by
  have := h.le
  refine ⟨fun i x hi => ?_, by rw [List.length_take]; omega, h.cap⟩
  refine h.at_ i x ?_
  rw [List.getElem?_take] at hi
  split at hi
  · exact hi
  · cases hi
theorem SlG.drops (hk : ∀ x, (cs x).length = k) {b off c : Nat} {l : List α} (h : SlG cs w (some ⟨b, off, none⟩) c l) (n : Nat) (hn : n ≤ l.length) : SlG cs w (some ⟨b, off + n * k, none⟩) (c - n) (l.drop n) := by
  have := h.le
  have := h.cap
  refine ⟨fun i x hi => ⟨b, off + n * k, rfl, fun j v hj => ?_⟩, by rw [List.length_drop]; omega, by omega⟩
  rw [List.getElem?_drop] at hi
  obtain ⟨b', off', e, hc⟩ := h.at_ (n + i) x hi
  simp only [Option.some.injEq, Addr.mk.injEq, and_true] at e
  obtain ⟨rfl, rfl⟩ := e
  have := hc j v hj
  rw [hk] at this ⊢
  rw [← this, Nat.add_mul]
  congr 2
  omega
theorem SlG.from (hk : ∀ x, (cs x).length = k) {b off c : Nat} {l : List α} (h : SlG cs w (some ⟨b, off, none⟩) c l) (p : Nat) (hp : p ≤ l.length) : SlG cs w (some ⟨b, if c = p then off else off + p * k, none⟩) (c - p) (l.drop p) := by
  by_cases hc : c = p
  · rw [if_pos hc]
    have h1 := h.le
    have h2 : l.drop p = [] := List.drop_eq_nil_iff.2 (by omega)
    rw [h2]
    exact ⟨fun i x hi => by simp at hi, by simp, by omega⟩
  · rw [if_neg hc]; exact h.drops hk p hp
end
/-- a slice from p on, wherever it lies -/
theorem slice_fromG (b off len c p k : Nat) (hp : p ≤ len) (hc : len ≤ c) (T : TypeId) (hT : Tryd.prog.underlying T = some (.slice (Tryd.prog.elem T))) (hs : (Tryd.prog.info? (Tryd.prog.elem T)).map (·.size) = some k) :
    ∀ w, (Instr.slice T (.slice (some ⟨b, off, none⟩) len c) (some (.int .i64 p)) none none).run Tryd.prog w = .ok (.slice (some ⟨b, if c = p then off else off + p * k, none⟩) (len - p) (c - p)) w := by
  intro w
  rw [run_slice_l (w := w) T (some ⟨b, off, none⟩) len c hT .i64 p (by omega) (by omega)]
  cases hq : Tryd.prog.info? (Tryd.prog.elem T) with
  | none => simp [hq] at hs
  | some i =>
    have hi : i.size = k := by simpa [hq] using hs
    simp [sizeOf, typeInfo, hq, hi, sliced, Result.andThen]
    by_cases h : c = p
    · simp [h]
    · simp [h, Go.WideShapes.add_plain]
end
end Go.Proofs.YtepgpejdnlejnaaDoor
